/-
  Steps of the proof: contracts of functions and plain facts that the statement rests on.
-/
import Derived.Test.YthmdmnfojbnobaaGreatDoorPart2
import Derived.Test.YthmdmnfojbnobaaGreatDoorCore3
import Derived.LaidMore
import Derived.OpenShut
import Derived.Stop.Joined
import Derived.LaidHandle
import Derived.JoinedCond
import Derived.JoinedAt
import Derived.Conc.Holds
import Derived.SevenTiedAt
set_option linter.all false
namespace Go.Proofs.YthmdmnfojbnobaaGreatDoor
open Go.Ab
def wantL (vs : List (List UInt8)) (k : Int) : List Ex -> Int × Int
 | [] => (0, 0)
 | e :: r => if (wantF vs e k).1 ≠ 0 then wantF vs e k else wantL vs k r
section
variable {H : List AO} {vs : List (List UInt8)} {rest : List SV} {j : Nat} {T : TypeId}
theorem loop54_0 {l : List Ex} (hl : l.length < 4611686018427387904) (hh : ∀ e ∈ l, e.hgt ≤ 100000) (ho : H[j]? = some (tyO (varsM vs) opsM rest T)) {N : Nat} {K : XE -> Env -> List AO -> Prop} {A : AO} {res : Int × Int} {x0 : SV}
 (hret : res.1 ≠ 0 -> ∀ env G, env.get 4 = errV res.1 res.2 -> K .ret env (H ++ A :: G)) (hexit : res = (0, 0) -> ∀ env G, env.get 0 = rp j -> env.get 3 = x0 -> K (.exit 0) env (H ++ A :: G)) :
 ∀ (n i : Nat) (G : List AO) (env : Env), i + n = l.length -> wantL vs 1 (l.drop i) = res -> env.get 0 = rp j -> env.get 3 = x0 -> env.get 47 = exS l -> env.get 48 = i64 l.length -> env.get 49 = i64 i →
  LI Tryz.prog N drawB l54_0 env (H ++ A :: G) K := by
 intro n
 induction n with
 | zero =>
  intro i G env hi hr h0 hx0 hs hn hii
  refine li_go hm l54_0.eq_1 ?_
  have e : i = l.length := by omega
  subst e
  rw [List.drop_length] at hr
  simp -implicitDefEqProofs [h0, hx0, hs, hn, hii]
  refine hexit hr.symm _ _ ?_ ?_ <;> simp [h0, hx0]
 | succ n ih =>
  intro i G env hi hr h0 hx0 hs hn hii
  refine li_go hm l54_0.eq_1 ?_
  have hlt : i < l.length := by omega
  have hlt' : (i : Int) < l.length := by omega
  rw [List.drop_eq_getElem_cons hlt, wantL] at hr
  have hg := exL_get hlt
  have hlen := exL_len l
  have h46 := fun L => ok83 (H := H ++ L) (T := T) (rest := rest) (hh l[i] (List.getElem_mem hlt)) (get_app_l ho L) 1
  generalize l[i] = e at hr hg h46
  simp -implicitDefEqProofs [h0, hx0, hs, hn, hii, exS, hlt, hlt', hg, hlen, rp]
  refine ⟨by omega, callq_go (fun _ => h46 _) ?_⟩
  generalize wantF vs e 1 = w at hr ⊢
  by_cases hw : w.1 = 0
  · rw [if_neg (by simpa using hw)] at hr
    have hev : errV w.1 w.2 = .val .nilIface := by rw [hw]; rfl
    rw [hev]
    simp -implicitDefEqProofs [h0, hx0, hs, hn, hii]
    refine ih (i + 1) _ _ (by omega) hr ?_ ?_ ?_ ?_ ?_
    all_goals simp [h0, hx0, hs, hn, exS, rp, wrap_suc (show i < 9223372036854775807 by omega)]
  · rw [if_pos hw] at hr
    subst hr
    have hev := errV_of hw w.2
    rw [hev]
    simp -implicitDefEqProofs [h0, hx0, hs, hn, hii]
    refine hret hw _ _ ?_
    simp [hev]
theorem loop56_0 {l : List Ex} (hl : l.length < 4611686018427387904) (hh : ∀ e ∈ l, e.hgt ≤ 100000) (ho : H[j]? = some (tyO (varsM vs) opsM rest T)) {N : Nat} {K : XE -> Env -> List AO -> Prop} {A : AO} {res : Int × Int}
 (hret : res.1 ≠ 0 -> ∀ env G, env.get 4 = errV res.1 res.2 -> K .ret env (H ++ A :: G)) (hexit : res = (0, 0) -> ∀ env G, env.get 0 = rp j -> K (.exit 0) env (H ++ A :: G)) :
 ∀ (n i : Nat) (G : List AO) (env : Env), i + n = l.length -> wantL vs 1 (l.drop i) = res -> env.get 0 = rp j -> env.get 21 = exS l -> env.get 22 = i64 l.length -> env.get 23 = i64 i →
  LI Tryz.prog N drawB l56_0 env (H ++ A :: G) K := by
 intro n
 induction n with
 | zero =>
  intro i G env hi hr h0 hs hn hii
  refine li_go hm l56_0.eq_1 ?_
  have e : i = l.length := by omega
  subst e
  rw [List.drop_length] at hr
  simp -implicitDefEqProofs [h0, hs, hn, hii]
  refine hexit hr.symm _ _ ?_ <;> simp [h0]
 | succ n ih =>
  intro i G env hi hr h0 hs hn hii
  refine li_go hm l56_0.eq_1 ?_
  have hlt : i < l.length := by omega
  have hlt' : (i : Int) < l.length := by omega
  rw [List.drop_eq_getElem_cons hlt, wantL] at hr
  have hg := exL_get hlt
  have hlen := exL_len l
  have h46 := fun L => ok83 (H := H ++ L) (T := T) (rest := rest) (hh l[i] (List.getElem_mem hlt)) (get_app_l ho L) 1
  generalize l[i] = e at hr hg h46
  simp -implicitDefEqProofs [h0, hs, hn, hii, exS, hlt, hlt', hg, hlen, rp]
  refine ⟨by omega, callq_go (fun _ => h46 _) ?_⟩
  generalize wantF vs e 1 = w at hr ⊢
  by_cases hw : w.1 = 0
  · rw [if_neg (by simpa using hw)] at hr
    have hev : errV w.1 w.2 = .val .nilIface := by rw [hw]; rfl
    rw [hev]
    simp -implicitDefEqProofs [h0, hs, hn, hii]
    refine ih (i + 1) _ _ (by omega) hr ?_ ?_ ?_ ?_
    all_goals simp [h0, hs, hn, exS, rp, wrap_suc (show i < 9223372036854775807 by omega)]
  · rw [if_pos hw] at hr
    subst hr
    have hev := errV_of hw w.2
    rw [hev]
    simp -implicitDefEqProofs [h0, hs, hn, hii]
    refine hret hw _ _ ?_
    simp [hev]
theorem loop84_0 {l : List Ex} (hl : l.length < 4611686018427387904) (hh : ∀ e ∈ l, e.hgt ≤ 100000) (ho : H[j]? = some (tyO (varsM vs) opsM rest T)) {N : Nat} {K : XE -> Env -> List AO -> Prop} {A : AO} {res : Int × Int} {x0 x1 : SV}
 (hret : res.1 ≠ 0 -> ∀ env G, env.get 6 = errV res.1 res.2 -> K .ret env (H ++ A :: G)) (hexit : res = (0, 0) -> ∀ env G, env.get 0 = rp j -> env.get 1 = x0 -> env.get 5 = x1 -> K (.exit 0) env (H ++ A :: G)) :
 ∀ (n i : Nat) (G : List AO) (env : Env), i + n = l.length -> wantL vs 2 (l.drop i) = res -> env.get 0 = rp j -> env.get 1 = x0 -> env.get 5 = x1 -> env.get 22 = exS l -> env.get 23 = i64 l.length -> env.get 24 = i64 i →
  LI Tryz.prog N drawB l84_0 env (H ++ A :: G) K := by
 intro n
 induction n with
 | zero =>
  intro i G env hi hr h0 hx0 hx1 hs hn hii
  refine li_go hm l84_0.eq_1 ?_
  have e : i = l.length := by omega
  subst e
  rw [List.drop_length] at hr
  simp -implicitDefEqProofs [h0, hx0, hx1, hs, hn, hii]
  refine hexit hr.symm _ _ ?_ ?_ ?_ <;> simp [h0, hx0, hx1]
 | succ n ih =>
  intro i G env hi hr h0 hx0 hx1 hs hn hii
  refine li_go hm l84_0.eq_1 ?_
  have hlt : i < l.length := by omega
  have hlt' : (i : Int) < l.length := by omega
  rw [List.drop_eq_getElem_cons hlt, wantL] at hr
  have hg := exL_get hlt
  have hlen := exL_len l
  have h46 := fun L => ok83 (H := H ++ L) (T := T) (rest := rest) (hh l[i] (List.getElem_mem hlt)) (get_app_l ho L) 2
  generalize l[i] = e at hr hg h46
  simp -implicitDefEqProofs [h0, hx0, hx1, hs, hn, hii, exS, hlt, hlt', hg, hlen, rp]
  refine ⟨by omega, callq_go (fun _ => h46 _) ?_⟩
  generalize wantF vs e 2 = w at hr ⊢
  by_cases hw : w.1 = 0
  · rw [if_neg (by simpa using hw)] at hr
    have hev : errV w.1 w.2 = .val .nilIface := by rw [hw]; rfl
    rw [hev]
    simp -implicitDefEqProofs [h0, hx0, hx1, hs, hn, hii]
    refine ih (i + 1) _ _ (by omega) hr ?_ ?_ ?_ ?_ ?_ ?_
    all_goals simp [h0, hx0, hx1, hs, hn, exS, rp, wrap_suc (show i < 9223372036854775807 by omega)]
  · rw [if_pos hw] at hr
    subst hr
    have hev := errV_of hw w.2
    rw [hev]
    simp -implicitDefEqProofs [h0, hx0, hx1, hs, hn, hii]
    refine hret hw _ _ ?_
    simp [hev]
end
def endF (vs : List (List UInt8)) (pl : Int) (x : StageP) : Int × Int := if (x.pays.length : Int) ≠ pl then (3, x.p) else wantL vs 1 x.pays
section
variable {H : List AO} {r : RulesP} {j : Nat}
theorem ok56 (ho : H[j]? = some (cO r)) {x : StageP} (hl : x.pays.length < 4611686018427387904) (hh : ∀ e ∈ x.pays, e.hgt ≤ 100000) : Ok Tryz.prog 56 [rp j, stageV x] H (.ret (errV (endF (namesOf r) r.pl x).1 (endF (namesOf r) r.pl x).2)) H := by
 have hj := getElem?_lt ho
 have e1 := fun L => oc_app ho rfl rfl L
 simp only [cO, tyO] at e1
 generalize hw : endF (namesOf r) r.pl x = w
 unfold endF at hw
 refine ok_fn hm Tryz.func56 c56 (by simp [rp]) fun hcl => ?_
 by_cases hp : (x.pays.length : Int) = r.pl
 · rw [if_neg (by simpa using hp)] at hw
   have hp' : decide ((x.pays.length : Int) = r.pl) = true := by simpa using hp
   simp -implicitDefEqProofs [i56, r56, rp, e1, stageV, StageP.c, exS, hp']
   refine LI.cong (H' := H ++ ⟨x.c, 45, 0, true⟩ :: []) (by simp [exS, StageP.c]) ?_
   refine loop56_0 (vs := namesOf r) (T := 68) hl hh ho (res := w) (fun h1 env G h4 => ?_) (fun h1 env G h0 => ?_) x.pays.length 0 [] _ (by omega) hw ?_ ?_ ?_ ?_
   · simp -implicitDefEqProofs [h4]
     refine cv_fz 3 hcl rfl ?_
     simp
   · rw [h1]
     simp -implicitDefEqProofs
     refine cv_fz 3 hcl rfl ?_
     simp [errV_0]
   all_goals simp [rp, exS]
 · rw [if_pos hp] at hw
   have hp' : decide ((x.pays.length : Int) = r.pl) = false := by simpa using hp
   subst hw
   simp -implicitDefEqProofs [i56, r56, rp, e1, stageV, StageP.c, exS, hp']
   refine call_go (ok53 (e := 3) (by decide) x.p) ?_
   simp -implicitDefEqProofs
   refine cv_fz 3 hcl rfl ?_
   simp
end
end Go.Proofs.YthmdmnfojbnobaaGreatDoor
namespace Go.Proofs.YthmdmnfojbnobaaGreatDoor
open Go.Ab
def seenF (pl p : Int) : Int -> List Int -> Int × Int
 | _, [] => (0, 0)
 | q, n :: r => if n < 0 ∨ pl ≤ n then (2, p) else if n ≤ q then (9, p) else seenF pl p n r
def dealF (vs : List (List UInt8)) (pl : Int) (x : StageP) : Int × Int :=
 if x.nm ∉ vs then (7, x.p) else if x.lo < -1000000000 ∨ 1000000000 < x.lo ∨ x.hi < x.lo ∨ x.lo + 60 ≤ x.hi then (2, x.p) else if (wantL vs 1 x.wt).1 ≠ 0 then wantL vs 1 x.wt else seenF pl x.p (-1) x.seen
section
variable {H : List AO} {r : RulesP} {j : Nat}
theorem loop54_1 {x : StageP} (hl : x.seen.length < 4611686018427387904) (ho : H[j]? = some (cO r)) {N : Nat} {K : XE -> Env -> List AO -> Prop} {res : Int × Int}
 (hret : res.1 ≠ 0 -> ∀ env G, env.get 4 = errV res.1 res.2 -> K .ret env (H ++ G)) (hexit : res = (0, 0) -> ∀ env G, K (.exit 2) env (H ++ G)) :
 ∀ (n i : Nat) (q : Int) (G : List AO) (env : Env), i + n = x.seen.length -> seenF r.pl x.p q (x.seen.drop i) = res -> q = (if i = 0 then -1 else x.seen.getD (i - 1) 0) -> env.get 0 = rp j -> env.get 3 = rp H.length -> env.get 63 = .slc (ints x.seen) x.seen.length -> env.get 64 = i64 x.seen.length -> env.get 65 = i64 i →
  LI Tryz.prog N drawB l54_1 env (H ++ ⟨x.c, 45, 0, true⟩ :: G) K := by
 have hj := getElem?_lt ho
 have e1 := fun L => oc_app ho rfl rfl L
 simp only [cO, tyO] at e1
 intro n
 induction n with
 | zero =>
  intro i q G env hi hr hq h0 h3 hs hn hii
  refine li_go hm l54_1.eq_1 ?_
  have e : i = x.seen.length := by omega
  subst e
  rw [List.drop_length] at hr
  simp -implicitDefEqProofs [h0, h3, hs, hn, hii]
  exact hexit hr.symm _ _
 | succ n ih =>
  intro i q G env hi hr hq h0 h3 hs hn hii
  refine li_go hm l54_1.eq_1 ?_
  have hlt : i < x.seen.length := by omega
  have hlt' : (i : Int) < x.seen.length := by omega
  rw [List.drop_eq_getElem_cons hlt, seenF] at hr
  obtain ⟨v, hv⟩ : ∃ v, x.seen[i] = v := ⟨_, rfl⟩
  rw [hv] at hr
  by_cases h1 : v < 0
  · rw [if_pos (.inl h1)] at hr
    subst hr
    simp -implicitDefEqProofs [h0, h3, hs, hn, hii, hlt, hlt', hv, h1, rp, e1, StageP.c, exS]
    refine ⟨by omega, call_go (ok53 (e := 2) (by decide) x.p) ?_⟩
    simp -implicitDefEqProofs
    refine hret (show ¬ (2 : Int) = 0 by decide) _ _ ?_
    simp
  by_cases h2 : r.pl ≤ v
  · rw [if_pos (.inr h2)] at hr
    subst hr
    simp -implicitDefEqProofs [h0, h3, hs, hn, hii, hlt, hlt', hv, h1, h2, rp, e1, StageP.c, exS]
    refine ⟨by omega, call_go (ok53 (e := 2) (by decide) x.p) ?_⟩
    simp -implicitDefEqProofs
    refine hret (show ¬ (2 : Int) = 0 by decide) _ _ ?_
    simp
  rw [if_neg (by omega)] at hr
  by_cases hz : i = 0
  · rw [if_pos hz] at hq
    rw [if_neg (by omega)] at hr
    have hp : ¬ (0 : Int) < (i : Int) := by omega
    have hp' : ¬ 0 < i := by omega
    simp -implicitDefEqProofs [h0, h3, hs, hn, hii, hlt, hlt', hv, h1, h2, rp, e1, StageP.c, exS, hp, hp']
    refine ⟨by omega, ?_⟩
    refine LI.cong ?_ (ih (i + 1) v G _ (by omega) hr ?_ ?_ ?_ ?_ ?_ ?_)
    · simp [StageP.c, exS]
    all_goals simp [h0, h3, hs, hn, rp, List.getD, hlt, hv, wrap_suc (show i < 9223372036854775807 by omega)]
  · rw [if_neg hz] at hq
    obtain ⟨k, hik⟩ : ∃ k, i - 1 = k := ⟨_, rfl⟩
    rw [hik] at hq
    have hk : k < x.seen.length := by omega
    have hk' : (k : Int) < x.seen.length := by omega
    obtain ⟨u, hu⟩ : ∃ u, x.seen[k] = u := ⟨_, rfl⟩
    have hqu : q = u := by simpa [List.getD, hk, hu] using hq
    subst hqu
    have w1 : IntKind.i64.wrap ((i : Int) - 1) = (k : Int) := by rw [wrap_id (by omega) (by omega)]; omega
    have hp : (0 : Int) < (i : Int) := by omega
    have hp' : 0 < i := by omega
    by_cases h4 : v ≤ q
    · rw [if_pos h4] at hr
      subst hr
      simp -implicitDefEqProofs [h0, h3, hs, hn, hii, hlt, hlt', hv, h1, h2, rp, e1, StageP.c, exS, hp, hp', w1, hk, hk', hu, h4]
      refine ⟨by omega, by omega, call_go (ok53 (e := 9) (by decide) x.p) ?_⟩
      simp -implicitDefEqProofs
      refine hret (show ¬ (9 : Int) = 0 by decide) _ _ ?_
      simp
    · rw [if_neg h4] at hr
      simp -implicitDefEqProofs [h0, h3, hs, hn, hii, hlt, hlt', hv, h1, h2, rp, e1, StageP.c, exS, hp, hp', w1, hk, hk', hu, h4]
      refine ⟨by omega, by omega, ?_⟩
      refine LI.cong ?_ (ih (i + 1) v G _ (by omega) hr ?_ ?_ ?_ ?_ ?_ ?_)
      · simp [StageP.c, exS]
      all_goals simp [h0, h3, hs, hn, rp, List.getD, hlt, hv, wrap_suc (show i < 9223372036854775807 by omega)]
theorem ok54 (ho : H[j]? = some (cO r)) {x : StageP} (hl : x.wt.length < 4611686018427387904) (hl2 : x.seen.length < 4611686018427387904) (hh : ∀ e ∈ x.wt, e.hgt ≤ 100000) : Ok Tryz.prog 54 [rp j, stageV x] H (.ret (errV (dealF (namesOf r) r.pl x).1 (dealF (namesOf r) r.pl x).2)) H := by
 have hj := getElem?_lt ho
 have e1 := fun L => oc_app ho rfl rfl L
 have h44 := fun L => ok82 (H := H ++ L) (T := 68) (get_app_l ho L) x.nm
 simp only [cO, tyO] at e1
 generalize hw : dealF (namesOf r) r.pl x = w
 unfold dealF at hw
 refine ok_fn hm Tryz.func54 c54 (by simp [rp]) fun hcl => ?_
 simp -implicitDefEqProofs [i54, r54, rp, e1, stageV, StageP.c, exS]
 refine callq_go (fun _ => h44 _) ?_
 by_cases h1 : x.nm ∈ namesOf r
 · rw [if_neg (by simpa using h1)] at hw
   by_cases a1 : x.lo < -1000000000
   · rw [if_pos (.inl a1)] at hw
     subst hw
     simp -implicitDefEqProofs [h1, a1, e1, stageV, StageP.c, exS]
     refine call_go (ok53 (e := 2) (by decide) x.p) ?_
     simp -implicitDefEqProofs
     refine cv_fz 3 hcl rfl ?_
     simp
   by_cases a2 : 1000000000 < x.lo
   · rw [if_pos (.inr (.inl a2))] at hw
     subst hw
     simp -implicitDefEqProofs [h1, a1, a2, e1, stageV, StageP.c, exS]
     refine call_go (ok53 (e := 2) (by decide) x.p) ?_
     simp -implicitDefEqProofs
     refine cv_fz 3 hcl rfl ?_
     simp
   by_cases a3 : x.hi < x.lo
   · rw [if_pos (.inr (.inr (.inl a3)))] at hw
     subst hw
     simp -implicitDefEqProofs [h1, a1, a2, a3, e1, stageV, StageP.c, exS]
     refine call_go (ok53 (e := 2) (by decide) x.p) ?_
     simp -implicitDefEqProofs
     refine cv_fz 3 hcl rfl ?_
     simp
   have w6 : IntKind.i64.wrap (x.lo + 60) = x.lo + 60 := wrap_id (by omega) (by omega)
   by_cases a4 : x.lo + 60 ≤ x.hi
   · rw [if_pos (.inr (.inr (.inr a4)))] at hw
     subst hw
     simp -implicitDefEqProofs [h1, a1, a2, a3, w6, a4, e1, stageV, StageP.c, exS]
     refine call_go (ok53 (e := 2) (by decide) x.p) ?_
     simp -implicitDefEqProofs
     refine cv_fz 3 hcl rfl ?_
     simp
   rw [if_neg (by omega)] at hw
   simp -implicitDefEqProofs [h1, a1, a2, a3, w6, a4, e1, stageV, StageP.c, exS]
   refine LI.cong (H' := H ++ ⟨x.c, 45, 0, true⟩ :: []) (by simp [exS, StageP.c]) ?_
   refine loop54_0 (vs := namesOf r) (T := 68) (x0 := rp H.length) hl hh ho (res := wantL (namesOf r) 1 x.wt) (fun h1 env G h4 => ?_) (fun h1 env G h0 h3 => ?_) x.wt.length 0 [] _ (by omega) rfl ?_ ?_ ?_ ?_ ?_
   · rw [if_pos h1] at hw
     subst hw
     simp -implicitDefEqProofs [h4]
     refine cv_fz 3 hcl rfl ?_
     simp
   · rw [h1, if_neg (by simp)] at hw
     simp -implicitDefEqProofs [h0, h3, rp, StageP.c]
     refine LI.cong (H' := H ++ ⟨x.c, 45, 0, true⟩ :: G) (by simp [exS, StageP.c]) ?_
     refine loop54_1 hl2 ho (res := w) (fun h1 env G h4 => ?_) (fun h1 env G => ?_) x.seen.length 0 (-1) G _ (by omega) hw rfl ?_ ?_ ?_ ?_ ?_
     · simp -implicitDefEqProofs [h4]
       refine cv_fz 3 hcl rfl ?_
       simp
     · rw [h1]
       simp -implicitDefEqProofs
       refine cv_fz 3 hcl rfl ?_
       simp [errV_0]
     all_goals simp [h0, h3, rp]
   all_goals simp [rp, exS]
 · rw [if_pos h1] at hw
   subst hw
   simp -implicitDefEqProofs [h1, stageV, StageP.c, exS]
   refine call_go (ok53 (e := 7) (by decide) x.p) ?_
   simp -implicitDefEqProofs
   refine cv_fz 3 hcl rfl ?_
   simp
end
end Go.Proofs.YthmdmnfojbnobaaGreatDoor
namespace Go.Proofs.YthmdmnfojbnobaaGreatDoor
open Go.Ab
def setF (vs : List (List UInt8)) : List SetP -> Int × Int
 | [] => (0, 0)
 | s :: r => if s.nm ∉ vs then (7, s.p) else if (wantF vs s.e 1).1 ≠ 0 then wantF vs s.e 1 else setF vs r
def goF (stgs : List StageP) (i : Int) (a : ActP) : Int × Int :=
 if a.go = [] then (0, 0) else if findF stgs a.go < 0 then (7, a.p) else if findF stgs a.go ≤ i then (9, a.p) else (0, 0)
def actF (vs : List (List UInt8)) (stgs : List StageP) (i : Int) (a : ActP) : Int × Int :=
 if 1 < a.wh.length then (3, a.p) else if (wantL vs 2 a.wh).1 ≠ 0 then wantL vs 2 a.wh else if (setF vs a.sets).1 ≠ 0 then setF vs a.sets else goF stgs i a
theorem SetP.c_len7 (s : SetP) : s.c.length = 7 := by simp [SetP.c]
section
variable {H : List AO} {vs : List (List UInt8)} {rest : List SV} {r : RulesP} {j : Nat} {T : TypeId}
theorem loop84_1 {l : List SetP} (hl : l.length < 1099511627776) (hh : ∀ s ∈ l, s.e.hgt ≤ 100000) (ho : H[j]? = some (tyO (varsM vs) opsM rest T)) {N : Nat} {K : XE -> Env -> List AO -> Prop} {A : AO} {res : Int × Int} {x0 x1 : SV}
 (hret : res.1 ≠ 0 -> ∀ env G, env.get 6 = errV res.1 res.2 -> K .ret env (H ++ A :: G)) (hexit : res = (0, 0) -> ∀ env G, env.get 0 = rp j -> env.get 1 = x0 -> env.get 5 = x1 -> K (.exit 2) env (H ++ A :: G)) :
 ∀ (n i : Nat) (G : List AO) (env : Env), i + n = l.length -> setF vs (l.drop i) = res -> env.get 0 = rp j -> env.get 1 = x0 -> env.get 5 = x1 -> env.get 38 = .slc (rws SetP.c l) l.length -> env.get 39 = i64 l.length -> env.get 40 = i64 i →
  LI Tryz.prog N drawB l84_1 env (H ++ A :: G) K := by
 intro n
 induction n with
 | zero =>
  intro i G env hi hr h0 hx0 hx1 hs hn hii
  refine li_go hm l84_1.eq_1 ?_
  have e : i = l.length := by omega
  subst e
  rw [List.drop_length] at hr
  simp -implicitDefEqProofs [h0, hx0, hx1, hs, hn, hii]
  refine hexit hr.symm _ _ ?_ ?_ ?_ <;> simp [h0, hx0, hx1]
 | succ n ih =>
  intro i G env hi hr h0 hx0 hx1 hs hn hii
  refine li_go hm l84_1.eq_1 ?_
  have hlt : i < l.length := by omega
  have hlt' : (i : Int) < l.length := by omega
  rw [List.drop_eq_getElem_cons hlt, setF] at hr
  have hg := rws_c SetP.c_len7 hlt
  have hlen := rws_len SetP.c_len7 l
  have h46 := fun L => ok83 (H := H ++ L) (T := T) (rest := rest) (hh l[i] (List.getElem_mem hlt)) (get_app_l ho L) 1
  have h44 := fun L => ok82 (H := H ++ L) (T := T) (rest := rest) (get_app_l ho L) l[i].nm
  generalize l[i] = s at hr hg h46 h44
  obtain ⟨nm, ⟨op, m, en, el, ep⟩, p⟩ := s
  simp only [SetP.c, Ex.c, List.cons_append, List.nil_append] at hg
  simp only [Ex.v, Ex.c] at h46
  simp -implicitDefEqProofs [h0, hx0, hx1, hs, hn, hii, hlt, hlt', hg, hlen, rp]
  simp only at hr h44
  refine ⟨by omega, callq_go (fun _ => h44 _) ?_⟩
  by_cases h1 : nm ∈ vs
  · rw [if_neg (by simpa using h1)] at hr
    generalize wantF vs (.mk op m en el ep) 1 = w at hr h46
    simp -implicitDefEqProofs [h0, hx0, hx1, hs, hn, hii, h1, rp]
    refine callq_go (fun _ => h46 _) ?_
    by_cases hw : w.1 = 0
    · rw [if_neg (by simpa using hw)] at hr
      have hev : errV w.1 w.2 = .val .nilIface := by rw [hw]; rfl
      rw [hev]
      simp -implicitDefEqProofs [h0, hx0, hx1, hs, hn, hii]
      refine ih (i + 1) _ _ (by omega) hr ?_ ?_ ?_ ?_ ?_ ?_
      all_goals simp [h0, hx0, hx1, hs, hn, rp, wrap_suc (show i < 9223372036854775807 by omega)]
    · rw [if_pos hw] at hr
      subst hr
      have hev := errV_of hw w.2
      rw [hev]
      simp -implicitDefEqProofs [h0, hx0, hx1, hs, hn, hii]
      refine hret hw _ _ ?_
      simp [hev]
  · rw [if_pos h1] at hr
    subst hr
    simp -implicitDefEqProofs [h0, hx0, hx1, hs, hn, hii, h1, rp]
    refine call_go (ok53 (e := 7) (by decide) p) ?_
    simp -implicitDefEqProofs
    refine hret (show ¬ (7 : Int) = 0 by decide) _ _ ?_
    simp
theorem ok84 (ho : H[j]? = some (cO r)) (hl : r.stages.length < 4611686018427387904) {a : ActP} (hs2 : a.sets.length < 1099511627776) (hw2 : ∀ e ∈ a.wh, e.hgt ≤ 100000) (hh : ∀ s ∈ a.sets, s.e.hgt ≤ 100000) {i : Nat} (hi : i < 4611686018427387904) :
 Ok Tryz.prog 84 [rp j, i64 i, actV a] H (.ret (errV (actF (namesOf r) r.stages i a).1 (actF (namesOf r) r.stages i a).2)) H := by
 have hj := getElem?_lt ho
 have e1 := fun L => oc_app ho rfl rfl L
 simp only [cO, tyO] at e1
 generalize hw : actF (namesOf r) r.stages i a = w
 unfold actF at hw
 refine ok_fn hm Tryz.func84 c84 (by simp [rp]) fun hcl => ?_
 by_cases h1 : 1 < a.wh.length
 · rw [if_pos h1] at hw
   subst hw
   have h1' : (1 : Int) < a.wh.length := by omega
   simp -implicitDefEqProofs [i84, r84, rp, e1, actV, ActP.c, exS, h1, h1']
   refine call_go (ok53 (e := 3) (by decide) a.p) ?_
   simp -implicitDefEqProofs
   refine cv_fz 4 hcl rfl ?_
   simp
 rw [if_neg h1] at hw
 have h1' : ¬ (1 : Int) < a.wh.length := by omega
 simp -implicitDefEqProofs [i84, r84, rp, e1, actV, ActP.c, exS, h1, h1']
 refine LI.cong (H' := H ++ ⟨a.c, 51, 0, true⟩ :: []) (by simp [exS, ActP.c]) ?_
 refine loop84_0 (vs := namesOf r) (T := 68) (x0 := i64 i) (x1 := rp H.length) (by omega) hw2 ho (res := wantL (namesOf r) 2 a.wh) (fun h1 env G h4 => ?_) (fun h1 env G h0 hx0 hx1 => ?_) a.wh.length 0 [] _ (by omega) rfl ?_ ?_ ?_ ?_ ?_ ?_
 · rw [if_pos h1] at hw
   subst hw
   simp -implicitDefEqProofs [h4]
   refine cv_fz 4 hcl rfl ?_
   simp
 · rw [h1, if_neg (by simp)] at hw
   simp -implicitDefEqProofs [h0, hx0, hx1, rp, ActP.c]
   refine LI.cong (H' := H ++ ⟨a.c, 51, 0, true⟩ :: G) (by simp [exS, ActP.c]) ?_
   refine loop84_1 (vs := namesOf r) (T := 68) (x0 := i64 i) (x1 := rp H.length) hs2 hh ho (res := setF (namesOf r) a.sets) (fun h1 env G h4 => ?_) (fun h1 env G h0 hx0 hx1 => ?_) a.sets.length 0 G _ (by omega) rfl ?_ ?_ ?_ ?_ ?_ ?_
   · rw [if_pos h1] at hw
     subst hw
     simp -implicitDefEqProofs [h4]
     refine cv_fz 4 hcl rfl ?_
     simp
   · rw [h1, if_neg (by simp)] at hw
     unfold goF at hw
     by_cases h2 : a.go = []
     · rw [if_pos h2] at hw
       subst hw
       simp -implicitDefEqProofs [h0, hx0, hx1, rp, ActP.c, h2]
       refine cv_fz 4 hcl rfl ?_
       simp [errV_0]
     · rw [if_neg h2] at hw
       simp -implicitDefEqProofs [h0, hx0, hx1, rp, ActP.c, h2, e1]
       refine call_of (ok22 hl a.go) ?_
       generalize findF r.stages a.go = t at hw ⊢
       by_cases h3 : t < 0
       · rw [if_pos h3] at hw
         subst hw
         simp -implicitDefEqProofs [h0, hx0, hx1, rp, h3]
         refine call_go (ok53 (e := 7) (by decide) a.p) ?_
         simp -implicitDefEqProofs
         refine cv_fz 4 hcl rfl ?_
         simp
       rw [if_neg h3] at hw
       by_cases h4 : t ≤ (i : Int)
       · rw [if_pos h4] at hw
         subst hw
         simp -implicitDefEqProofs [h0, hx0, hx1, rp, h3, h4]
         refine call_go (ok53 (e := 9) (by decide) a.p) ?_
         simp -implicitDefEqProofs
         refine cv_fz 4 hcl rfl ?_
         simp
       · rw [if_neg h4] at hw
         subst hw
         simp -implicitDefEqProofs [h0, hx0, hx1, rp, h3, h4]
         refine cv_fz 4 hcl rfl ?_
         simp [errV_0]
   all_goals simp [h0, hx0, hx1, rp]
 all_goals simp [rp, exS]
end
end Go.Proofs.YthmdmnfojbnobaaGreatDoor
namespace Go.Proofs.YthmdmnfojbnobaaGreatDoor
open Go.Ab
def actsF (vs : List (List UInt8)) (stgs : List StageP) (i : Int) : List (List UInt8) -> List ActP -> Int × Int
 | _, [] => (0, 0)
 | l, a :: r => if a.nm ∈ l then (8, a.p) else if (actF vs stgs i a).1 ≠ 0 then actF vs stgs i a else actsF vs stgs i (addS l a.nm) r
def turnF (vs : List (List UInt8)) (stgs : List StageP) (i : Int) (x : StageP) : Int × Int := match x.who with
 | [] => (0, 0)
 | e :: _ => if (wantF vs e 1).1 ≠ 0 then wantF vs e 1 else if x.acts.length < 1 ∨ 10 < x.acts.length then (3, x.p) else actsF vs stgs i [] x.acts
structure ActP.Ok (a : ActP) : Prop where
 sets : a.sets.length < 1099511627776
 wh : ∀ e ∈ a.wh, e.hgt ≤ 100000
 e : ∀ s ∈ a.sets, s.e.hgt ≤ 100000
section
variable {H : List AO} {r : RulesP} {j : Nat}
theorem loop55 {l : List ActP} (hl : l.length ≤ 10) (hh : ∀ a ∈ l, a.Ok) (ho : H[j]? = some (cO r)) (hstg : r.stages.length < 4611686018427387904) {st : Nat} (hst : st < 4611686018427387904) {N : Nat} {K : XE -> Env -> List AO -> Prop} {A : AO} {res : Int × Int}
 (hret : res.1 ≠ 0 -> ∀ env G, env.get 6 = errV res.1 res.2 -> K .ret env (H ++ A :: G)) (hexit : res = (0, 0) -> ∀ env G, K (.exit 0) env (H ++ A :: G)) :
 ∀ (n i : Nat) (m : List (List UInt8)) (G : List AO) (env : Env), i + n = l.length -> actsF (namesOf r) r.stages st m (l.drop i) = res -> env.get 0 = rp j -> env.get 1 = i64 st -> env.get 8 = .mp (H.length + 1) 0 -> env.get 38 = .slc (rws ActP.c l) l.length -> env.get 39 = i64 l.length -> env.get 40 = i64 i →
  LI Tryz.prog N drawB l55_0 env (H ++ A :: vmO m :: G) K := by
 intro n
 induction n with
 | zero =>
  intro i m G env hi hr h0 h1 h8 hs hn hii
  refine li_go hm l55_0.eq_1 ?_
  have e : i = l.length := by omega
  subst e
  rw [List.drop_length] at hr
  simp -implicitDefEqProofs [h0, h1, h8, hs, hn, hii]
  exact hexit hr.symm _ _
 | succ n ih =>
  intro i m G env hi hr h0 h1 h8 hs hn hii
  refine li_go hm l55_0.eq_1 ?_
  have hlt : i < l.length := by omega
  have hlt' : (i : Int) < l.length := by omega
  rw [List.drop_eq_getElem_cons hlt, actsF] at hr
  have hg := rws_c ActP.c_len hlt
  have hlen := rws_len ActP.c_len l
  have hok := hh l[i] (List.getElem_mem hlt)
  have h47 := fun L => ok84 (H := H ++ L) (get_app_l ho L) hstg (a := l[i]) hok.sets hok.wh hok.e hst
  generalize l[i] = a at hr hg h47 hok
  have mo : ∀ G, SV.mapOf (H ++ A :: vmO m :: G) (.mp (H.length + 1) 0) = some (sks m, trues m.length) := fun G => by
   have : (H ++ A :: vmO m :: G)[H.length + 1]? = some (vmO m) := by simp
   simp only [SV.mapOf, this]; simp [vmO]
  have hal' : ∀ v ∈ sks m, KK.s.is v = true := fun v hv => List.all_eq_true.1 (sks_all m) v hv
  have hlk := lkm_s a.nm m
  simp only [ActP.c, exS] at hg
  simp only [actV, ActP.c, exS] at h47
  by_cases hv : a.nm ∈ m
  · rw [if_pos hv] at hr hlk
    subst hr
    simp -implicitDefEqProofs [h0, h1, h8, hs, hn, hii, hlt, hlt', hg, hlen, mo, hlk, exS]
    refine ⟨by omega, hal', call_go (ok53 (e := 8) (by decide) a.p) ?_⟩
    simp -implicitDefEqProofs
    refine hret (show ¬ (8 : Int) = 0 by decide) _ _ ?_
    simp
  · rw [if_neg hv] at hr hlk
    have e1 := setK_s a.nm m
    have e2 := setV_s a.nm m
    generalize actF (namesOf r) r.stages st a = w at hr h47
    simp -implicitDefEqProofs [h0, h1, h8, hs, hn, hii, hlt, hlt', hg, hlen, mo, hlk, exS]
    refine ⟨by omega, hal', s_mup_go (x := (sks m, trues m.length)) (mo _) rfl rfl (sks_all m) ?_⟩
    simp -implicitDefEqProofs [h0, h1, h8, hs, hn, hii, vmO, e1, e2, rp]
    refine call_go (h47 _) ?_
    by_cases hw : w.1 = 0
    · rw [if_neg (by simpa using hw)] at hr
      have hev : errV w.1 w.2 = .val .nilIface := by rw [hw]; rfl
      rw [hev]
      simp -implicitDefEqProofs [h0, h1, h8, hs, hn, hii]
      refine LI.cong ?_ (ih (i + 1) (addS m a.nm) (G ++ [⟨a.c, 51, 0, true⟩]) _ (by omega) hr ?_ ?_ ?_ ?_ ?_ ?_)
      · simp [vmO, ActP.c, exS]
      all_goals simp [h0, h1, h8, hs, hn, rp, wrap_suc (show i < 9223372036854775807 by omega)]
    · rw [if_pos hw] at hr
      subst hr
      have hev := errV_of hw w.2
      rw [hev]
      simp -implicitDefEqProofs [h0, h1, h8, hs, hn, hii]
      refine hret hw _ _ ?_
      simp [hev]
theorem ok55 (ho : H[j]? = some (cO r)) (hl : r.stages.length < 4611686018427387904) {x : StageP} (hx : x.acts.length < 4611686018427387904) {e0 : Ex} {wr : List Ex} (hwho : x.who = e0 :: wr) (he0 : e0.hgt ≤ 100000) (hh : ∀ a ∈ x.acts, a.Ok) {i : Nat} (hi : i < 4611686018427387904) :
 Ok Tryz.prog 55 [rp j, i64 i, stageV x] H (.ret (errV (turnF (namesOf r) r.stages i x).1 (turnF (namesOf r) r.stages i x).2)) H := by
 have hj := getElem?_lt ho
 have e1 := fun L => oc_app ho rfl rfl L
 simp only [cO, tyO] at e1
 have h46 := fun L => ok83 (H := H ++ L) (T := 68) (vs := namesOf r) he0 (get_app_l ho L) 1
 generalize hw : turnF (namesOf r) r.stages i x = w
 unfold turnF at hw
 rw [hwho] at hw
 simp only at hw
 refine ok_fn hm Tryz.func55 c55 (by simp [rp]) fun hcl => ?_
 generalize hq : wantF (namesOf r) e0 1 = q at hw h46
 obtain ⟨op, m, en, el, ep⟩ := e0
 simp only [Ex.v, Ex.c] at h46
 simp -implicitDefEqProofs [i55, r55, rp, e1, stageV, StageP.c, exS, hwho, Ex.cL, Ex.c]
 refine callq_go (fun _ => h46 _) ?_
 by_cases hw1 : q.1 = 0
 · rw [if_neg (by simpa using hw1)] at hw
   have hev : errV q.1 q.2 = .val .nilIface := by rw [hw1]; rfl
   rw [hev]
   by_cases a1 : x.acts.length < 1
   · rw [if_pos (.inl a1)] at hw
     subst hw
     have a1' : (x.acts.length : Int) < 1 := by omega
     simp -implicitDefEqProofs [rp, a1, a1']
     refine call_go (ok53 (e := 3) (by decide) x.p) ?_
     simp -implicitDefEqProofs
     refine cv_fz 3 hcl rfl ?_
     simp
   by_cases a2 : 10 < x.acts.length
   · rw [if_pos (.inr a2)] at hw
     subst hw
     have a1' : ¬ (x.acts.length : Int) < 1 := by omega
     have a2' : (10 : Int) < x.acts.length := by omega
     simp -implicitDefEqProofs [rp, a1, a1', a2, a2']
     refine call_go (ok53 (e := 3) (by decide) x.p) ?_
     simp -implicitDefEqProofs
     refine cv_fz 3 hcl rfl ?_
     simp
   rw [if_neg (by omega)] at hw
   have a1' : decide ((x.acts.length : Int) < 1) = false := by simp; omega
   have a2' : decide ((10 : Int) < x.acts.length) = false := by simp; omega
   simp -implicitDefEqProofs [rp, a1', a2']
   refine LI.cong (H' := H ++ ⟨x.c, 45, 0, true⟩ :: vmO [] :: []) (by simp [exS, StageP.c, vmO, hwho, Ex.cL, Ex.c, sks, trues]) ?_
   refine loop55 (by omega) hh ho hl hi (res := w) (fun h1 env G h4 => ?_) (fun h1 env G => ?_) x.acts.length 0 [] [] _ (by omega) hw ?_ ?_ ?_ ?_ ?_ ?_
   · simp -implicitDefEqProofs [h4]
     refine cv_fz 4 hcl rfl ?_
     simp
   · rw [h1]
     simp -implicitDefEqProofs
     refine cv_fz 4 hcl rfl ?_
     simp [errV_0]
   all_goals simp [rp]
 · rw [if_pos hw1] at hw
   subst hw
   have hev := errV_of hw1 q.2
   rw [hev]
   simp -implicitDefEqProofs
   refine cv_fz 3 hcl rfl ?_
   rw [← hev]; simp
end
end Go.Proofs.YthmdmnfojbnobaaGreatDoor
namespace Go.Proofs.YthmdmnfojbnobaaGreatDoor
open Go.Ab
def stageF (vs : List (List UInt8)) (pl : Int) (stgs : List StageP) (i : Int) (x : StageP) : Int × Int :=
 if 1 < x.wt.length ∨ (x.k = 2 ∧ x.who.length ≠ 1) then (3, x.p) else if x.k = 1 then dealF vs pl x else if x.k = 2 then turnF vs stgs i x else if x.k = 3 then endF vs pl x else (3, x.p)
def stagesF (vs : List (List UInt8)) (pl : Int) (stgs : List StageP) : Nat -> List StageP -> Int × Int
 | _, [] => (0, 0)
 | i, x :: r => if (stageF vs pl stgs (i : Int) x).1 ≠ 0 then stageF vs pl stgs (i : Int) x else stagesF vs pl stgs (i + 1) r
structure StageP.Ok (x : StageP) : Prop where
 wt : ∀ e ∈ x.wt, e.hgt ≤ 100000
 seen : x.seen.length < 4611686018427387904
 who : ∀ e ∈ x.who, e.hgt ≤ 100000
 acts : x.acts.length < 4611686018427387904
 act : ∀ a ∈ x.acts, a.Ok
 lp : x.pays.length < 4611686018427387904
 pays : ∀ e ∈ x.pays, e.hgt ≤ 100000
section
variable {H : List AO} {r : RulesP} {j : Nat}
theorem loop30 (hl : r.stages.length < 4611686018427387904) (hh : ∀ x ∈ r.stages, x.Ok) (ho : H[j]? = some (cO r)) {N : Nat} {K : XE -> Env -> List AO -> Prop} {res : Int × Int}
 (hret : res.1 ≠ 0 -> ∀ env G, env.get 2 = errV res.1 res.2 -> K .ret env (H ++ G)) (hexit : res = (0, 0) -> ∀ env G, K (.exit 0) env (H ++ G)) :
 ∀ (n i : Nat) (G : List AO) (env : Env), i + n = r.stages.length -> stagesF (namesOf r) r.pl r.stages i (r.stages.drop i) = res -> env.get 0 = rp j -> env.get 10 = stgsV r.stages -> env.get 11 = i64 r.stages.length -> env.get 12 = i64 i →
  LI Tryz.prog N drawB l30_0 env (H ++ G) K := by
 intro n
 induction n with
 | zero =>
  intro i G env hi hr h0 hs hn hii
  refine li_go hm l30_0.eq_1 ?_
  have e : i = r.stages.length := by omega
  subst e
  rw [List.drop_length] at hr
  simp -implicitDefEqProofs [h0, hs, hn, hii]
  exact hexit hr.symm _ _
 | succ n ih =>
  intro i G env hi hr h0 hs hn hii
  refine li_go hm l30_0.eq_1 ?_
  have hlt : i < r.stages.length := by omega
  have hlt' : (i : Int) < r.stages.length := by omega
  rw [List.drop_eq_getElem_cons hlt, stagesF] at hr
  have hg := rws_c StageP.c_len hlt
  have hlen := rws_len StageP.c_len r.stages
  have hok := hh r.stages[i] (List.getElem_mem hlt)
  generalize r.stages[i] = x at hr hg hok
  have hob := fun L => get_app_l ho L
  simp only [StageP.c, exS] at hg
  have hsv : stageV x = .agg [i64 x.k, st (B x.lb), st (B x.nm), i64 x.lo, i64 x.hi, .slc (Ex.cL x.wt) x.wt.length, bl x.all, .slc (ints x.seen) x.seen.length, .slc (Ex.cL x.who) x.who.length, .slc (rws ActP.c x.acts) x.acts.length, .slc (Ex.cL x.pays) x.pays.length, i64 x.p] := rfl
  generalize hw : stageF (namesOf r) r.pl r.stages i x = w at hr
  unfold stageF at hw
  have h28 : ∀ L, (3, x.p) = w -> Ok Tryz.prog 53 [i64 3, i64 x.p] L (.ret (errV w.1 w.2)) L := fun L h => by subst h; exact ok53 (e := 3) (by decide) x.p
  by_cases w1 : 1 < x.wt.length
  · rw [if_pos (.inl w1)] at hw
    have w1' : decide ((1 : Int) < x.wt.length) = true := by simp; omega
    simp -implicitDefEqProofs [h0, hs, hn, hii, stgsV, hlt, hlt', hg, hlen, rp, w1']
    refine ⟨by omega, call_go (out := .ret (errV w.1 w.2)) (h28 _ hw) ?_⟩
    by_cases hw1 : w.1 = 0
    · rw [if_neg (by simpa using hw1)] at hr
      have hev : errV w.1 w.2 = .val .nilIface := by rw [hw1]; rfl
      rw [hev]
      simp -implicitDefEqProofs [h0, hs, hn, hii]
      refine LI.cong ?_ (ih (i + 1) (G ++ [⟨x.c, 45, 0, true⟩]) _ (by omega) hr ?_ ?_ ?_ ?_)
      · simp [StageP.c, exS]
      all_goals simp [h0, hs, hn, rp, stgsV, wrap_suc (show i < 9223372036854775807 by omega)]
    · rw [if_pos hw1] at hr
      subst hr
      have hev := errV_of hw1 w.2
      rw [hev]
      simp -implicitDefEqProofs [h0, hs, hn, hii]
      refine hret hw1 _ _ ?_
      simp [hev]
  have w1' : decide ((1 : Int) < x.wt.length) = false := by simp; omega
  by_cases w2 : x.k = 2
  · by_cases w3 : x.who.length = 1
    · rw [if_neg (by omega), if_neg (by omega), if_pos w2] at hw
      obtain ⟨e0, hwho⟩ := List.length_eq_one_iff.1 w3
      have w3' : decide ((x.who.length : Int) = 1) = true := by simp; omega
      have k1 : decide (x.k = 1) = false := by simp; omega
      have k2 : decide (x.k = 2) = true := by simp; omega
      simp -implicitDefEqProofs [h0, hs, hn, hii, stgsV, hlt, hlt', hg, hlen, rp, w1', k1, k2, w3']
      refine ⟨by omega, call_go (out := .ret (errV w.1 w.2)) (hw ▸ hsv ▸ ok55 (hob _) hl hok.acts hwho (hok.who e0 (by simp [hwho])) hok.act (by omega)) ?_⟩
      by_cases hw1 : w.1 = 0
      · rw [if_neg (by simpa using hw1)] at hr
        have hev : errV w.1 w.2 = .val .nilIface := by rw [hw1]; rfl
        rw [hev]
        simp -implicitDefEqProofs [h0, hs, hn, hii]
        refine LI.cong ?_ (ih (i + 1) (G ++ [⟨x.c, 45, 0, true⟩]) _ (by omega) hr ?_ ?_ ?_ ?_)
        · simp [StageP.c, exS]
        all_goals simp [h0, hs, hn, rp, stgsV, wrap_suc (show i < 9223372036854775807 by omega)]
      · rw [if_pos hw1] at hr
        subst hr
        have hev := errV_of hw1 w.2
        rw [hev]
        simp -implicitDefEqProofs [h0, hs, hn, hii]
        refine hret hw1 _ _ ?_
        simp [hev]
    · rw [if_pos (.inr ⟨w2, w3⟩)] at hw
      have w3' : decide ((x.who.length : Int) = 1) = false := by simp; omega
      have k1 : decide (x.k = 1) = false := by simp; omega
      have k2 : decide (x.k = 2) = true := by simp; omega
      simp -implicitDefEqProofs [h0, hs, hn, hii, stgsV, hlt, hlt', hg, hlen, rp, w1', k1, k2, w3']
      refine ⟨by omega, call_go (out := .ret (errV w.1 w.2)) (h28 _ hw) ?_⟩
      by_cases hw1 : w.1 = 0
      · rw [if_neg (by simpa using hw1)] at hr
        have hev : errV w.1 w.2 = .val .nilIface := by rw [hw1]; rfl
        rw [hev]
        simp -implicitDefEqProofs [h0, hs, hn, hii]
        refine LI.cong ?_ (ih (i + 1) (G ++ [⟨x.c, 45, 0, true⟩]) _ (by omega) hr ?_ ?_ ?_ ?_)
        · simp [StageP.c, exS]
        all_goals simp [h0, hs, hn, rp, stgsV, wrap_suc (show i < 9223372036854775807 by omega)]
      · rw [if_pos hw1] at hr
        subst hr
        have hev := errV_of hw1 w.2
        rw [hev]
        simp -implicitDefEqProofs [h0, hs, hn, hii]
        refine hret hw1 _ _ ?_
        simp [hev]
  rw [if_neg (by omega)] at hw
  by_cases w3 : x.k = 1
  · rw [if_pos w3] at hw
    have k1 : decide (x.k = 1) = true := by simp; omega
    have k2 : decide (x.k = 2) = false := by simp; omega
    simp -implicitDefEqProofs [h0, hs, hn, hii, stgsV, hlt, hlt', hg, hlen, rp, w1', k1, k2]
    refine ⟨by omega, call_go (out := .ret (errV w.1 w.2)) (hw ▸ hsv ▸ ok54 (hob _) (by omega) hok.seen hok.wt) ?_⟩
    by_cases hw1 : w.1 = 0
    · rw [if_neg (by simpa using hw1)] at hr
      have hev : errV w.1 w.2 = .val .nilIface := by rw [hw1]; rfl
      rw [hev]
      simp -implicitDefEqProofs [h0, hs, hn, hii]
      refine LI.cong ?_ (ih (i + 1) (G ++ [⟨x.c, 45, 0, true⟩]) _ (by omega) hr ?_ ?_ ?_ ?_)
      · simp [StageP.c, exS]
      all_goals simp [h0, hs, hn, rp, stgsV, wrap_suc (show i < 9223372036854775807 by omega)]
    · rw [if_pos hw1] at hr
      subst hr
      have hev := errV_of hw1 w.2
      rw [hev]
      simp -implicitDefEqProofs [h0, hs, hn, hii]
      refine hret hw1 _ _ ?_
      simp [hev]
  rw [if_neg w3, if_neg w2] at hw
  by_cases w4 : x.k = 3
  · rw [if_pos w4] at hw
    have k1 : decide (x.k = 1) = false := by simp; omega
    have k2 : decide (x.k = 2) = false := by simp; omega
    have k3 : decide (x.k = 3) = true := by simp; omega
    simp -implicitDefEqProofs [h0, hs, hn, hii, stgsV, hlt, hlt', hg, hlen, rp, w1', k1, k2, k3]
    refine ⟨by omega, call_go (out := .ret (errV w.1 w.2)) (hw ▸ hsv ▸ ok56 (hob _) hok.lp hok.pays) ?_⟩
    by_cases hw1 : w.1 = 0
    · rw [if_neg (by simpa using hw1)] at hr
      have hev : errV w.1 w.2 = .val .nilIface := by rw [hw1]; rfl
      rw [hev]
      simp -implicitDefEqProofs [h0, hs, hn, hii]
      refine LI.cong ?_ (ih (i + 1) (G ++ [⟨x.c, 45, 0, true⟩]) _ (by omega) hr ?_ ?_ ?_ ?_)
      · simp [StageP.c, exS]
      all_goals simp [h0, hs, hn, rp, stgsV, wrap_suc (show i < 9223372036854775807 by omega)]
    · rw [if_pos hw1] at hr
      subst hr
      have hev := errV_of hw1 w.2
      rw [hev]
      simp -implicitDefEqProofs [h0, hs, hn, hii]
      refine hret hw1 _ _ ?_
      simp [hev]
  · rw [if_neg w4] at hw
    have k1 : decide (x.k = 1) = false := by simp; omega
    have k2 : decide (x.k = 2) = false := by simp; omega
    have k3 : decide (x.k = 3) = false := by simp; omega
    simp -implicitDefEqProofs [h0, hs, hn, hii, stgsV, hlt, hlt', hg, hlen, rp, w1', k1, k2, k3]
    refine ⟨by omega, call_go (out := .ret (errV w.1 w.2)) (h28 _ hw) ?_⟩
    by_cases hw1 : w.1 = 0
    · rw [if_neg (by simpa using hw1)] at hr
      have hev : errV w.1 w.2 = .val .nilIface := by rw [hw1]; rfl
      rw [hev]
      simp -implicitDefEqProofs [h0, hs, hn, hii]
      refine LI.cong ?_ (ih (i + 1) (G ++ [⟨x.c, 45, 0, true⟩]) _ (by omega) hr ?_ ?_ ?_ ?_)
      · simp [StageP.c, exS]
      all_goals simp [h0, hs, hn, rp, stgsV, wrap_suc (show i < 9223372036854775807 by omega)]
    · rw [if_pos hw1] at hr
      subst hr
      have hev := errV_of hw1 w.2
      rw [hev]
      simp -implicitDefEqProofs [h0, hs, hn, hii]
      refine hret hw1 _ _ ?_
      simp [hev]
end
end Go.Proofs.YthmdmnfojbnobaaGreatDoor
namespace Go.Proofs.YthmdmnfojbnobaaGreatDoor
open Go.Ab
def firstF : List (Int × Int) -> Int × Int
 | [] => (0, 0)
 | w :: r => if w.1 ≠ 0 then w else firstF r
def checkF (r : RulesP) : Int × Int := firstF [plF r, varF [] r.vars, labF [] r.stages, lastF r.stages, stagesF (namesOf r) r.pl r.stages 0 r.stages]
section
variable {H : List AO} {r : RulesP} {j : Nat}
theorem ok30 (ho : H[j]? = some (cO r)) (hl : r.stages.length < 4611686018427387904) (hh : ∀ x ∈ r.stages, x.Ok) : Ok Tryz.prog 30 [rp j] H (.ret (errV (stagesF (namesOf r) r.pl r.stages 0 r.stages).1 (stagesF (namesOf r) r.pl r.stages 0 r.stages).2)) H := by
 have hj := getElem?_lt ho
 have e1 := fun L => oc_app ho rfl rfl L
 have e0 : objCells H j 0 = (cO r).cells := objCells_of ho rfl
 simp only [cO, tyO, stgsV] at e1 e0
 generalize hw : stagesF (namesOf r) r.pl r.stages 0 r.stages = w
 refine ok_fn hm Tryz.func30 c30 (by simp [rp]) fun hcl => ?_
 simp -implicitDefEqProofs [i30, r30, rp, e0, e1]
 refine LI.cong (H' := H ++ []) (by simp) ?_
 refine loop30 hl hh ho (res := w) (fun h1 env G h4 => ?_) (fun h1 env G => ?_) r.stages.length 0 [] _ (by omega) hw ?_ ?_ ?_ ?_
 · simp -implicitDefEqProofs [h4]
   refine cv_fz 3 hcl rfl ?_
   simp
 · rw [h1]
   simp -implicitDefEqProofs
   refine cv_fz 3 hcl rfl ?_
   simp [errV_0]
 all_goals simp [rp, stgsV]
def stepsO (fs : List Nat) (j : Nat) : List SV := fs.map fun k => .fn (.func k) [rp j] []
theorem loop25 {fs : List Nat} {ws : List (Int × Int)} {q T : Nat} (hf : fs.length = 5) (hws : ws.length = 5) (hq : H[q]? = some ⟨stepsO fs j, T, 0, true⟩) (hall : ∀ i (h1 : i < fs.length) (h2 : i < ws.length) L, Ok Tryz.prog fs[i] [rp j] (H ++ L) (.ret (errV ws[i].1 ws[i].2)) (H ++ L)) {N : Nat} {K : XE -> Env -> List AO -> Prop} {res : Int × Int}
 (hret : res.1 ≠ 0 -> ∀ env G, env.get 2 = errV res.1 res.2 -> K .ret env (H ++ G)) (hexit : res = (0, 0) -> ∀ env G, K (.exit 0) env (H ++ G)) :
 ∀ (n i : Nat) (G : List AO) (env : Env), i + n = 5 -> firstF (ws.drop i) = res -> env.get 6 = .own q 0 5 1 0 -> env.get 7 = i64 5 -> env.get 8 = i64 i →
  LI Tryz.prog N drawB l25_0 env (H ++ G) K := by
 have hj := getElem?_lt hq
 have e1 := fun L => oc_app hq rfl rfl L
 intro n
 induction n with
 | zero =>
  intro i G env hi hr hs hn hii
  refine li_go hm l25_0.eq_1 ?_
  have e : i = 5 := by omega
  subst e
  rw [List.drop_of_length_le (by omega)] at hr
  simp -implicitDefEqProofs [hs, hn, hii]
  exact hexit hr.symm _ _
 | succ n ih =>
  intro i G env hi hr hs hn hii
  refine li_go hm l25_0.eq_1 ?_
  have hlt : i < fs.length := by omega
  have hlt2 : i < ws.length := by omega
  have hlt5 : i < 5 := by omega
  have hlt' : (i : Int) < 5 := by omega
  rw [List.drop_eq_getElem_cons hlt2, firstF] at hr
  have h := hall i hlt hlt2
  have hc : ∀ h, (stepsO fs j)[i]'h = .fn (.func fs[i]) [rp j] [] := fun h => by simp [stepsO]
  have hsl : (stepsO fs j).length = 5 := by simp [stepsO, hf]
  generalize ws[i] = w at hr h
  generalize fs[i] = k at h hc
  simp -implicitDefEqProofs [hs, hn, hii, hlt', hlt5, e1, hj, hc, hsl]
  refine ⟨by omega, call_of (h _) ?_⟩
  by_cases hw : w.1 = 0
  · rw [if_neg (by simpa using hw)] at hr
    have hev : errV w.1 w.2 = .val .nilIface := by rw [hw]; rfl
    rw [hev]
    simp -implicitDefEqProofs [hs, hn, hii]
    refine ih (i + 1) _ _ (by omega) hr ?_ ?_ ?_
    all_goals simp [hs, hn, wrap_suc (show i < 9223372036854775807 by omega)]
  · rw [if_pos hw] at hr
    subst hr
    have hev := errV_of hw w.2
    rw [hev]
    simp -implicitDefEqProofs [hs, hn, hii]
    refine hret hw _ _ ?_
    simp [hev]
theorem ok25 {fs : List Nat} {ws : List (Int × Int)} {q T : Nat} (hf : fs.length = 5) (hws : ws.length = 5) (hq : H[q]? = some ⟨stepsO fs j, T, 0, true⟩) (hall : ∀ i (h1 : i < fs.length) (h2 : i < ws.length) L, Ok Tryz.prog fs[i] [rp j] (H ++ L) (.ret (errV ws[i].1 ws[i].2)) (H ++ L)) :
 Ok Tryz.prog 25 [.own q 0 5 1 0] H (.ret (errV (firstF ws).1 (firstF ws).2)) H := by
 have hj := getElem?_lt hq
 generalize hw : firstF ws = w
 refine ok_fn hm Tryz.func25 c25 (by simp) fun hcl => ?_
 simp -implicitDefEqProofs [i25, r25]
 refine LI.cong (H' := H ++ []) (by simp) ?_
 refine loop25 hf hws hq hall (res := w) (fun h1 env G h4 => ?_) (fun h1 env G => ?_) 5 0 [] _ (by omega) hw ?_ ?_ ?_
 · simp -implicitDefEqProofs [h4]
   refine cv_fz 3 hcl rfl ?_
   simp
 · rw [h1]
   simp -implicitDefEqProofs
   refine cv_fz 3 hcl rfl ?_
   simp [errV_0]
 all_goals simp
structure RulesP.Ok (r : RulesP) : Prop where
 vars : r.vars.length < 1099511627776
 stages : r.stages.length < 4611686018427387904
 st : ∀ x ∈ r.stages, x.Ok
theorem firstF_0 : ∀ l : List (Int × Int), (firstF l).1 = 0 -> firstF l = (0, 0)
 | [], _ => rfl
 | w :: l, h => by
  rw [firstF] at h ⊢
  by_cases hw : w.1 = 0
  · rw [if_neg (by simpa using hw)] at h ⊢
    exact firstF_0 l h
  · rw [if_pos hw] at h
    exact absurd h hw
theorem ok10 (hr : r.Ok) : Ok Tryz.prog 10 [rulesV r] H (.ret (.agg [i64 (checkF r).1, i64 (checkF r).2])) H := by
 have h14 := fun H => ok13 (H := H) (r := r) hr.vars
 have h13 := fun H => ok24 (H := H) (vs := namesOf r) (by have := hr.vars; simp [namesOf]; omega)
 generalize hw : checkF r = w
 simp only [rulesV, RulesP.c] at h14
 refine ok_fn hm Tryz.func10 c10 (by simp) fun hcl => ?_
 simp -implicitDefEqProofs [i10, r10, rulesV, RulesP.c]
 refine callq_go (fun _ => h14 _) ?_
 simp -implicitDefEqProofs
 refine callq_go (fun _ => h13 _) ?_
 simp -implicitDefEqProofs [typV]
 have hc : ∀ L, Ok Tryz.prog 25 [.own (H.length + 3) 0 5 1 0] (H ++ ⟨r.c, 25, 0, true⟩ :: ⟨[i64 0, i64 0], 32, 0, true⟩ :: cO r :: ⟨stepsO [26, 27, 28, 29, 30] (H.length + 2), 72, 0, true⟩ :: L) (.ret (errV w.1 w.2)) (H ++ ⟨r.c, 25, 0, true⟩ :: ⟨[i64 0, i64 0], 32, 0, true⟩ :: cO r :: ⟨stepsO [26, 27, 28, 29, 30] (H.length + 2), 72, 0, true⟩ :: L) := fun L => by
  rw [← hw]
  refine ok25 (j := H.length + 2) (T := 72) (fs := [26, 27, 28, 29, 30]) rfl rfl (by simp) fun i h1 h2 L2 => ?_
  have ho : ((H ++ ⟨r.c, 25, 0, true⟩ :: ⟨[i64 0, i64 0], 32, 0, true⟩ :: cO r :: ⟨stepsO [26, 27, 28, 29, 30] (H.length + 2), 72, 0, true⟩ :: L) ++ L2)[H.length + 2]? = some (cO r) := by
   rw [List.append_assoc, List.getElem?_append_right (by omega), show H.length + 2 - H.length = 2 by omega]; rfl
  have hst := hr.stages
  rcases i with _ | _ | _ | _ | _ | i
  · exact ok26 ho
  · exact ok27 ho (by have := hr.vars; omega)
  · exact ok28 ho hr.stages
  · exact ok29 ho hr.stages
  · exact ok30 ho hr.stages hr.st
  · exact absurd h1 (by simp)
 refine ⟨⟨rfl, rfl, rfl⟩, call_go (hc []) ?_⟩
 by_cases h0 : w.1 = 0
 · have hev : errV w.1 w.2 = .val .nilIface := by rw [h0]; rfl
   rw [hev]
   simp -implicitDefEqProofs
   have hw0 : w = (0, 0) := by subst hw; exact firstF_0 _ h0
   rw [hw0]
   refine cv_fz 4 hcl rfl ?_
   simp
 · have hev := errV_of h0 w.2
   have h22 := fun L => ok31 (H := L) h0 w.2
   rw [hev] at h22
   rw [hev]
   simp -implicitDefEqProofs
   refine call_go (h22 _) ?_
   simp -implicitDefEqProofs [fltV]
   refine cv_fz 4 hcl rfl ?_
   simp
end
end Go.Proofs.YthmdmnfojbnobaaGreatDoor
namespace Go.Proofs.YthmdmnfojbnobaaGreatDoor
open Go.Ab
def xS : List (List UInt8) := [[120]]
def okA (a : ActP) : Bool := decide (a.sets.length < 1099511627776) && (a.wh.all (fun e => decide (e.hgt ≤ 100000)) && a.sets.all (fun s => decide (s.e.hgt ≤ 100000)))
def okS (x : StageP) : Bool := x.wt.all (fun e => decide (e.hgt ≤ 100000)) && (decide (x.seen.length < 4611686018427387904) && (x.who.all (fun e => decide (e.hgt ≤ 100000)) && (decide (x.acts.length < 4611686018427387904) && (x.acts.all okA && (decide (x.pays.length < 4611686018427387904) && x.pays.all (fun e => decide (e.hgt ≤ 100000)))))))
def okR (r : RulesP) : Bool := decide (r.vars.length < 1099511627776) && (decide (r.stages.length < 4611686018427387904) && r.stages.all okS)
theorem okA_ok {a : ActP} (h : okA a = true) : a.Ok := by
 simp only [okA, Bool.and_eq_true, decide_eq_true_eq, List.all_eq_true] at h
 exact ⟨h.1, h.2.1, h.2.2⟩
theorem okS_ok {x : StageP} (h : okS x = true) : x.Ok := by
 simp only [okS, Bool.and_eq_true, decide_eq_true_eq, List.all_eq_true] at h
 obtain ⟨h1, h2, h3, h4, h5, h6, h7⟩ := h
 exact ⟨h1, h2, h3, h4, fun a ha => okA_ok (h5 a ha), h6, h7⟩
theorem okR_ok {r : RulesP} (h : okR r = true) : r.Ok := by
 simp only [okR, Bool.and_eq_true, decide_eq_true_eq, List.all_eq_true] at h
 exact ⟨h.1, h.2.1, fun x hx => okS_ok (h.2.2 x hx)⟩
section
variable {H : List AO} {l : List UInt8}
theorem ok50 (hl : l.length < 4611686018427387904) : Ok Tryz.prog 50 [st (B l)] H (.ret (exprR l).1.v) H := by
 have h := fun H => ok81 (H := H) hl
 generalize exprR l = q at h ⊢
 obtain ⟨⟨op, n, nm, es, p⟩, e, at_⟩ := q
 simp only [Ex.v, Ex.c] at h
 refine ok_fn hm Tryz.func50 c50 (by simp) fun hcl => ?_
 simp -implicitDefEqProofs [i50, r50, Ex.v, Ex.c]
 refine call_go (h _) ?_
 simp -implicitDefEqProofs [fltV]
 refine cv_fz 4 hcl rfl ?_
 simp
theorem ok16 (hl : l.length < 4611686018427387904) : Ok Tryz.prog 16 [st (B l)] H (.ret (rulesV (parseR l).1)) H := by
 have h := fun H => ok36 (H := H) hl
 generalize parseR l = q at h ⊢
 obtain ⟨⟨nm, pl, vs, ss⟩, e, at_⟩ := q
 simp only [rulesV, RulesP.c] at h
 refine ok_fn hm Tryz.func16 c16 (by simp) fun hcl => ?_
 simp -implicitDefEqProofs [i16, r16, rulesV, RulesP.c]
 refine call_go (h _) ?_
 simp -implicitDefEqProofs [fltV]
 refine cv_fz 4 hcl rfl ?_
 simp
theorem ok21 (hl : l.length < 4611686018427387904) {k e p : Int} (hh : decide ((exprR l).1.hgt ≤ 100000) = true) (ht : tyE xS (exprR l).1 = (k, e, p)) : Ok Tryz.prog 21 [st (B l), i64 k, i64 e, i64 p] H (.ret (bl true)) H := by
 have h := fun H => ok50 (H := H) hl
 have h10 := fun H x (hx : IsS H x xS) => ok49x (H := H) (vs := xS) hx (of_decide_eq_true hh) (by decide)
 rw [ht] at h10
 refine ok_fn hm Tryz.func21 c21 (by simp) fun hcl => ?_
 simp -implicitDefEqProofs [i21, r21]
 refine call_go (h _) ?_
 simp -implicitDefEqProofs
 refine call_go (h10 _ _ (IsS.own1 (T := 9) (k := 0) rfl rfl)) ?_
 simp -implicitDefEqProofs [fltV]
 refine cv_fz 4 hcl rfl ?_
 simp
end
end Go.Proofs.YthmdmnfojbnobaaGreatDoor
namespace Go.Proofs.YthmdmnfojbnobaaGreatDoor
open Go.Ab
section
variable {H : List AO}
theorem ex0 : Ok Tryz.prog 21 [st ⟨#[49, 32, 43, 32, 120]⟩, i64 1, i64 0, i64 0] H (.ret (bl true)) H := ok21 (l := [49, 32, 43, 32, 120]) (by decide) (by kernel_rfl) (by kernel_rfl)
theorem ex1 : Ok Tryz.prog 21 [st ⟨#[120, 32, 60, 32, 50, 32, 97, 110, 100, 32, 110, 111, 116, 32, 120, 32, 61, 61, 32, 49]⟩, i64 2, i64 0, i64 0] H (.ret (bl true)) H := ok21 (l := [120, 32, 60, 32, 50, 32, 97, 110, 100, 32, 110, 111, 116, 32, 120, 32, 61, 61, 32, 49]) (by decide) (by kernel_rfl) (by kernel_rfl)
theorem ex2 : Ok Tryz.prog 21 [st ⟨#[105, 102, 40, 120, 32, 60, 32, 49, 44, 32, 50, 44, 32, 120, 41]⟩, i64 1, i64 0, i64 0] H (.ret (bl true)) H := ok21 (l := [105, 102, 40, 120, 32, 60, 32, 49, 44, 32, 50, 44, 32, 120, 41]) (by decide) (by kernel_rfl) (by kernel_rfl)
theorem ex3 : Ok Tryz.prog 21 [st ⟨#[121]⟩, i64 0, i64 7, i64 0] H (.ret (bl true)) H := ok21 (l := [121]) (by decide) (by kernel_rfl) (by kernel_rfl)
theorem ex4 : Ok Tryz.prog 21 [st ⟨#[49, 32, 43, 32, 40, 120, 32, 60, 32, 50, 41]⟩, i64 0, i64 10, i64 7] H (.ret (bl true)) H := ok21 (l := [49, 32, 43, 32, 40, 120, 32, 60, 32, 50, 41]) (by decide) (by kernel_rfl) (by kernel_rfl)
theorem ex5 : Ok Tryz.prog 21 [st ⟨#[105, 102, 40, 49, 44, 32, 50, 44, 32, 51, 41]⟩, i64 0, i64 10, i64 3] H (.ret (bl true)) H := ok21 (l := [105, 102, 40, 49, 44, 32, 50, 44, 32, 51, 41]) (by decide) (by kernel_rfl) (by kernel_rfl)
theorem ex6 : Ok Tryz.prog 21 [st ⟨#[105, 102, 40, 120, 32, 60, 32, 49, 44, 32, 50, 44, 32, 120, 32, 60, 32, 51, 41]⟩, i64 0, i64 10, i64 15] H (.ret (bl true)) H := ok21 (l := [105, 102, 40, 120, 32, 60, 32, 49, 44, 32, 50, 44, 32, 120, 32, 60, 32, 51, 41]) (by decide) (by kernel_rfl) (by kernel_rfl)
def rt0 : List UInt8 := [103, 97, 109, 101, 32, 103, 59, 32, 112, 108, 97, 121, 101, 114, 115, 32, 53, 59, 32, 101, 110, 100, 32, 123, 32, 112, 97, 121, 32, 49, 59, 32, 125]
def rr0 : RulesP := (parseR rt0).1
theorem ra0 : Ok Tryz.prog 16 [st ⟨#[103, 97, 109, 101, 32, 103, 59, 32, 112, 108, 97, 121, 101, 114, 115, 32, 53, 59, 32, 101, 110, 100, 32, 123, 32, 112, 97, 121, 32, 49, 59, 32, 125]⟩] H (.ret (rulesV rr0)) H := ok16 (l := rt0) (by decide)
theorem rc0 : checkF rr0 = (2, 0) := by kernel_rfl
theorem rb0 : Ok Tryz.prog 10 [rulesV rr0] H (.ret (.agg [i64 2, i64 0])) H := by
 have := ok10 (H := H) (r := rr0) (okR_ok (by kernel_rfl))
 rwa [rc0] at this
def rt1 : List UInt8 := [103, 97, 109, 101, 32, 103, 59, 32, 112, 108, 97, 121, 101, 114, 115, 32, 50, 59, 32, 101, 110, 100, 32, 123, 32, 112, 97, 121, 32, 49, 44, 32, 50, 59, 32, 125]
def rr1 : RulesP := (parseR rt1).1
theorem ra1 : Ok Tryz.prog 16 [st ⟨#[103, 97, 109, 101, 32, 103, 59, 32, 112, 108, 97, 121, 101, 114, 115, 32, 50, 59, 32, 101, 110, 100, 32, 123, 32, 112, 97, 121, 32, 49, 44, 32, 50, 59, 32, 125]⟩] H (.ret (rulesV rr1)) H := ok16 (l := rt1) (by decide)
theorem rc1 : checkF rr1 = (0, 0) := by kernel_rfl
theorem rb1 : Ok Tryz.prog 10 [rulesV rr1] H (.ret (.agg [i64 0, i64 0])) H := by
 have := ok10 (H := H) (r := rr1) (okR_ok (by kernel_rfl))
 rwa [rc1] at this
def rt2 : List UInt8 := [103, 97, 109, 101, 32, 103, 59, 32, 112, 108, 97, 121, 101, 114, 115, 32, 50, 59, 32, 101, 110, 100, 32, 123, 32, 112, 97, 121, 32, 49, 59, 32, 125]
def rr2 : RulesP := (parseR rt2).1
theorem ra2 : Ok Tryz.prog 16 [st ⟨#[103, 97, 109, 101, 32, 103, 59, 32, 112, 108, 97, 121, 101, 114, 115, 32, 50, 59, 32, 101, 110, 100, 32, 123, 32, 112, 97, 121, 32, 49, 59, 32, 125]⟩] H (.ret (rulesV rr2)) H := ok16 (l := rt2) (by decide)
theorem rc2 : checkF rr2 = (3, 19) := by kernel_rfl
theorem rb2 : Ok Tryz.prog 10 [rulesV rr2] H (.ret (.agg [i64 3, i64 19])) H := by
 have := ok10 (H := H) (r := rr2) (okR_ok (by kernel_rfl))
 rwa [rc2] at this
def rt3 : List UInt8 := [103, 97, 109, 101, 32, 103, 59, 32, 112, 108, 97, 121, 101, 114, 115, 32, 50, 59, 32, 101, 110, 100, 32, 123, 32, 112, 97, 121, 32, 49, 44, 32, 49, 32, 60, 32, 50, 59, 32, 125]
def rr3 : RulesP := (parseR rt3).1
theorem ra3 : Ok Tryz.prog 16 [st ⟨#[103, 97, 109, 101, 32, 103, 59, 32, 112, 108, 97, 121, 101, 114, 115, 32, 50, 59, 32, 101, 110, 100, 32, 123, 32, 112, 97, 121, 32, 49, 44, 32, 49, 32, 60, 32, 50, 59, 32, 125]⟩] H (.ret (rulesV rr3)) H := ok16 (l := rt3) (by decide)
theorem rc3 : checkF rr3 = (10, 34) := by kernel_rfl
theorem rb3 : Ok Tryz.prog 10 [rulesV rr3] H (.ret (.agg [i64 10, i64 34])) H := by
 have := ok10 (H := H) (r := rr3) (okR_ok (by kernel_rfl))
 rwa [rc3] at this
def rt4 : List UInt8 := [103, 97, 109, 101, 32, 103, 59, 32, 112, 108, 97, 121, 101, 114, 115, 32, 49, 59, 32, 97, 58, 32, 116, 117, 114, 110, 32, 48, 32, 123, 32, 97, 99, 116, 105, 111, 110, 32, 108, 32, 123, 32, 125, 32, 103, 111, 116, 111, 32, 97, 59, 32, 125, 32, 101, 110, 100, 32, 123, 32, 112, 97, 121, 32, 48, 59, 32, 125]
def rr4 : RulesP := (parseR rt4).1
theorem ra4 : Ok Tryz.prog 16 [st ⟨#[103, 97, 109, 101, 32, 103, 59, 32, 112, 108, 97, 121, 101, 114, 115, 32, 49, 59, 32, 97, 58, 32, 116, 117, 114, 110, 32, 48, 32, 123, 32, 97, 99, 116, 105, 111, 110, 32, 108, 32, 123, 32, 125, 32, 103, 111, 116, 111, 32, 97, 59, 32, 125, 32, 101, 110, 100, 32, 123, 32, 112, 97, 121, 32, 48, 59, 32, 125]⟩] H (.ret (rulesV rr4)) H := ok16 (l := rt4) (by decide)
theorem rc4 : checkF rr4 = (9, 31) := by kernel_rfl
theorem rb4 : Ok Tryz.prog 10 [rulesV rr4] H (.ret (.agg [i64 9, i64 31])) H := by
 have := ok10 (H := H) (r := rr4) (okR_ok (by kernel_rfl))
 rwa [rc4] at this
def rt5 : List UInt8 := [103, 97, 109, 101, 32, 103, 59, 32, 112, 108, 97, 121, 101, 114, 115, 32, 49, 59, 32, 116, 117, 114, 110, 32, 48, 32, 123, 32, 97, 99, 116, 105, 111, 110, 32, 108, 32, 123, 32, 125, 32, 97, 99, 116, 105, 111, 110, 32, 108, 32, 123, 32, 125, 32, 125, 32, 101, 110, 100, 32, 123, 32, 112, 97, 121, 32, 48, 59, 32, 125]
def rr5 : RulesP := (parseR rt5).1
theorem ra5 : Ok Tryz.prog 16 [st ⟨#[103, 97, 109, 101, 32, 103, 59, 32, 112, 108, 97, 121, 101, 114, 115, 32, 49, 59, 32, 116, 117, 114, 110, 32, 48, 32, 123, 32, 97, 99, 116, 105, 111, 110, 32, 108, 32, 123, 32, 125, 32, 97, 99, 116, 105, 111, 110, 32, 108, 32, 123, 32, 125, 32, 125, 32, 101, 110, 100, 32, 123, 32, 112, 97, 121, 32, 48, 59, 32, 125]⟩] H (.ret (rulesV rr5)) H := ok16 (l := rt5) (by decide)
theorem rc5 : checkF rr5 = (8, 41) := by kernel_rfl
theorem rb5 : Ok Tryz.prog 10 [rulesV rr5] H (.ret (.agg [i64 8, i64 41])) H := by
 have := ok10 (H := H) (r := rr5) (okR_ok (by kernel_rfl))
 rwa [rc5] at this
def rt6 : List UInt8 := [103, 97, 109, 101, 32, 103, 59, 32, 112, 108, 97, 121, 101, 114, 115, 32, 49, 59, 32, 116, 117, 114, 110, 32, 48, 32, 123, 32, 97, 99, 116, 105, 111, 110, 32, 108, 32, 123, 32, 125, 32, 125]
def rr6 : RulesP := (parseR rt6).1
theorem ra6 : Ok Tryz.prog 16 [st ⟨#[103, 97, 109, 101, 32, 103, 59, 32, 112, 108, 97, 121, 101, 114, 115, 32, 49, 59, 32, 116, 117, 114, 110, 32, 48, 32, 123, 32, 97, 99, 116, 105, 111, 110, 32, 108, 32, 123, 32, 125, 32, 125]⟩] H (.ret (rulesV rr6)) H := ok16 (l := rt6) (by decide)
theorem rc6 : checkF rr6 = (3, 19) := by kernel_rfl
theorem rb6 : Ok Tryz.prog 10 [rulesV rr6] H (.ret (.agg [i64 3, i64 19])) H := by
 have := ok10 (H := H) (r := rr6) (okR_ok (by kernel_rfl))
 rwa [rc6] at this
def rt7 : List UInt8 := [103, 97, 109, 101, 32, 103, 59, 32, 112, 108, 97, 121, 101, 114, 115, 32, 49, 59, 32, 118, 97, 114, 32, 120, 32, 61, 32, 48, 59, 32, 100, 101, 97, 108, 32, 120, 32, 105, 110, 32, 48, 32, 46, 46, 32, 53, 57, 59, 32, 101, 110, 100, 32, 123, 32, 112, 97, 121, 32, 48, 59, 32, 125]
def rr7 : RulesP := (parseR rt7).1
theorem ra7 : Ok Tryz.prog 16 [st ⟨#[103, 97, 109, 101, 32, 103, 59, 32, 112, 108, 97, 121, 101, 114, 115, 32, 49, 59, 32, 118, 97, 114, 32, 120, 32, 61, 32, 48, 59, 32, 100, 101, 97, 108, 32, 120, 32, 105, 110, 32, 48, 32, 46, 46, 32, 53, 57, 59, 32, 101, 110, 100, 32, 123, 32, 112, 97, 121, 32, 48, 59, 32, 125]⟩] H (.ret (rulesV rr7)) H := ok16 (l := rt7) (by decide)
theorem rc7 : checkF rr7 = (0, 0) := by kernel_rfl
theorem rb7 : Ok Tryz.prog 10 [rulesV rr7] H (.ret (.agg [i64 0, i64 0])) H := by
 have := ok10 (H := H) (r := rr7) (okR_ok (by kernel_rfl))
 rwa [rc7] at this
def rt8 : List UInt8 := [103, 97, 109, 101, 32, 103, 59, 32, 112, 108, 97, 121, 101, 114, 115, 32, 49, 59, 32, 118, 97, 114, 32, 120, 32, 61, 32, 48, 59, 32, 100, 101, 97, 108, 32, 120, 32, 105, 110, 32, 48, 32, 46, 46, 32, 54, 48, 59, 32, 101, 110, 100, 32, 123, 32, 112, 97, 121, 32, 48, 59, 32, 125]
def rr8 : RulesP := (parseR rt8).1
theorem ra8 : Ok Tryz.prog 16 [st ⟨#[103, 97, 109, 101, 32, 103, 59, 32, 112, 108, 97, 121, 101, 114, 115, 32, 49, 59, 32, 118, 97, 114, 32, 120, 32, 61, 32, 48, 59, 32, 100, 101, 97, 108, 32, 120, 32, 105, 110, 32, 48, 32, 46, 46, 32, 54, 48, 59, 32, 101, 110, 100, 32, 123, 32, 112, 97, 121, 32, 48, 59, 32, 125]⟩] H (.ret (rulesV rr8)) H := ok16 (l := rt8) (by decide)
theorem rc8 : checkF rr8 = (2, 30) := by kernel_rfl
theorem rb8 : Ok Tryz.prog 10 [rulesV rr8] H (.ret (.agg [i64 2, i64 30])) H := by
 have := ok10 (H := H) (r := rr8) (okR_ok (by kernel_rfl))
 rwa [rc8] at this
def rt9 : List UInt8 := [103, 97, 109, 101, 32, 103, 59, 32, 112, 108, 97, 121, 101, 114, 115, 32, 52, 59, 32, 101, 110, 100, 32, 123, 32, 112, 97, 121, 32, 48, 44, 32, 48, 44, 32, 48, 44, 32, 48, 59, 32, 125]
def rr9 : RulesP := (parseR rt9).1
theorem ra9 : Ok Tryz.prog 16 [st ⟨#[103, 97, 109, 101, 32, 103, 59, 32, 112, 108, 97, 121, 101, 114, 115, 32, 52, 59, 32, 101, 110, 100, 32, 123, 32, 112, 97, 121, 32, 48, 44, 32, 48, 44, 32, 48, 44, 32, 48, 59, 32, 125]⟩] H (.ret (rulesV rr9)) H := ok16 (l := rt9) (by decide)
theorem rc9 : checkF rr9 = (0, 0) := by kernel_rfl
theorem rb9 : Ok Tryz.prog 10 [rulesV rr9] H (.ret (.agg [i64 0, i64 0])) H := by
 have := ok10 (H := H) (r := rr9) (okR_ok (by kernel_rfl))
 rwa [rc9] at this
theorem ok7 : Ok Tryz.prog 7 [] H (.ret (bl true)) H := by
 refine ok_fn hm Tryz.func7 c7 (by simp) fun hcl => ?_
 simp -implicitDefEqProofs [i7, r7]
 refine call_go ex0 ?_
 simp -implicitDefEqProofs
 refine callq_go (fun _ => ex1) ?_
 simp -implicitDefEqProofs
 refine callq_go (fun _ => ra0) ?_
 simp -implicitDefEqProofs
 refine callq_st (fun _ => rb0) ?_
 simp -implicitDefEqProofs
 exact cv_id
theorem ok15 : Ok Tryz.prog 15 [] H (.ret (bl true)) H := by
 refine ok_fn hm Tryz.func15 c15 (by simp) fun hcl => ?_
 simp -implicitDefEqProofs [i15, r15]
 refine call_go ex2 ?_
 simp -implicitDefEqProofs
 refine callq_go (fun _ => ex3) ?_
 simp -implicitDefEqProofs
 refine callq_go (fun _ => ex4) ?_
 simp -implicitDefEqProofs
 refine callq_go (fun _ => ex5) ?_
 simp -implicitDefEqProofs
 refine callq_go (fun _ => ex6) ?_
 simp -implicitDefEqProofs
 refine call_go (ra1) ?_
 simp -implicitDefEqProofs
 refine call_go (rb1) ?_
 simp -implicitDefEqProofs
 refine callq_go (fun _ => ra2) ?_
 simp -implicitDefEqProofs
 refine callq_st (fun _ => rb2) ?_
 simp -implicitDefEqProofs
 refine callq_go (fun _ => ra3) ?_
 simp -implicitDefEqProofs
 refine callq_st (fun _ => rb3) ?_
 simp -implicitDefEqProofs
 refine call_go (ra4) ?_
 simp -implicitDefEqProofs
 refine call_go (rb4) ?_
 simp -implicitDefEqProofs
 refine callq_go (fun _ => ra5) ?_
 simp -implicitDefEqProofs
 refine callq_st (fun _ => rb5) ?_
 simp -implicitDefEqProofs
 refine callq_go (fun _ => ra6) ?_
 simp -implicitDefEqProofs
 refine callq_st (fun _ => rb6) ?_
 simp -implicitDefEqProofs
 refine call_go (ra7) ?_
 simp -implicitDefEqProofs
 refine call_go (rb7) ?_
 simp -implicitDefEqProofs
 refine callq_go (fun _ => ra8) ?_
 simp -implicitDefEqProofs
 refine callq_st (fun _ => rb8) ?_
 simp -implicitDefEqProofs
 refine callq_go (fun _ => ra9) ?_
 simp -implicitDefEqProofs
 refine callq_st (fun _ => rb9) ?_
 simp -implicitDefEqProofs
 refine call_go ok7 ?_
 simp -implicitDefEqProofs
 exact cv_id
end
end Go.Proofs.YthmdmnfojbnobaaGreatDoor
namespace Go.Proofs.YthmdmnfojbnobaaGreatDoor
open Go.Ab Go.ChangeShapes Go.WideShapes Go.ChangeAt Go.RowKit
def laid3 : List (String × DataW Unit) := [("errors.errorType", Rows.laid_errors_errorType)]
theorem own : ownKnob Tryz.prog.godebug = none := by kernel_rfl
theorem laidOut : laidOutB Tryz.prog = true := by kernel_rfl
theorem gE : Tryz.prog.globalNamed "errors.errorType" = some 0 := by kernel_rfl
theorem rtE : (Tryz.prog.cutTypes.find? (·.1 == "internal/reflectlite.rtype")).map (·.2) = some 161 := by kernel_rfl
theorem size : Tryz.prog.types.size = 208 := by kernel_rfl
theorem oneRow : ((List.range 208).filter fun t => Tryz.prog.rowNamed t [101, 114, 114, 111, 114]) = [70] := by kernel_rfl
theorem door_met (os : Os) (args : Array Value) : laidMetH Tryz.prog laid3 ((World.doorLaid Tryz.prog 400 os).forCall (fun _ _ => 0) ⟨#[], args, []⟩).memory :=
 laidMetH_of_parts3 (fuel := 8) (laidMet_of_run' 8 (by kernel_rfl) (by kernel_rfl)) (by kernel_rfl) (by kernel_rfl)
theorem gl_of {W : World} (h : laidMetH Tryz.prog laid3 W) : (st0 W).GL := by
 have h' : laidMet Tryz.prog [] W ∧ handlesMet Tryz.prog [("errors.errorType", Rows.laid_errors_errorType)] W := h
 obtain ⟨_, hh⟩ := h'
 obtain ⟨name, u, ty, e1, e2, e3, e4, e5⟩ := hh _ (List.mem_singleton.2 rfl)
 have en : name = [101, 114, 114, 111, 114] := (Option.some.inj e1).symm
 subst en
 obtain rfl := Option.some.inj (rtE.symm.trans e2)
 have hm : ty ∈ (List.range 208).filter fun t => Tryz.prog.rowNamed t [101, 114, 114, 111, 114] := List.mem_filter.2 ⟨List.mem_range.2 (by rw [← size]; exact e3), e4⟩
 rw [oneRow] at hm
 obtain rfl := List.mem_singleton.1 hm
 have hh : typeHandle Tryz.prog 70 = .pointer (some ⟨1, 70, none⟩) := by kernel_rfl
 rw [hh] at e5
 have key : ∀ (g : Nat) (nm : String) (cs : Array Value) (us : List Value), Tryz.prog.globalNamed nm = some g -> W.var? Tryz.prog nm = some cs -> cs.toList = us -> (st0 W).Imm ⟨g, 0, none⟩ us := by
  intro g nm cs us h1 h2 h3
  refine ⟨fun j u hj => ?_, fun _ => rw0 W _⟩
  have := World.var?_cell h1 h2 j
  have e : ((⟨g, 0, none⟩ : Addr).add j) = ⟨g, j, none⟩ := by unfold Addr.add; split <;> simp_all
  rw [e]
  show W.cell? _ = _
  rw [this, <- Array.getElem?_toList, h3]; exact hj
 intro g us hg
 match g, hg with
 | 0, hg => cases hg; exact key 0 _ _ _ gE e5 rfl
end Go.Proofs.YthmdmnfojbnobaaGreatDoor
namespace Go.Proofs.YthmdmnfojbnobaaGreatDoor
open Go.Ab
section
variable {H : List AO}
theorem stg_0 {l : List StageP} {i : Nat} (h : i < l.length) : (rws StageP.c l)[i * 12]? = some (i64 l[i].k) := by
 have := rws_get (t := 0) StageP.c_len h (by omega); rw [Nat.add_zero] at this; rw [this]; rfl
theorem stg_9 {l : List StageP} {i : Nat} (h : i < l.length) : (rws StageP.c l)[i * 12 + 9]? = some (.slc (rws ActP.c l[i].acts) l[i].acts.length) := by rw [rws_get StageP.c_len h (by omega)]; rfl
def opN (op : Int) : Int := if op = 1 ∨ op = 2 then 0 else if op = 3 ∨ op = 4 then 1 else if op = 20 then 3 else if 5 ≤ op ∧ op ≤ 19 then 2 else -1
theorem ok111 (op : Int) : Ok Tryz.prog 111 [i64 op] H (.ret (i64 (opN op))) H := by
 refine ok_fn hm Tryz.func111 c111 (by simp) fun hcl => ?_
 generalize hw : opN op = w
 unfold opN at hw
 by_cases h1 : op = 1
 · subst h1; simp at hw; subst hw
   simp -implicitDefEqProofs [i111, r111]; exact cv_id
 by_cases h2 : op = 2
 · subst h2; simp at hw; subst hw
   simp -implicitDefEqProofs [i111, r111]; exact cv_id
 by_cases h3 : op = 3
 · subst h3; simp at hw; subst hw
   simp -implicitDefEqProofs [i111, r111]; exact cv_id
 by_cases h4 : op = 4
 · subst h4; simp at hw; subst hw
   simp -implicitDefEqProofs [i111, r111]; exact cv_id
 by_cases h5 : op = 20
 · subst h5; simp at hw; subst hw
   simp -implicitDefEqProofs [i111, r111]; exact cv_id
 rw [if_neg (by omega), if_neg (by omega), if_neg h5] at hw
 by_cases h6 : 5 ≤ op
 · by_cases h7 : op ≤ 19
   · rw [if_pos ⟨h6, h7⟩] at hw; subst hw
     simp -implicitDefEqProofs [i111, r111, h1, h2, h3, h4, h5, h6, h7]; exact cv_id
   · rw [if_neg (by omega)] at hw; subst hw
     simp -implicitDefEqProofs [i111, r111, h1, h2, h3, h4, h5, h6, h7]; exact cv_id
 · rw [if_neg (by omega)] at hw; subst hw
   simp -implicitDefEqProofs [i111, r111, h1, h2, h3, h4, h5, h6]; exact cv_id
end
end Go.Proofs.YthmdmnfojbnobaaGreatDoor
namespace Go.Proofs.YthmdmnfojbnobaaGreatDoor
open Go.Ab
end Go.Proofs.YthmdmnfojbnobaaGreatDoor
namespace Go.Proofs.YthmdmnfojbnobaaGreatDoor
open Go.Ab
end Go.Proofs.YthmdmnfojbnobaaGreatDoor
namespace Go.Proofs.YthmdmnfojbnobaaGreatDoor
open Go.Ab
theorem set_0 {l : List SetP} {i : Nat} (h : i < l.length) : (rws SetP.c l)[i * 7]? = some (st (B l[i].nm)) := by
 have := rws_get (t := 0) SetP.len h (by omega); rw [Nat.add_zero] at this; rw [this]; rfl
theorem set_e {l : List SetP} {i : Nat} (h : i < l.length) : ((rws SetP.c l).drop (i * 7 + 1)).take 5 = l[i].e.c := by
 have h7 := rws_c SetP.len h
 have : ((rws SetP.c l).drop (i * 7 + 1)).take 5 = ((((rws SetP.c l).drop (i * 7)).take 7).drop 1).take 5 := by
  rw [List.drop_take, List.drop_drop, List.take_take]
  congr 1
 rw [this, h7]
 cases l[i] with
 | mk nm e p => cases e; rfl
end Go.Proofs.YthmdmnfojbnobaaGreatDoor
namespace Go.Proofs.YthmdmnfojbnobaaGreatDoor
open Go.Ab
end Go.Proofs.YthmdmnfojbnobaaGreatDoor
namespace Go.Proofs.YthmdmnfojbnobaaGreatDoor
open Go.Ab
end Go.Proofs.YthmdmnfojbnobaaGreatDoor
namespace Go.Proofs.YthmdmnfojbnobaaGreatDoor
open Go.Ab
end Go.Proofs.YthmdmnfojbnobaaGreatDoor
namespace Go.Proofs.YthmdmnfojbnobaaGreatDoor
open Go.Ab
theorem var_0 {l : List VarP} {i : Nat} (h : i < l.length) (h') : (rws VarP.c l)[i * 3]'(h') = st (B l[i].nm) := by
 have := rws_get (t := 0) VarP.c_len h (by omega); rw [Nat.add_zero] at this
 exact Option.some.inj ((List.getElem?_eq_getElem h').symm.trans this)
theorem var_1 {l : List VarP} {i : Nat} (h : i < l.length) : (rws VarP.c l)[i * 3 + 1]? = some (i64 l[i].n) := by rw [rws_get VarP.c_len h (by omega)]; rfl
abbrev rO (r : RulesP) : AO := ⟨r.c, 25, 0, true⟩
end Go.Proofs.YthmdmnfojbnobaaGreatDoor
namespace Go.Proofs.YthmdmnfojbnobaaGreatDoor
open Go.Ab
end Go.Proofs.YthmdmnfojbnobaaGreatDoor
namespace Go.Proofs.YthmdmnfojbnobaaGreatDoor
open Go.Ab
def goT (l : List StageP) (i : Int) (s : List UInt8) : Int × Int := if s = [] then (IntKind.i64.wrap (i + 1), 0) else if 0 ≤ findF l s then (findF l s, 0) else (0, 7)
def actT (l : List StageP) (i act : Int) (x : StageP) : Int × Int := if x.k ≠ 2 ∨ act < 0 then (0, 2) else match x.acts[act.toNat]? with
 | none => (0, 2)
 | some a => goT l i a.go
def tgtF (l : List StageP) (i act : Int) : Int × Int := if i < 0 then (0, 2) else match l[i.toNat]? with
 | none => (0, 2)
 | some x => actT l i act x
theorem act_4 {l : List ActP} {i : Nat} (h : i < l.length) : (rws ActP.c l)[i * 6 + 4]? = some (st (B l[i].go)) := by rw [rws_get ActP.c_len h (by omega)]; rfl
section
variable {H : List AO} {r : RulesP}
set_option maxRecDepth 100000 in
theorem ok8 (hl : r.stages.length < 4611686018427387904) (ha : ∀ x ∈ r.stages, x.acts.length < 4611686018427387904) (i act : Int) : Ok Tryz.prog 8 [rulesV r, i64 i, i64 act] H (.ret (.tup [i64 (tgtF r.stages i act).1, i64 (tgtF r.stages i act).2])) H := by
 refine ok_fn hm Tryz.func8 c8 (by simp) fun hcl => ?_
 generalize hw : tgtF r.stages i act = w
 unfold tgtF at hw
 by_cases h0 : i < 0
 · rw [if_pos h0] at hw
   subst hw
   simp -implicitDefEqProofs [i8, r8, rulesV, RulesP.c, h0]
   refine cv_fz 4 hcl rfl ?_
   simp
 rw [if_neg h0] at hw
 obtain ⟨n, rfl⟩ := Int.eq_ofNat_of_zero_le (by omega : 0 ≤ i)
 rw [Int.toNat_natCast] at hw
 by_cases h1 : n < r.stages.length
 · rw [List.getElem?_eq_getElem h1] at hw
   simp only at hw
   unfold actT at hw
   have h1' : (n : Int) < r.stages.length := by omega
   have h1b : ¬ (r.stages.length : Int) ≤ n := by omega
   have hax := ha _ (List.getElem_mem h1)
   have g0 : ∀ h, (rws StageP.c r.stages)[n * 12]'(h) = i64 r.stages[n].k := fun h => Option.some.inj ((List.getElem?_eq_getElem h).symm.trans (stg_0 h1))
   have g0' := stg_0 h1
   have g9 := stg_9 h1
   have hg := rws_c StageP.c_len h1
   have hlen := rws_len StageP.c_len r.stages
   have hmin : min 12 (r.stages.length * 12 - n * 12) = 12 := by omega
   generalize r.stages[n] = x at hw g0 g0' g9 hax hg
   by_cases hk : x.k = 2
   · by_cases hn : act < 0
     · rw [if_pos (.inr hn)] at hw
       subst hw
       simp -implicitDefEqProofs [i8, r8, rulesV, RulesP.c, h0, h1, h1', h1b, g0, g0', g9, hlen, hk, hn, hg, hmin, StageP.c, exS]
       refine ⟨by omega, by omega, cv_fz 4 hcl rfl ?_⟩
       simp
     rw [if_neg (by omega)] at hw
     obtain ⟨m, rfl⟩ := Int.eq_ofNat_of_zero_le (by omega : 0 ≤ act)
     rw [Int.toNat_natCast] at hw
     by_cases h2 : m < x.acts.length
     · rw [List.getElem?_eq_getElem h2] at hw
       simp only at hw
       unfold goT at hw
       have h2' : (m : Int) < x.acts.length := by omega
       have h2b : ¬ (x.acts.length : Int) ≤ m := by omega
       have g4 := act_4 h2
       have hlen2 := rws_len ActP.c_len x.acts
       generalize x.acts[m] = a at hw g4
       by_cases hgo : a.go = []
       · rw [if_pos hgo] at hw
         subst hw
         rw [hgo] at g4
         generalize hws : IntKind.i64.wrap ((n : Int) + 1) = ws
         simp -implicitDefEqProofs [hws, i8, r8, rulesV, RulesP.c, h0, h1, h1', h1b, g0, g0', g9, hlen, hk, hn, h2, h2', h2b, g4, hlen2, hg, hmin, StageP.c, exS]
         refine ⟨by omega, by omega, by omega, cv_fz 4 hcl rfl ?_⟩
         simp
       · rw [if_neg hgo] at hw
         simp -implicitDefEqProofs [i8, r8, rulesV, RulesP.c, h0, h1, h1', h1b, g0, g0', g9, hlen, hk, hn, h2, h2', h2b, g4, hlen2, hgo, hg, hmin, StageP.c, exS]
         refine ⟨by omega, by omega, by omega, call_of (a := [stgsV r.stages]) (b := []) (ok22 hl a.go) ?_⟩
         generalize findF r.stages a.go = t at hw
         by_cases ht : 0 ≤ t
         · rw [if_pos ht] at hw
           subst hw
           have ht' : ¬ t < 0 := by omega
           simp -implicitDefEqProofs [ht, ht']
           refine cv_fz 4 hcl rfl ?_
           simp
         · rw [if_neg ht] at hw
           subst hw
           have ht' : t < 0 := by omega
           simp -implicitDefEqProofs [ht, ht']
           refine cv_fz 4 hcl rfl ?_
           simp
     · rw [List.getElem?_eq_none (by omega)] at hw
       simp only at hw
       subst hw
       have h2' : ¬ (m : Int) < x.acts.length := by omega
       have h2b : (x.acts.length : Int) ≤ m := by omega
       simp -implicitDefEqProofs [i8, r8, rulesV, RulesP.c, h0, h1, h1', h1b, g0, g0', g9, hlen, hk, hn, h2, h2', h2b, hg, hmin, StageP.c, exS]
       refine ⟨by omega, by omega, cv_fz 4 hcl rfl ?_⟩
       simp
   · rw [if_pos (.inl hk)] at hw
     subst hw
     simp -implicitDefEqProofs [i8, r8, rulesV, RulesP.c, h0, h1, h1', h1b, g0, g0', hlen, hk, hg, hmin, StageP.c, exS]
     refine ⟨by omega, cv_fz 4 hcl rfl ?_⟩
     simp
 · rw [List.getElem?_eq_none (by omega)] at hw
   simp only at hw
   subst hw
   have h1' : ¬ (n : Int) < r.stages.length := by omega
   have h1b : (r.stages.length : Int) ≤ n := by omega
   simp -implicitDefEqProofs [i8, r8, rulesV, RulesP.c, h0, h1, h1', h1b]
   refine cv_fz 4 hcl rfl ?_
   simp
end
end Go.Proofs.YthmdmnfojbnobaaGreatDoor
namespace Go.Proofs.YthmdmnfojbnobaaGreatDoor
open Go.Ab
section
variable {H : List AO} {r : RulesP}
theorem loop12 {x y : SV} {l l' : List (List UInt8)} (hx : IsS H x l) (hy : IsS H y l') (hl : l.length < 4611686018427387904) (he : l.length = l'.length) {N : Nat} {K : XE -> Env -> List AO -> Prop}
 (hret : l ≠ l' -> ∀ env, env.get 4 = bl false -> K .ret env H) (hexit : l = l' -> ∀ env, K (.exit 0) env H) :
 ∀ (m i : Nat) (env : Env), i + m = l.length -> (l = l' ↔ l.drop i = l'.drop i) -> env.get 0 = x -> env.get 1 = y -> env.get 5 = i64 i -> LI Tryz.prog N drawB l12_0 env H K := by
 intro m
 induction m with
 | zero =>
  intro i env hi hq h0 h1 h5
  refine li_go hm l12_0.eq_1 ?_
  have e : i = l.length := by omega
  subst e
  rw [List.drop_length, List.drop_of_length_le (by omega)] at hq
  simp -implicitDefEqProofs [h0, h1, h5, hx.vd, hx.ug, hx.sl, hx.len, hy.vd, hy.ug, hy.sl, hy.len]
  exact hexit (hq.2 rfl) _
 | succ m ih =>
  intro i env hi hq h0 h1 h5
  refine li_go hm l12_0.eq_1 ?_
  have hlt : i < l.length := by omega
  have hlt' : (i : Int) < l.length := by omega
  have hlt2 : i < l'.length := by omega
  have hlt2' : (i : Int) < l'.length := by omega
  rw [List.drop_eq_getElem_cons hlt, List.drop_eq_getElem_cons hlt2] at hq
  have hv := hx.vA [] hlt
  have ho := hx.okA [] hlt
  have hv2 := hy.vA [] hlt2
  have ho2 := hy.okA [] hlt2
  simp only [List.append_nil] at hv ho hv2 ho2
  generalize l[i] = v at hq hv
  generalize l'[i] = u at hq hv2
  by_cases hs : v = u
  · subst hs
    simp -implicitDefEqProofs [h0, h1, h5, hlt, hlt', hlt2, hlt2', hx.vd, hx.ug, hx.sl, hx.cell, hx.sz, hx.len, hv, ho, hy.vd, hy.ug, hy.sl, hy.cell, hy.sz, hy.len, hv2, ho2]
    refine ih (i + 1) _ (by omega) ?_ ?_ ?_ ?_
    · rw [hq]; simp
    all_goals simp [h0, h1, wrap_suc (show i < 9223372036854775807 by omega)]
  · have hne : l ≠ l' := fun h => hs (by have := hq.1 h; simpa using (List.cons.inj this).1)
    simp -implicitDefEqProofs [h0, h1, h5, hlt, hlt', hlt2, hlt2', hx.vd, hx.ug, hx.sl, hx.cell, hx.sz, hx.len, hv, ho, hy.vd, hy.ug, hy.sl, hy.cell, hy.sz, hy.len, hv2, ho2, hs]
    exact hret hne _ (by simp)
theorem ok12 {x y : SV} {l l' : List (List UInt8)} (hx : IsS H x l) (hy : IsS H y l') (hl : l.length < 4611686018427387904) (hl2 : l'.length < 4611686018427387904) : Ok Tryz.prog 12 [x, y] H (.ret (bl (decide (l = l')))) H := by
 refine ok_fn hm Tryz.func12 c12 (by simp [hx.vd, hy.vd]) fun hcl => ?_
 by_cases he : l.length = l'.length
 · simp -implicitDefEqProofs [i12, r12, hx.vd, hx.ug, hx.sl, hx.len, hy.vd, hy.ug, hy.sl, hy.len, he]
   refine loop12 hx hy hl he (fun hs env h4 => ?_) (fun hs env => ?_) l.length 0 _ (by omega) (by simp) ?_ ?_ ?_
   · simp -implicitDefEqProofs [h4, hs]
     exact cv_id
   · simp -implicitDefEqProofs [hs]
     exact cv_id
   all_goals simp
 · have he' : ¬ (l.length : Int) = l'.length := by omega
   have hne : l ≠ l' := fun h => he (by rw [h])
   simp -implicitDefEqProofs [i12, r12, hx.vd, hx.ug, hx.sl, hx.len, hy.vd, hy.ug, hy.sl, hy.len, he', hne]
   exact cv_id
end
end Go.Proofs.YthmdmnfojbnobaaGreatDoor
namespace Go.Proofs.YthmdmnfojbnobaaGreatDoor
open Go.Ab
mutual
def sizE : Ex -> Int -> Int
 | .mk _ _ _ l _, m => sizL l m 1
def sizL : List Ex -> Int -> Int -> Int
 | [], _, n => n
 | e :: r, m, n => if n ≤ m then sizL r m (n + sizE e (m - n)) else n
end
mutual
theorem sizE_bd : ∀ (e : Ex) (m : Int), 1 ≤ sizE e m ∧ (sizE e m ≤ m + 1 ∨ sizE e m = 1)
 | .mk _ _ _ l _, m => by
  unfold sizE
  have := sizL_bd l m 1
  omega
theorem sizL_bd : ∀ (l : List Ex) (m n : Int), n ≤ sizL l m n ∧ (sizL l m n ≤ m + 1 ∨ sizL l m n = n)
 | [], m, n => by simp [sizL]
 | e :: r, m, n => by
  unfold sizL
  by_cases h : n ≤ m
  · rw [if_pos h]
    have h1 := sizE_bd e (m - n)
    have h2 := sizL_bd r m (n + sizE e (m - n))
    omega
  · rw [if_neg h]; omega
end
section
variable {H : List AO}
theorem loop20 {l : List Ex} {m : Int} (hm1 : m ≤ 1000000000) (hl : l.length < 4611686018427387904) (hIH : ∀ e ∈ l, ∀ (H : List AO) (m' : Int), 0 ≤ m' -> m' ≤ 1000000000 -> Ok Tryz.prog 20 [e.v, i64 m'] H (.ret (i64 (sizE e m'))) H) {A : AO} (hA : A.live = true ∧ A.ver = 0 ∧ ∃ a b c d, A.cells = [a, b, c, exS l, d]) {N : Nat} {K : XE -> Env -> List AO -> Prop} {res : Int}
 (hexit : ∀ env G, env.get 5 = i64 res -> K (.exit 0) env (H ++ A :: G)) :
 ∀ (k i : Nat) (n : Int) (G : List AO) (env : Env), i + k = l.length -> 1 ≤ n -> n ≤ 1000000001 -> sizL (l.drop i) m n = res -> env.get 1 = i64 m -> env.get 2 = rp H.length -> env.get 5 = i64 n -> env.get 6 = i64 i →
  LI Tryz.prog N drawB l20_0 env (H ++ A :: G) K := by
 obtain ⟨hA1, hA2, a, b, c, d, hA3⟩ := hA
 obtain ⟨cs, T, ver, lv⟩ := A
 simp only at hA1 hA2 hA3
 subst hA1 hA2 hA3
 intro k
 induction k with
 | zero =>
  intro i n G env hi hn1 hn2 hr h1 h2 h5 h6
  refine li_go hm l20_0.eq_1 ?_
  have e : i = l.length := by omega
  subst e
  rw [List.drop_length] at hr
  have hr : n = res := hr
  subst hr
  simp -implicitDefEqProofs [h1, h2, h5, h6, rp, exS]
  exact hexit _ _ (by simp [h5])
 | succ k ih =>
  intro i n G env hi hn1 hn2 hr h1 h2 h5 h6
  refine li_go hm l20_0.eq_1 ?_
  have hlt : i < l.length := by omega
  have hlt' : (i : Int) < l.length := by omega
  rw [List.drop_eq_getElem_cons hlt, sizL] at hr
  have hg := exL_get hlt
  have hlen := exL_len l
  have h9 := hIH l[i] (List.getElem_mem hlt)
  have hbd := sizE_bd l[i]
  generalize l[i] = e at hr hg h9 hbd
  by_cases hnm : n ≤ m
  · rw [if_pos hnm] at hr
    have w1 : IntKind.i64.wrap (m - n) = m - n := wrap_id (by omega) (by omega)
    have hb := hbd (m - n)
    simp -implicitDefEqProofs [h1, h2, h5, h6, rp, exS, hlt, hlt', hnm, hg, hlen, w1]
    refine ⟨by omega, call_go (h9 _ (m - n) (by omega) (by omega)) ?_⟩
    generalize sizE e (m - n) = z at hr hb
    have w2 : IntKind.i64.wrap (n + z) = n + z := wrap_id (by omega) (by omega)
    simp -implicitDefEqProofs [h1, h2, h5, h6, rp, exS, w2]
    refine ih (i + 1) (n + z) G _ (by omega) (by omega) (by omega) hr ?_ ?_ ?_ ?_
    all_goals simp [h1, h2, h5, h6, rp, exS, wrap_suc (show i < 9223372036854775807 by omega)]
  · rw [if_neg hnm] at hr
    subst hr
    simp -implicitDefEqProofs [h1, h2, h5, h6, rp, exS, hlt, hlt', hnm]
    exact hexit _ _ (by simp [h5])
mutual
def Ex.lim : Ex -> Prop
 | .mk _ _ _ l _ => l.length < 4611686018427387904 ∧ Ex.limL l
def Ex.limL : List Ex -> Prop
 | [] => True
 | e :: r => e.lim ∧ Ex.limL r
end
mutual
theorem ok20 : ∀ (e : Ex), e.lim -> ∀ (H : List AO) (m : Int), 0 ≤ m -> m ≤ 1000000000 -> Ok Tryz.prog 20 [e.v, i64 m] H (.ret (i64 (sizE e m))) H
 | .mk op n nm l p, he, H, m, h0, h1 => by
  have hIH := ok9L l (by unfold Ex.lim at he; exact he.2)
  have hl : l.length < 4611686018427387904 := by unfold Ex.lim at he; exact he.1
  refine ok_fn hm Tryz.func20 c20 (by simp) fun hcl => ?_
  simp -implicitDefEqProofs [i20, r20, Ex.v, Ex.c]
  refine LI.cong (H' := H ++ ⟨[i64 op, i64 n, st (B nm), exS l, i64 p], 53, 0, true⟩ :: []) (by simp [exS]) ?_
  refine loop20 h1 hl hIH ⟨rfl, rfl, _, _, _, _, rfl⟩ (res := sizL l m 1) (fun env G h5 => ?_) l.length 0 1 [] _ (by omega) (by omega) (by omega) rfl ?_ ?_ ?_ ?_
  · simp -implicitDefEqProofs [h5]
    refine cv_fz 2 hcl rfl ?_
    simp [sizE]
  all_goals simp [rp]
theorem ok9L : ∀ (l : List Ex), Ex.limL l -> ∀ e ∈ l, ∀ (H : List AO) (m : Int), 0 ≤ m -> m ≤ 1000000000 -> Ok Tryz.prog 20 [e.v, i64 m] H (.ret (i64 (sizE e m))) H
 | [], _, _, h => by cases h
 | e :: r, hl, x, hx => by
  unfold Ex.limL at hl
  by_cases hh : x = e
  · rw [hh]; exact ok20 e hl.1
  · exact ok9L r hl.2 x (by simpa [hh] using hx)
end
end
end Go.Proofs.YthmdmnfojbnobaaGreatDoor
namespace Go.Proofs.YthmdmnfojbnobaaGreatDoor
open Go.Ab
mutual
theorem hgtE : ∀ (e : Ex) (m : Int), m ≤ 1000 -> sizE e m ≤ m -> (e.hgt : Int) ≤ m
 | .mk op n nm l p, m, h1, h2 => by
  unfold sizE at h2
  unfold Ex.hgt
  have := hgtLs l m 1 (by omega) h1 h2
  omega
theorem hgtLs : ∀ (l : List Ex) (m n : Int), 1 ≤ n -> m ≤ 1000 -> sizL l m n ≤ m -> (Ex.hgtL l : Int) + n ≤ m
 | [], m, n, _, _, h => by
  unfold sizL at h; unfold Ex.hgtL; simpa using h
 | e :: r, m, n, h0, h1, h => by
  unfold sizL at h
  by_cases hn : n ≤ m
  · rw [if_pos hn] at h
    have b1 := sizE_bd e (m - n)
    have b2 := sizL_bd r m (n + sizE e (m - n))
    have a2 := hgtE e (m - n) (by omega) (by omega)
    have c3 := hgtLs r m (n + sizE e (m - n)) (by omega) h1 h
    unfold Ex.hgtL
    omega
  · rw [if_neg hn] at h; omega
end
def actE (a : ActP) : List Ex := a.wh ++ a.sets.map (·.e)
def stgE (x : StageP) (n : Int) : List Ex := if n ≤ 200 then x.wt ++ x.who ++ x.pays ++ x.acts.flatMap actE else x.wt ++ x.who ++ x.pays
def sizS (x : StageP) (n : Int) : Int := sizL (stgE x (n + x.seen.length + x.acts.length)) 200 (n + x.seen.length + x.acts.length)
def sizT : List StageP -> Int -> Int
 | [], n => n
 | x :: r, n => if n ≤ 200 then sizT r (sizS x n) else n
def sizR (r : RulesP) : Int := sizT r.stages (r.vars.length + r.stages.length)
structure ActP.Bd (a : ActP) : Prop where
 wh : a.wh.length ≤ 1048576
 sets : a.sets.length ≤ 1048576
 lim : ∀ e ∈ actE a, e.lim
structure StageP.Bd (x : StageP) : Prop where
 wt : x.wt.length ≤ 1048576
 who : x.who.length ≤ 1048576
 pays : x.pays.length ≤ 1048576
 seen : x.seen.length ≤ 1048576
 acts : x.acts.length ≤ 1048576
 lim : ∀ e ∈ x.wt ++ x.who ++ x.pays, e.lim
 act : ∀ a ∈ x.acts, a.Bd
structure RulesP.Bd (r : RulesP) : Prop where
 vars : r.vars.length ≤ 1048576
 stages : r.stages.length ≤ 1048576
 st : ∀ x ∈ r.stages, x.Bd
theorem cL_app : ∀ a b : List Ex, Ex.cL (a ++ b) = Ex.cL a ++ Ex.cL b
 | [], b => by simp [Ex.cL]
 | e :: a, b => by simp [Ex.cL, cL_app a b]
theorem cL_ok : ∀ l : List Ex, cellsOk (Ex.cL l)
 | [], s, h => by simp [Ex.cL] at h
 | e :: l, s, h => by
  rw [Ex.cL, List.mem_append] at h
  rcases h with h | h
  · exact e.ok s h
  · exact cL_ok l s h
@[simp] theorem cL_okT (l : List Ex) : cellsOk (Ex.cL l) = True := eq_true (cL_ok l)
@[simp] theorem cL_take (l : List Ex) : (Ex.cL l).take (l.length * 5) = Ex.cL l := List.take_of_length_le (by rw [exL_len]; exact Nat.le_refl _)
def lO (l : List Ex) (v : Nat) : AO := ⟨Ex.cL l, 53, v, true⟩
end Go.Proofs.YthmdmnfojbnobaaGreatDoor
namespace Go.Proofs.YthmdmnfojbnobaaGreatDoor
open Go.Ab
theorem act_1 {l : List ActP} {i : Nat} (h : i < l.length) : (rws ActP.c l)[i * 6 + 1]? = some (.slc (Ex.cL l[i].wh) l[i].wh.length) := by rw [rws_get ActP.c_len h (by omega)]; rfl
theorem act_3 {l : List ActP} {i : Nat} (h : i < l.length) : (rws ActP.c l)[i * 6 + 3]? = some (.slc (rws SetP.c l[i].sets) l[i].sets.length) := by rw [rws_get ActP.c_len h (by omega)]; rfl
section
variable {A : List AO}
theorem loop6_2 {x : StageP} {i : Nat} (hi : i < x.acts.length) (hs : (x.acts[i]).sets.length ≤ 1048576) {x1 x2 x5 x6 : SV} {l0 : List Ex} {v0 : Nat} (h0 : l0.length ≤ 1000000000) {N : Nat} {K : XE -> Env -> List AO -> Prop}
 (hexit : ∀ env G, env.get 1 = x1 -> env.get 2 = x2 -> env.get 5 = x5 -> env.get 6 = x6 -> env.get 7 = rp A.length -> env.get 8 = .own (A.length + 1) 0 (l0 ++ x.acts[i].sets.map (·.e)).length 5 (v0 + x.acts[i].sets.length) -> env.get 9 = i64 i -> K (.exit 4) env (A ++ ⟨x.c, 45, 0, true⟩ :: lO (l0 ++ x.acts[i].sets.map (·.e)) (v0 + x.acts[i].sets.length) :: G)) :
 ∀ (m j : Nat) (G : List AO) (env : Env), j + m = x.acts[i].sets.length -> env.get 1 = x1 -> env.get 2 = x2 -> env.get 5 = x5 -> env.get 6 = x6 -> env.get 7 = rp A.length -> env.get 8 = .own (A.length + 1) 0 (l0.length + j) 5 (v0 + j) -> env.get 9 = i64 i -> env.get 10 = i64 j →
  LI Tryz.prog N drawB l6_2 env (A ++ ⟨x.c, 45, 0, true⟩ :: lO (l0 ++ (x.acts[i].sets.take j).map (·.e)) (v0 + j) :: G) K := by
 have hi' : (i : Int) < x.acts.length := by omega
 have a3 := act_3 hi
 have alen := rws_len ActP.c_len x.acts
 generalize x.acts[i] = a at hs hexit a3 ⊢
 intro m
 induction m with
 | zero =>
  intro j G env hj h1 h2 h5 h6 h7 h8 h9 h10
  refine li_go hm l6_2.eq_1 ?_
  have e : j = a.sets.length := by omega
  subst e
  rw [List.take_of_length_le (Nat.le_refl _)]
  simp -implicitDefEqProofs [h1, h2, h5, h6, h7, h8, h9, h10, rp, hi, hi', a3, alen, StageP.c, exS]
  refine ⟨by omega, hexit _ _ ?_ ?_ ?_ ?_ ?_ ?_ ?_⟩ <;> simp [h1, h2, h5, h6, h7, h8, h9, rp]
 | succ m ih =>
  intro j G env hj h1 h2 h5 h6 h7 h8 h9 h10
  refine li_go hm l6_2.eq_1 ?_
  have hlt : j < a.sets.length := by omega
  have hlt' : (j : Int) < a.sets.length := by omega
  have ge := set_e hlt
  have slen := rws_len SetP.len a.sets
  have htk : (a.sets.take (j + 1)).map (·.e) = (a.sets.take j).map (·.e) ++ [a.sets[j].e] := by
   rw [List.take_succ_eq_append_getElem hlt, List.map_append]; rfl
  have hll : ((a.sets.take j).map (·.e)).length = j := by simp; omega
  generalize (a.sets.take j).map (·.e) = l at htk hll ⊢
  generalize a.sets[j] = s at ge htk
  have hcl : (Ex.cL (l0 ++ l)).length = (l0.length + j) * 5 := by rw [exL_len]; simp [hll]
  simp -implicitDefEqProofs [h1, h2, h5, h6, h7, h8, h9, h10, rp, hi, hi', a3, alen, StageP.c, exS, hlt, hlt', ge, slen, lO, hll, hcl]
  repeat (refine ⟨by omega, ?_⟩)
  refine LI.cong ?_ (ih (j + 1) (G ++ [⟨s.e.c, 53, 0, true⟩]) _ (by omega) ?_ ?_ ?_ ?_ ?_ ?_ ?_ ?_)
  · rw [htk]; simp [lO, StageP.c, exS, cL_app, hll, Ex.cL, Nat.add_assoc]
  all_goals simp [h1, h2, h5, h6, h7, h9, rp, wrap_suc (show j < 9223372036854775807 by omega), Nat.add_assoc]
theorem loop6_1 {x : StageP} (hx : x.acts.length ≤ 1048576) (hb : ∀ a ∈ x.acts, a.Bd) {x2 x6 : SV} {n : Int} (hn : n ≤ 200) {l0 : List Ex} (h0 : l0.length ≤ 4000000) (ha2 : (x.acts.length : Int) ≤ 200) {N : Nat} {K : XE -> Env -> List AO -> Prop}
 (hexit : ∀ v env G, env.get 1 = i64 200 -> env.get 2 = x2 -> env.get 5 = i64 n -> env.get 6 = x6 -> env.get 8 = .own (A.length + 1) 0 (l0 ++ x.acts.flatMap actE).length 5 v -> K (.exit 2) env (A ++ ⟨x.c, 45, 0, true⟩ :: lO (l0 ++ x.acts.flatMap actE) v :: G)) :
 ∀ (m i v : Nat) (G : List AO) (env : Env), i + m = x.acts.length -> (l0 ++ (x.acts.take i).flatMap actE).length ≤ 4000000 + i * 2097152 -> env.get 1 = i64 200 -> env.get 2 = x2 -> env.get 5 = i64 n -> env.get 6 = x6 -> env.get 7 = rp A.length -> env.get 8 = .own (A.length + 1) 0 (l0 ++ (x.acts.take i).flatMap actE).length 5 v -> env.get 9 = i64 i →
  LI Tryz.prog N drawB l6_1 env (A ++ ⟨x.c, 45, 0, true⟩ :: lO (l0 ++ (x.acts.take i).flatMap actE) v :: G) K := by
 intro m
 induction m with
 | zero =>
  intro i v G env hi hq h1 h2 h5 h6 h7 h8 h9
  refine li_go hm l6_1.eq_1 ?_
  have e : i = x.acts.length := by omega
  subst e
  rw [List.take_of_length_le (Nat.le_refl _)] at h8 ⊢
  simp -implicitDefEqProofs [h1, h2, h5, h6, h7, h8, h9, rp, StageP.c, exS]
  refine hexit _ _ _ ?_ ?_ ?_ ?_ ?_ <;> simp [h1, h2, h5, h6, h8]
 | succ m ih =>
  intro i v G env hi hq h1 h2 h5 h6 h7 h8 h9
  refine li_go hm l6_1.eq_1 ?_
  have hlt : i < x.acts.length := by omega
  have hlt' : (i : Int) < x.acts.length := by omega
  have a1 := act_1 hlt
  have alen := rws_len ActP.c_len x.acts
  have hbd := hb _ (List.getElem_mem hlt)
  have htk : (x.acts.take (i + 1)).flatMap actE = (x.acts.take i).flatMap actE ++ actE x.acts[i] := by
   rw [List.take_succ_eq_append_getElem hlt, List.flatMap_append]; simp
  have ih := ih (i + 1)
  have hl62 := fun (l : List Ex) v h K => loop6_2 (A := A) (v0 := v) (x1 := i64 200) (x2 := x2) (x5 := i64 n) (x6 := x6) (l0 := l) (N := N) (K := K) hlt hbd.sets h
  rw [htk] at ih
  rw [← List.append_assoc] at ih
  generalize l0 ++ (x.acts.take i).flatMap actE = l at hq h8 ih ⊢
  have hwh := hbd.wh
  have hst := hbd.sets
  have hae : actE x.acts[i] = x.acts[i].wh ++ x.acts[i].sets.map (·.e) := rfl
  rw [hae, <- List.append_assoc] at ih
  have hcl := exL_len l
  have hcw := exL_len x.acts[i].wh
  have hlw : (l ++ x.acts[i].wh).length = l.length + x.acts[i].wh.length := List.length_append
  simp -implicitDefEqProofs [h1, h2, h5, h6, h7, h8, h9, rp, hlt, hlt', a1, alen, StageP.c, exS, lO, hn, hcl, hcw]
  repeat (refine ⟨by omega, ?_⟩)
  refine LI.cong ?_ (hl62 (l ++ x.acts[i].wh) (v + 1) (by omega) _ (fun env G h1 h2 h5 h6 h7 h8 h9 => ?_) x.acts[i].sets.length 0 G _ (by omega) ?_ ?_ ?_ ?_ ?_ ?_ ?_ ?_)
  · simp [lO, StageP.c, exS, cL_app]
  · simp -implicitDefEqProofs [h1, h2, h5, h6, h7, h8, h9, rp]
    refine LI.cong ?_ (ih (v + 1 + x.acts[i].sets.length) G _ (by omega) ?_ ?_ ?_ ?_ ?_ ?_ ?_ ?_)
    · simp
    · simp; omega
    all_goals simp [h1, h2, h5, h6, h7, h8, rp, wrap_suc (show i < 9223372036854775807 by omega), Nat.add_assoc]
  all_goals simp [h1, h2, h5, h6, h7, rp, h9, hlw]
theorem loop6_1x {x : StageP} {x2 x6 : SV} {n : Int} (hn : ¬ n ≤ 200) {l : List Ex} {v : Nat} {N : Nat} {K : XE -> Env -> List AO -> Prop} {G : List AO} {env : Env}
 (hexit : ∀ env, env.get 1 = i64 200 -> env.get 2 = x2 -> env.get 5 = i64 n -> env.get 6 = x6 -> env.get 8 = .own (A.length + 1) 0 l.length 5 v -> K (.exit 2) env (A ++ ⟨x.c, 45, 0, true⟩ :: lO l v :: G))
 (h1 : env.get 1 = i64 200) (h2 : env.get 2 = x2) (h5 : env.get 5 = i64 n) (h6 : env.get 6 = x6) (h7 : env.get 7 = rp A.length) (h8 : env.get 8 = .own (A.length + 1) 0 l.length 5 v) (h9 : env.get 9 = i64 0) :
  LI Tryz.prog N drawB l6_1 env (A ++ ⟨x.c, 45, 0, true⟩ :: lO l v :: G) K := by
 refine li_go hm l6_1.eq_1 ?_
 by_cases h0 : (0 : Int) < x.acts.length
 · have h0' : 0 < x.acts.length := by omega
   simp -implicitDefEqProofs [h1, h2, h5, h6, h7, h8, h9, rp, StageP.c, exS, hn, h0, h0']
   refine hexit _ ?_ ?_ ?_ ?_ ?_ <;> simp [h1, h2, h5, h6, h8]
 · have h0' : x.acts.length = 0 := by omega
   simp -implicitDefEqProofs [h1, h2, h5, h6, h7, h8, h9, rp, StageP.c, exS, hn, h0]
   refine hexit _ ?_ ?_ ?_ ?_ ?_ <;> simp [h1, h2, h5, h6, h8]
theorem loop6_3 {x2 x6 : SV} {l : List Ex} {v : Nat} (hl : l.length ≤ 1000000000) (hlim : ∀ e ∈ l, e.lim) {B : AO} {N : Nat} {K : XE -> Env -> List AO -> Prop} {res : Int}
 (hexit : ∀ env G, env.get 1 = i64 200 -> env.get 2 = x2 -> env.get 5 = i64 res -> env.get 6 = x6 -> K (.exit 6) env (A ++ B :: lO l v :: G)) :
 ∀ (m i : Nat) (n : Int) (G : List AO) (env : Env), i + m = l.length -> 0 ≤ n -> n ≤ 10000000 -> sizL (l.drop i) 200 n = res -> env.get 1 = i64 200 -> env.get 2 = x2 -> env.get 5 = i64 n -> env.get 6 = x6 -> env.get 8 = .own (A.length + 1) 0 l.length 5 v -> env.get 11 = i64 i →
  LI Tryz.prog N drawB l6_3 env (A ++ B :: lO l v :: G) K := by
 intro m
 induction m with
 | zero =>
  intro i n G env hi hn0 hn hr h1 h2 h5 h6 h8 h11
  refine li_go hm l6_3.eq_1 ?_
  have e : i = l.length := by omega
  subst e
  rw [List.drop_length] at hr
  have hr : n = res := hr
  subst hr
  simp -implicitDefEqProofs [h1, h2, h5, h6, h8, h11, lO]
  refine hexit _ _ ?_ ?_ ?_ ?_ <;> simp [h1, h2, h5, h6]
 | succ m ih =>
  intro i n G env hi hn0 hn hr h1 h2 h5 h6 h8 h11
  refine li_go hm l6_3.eq_1 ?_
  have hlt : i < l.length := by omega
  have hlt' : (i : Int) < l.length := by omega
  rw [List.drop_eq_getElem_cons hlt, sizL] at hr
  have hg := exL_get hlt
  have hlen := exL_len l
  have h20 := ok20 l[i] (hlim _ (List.getElem_mem hlt))
  have hbd := sizE_bd l[i]
  generalize l[i] = e at hr hg h20 hbd
  by_cases hnm : n ≤ 200
  · rw [if_pos hnm] at hr
    have w1 : IntKind.i64.wrap (200 - n) = 200 - n := wrap_id (by omega) (by omega)
    have hb := hbd (200 - n)
    simp -implicitDefEqProofs [h1, h2, h5, h6, h8, h11, hlt, hlt', hnm, hg, hlen, w1, lO]
    refine ⟨by omega, call_go (h20 _ (200 - n) (by omega) (by omega)) ?_⟩
    generalize sizE e (200 - n) = z at hr hb
    have w2 : IntKind.i64.wrap (n + z) = n + z := wrap_id (by omega) (by omega)
    simp -implicitDefEqProofs [h1, h2, h5, h6, h8, h11, w2, lO]
    refine LI.cong ?_ (ih (i + 1) (n + z) G _ (by omega) (by omega) (by omega) hr ?_ ?_ ?_ ?_ ?_ ?_)
    · simp [lO]
    all_goals simp [h1, h2, h5, h6, h8, wrap_suc (show i < 9223372036854775807 by omega), w2]
  · rw [if_neg hnm] at hr
    subst hr
    simp -implicitDefEqProofs [h1, h2, h5, h6, h8, h11, hlt, hlt', hnm, lO]
    refine hexit _ _ ?_ ?_ ?_ ?_ <;> simp [h1, h2, h5, h6]
end
end Go.Proofs.YthmdmnfojbnobaaGreatDoor
namespace Go.Proofs.YthmdmnfojbnobaaGreatDoor
open Go.Ab
section
variable {H : List AO}
set_option maxRecDepth 100000 in
theorem loop6_0 {r : RulesP} (hr : r.Bd) {N : Nat} {K : XE -> Env -> List AO -> Prop} {res : Int}
 (hexit : ∀ env G, env.get 5 = i64 res -> K (.exit 0) env (H ++ rO r :: G)) :
 ∀ (m i : Nat) (n : Int) (G : List AO) (env : Env), i + m = r.stages.length -> 0 ≤ n -> n ≤ 8000000 -> sizT (r.stages.drop i) n = res -> env.get 1 = i64 200 -> env.get 2 = rp H.length -> env.get 5 = i64 n -> env.get 6 = i64 i →
  LI Tryz.prog N drawB l6_0 env (H ++ rO r :: G) K := by
 have b0 := hr.stages
 intro m
 induction m with
 | zero =>
  intro i n G env hi hn0 hn hq h1 h2 h5 h6
  refine li_go hm l6_0.eq_1 ?_
  have e : i = r.stages.length := by omega
  subst e
  rw [List.drop_length] at hq
  have hq : n = res := hq
  subst hq
  simp -implicitDefEqProofs [h1, h2, h5, h6, rp, RulesP.c]
  exact hexit _ _ (by simp [h5])
 | succ m ih =>
  intro i n G env hi hn0 hn hq h1 h2 h5 h6
  refine li_go hm l6_0.eq_1 ?_
  have hlt : i < r.stages.length := by omega
  have hlt' : (i : Int) < r.stages.length := by omega
  rw [List.drop_eq_getElem_cons hlt, sizT] at hq
  by_cases hnm : n ≤ 200
  · rw [if_pos hnm] at hq
    have hg := rws_c StageP.c_len hlt
    have hlen := rws_len StageP.c_len r.stages
    have hmin : min 12 (r.stages.length * 12 - i * 12) = 12 := by omega
    have hxb := hr.st _ (List.getElem_mem hlt)
    generalize r.stages[i] = x at hq hg hxb
    obtain ⟨b1, b2, b3, b4, b5, b6, b7⟩ := hxb
    have w1 : IntKind.i64.wrap (n + x.seen.length) = n + x.seen.length := wrap_id (by omega) (by omega)
    have w2 : IntKind.i64.wrap (n + x.seen.length + x.acts.length) = n + x.seen.length + x.acts.length := wrap_id (by omega) (by omega)
    unfold sizS at hq
    have hcw := exL_len x.wt
    have hco := exL_len x.who
    have hcp := exL_len x.pays
    simp -implicitDefEqProofs [h1, h2, h5, h6, rp, hlt, hlt', hnm, hg, hlen, hmin, RulesP.c, StageP.c, exS, w1, w2, hcw, hco, hcp]
    refine ⟨by omega, by omega, by omega, by omega, by omega, by omega, by omega, by omega, ?_⟩
    have hAl : (H ++ rO r :: G).length = H.length + (G.length + 1) := by simp
    have fin : ∀ (l : List Ex) (v : Nat) (n2 : Int) (env : Env) (G2 : List AO), sizL l 200 (n + x.seen.length + x.acts.length) = n2 -> sizT (r.stages.drop (i + 1)) n2 = res -> env.get 1 = i64 200 -> env.get 2 = rp H.length -> env.get 5 = i64 n2 -> env.get 6 = i64 ((i + 1 : Nat) : Int) →
     LI Tryz.prog N drawB l6_0 env ((H ++ rO r :: G) ++ ⟨x.c, 45, 0, true⟩ :: lO l v :: G2) K := by
     intro l v n2 env G2 hl hq2 g1 g2 g5 g6
     have hbd := sizL_bd l 200 (n + x.seen.length + x.acts.length)
     refine LI.cong ?_ (ih (i + 1) n2 (G ++ ⟨x.c, 45, 0, true⟩ :: lO l v :: G2) _ (by omega) (by omega) (by omega) hq2 g1 g2 g5 g6)
     simp
    by_cases hn2 : n + x.seen.length + x.acts.length ≤ 200
    · have hse : stgE x (n + x.seen.length + x.acts.length) = x.wt ++ x.who ++ x.pays ++ x.acts.flatMap actE := by unfold stgE; rw [if_pos hn2]
      rw [hse] at hq
      refine LI.cong (H' := (H ++ rO r :: G) ++ ⟨x.c, 45, 0, true⟩ :: lO ((x.wt ++ x.who ++ x.pays) ++ (x.acts.take 0).flatMap actE) 3 :: []) (by simp [lO, cL_app, StageP.c, exS]) ?_
      refine loop6_1 (A := H ++ rO r :: G) b5 b7 (x2 := rp H.length) (x6 := i64 i) hn2 (l0 := x.wt ++ x.who ++ x.pays) (by simp; omega) (by omega) (fun v env G2 h1 h2 h5 h6 h8 => ?_) x.acts.length 0 3 [] _ (by omega) (by simp; omega) ?_ ?_ ?_ ?_ ?_ ?_ ?_
      · simp -implicitDefEqProofs [h1, h2, h5, h6, h8, rp]
        refine LI.cong (H' := (H ++ rO r :: G) ++ ⟨x.c, 45, 0, true⟩ :: lO (x.wt ++ x.who ++ x.pays ++ x.acts.flatMap actE) v :: G2) (by simp [lO, cL_app]) ?_
        refine loop6_3 (A := H ++ rO r :: G) (x2 := rp H.length) (x6 := i64 i) (l := x.wt ++ x.who ++ x.pays ++ x.acts.flatMap actE) (v := v) ?_ ?_ (res := sizL (x.wt ++ x.who ++ x.pays ++ x.acts.flatMap actE) 200 (n + x.seen.length + x.acts.length)) (fun env G3 h1 h2 h5 h6 => ?_) _ 0 (n + x.seen.length + x.acts.length) G2 _ (Nat.zero_add _) (by omega) (by omega) rfl ?_ ?_ ?_ ?_ ?_ ?_
        · have hfl : (x.acts.flatMap actE).length ≤ x.acts.length * 2097152 := by
           have : ∀ ys : List ActP, (∀ a ∈ ys, a.Bd) -> (ys.flatMap actE).length ≤ ys.length * 2097152 := by
            intro ys
            induction ys with
            | nil => intro _; simp
            | cons a r iha =>
             intro hb
             have ha := hb a (by simp)
             have h1 := ha.wh
             have h2 := ha.sets
             have h3 := iha (fun y hy => hb y (by simp [hy]))
             simp only [List.flatMap_cons, List.length_append, List.length_cons]
             have : (actE a).length = a.wh.length + a.sets.length := by simp [actE]
             omega
           exact this _ b7
          simp only [List.length_append]; omega
        · intro e he
          rw [List.mem_append] at he
          rcases he with he | he
          · exact b6 e he
          · rw [List.mem_flatMap] at he
            obtain ⟨a, ha, hea⟩ := he
            exact (b7 a ha).lim e hea
        · simp -implicitDefEqProofs [h1, h2, h5, h6, rp]
          refine LI.cong ?_ (fin _ v _ _ G3 rfl hq ?_ ?_ ?_ ?_)
          · simp
          all_goals simp [h1, h2, h5, rp, wrap_suc (show i < 9223372036854775807 by omega)]
        all_goals first | exact h1 | simp [h1, h2, h5, h6, h8, hAl, rp]
      all_goals simp [hAl, rp, Nat.add_assoc]
    · have hse : stgE x (n + x.seen.length + x.acts.length) = x.wt ++ x.who ++ x.pays := by unfold stgE; rw [if_neg hn2]
      rw [hse] at hq
      refine LI.cong (H' := (H ++ rO r :: G) ++ ⟨x.c, 45, 0, true⟩ :: lO (x.wt ++ x.who ++ x.pays) 3 :: []) (by simp [lO, cL_app, StageP.c, exS]) ?_
      refine loop6_1x (A := H ++ rO r :: G) (x2 := rp H.length) (x6 := i64 i) hn2 (fun env h1 h2 h5 h6 h8 => ?_) ?_ ?_ ?_ ?_ ?_ ?_ ?_
      · simp -implicitDefEqProofs [h1, h2, h5, h6, h8, rp]
        refine LI.cong (H' := (H ++ rO r :: G) ++ ⟨x.c, 45, 0, true⟩ :: lO (x.wt ++ x.who ++ x.pays) 3 :: []) (by simp [lO, cL_app]) ?_
        refine loop6_3 (A := H ++ rO r :: G) (x2 := rp H.length) (x6 := i64 i) (l := x.wt ++ x.who ++ x.pays) (v := 3) ?_ b6 (res := sizL (x.wt ++ x.who ++ x.pays) 200 (n + x.seen.length + x.acts.length)) (fun env G3 h1 h2 h5 h6 => ?_) _ 0 (n + x.seen.length + x.acts.length) [] _ (Nat.zero_add _) (by omega) (by omega) rfl ?_ ?_ ?_ ?_ ?_ ?_
        · simp only [List.length_append]; omega
        · simp -implicitDefEqProofs [h1, h2, h5, h6, rp]
          refine LI.cong ?_ (fin _ 3 _ _ G3 rfl hq ?_ ?_ ?_ ?_)
          · simp
          all_goals simp [h1, h2, h5, rp, wrap_suc (show i < 9223372036854775807 by omega)]
        all_goals simp [h1, h2, h5, h6, h8, hAl, rp]
      all_goals simp [hAl, rp, Nat.add_assoc]
  · rw [if_neg hnm] at hq
    subst hq
    simp -implicitDefEqProofs [h1, h2, h5, h6, rp, hlt, hlt', hnm, RulesP.c]
    exact hexit _ _ (by simp [h5])
theorem ok6 {r : RulesP} (hr : r.Bd) : Ok Tryz.prog 6 [rulesV r, i64 200] H (.ret (i64 (sizR r))) H := by
 refine ok_fn hm Tryz.func6 c6 (by simp) fun hcl => ?_
 have b1 := hr.vars
 have b2 := hr.stages
 have w1 : IntKind.i64.wrap ((r.vars.length : Int) + r.stages.length) = (r.vars.length : Int) + r.stages.length := wrap_id (by omega) (by omega)
 simp -implicitDefEqProofs [i6, r6, rulesV, RulesP.c, w1]
 refine LI.cong (H' := H ++ rO r :: []) (by simp [RulesP.c]) ?_
 refine loop6_0 hr (res := sizR r) (fun env G h5 => ?_) r.stages.length 0 (r.vars.length + r.stages.length) [] _ (by omega) (by omega) (by omega) rfl ?_ ?_ ?_ ?_
 · simp -implicitDefEqProofs [h5]
   exact cv_fz 3 hcl rfl rfl
 all_goals simp [rp]
end
end Go.Proofs.YthmdmnfojbnobaaGreatDoor
namespace Go.Proofs.YthmdmnfojbnobaaGreatDoor
open Go.Ab
theorem hgtL_mem : ∀ {l : List Ex} {e : Ex}, e ∈ l -> e.hgt ≤ Ex.hgtL l
 | x :: r, e, h => by
  rw [List.mem_cons] at h
  unfold Ex.hgtL
  rcases h with rfl | h
  · omega
  · have := hgtL_mem h; omega
theorem sizL_hgt {l : List Ex} {n : Int} (h0 : 0 ≤ n) (h : sizL l 200 n ≤ 200) : ∀ e ∈ l, e.hgt ≤ 200 := by
 intro e he
 by_cases h1 : 1 ≤ n
 · have := hgtLs l 200 n h1 (by omega) h
   have := hgtL_mem he
   omega
 · have hn : n = 0 := by omega
   subst hn
   cases l with
   | nil => cases he
   | cons x r =>
    unfold sizL at h
    rw [if_pos (by omega)] at h
    have b1 := sizE_bd x (200 - 0)
    have b2 := sizL_bd r 200 (0 + sizE x (200 - 0))
    have a2 := hgtE x (200 - 0) (by omega) (by omega)
    have c3 := hgtLs r 200 (0 + sizE x (200 - 0)) (by omega) (by omega) h
    rw [List.mem_cons] at he
    rcases he with rfl | he
    · omega
    · have := hgtL_mem he
      omega
theorem sizS_ge (x : StageP) (n : Int) : n ≤ sizS x n := by
 unfold sizS
 have := sizL_bd (stgE x (n + x.seen.length + x.acts.length)) 200 (n + x.seen.length + x.acts.length)
 omega
theorem sizT_ge : ∀ (l : List StageP) (n : Int), n ≤ sizT l n
 | [], n => by simp [sizT]
 | x :: r, n => by
  unfold sizT
  split
  · have := sizS_ge x n
    have := sizT_ge r (sizS x n)
    omega
  · omega
theorem sizS_ok {x : StageP} {n : Int} (hb : x.Bd) (h0 : 0 ≤ n) (h : sizS x n ≤ 200) : x.Ok := by
 unfold sizS at h
 have hbd := sizL_bd (stgE x (n + x.seen.length + x.acts.length)) 200 (n + x.seen.length + x.acts.length)
 have hh := sizL_hgt (by omega) h
 have he : stgE x (n + x.seen.length + x.acts.length) = x.wt ++ x.who ++ x.pays ++ x.acts.flatMap actE := by unfold stgE; rw [if_pos (by omega)]
 rw [he] at hh
 obtain ⟨b1, b2, b3, b4, b5, b6, b7⟩ := hb
 refine ⟨fun e he => ?_, by omega, fun e he => ?_, by omega, fun a ha => ?_, by omega, fun e he => ?_⟩
 · have := hh e (by simp [he]); omega
 · have := hh e (by simp [he]); omega
 · obtain ⟨c1, c2, c3⟩ := b7 a ha
   refine ⟨by omega, fun e he => ?_, fun s hs => ?_⟩
   · have := hh e (by simp only [List.mem_append, List.mem_flatMap]; exact .inr ⟨a, ha, by simp [actE, he]⟩); omega
   · have := hh s.e (by simp only [List.mem_append, List.mem_flatMap]; exact .inr ⟨a, ha, by simp only [actE, List.mem_append, List.mem_map]; exact .inr ⟨s, hs, rfl⟩⟩); omega
 · have := hh e (by simp [he]); omega
theorem sizT_ok : ∀ {l : List StageP} {n : Int}, (∀ x ∈ l, x.Bd) -> 0 ≤ n -> sizT l n ≤ 200 -> ∀ x ∈ l, x.Ok
 | y :: r, n, hb, h0, h, x, hx => by
  unfold sizT at h
  by_cases hn : n ≤ 200
  · rw [if_pos hn] at h
    have h1 := sizS_ge y n
    have h2 := sizT_ge r (sizS y n)
    rw [List.mem_cons] at hx
    rcases hx with rfl | hx
    · exact sizS_ok (hb _ (by simp)) h0 (by omega)
    · exact sizT_ok (fun z hz => hb z (by simp [hz])) (by omega) h x hx
  · rw [if_neg hn] at h; omega
theorem sizR_ok {r : RulesP} (hb : r.Bd) (h : sizR r ≤ 200) : r.Ok := by
 unfold sizR at h
 exact ⟨by have := hb.vars; omega, by have := hb.stages; omega, sizT_ok hb.st (by omega) h⟩
end Go.Proofs.YthmdmnfojbnobaaGreatDoor
namespace Go.Proofs.YthmdmnfojbnobaaGreatDoor
open Go Go.Ab Go.ChangeShapes Go.WideShapes Go.ChangeAt Go.RowKit
theorem leaves_of_alone {P : Program} {last : Machine} {w : World} {t : Trace} (h : aloneAtReturn P last w t) : leavingAtReturn P last w t := by
 obtain ⟨⟨h1, h2⟩, h3, h4⟩ := h
 refine ⟨h3, ⟨fun g hg => ⟨0, ?_⟩, h2⟩, h4⟩
 unfold Machine.othersDone at h1
 have h5 := List.all_eq_true.1 h1 g hg
 show g.status = .finished
 exact beq_iff_eq.1 h5
theorem leaving_of_handed {a : Assume} {C : Checked} {os : Os} {f : FuncId} {r : Reach} {Pre : World -> Array Value -> Prop} {Post : World -> Array Value -> Value -> World -> Prop}
 (h : ReturnsInHanded a C os f r Pre Post) : ReturnsInLeavingWide a C os f r Pre Post := fun e =>
 ReturnsInOpen.mono (fun _ _ _ x => leaves_of_alone x) (fun _ x => x) (h e)
theorem tied_goes (Lk : Looks) {p : Pinned} {s : OpenSpec} {c : OpenClaim} (kinds : List LaidKind) (tests : Bool) (har : Bool × String) (lk : Bool)
 (hc : c.holds p s) (hw : c.wfByText s = true)
 (htie : c.laidByTextAt Lk p kinds tests)
 (hst : c.start = .entering) (hnb : c.noBlocks = false ∧ c.again = false) (hm : p.checked.prog.mainIs = some (har.1, har.2.toList)) (hn : (!har.1 && har.2.isEmpty && !lk) = false)
 (hl : ∀ f fn, p.checked.prog.funcNamed c.func = some f -> p.checked.prog.funcs[f]? = some fn -> lk = p.checked.prog.looks [] ∧ ∀ (j : Nat) t, fn.params[j]? = some t -> p.checked.prog.wantsStandIn t = false)
 (hg : true = c.goesBy p.checked.prog) :
 Claim7.holds p (.plain s) { stood := { row := c, standIns := [], harness := har, looks := lk }, kinds := [], alts := [], goes := true, laidByText := true, laidKinds := kinds, laidTests := tests, laidLooks := Lk } := by
 have h6 : ∀ r : OpenClaim, Claim7.isSixth { stood := { row := r, standIns := [], harness := har, looks := lk }, kinds := [] } = false := fun r => by simpa [Claim7.isSixth] using hn
 exact ⟨Claim7.tied_new_at Lk kinds tests (Claim7.new_of_sixth hc har lk hst hnb hm (h6 c) hl) hw, (fun D hD => by cases hD), htie, (fun h => by cases h), hg⟩
theorem holds_of_cond_leaving {p : Pinned} {s : OpenSpec} {c : OpenClaim} (f : FuncId) (fn : Func)
 (hn : c.program = p.name) (hs : c.sum = p.sum) (hsp : c.spec = s.name)
 (hstart : c.start = .entering) (hout : c.outside = []) (hin : c.inits = []) (hun : c.under = none) (hi4 : c.initsInPlace = [] ∧ c.initsUnfollowed = false ∧ c.initsRecurse = false ∧ c.initsNamed = [] ∧ c.initsPassed = []) (hnb : c.noBlocks = false) (hlv : c.leaving = true) (hfo : c.followed = none) (hnar : c.narrowed = s.cond.isSome) (hstill : c.still = false)
 (hfn : p.checked.prog.funcNamed c.func = some f) (hf : p.checked.prog.funcs[f]? = some fn)
 (closed : joinedFacts p.checked.prog f fn s.bare c = true)
 (hinst : fn.isInstance p.checked.prog c.origin c.targs) (hwrap : fn.isWrapper p.checked.prog c.wrapper c.mainSum)
 (h : ∀ os : Os, os.Started -> ∀ (H : Type) (enc : TypeId × Value -> H), (∀ a b, enc a = enc b -> a = b) -> ∀ F : Stop.Interp,
  ReturnsInLeavingWide c.assume p.checked os f .any (c.pre enc p.checked.prog fn s) ((s.at F).post enc p.checked.prog fn c.apart c.fresh c.handsOn c.again)) : c.holds p s := by
 simp only [joinedFacts, Bool.and_eq_true, beq_iff_eq, Array.all_eq_true_iff_forall_mem, List.all_eq_true, decide_eq_true_eq] at closed
 obtain ⟨⟨⟨⟨⟨⟨⟨⟨⟨⟨⟨⟨⟨⟨⟨⟨⟨⟨⟨⟨⟨⟨⟨⟨⟨⟨⟨⟨⟨⟨⟨k1, k2⟩, k3⟩, k4⟩, k5⟩, k6⟩, k7⟩, k8⟩, k9⟩, k10⟩, k11⟩, k12⟩, k13⟩, k14⟩, k15⟩, k16⟩, k17⟩, k17b⟩, k18⟩, k19⟩, k20⟩, k21⟩, k22⟩, k23⟩, k23b⟩, k24⟩, k24b⟩, k24c⟩, k25⟩, k26⟩, k27⟩, k28⟩ := closed
 have hq : ∀ os : Os, Stop.quiet p.checked.prog os := fun os k hk => by rw [k9] at hk; cases hk
 refine ⟨k1, hn, hs, hsp, k2, k3, by unfold OpenClaim.startFits; rw [hstart]; exact k24, by unfold OpenClaim.startTold; rw [hstart]; exact ⟨hin, hun, hi4⟩, f, fn, hfn, hf, ⟨k4, k19⟩, (fun hb => by rw [hnb] at hb; cases hb), by unfold OpenClaim.namedList; rw [hfo]; exact k5, hinst, hwrap,
  k6.trans k7.symm, ⟨k8.trans k9.symm, by unfold Program.envWorded; rw [k9]; rfl, k23b⟩, k10, k11, k12, k13, k14, ⟨k15, k27, k28⟩, ⟨k16, k20⟩, ⟨k17, k21, k25, k26⟩, ⟨k22, k24b, k24c, k17b⟩, (by rw [hout, hnar]; cases hsh : c.shortTexts with | none => simp | some _ => rw [hsh] at k23; cases k23), fun n hn' => varReadable_some (k18 n hn'),
  ⟨_, by unfold OpenClaim.world; rw [hout, hstart]; exact WideRow.started_initial, hq _⟩, [], by unfold OpenClaim.lists; rw [hfo], fun os st _ H enc inj => ?_⟩
 have st' : os.Started := by unfold OpenClaim.world at st; rw [hout, hstart] at st; exact st
 rw [OpenClaim.post_not_still hstill]
 unfold OpenClaim.form
 rw [hstart, k6]
 intro F
 have e1 : c.okInput = Input.okWide := by unfold OpenClaim.okInput; rw [hnb]
 have e2 : c.atReturn p.checked.prog = leavingAtReturn p.checked.prog := by unfold OpenClaim.atReturn; rw [hlv]
 have e3 : c.always p.checked.prog [] = nothingAlways := by unfold OpenClaim.always; rw [hfo]
 have e4 : s.post enc p.checked.prog fn F c.outside c.apart c.fresh c.handsOn c.again = (s.at F).post enc p.checked.prog fn c.apart c.fresh c.handsOn c.again := by rw [hout]; rfl
 rw [e1, e2, e3]
 show ReturnsInOpen _ _ _ _ _ _ _ _ (s.post enc p.checked.prog fn F c.outside c.apart c.fresh c.handsOn c.again) _ _
 rw [e4]
 exact h os st' H enc inj F k24
theorem returns_of_cond {a : Assume} {C : Checked} {os : Os} {f : FuncId} {fn : Func} {H : Type} {enc : TypeId × Value -> H} {s : OpenSpec} {k : (H : Type) -> List (DataW H) -> Bool} (hk : s.cond = some k) {F : Stop.Interp} {conds : List PathCond} {apart fresh handsOn again : Bool} {X : World -> Prop}
 (hX : ∀ (w w' : World), w.heap = w'.heap -> X w -> X w')
 (own : ownKnob C.prog.godebug = none) (started : os.Started) (noInit : C.prog.inits.idxOf? f = none) (hfn : C.prog.funcs[f]? = some fn)
 (witness : ∃ (w : World) (tape : Tape) (i : Input), w.os = os ∧ (w.forCall tape i).Shaped C.prog ∧ i.vars = [] ∧ Input.okWide C.prog (w.forCall tape i) .any w.heap.size f i ∧
  ((s.pre enc C.prog fn conds apart (w.forCall tape i).memory i.args ∧ X (w.forCall tape i).memory) ∧ sizedMet enc C.prog fn s apart (w.forCall tape i).memory i.args) ∧ a.holds C.prog (lone (Frame.enter C.prog f i.args .normal) [] (w.forCall tape i)))
 (contract : ∀ (W : World) (base : Nat) (args : Array Value) (ds gs : List (DataW H)) (before : List MemPlace),
  (∀ (j : Nat) t v, fn.params[j]? = some t -> args[j]? = some v -> Value.okWide C.prog W .any base t v) →
  DataW.Whole enc C.prog fn.params.toList s.vars apart W args.toList ds gs before -> k H (ds ++ gs) = true →
  (DataW.weightsEach C.prog (fn.params.toList ++ s.bare.plain.varTypes C.prog) (ds ++ gs)).all (· ≤ reachBytes) = true -> X W →
  Calls C.prog f args W fun e W' => ∃ v, e = .returned v ∧ (s.at F).post enc C.prog fn apart fresh handsOn again W args v W') :
 ReturnsInHanded a C os f .any (fun w args => (s.pre enc C.prog fn conds apart w args ∧ X w) ∧ sizedMet enc C.prog fn s apart w args) ((s.at F).post enc C.prog fn apart fresh handsOn again) := by
 refine returnsInHanded_of_calls own started noInit witness ?_
 intro w tape i _ _ _ hok hpre hholds
 obtain ⟨_, _, _, fn', hfn', _, _, _, _, hval⟩ := hok
 have e : fn' = fn := Option.some.inj (hfn'.symm.trans hfn)
 subst e
 obtain ⟨⟨hp, hx⟩, hz⟩ := hpre
 obtain ⟨ds, gs, before, hw, hc, hkk⟩ := (OpenSpec.pre_some hk conds apart _ _).1 hp
 have hw' := DataW.Whole.of_heap (w' := w.forCall tape i) (by rfl) hw
 refine (contract (w.forCall tape i) w.heap.size i.args ds gs before hval hw' hkk (hz.weights hw) (hX _ _ (by rfl) hx)).mono fun e W' ⟨v, he, hp⟩ => ?_
 subst he
 exact ChangeSpec.post_blind hp
end Go.Proofs.YthmdmnfojbnobaaGreatDoor
namespace Go.Proofs.YthmdmnfojbnobaaGreatDoor
open Go Go.Ab
noncomputable def fieldT (t : TypeId) : Option (List TypeId) := match Tryz.prog.underlying t with
 | some (.struct fs) => some (fs.toList.map (·.type))
 | _ => none
theorem f25 : fieldT 25 = some [9, 3, 22, 23] := by kernel_rfl
theorem f77 : fieldT 77 = some [9, 3, 3] := by kernel_rfl
theorem f45 : fieldT 45 = some [3, 9, 9, 3, 3, 42, 4, 38, 42, 43, 42, 3] := by kernel_rfl
theorem f53 : fieldT 53 = some [3, 3, 9, 42, 3] := by kernel_rfl
theorem f51 : fieldT 51 = some [9, 42, 4, 49, 9, 3] := by kernel_rfl
theorem f55 : fieldT 55 = some [9, 53, 3] := by kernel_rfl
theorem u3 : Tryz.prog.underlying 3 = some (.int .i64) := by kernel_rfl
theorem u4 : Tryz.prog.underlying 4 = some .bool := by kernel_rfl
theorem u9 : Tryz.prog.underlying 9 = some .string := by kernel_rfl
theorem u22 : Tryz.prog.underlying 22 = some (.slice 77) := by kernel_rfl
theorem u23 : Tryz.prog.underlying 23 = some (.slice 45) := by kernel_rfl
theorem u38 : Tryz.prog.underlying 38 = some (.slice 3) := by kernel_rfl
theorem u42 : Tryz.prog.underlying 42 = some (.slice 53) := by kernel_rfl
theorem u43 : Tryz.prog.underlying 43 = some (.slice 51) := by kernel_rfl
theorem u49 : Tryz.prog.underlying 49 = some (.slice 55) := by kernel_rfl
theorem int_of {d : Dt} (h : d.ty Tryz.prog 3) : ∃ n, d = .int .i64 n := by
 cases d with
 | int k n => have := h.1; rw [u3] at this; cases this; exact ⟨n, rfl⟩
 | bool b => have h : Tryz.prog.underlying 3 = _ := h; rw [u3] at h; cases h
 | str s => have h := h.1; rw [u3] at h; cases h
 | sl l => obtain ⟨e, h, _⟩ := h; rw [u3] at h; cases h
 | agg l => obtain ⟨e, h, _⟩ := h; rw [u3] at h; cases h
theorem bool_of {d : Dt} (h : d.ty Tryz.prog 4) : ∃ n, d = .bool n := by
 cases d with
 | int k n => have h := h.1; rw [u4] at h; cases h
 | bool b => exact ⟨b, rfl⟩
 | str s => have h := h.1; rw [u4] at h; cases h
 | sl l => obtain ⟨e, h, _⟩ := h; rw [u4] at h; cases h
 | agg l => obtain ⟨e, h, _⟩ := h; rw [u4] at h; cases h
theorem str_of {d : Dt} (h : d.ty Tryz.prog 9) : ∃ s, d = .str s ∧ s.size ≤ reachBytes := by
 cases d with
 | int k n => have := h.1; rw [u9] at this; cases this
 | bool b => have h : Tryz.prog.underlying 9 = _ := h; rw [u9] at h; cases h
 | str s => exact ⟨s, rfl, h.2⟩
 | sl l => obtain ⟨e, h, _⟩ := h; rw [u9] at h; cases h
 | agg l => obtain ⟨e, h, _⟩ := h; rw [u9] at h; cases h
theorem sl_of {d : Dt} {t e : TypeId} (ht : Tryz.prog.underlying t = some (.slice e)) (h : d.ty Tryz.prog t) : ∃ l, d = .sl l ∧ l.length ≤ reachBytes ∧ ∀ x ∈ l, x.ty Tryz.prog e := by
 cases d with
 | int k n => have := h.1; rw [ht] at this; cases this
 | bool b => have h : Tryz.prog.underlying t = _ := h; rw [ht] at h; cases h
 | str s => have h := h.1; rw [ht] at h; cases h
 | sl l => obtain ⟨e', h, h2, h3⟩ := h; rw [ht] at h; cases h; exact ⟨l, rfl, h2, tyA_iff.1 h3⟩
 | agg l => obtain ⟨e, h, _⟩ := h; rw [ht] at h; cases h
theorem st_of {d : Dt} {t : TypeId} {ts : List TypeId} (ht : fieldT t = some ts) (h : d.ty Tryz.prog t) : ∃ l, d = .agg l ∧ Dt.tyL Tryz.prog l ts := by
 unfold fieldT at ht
 cases d with
 | int k n => have := h.1; rw [this] at ht; cases ht
 | bool b => have h : Tryz.prog.underlying t = _ := h; rw [h] at ht; cases ht
 | str s => have h := h.1; rw [h] at ht; cases ht
 | sl l => obtain ⟨e', h, h2, h3⟩ := h; rw [h] at ht; cases ht
 | agg l => obtain ⟨e, h, h2⟩ := h; rw [h] at ht; cases ht; exact ⟨l, rfl, h2⟩
theorem blk_pos (d : Dt) : 1 ≤ d.blk := by cases d <;> simp [Dt.blk]
theorem blk_len : ∀ l : List Dt, l.length ≤ Dt.blkL l
 | [] => by simp [Dt.blkL]
 | d :: r => by have := blk_pos d; have := blk_len r; simp only [Dt.blkL, List.length_cons]; omega
theorem row_of {α : Type} {f : α -> List SV} {Q : α -> Prop} {t : TypeId} {n : Nat} (hf : ∀ d : Dt, d.ty Tryz.prog t -> d.blk ≤ n -> ∃ a, d.cells = f a ∧ Q a) :
 ∀ zs : List Dt, (∀ x ∈ zs, x.ty Tryz.prog t) -> Dt.blkL zs ≤ n -> ∃ l : List α, Dt.cellsL zs = rws f l ∧ l.length = zs.length ∧ ∀ a ∈ l, Q a
 | [], _, _ => ⟨[], rfl, rfl, fun e he => by cases he⟩
 | x :: r, hty, hb => by
  simp only [Dt.blkL] at hb
  obtain ⟨l, g1, g2, g3⟩ := row_of hf r (fun y hy => hty y (by simp [hy])) (by omega)
  obtain ⟨a, k1, k2⟩ := hf x (hty x (by simp)) (by omega)
  refine ⟨a :: l, by simp only [Dt.cellsL, k1, g1]; simp [rws], by simp [g2], fun y hy => ?_⟩
  rw [List.mem_cons] at hy
  rcases hy with rfl | hy
  · exact k2
  · exact g3 y hy
theorem ints_of : ∀ zs : List Dt, (∀ x ∈ zs, x.ty Tryz.prog 3) -> ∃ l : List Int, Dt.cellsL zs = ints l ∧ l.length = zs.length
 | [], _ => ⟨[], rfl, rfl⟩
 | x :: r, hty => by
  obtain ⟨l, g1, g2⟩ := ints_of r (fun y hy => hty y (by simp [hy]))
  obtain ⟨n, rfl⟩ := int_of (hty x (by simp))
  exact ⟨n :: l, by simp only [Dt.cellsL, Dt.cells, g1]; rfl, by simp [g2]⟩
mutual
theorem bulkD {H : Type} : ∀ d : DataW H, Rows.uptoBulk d = blkD d
 | .lit (.string b) => by simp only [Rows.uptoBulk, blkD]
 | .lit (.bool b) => by simp only [Rows.uptoBulk, blkD]
 | .lit (.int k b) => by simp only [Rows.uptoBulk, blkD]
 | .lit (.float k b) => by simp only [Rows.uptoBulk, blkD]
 | .lit .nil => by simp only [Rows.uptoBulk, blkD]
 | .nil => by simp only [Rows.uptoBulk, blkD]
 | .ptr d => by simp only [Rows.uptoBulk, blkD, bulkD d]
 | .slice a b => by simp only [Rows.uptoBulk, blkD, bulkA a, bulkA b]
 | .agg a => by simp only [Rows.uptoBulk, blkD, bulkA a]
 | .iface _ d => by simp only [Rows.uptoBulk, blkD, bulkD d]
 | .map e => by simp only [Rows.uptoBulk, blkD, bulkE e]
 | .held _ => by simp only [Rows.uptoBulk, blkD]
theorem bulkA {H : Type} : ∀ l : List (DataW H), Rows.uptoBulkAll l = blkA l
 | [] => by simp only [Rows.uptoBulkAll, blkA]
 | d :: r => by simp only [Rows.uptoBulkAll, blkA, bulkD d, bulkA r]
theorem bulkE {H : Type} : ∀ l : List (Lit × DataW H), Rows.uptoBulkEntries l = blkE l
 | [] => by simp only [Rows.uptoBulkEntries, blkE]
 | x :: r => by simp only [Rows.uptoBulkEntries, blkE, bulkX x, bulkE r]
theorem bulkX {H : Type} : ∀ x : Lit × DataW H, Rows.uptoBulkEntry x = blkX x
 | (.string b, d) => by simp only [Rows.uptoBulkEntry, blkX, bulkD d]
 | (.bool b, d) => by simp only [Rows.uptoBulkEntry, blkX, bulkD d]
 | (.int k b, d) => by simp only [Rows.uptoBulkEntry, blkX, bulkD d]
 | (.float k b, d) => by simp only [Rows.uptoBulkEntry, blkX, bulkD d]
 | (.nil, d) => by simp only [Rows.uptoBulkEntry, blkX, bulkD d]
end
end Go.Proofs.YthmdmnfojbnobaaGreatDoor
namespace Go.Proofs.YthmdmnfojbnobaaGreatDoor
open Go.Ab
def chkW (k : Int) (tx : List UInt8) (n : Int) : Int :=
 if tx = [] ∨ k < 1 ∨ 3 < k ∨ cAt tx 0 = 1 ∨ tx.getD 0 0 = 35 then 3 else
  match stepT tx 0 with
  | .tok t q => if q ≠ tx.length ∨ t.k ≠ k then 3 else if t.n ≠ n then 2 else 0
  | _ => 3
theorem stepT_skip {l : List UInt8} {p q : Nat} (c1 : cAt l p ≠ 1) (c5 : l.getD p 0 ≠ 35) : stepT l p ≠ .skip q := by
 intro hst
 unfold stepT at hst
 rw [if_neg c1] at hst
 have key : ∀ k q', mkStp l p k q' ≠ .skip q := by intro k q' h; unfold mkStp at h; split at h <;> cases h
 split at hst
 · exact key _ _ hst
 · split at hst
   · exact key _ _ hst
   · split at hst
     · exact key _ _ hst
     · first
       | exact key _ _ hst
       | (rw [if_neg c5] at hst; exact key _ _ hst)
theorem stepT_flt {l : List UInt8} {p : Nat} {e : Int} (he : stepT l p = .flt e) : e ≠ 0 := by
 have key : ∀ k q, mkStp l p k q = .flt e -> e ≠ 0 := by
  intro k q hm
  unfold mkStp at hm
  split at hm
  · rename_i hne; cases hm; exact hne
  · cases hm
 unfold stepT at he
 split at he
 · cases he
 · split at he
   · exact key _ _ he
   · split at he
     · exact key _ _ he
     · split at he
       · exact key _ _ he
       · split at he
         · cases he
         · exact key _ _ he
section
variable {H : List AO} {tx : List UInt8}
theorem ok73 (hl : tx.length < 4611686018427387904) (k n : Int) (a : SV) (ha : a.isCell = true) (hu : a.under H.length = true) : Ok Tryz.prog 73 [.agg [i64 k, st (B tx), i64 n, a]] H (.ret (i64 (chkW k tx n))) H := by
 refine ok_fn hm Tryz.func73 c73 (by simp) fun hcl => ?_
 by_cases h1 : tx = []
 · have hr : chkW k tx n = 3 := by unfold chkW; rw [if_pos (.inl h1)]
   rw [hr]
   simp -implicitDefEqProofs [i73, r73, h1, ha]
   refine callq_off _ _ _ _ ?_
   simp -implicitDefEqProofs
   exact cv_fz 4 hcl rfl (by simp)
 have hpos : 0 < tx.length := List.length_pos_iff.2 h1
 have hg : tx.getD 0 0 = tx[0] := by simp [hpos]
 have hb : tx[0].toNat < 256 := tx[0].toNat_lt
 have f1 : ((tx[0].toNat : Int) = 35) ↔ tx[0] = 35 := u8i tx[0] 35
 obtain ⟨_, _, q1, _⟩ := cls_at hb
 rw [← cAt_get hpos] at q1
 by_cases h2 : k < 1
 · have hr : chkW k tx n = 3 := by unfold chkW; rw [if_pos (.inr (.inl h2))]
   rw [hr]
   simp -implicitDefEqProofs [i73, r73, h1, ha, h2]
   refine callq_off _ _ _ _ ?_
   simp -implicitDefEqProofs
   exact cv_fz 4 hcl rfl (by simp)
 by_cases h3 : 3 < k
 · have hr : chkW k tx n = 3 := by unfold chkW; rw [if_pos (.inr (.inr (.inl h3)))]
   rw [hr]
   simp -implicitDefEqProofs [i73, r73, h1, ha, h2, h3]
   refine callq_off _ _ _ _ ?_
   simp -implicitDefEqProofs
   exact cv_fz 4 hcl rfl (by simp)
 simp -implicitDefEqProofs [i73, r73, h1, ha, h2, h3, hpos]
 refine callq_st (r := bl (whtB tx[0].toNat)) (fun _ => by rw [st_u8]; exact ok90 _ hb) ?_
 by_cases h4 : cAt tx 0 = 1
 · have hr : chkW k tx n = 3 := by unfold chkW; rw [if_pos (.inr (.inr (.inr (.inl h4))))]
   rw [hr]
   simp -implicitDefEqProofs [q1.1 h4]
   exact cv_fz 4 hcl rfl (by simp)
 have hW : whtB tx[0].toNat = false := by rw [← Bool.not_eq_true]; exact fun h => h4 (q1.2 h)
 by_cases h5 : tx[0] = 35
 · have hr : chkW k tx n = 3 := by unfold chkW; rw [if_pos (.inr (.inr (.inr (.inr (by rw [hg]; exact h5)))))]
   rw [hr]
   simp -implicitDefEqProofs [hW, hpos, h5]
   exact cv_fz 4 hcl rfl (by simp)
 have h5' : ¬ ((tx[0].toNat : Int) = 35) := fun h => h5 (f1.1 h)
 have hr : chkW k tx n = match stepT tx 0 with
  | .tok t q => if q ≠ tx.length ∨ t.k ≠ k then 3 else if t.n ≠ n then 2 else 0
  | _ => 3 := by unfold chkW; rw [if_neg (by rw [hg]; rintro (h | h | h | h | h) <;> contradiction)]
 simp -implicitDefEqProofs [hW, hpos, h5']
 refine call_go (ok91 hl hpos h4 (by rw [hg]; exact h5) (fun h => absurd h.2.1 (by decide))) ?_
 cases hst : stepT tx 0 with
 | skip q => exact (stepT_skip h4 (by rw [hg]; exact h5) hst).elim
 | flt e =>
  have hnx : nxV tx 0 = .tup [zT, i64 0, fltV e 0] := by unfold nxV; rw [hst]; rfl
  rw [hst] at hr
  have he := stepT_flt hst
  rw [hnx, hr]
  simp -implicitDefEqProofs [zT, fltV, he]
  exact cv_fz 4 hcl rfl (by simp)
 | tok t q =>
  have hnx : nxV tx 0 = .tup [t.v, i64 q, fltV 0 0] := by unfold nxV; rw [hst]
  rw [hst] at hr
  rw [hnx, hr]
  by_cases hq : q = tx.length
  · by_cases hk : t.k = k
    · simp -implicitDefEqProofs [Tok.v, Tok.c, fltV, hq, hk]
      split
      · exact cv_fz 4 hcl rfl (by simp)
      · exact cv_fz 4 hcl rfl (by simp)
    · simp -implicitDefEqProofs [Tok.v, Tok.c, fltV, hq, hk]
      exact cv_fz 4 hcl rfl (by simp)
  · have hq' : ¬ ((q : Int) = tx.length) := by omega
    simp -implicitDefEqProofs [Tok.v, Tok.c, fltV, hq, hq']
    exact cv_fz 4 hcl rfl (by simp)
end
end Go.Proofs.YthmdmnfojbnobaaGreatDoor
namespace Go.Proofs.YthmdmnfojbnobaaGreatDoor
open Go.Ab
theorem cAt_app {a b : List UInt8} {p : Nat} : cAt (a ++ b) (a.length + p) = cAt b p := by
 unfold cAt
 rw [List.getD_eq_getElem?_getD, List.getD_eq_getElem?_getD, List.getElem?_append_right (by omega)]
 simp
theorem cAt_left {a b : List UInt8} {p : Nat} (h : p < a.length) : cAt (a ++ b) p = cAt a p := by
 unfold cAt
 rw [List.getD_eq_getElem?_getD, List.getD_eq_getElem?_getD, List.getElem?_append_left h]
theorem runN_app {a b : List UInt8} {cs : List Int} : ∀ (n e : Nat), runN (a ++ b) cs n (a.length + e) = a.length + runN b cs n e
 | 0, e => rfl
 | n + 1, e => by
  simp only [runN, cAt_app, List.length_append]
  by_cases h : e < b.length ∧ cAt b e ∈ cs
  · rw [if_pos ⟨by omega, h.2⟩, if_pos h, Nat.add_assoc]; exact runN_app n (e + 1)
  · rw [if_neg (fun h2 => h ⟨by omega, h2.2⟩), if_neg h]
theorem runE_app {a b : List UInt8} {cs : List Int} {e : Nat} : runE (a ++ b) cs (a.length + e) = a.length + runE b cs e := by
 unfold runE
 rw [show (a ++ b).length - (a.length + e) = b.length - e by simp; omega]
 exact runN_app _ _
theorem drop_app {a b : List UInt8} {e : Nat} : (a ++ b).drop (a.length + e) = b.drop e := by
 rw [List.drop_append, List.drop_of_length_le (by omega)]
 simp
theorem cut_app {a b : List UInt8} {p q : Nat} : cut (a ++ b) (a.length + p) (a.length + q) = cut b p q := by
 unfold cut
 rw [drop_app, show a.length + q - (a.length + p) = q - p by omega]
theorem getD_app {a b : List UInt8} {p : Nat} : (a ++ b).getD (a.length + p) 0 = b.getD p 0 := by
 rw [List.getD_eq_getElem?_getD, List.getD_eq_getElem?_getD, List.getElem?_append_right (by omega)]
 simp
theorem signE_app {a b : List UInt8} {e : Nat} : signE (a ++ b) (a.length + e) = a.length + signE b e := by
 unfold signE
 rw [drop_app, getD_app]
 split
 · omega
 · split <;> omega
theorem whE_app {a b tx : List UInt8} {k : Int} {p : Nat} (h : p = 0 -> a = [] ∨ cAt a (a.length - 1) ≠ 3) : whE (a ++ b) k tx (a.length + p) = whE b k tx p := by
 unfold whE
 have e : (tx = [] ∨ k = 1 ∧ 0 < a.length + p ∧ cAt (a ++ b) (a.length + p - 1) = 3) ↔ (tx = [] ∨ k = 1 ∧ 0 < p ∧ cAt b (p - 1) = 3) := by
  by_cases hp : p = 0
  · subst hp
    rcases h rfl with h1 | h1
    · subst h1; simp
    · by_cases ha : a.length = 0
      · have : a = [] := List.eq_nil_of_length_eq_zero ha
        subst this; simp
      · have e1 : cAt (a ++ b) (a.length + 0 - 1) = cAt a (a.length - 1) := cAt_left (by omega)
        rw [e1]
        simp [h1]
  · have e1 : a.length + p - 1 = a.length + (p - 1) := by omega
    rw [e1, cAt_app]
    have : 0 < a.length + p ↔ 0 < p := by omega
    rw [this]
 simp only [e]
def Tok.mv (t : Tok) (d : Nat) : Tok := { t with p := d + t.p }
def Stp.mv (d : Nat) : Stp -> Stp
 | .skip q => .skip (d + q)
 | .tok t q => .tok (t.mv d) (d + q)
 | .flt e => .flt e
theorem mkStp_app {a b : List UInt8} {k : Int} {p q : Nat} (h : p = 0 -> a = [] ∨ cAt a (a.length - 1) ≠ 3) : mkStp (a ++ b) (a.length + p) k (a.length + q) = (mkStp b p k q).mv a.length := by
 unfold mkStp
 rw [cut_app, whE_app h]
 split <;> rfl
theorem stepT_app {a b : List UInt8} {p : Nat} (h : p = 0 -> a = [] ∨ cAt a (a.length - 1) ≠ 3) : stepT (a ++ b) (a.length + p) = (stepT b p).mv a.length := by
 unfold stepT
 rw [cAt_app, runE_app, runE_app, signE_app, getD_app, drop_app, mkStp_app h, mkStp_app h, mkStp_app h, mkStp_app h]
 split
 · simp only [Stp.mv]; rw [Nat.add_assoc]
 · split
   · rfl
   · split
     · rfl
     · split
       · rfl
       · split
         · simp only [Stp.mv]; rw [Nat.add_assoc]
         · rfl
def Ev.mv (d : Nat) : Ev -> Ev
 | .tok t => .tok (t.mv d)
 | .flt e p => .flt e (d + p)
section
variable {a b : List UInt8} {c : UInt8}
def bad : List Ev -> Bool
 | [] => false
 | .tok _ :: r => bad r
 | .flt _ _ :: _ => true
end
end Go.Proofs.YthmdmnfojbnobaaGreatDoor
namespace Go.Proofs.YthmdmnfojbnobaaGreatDoor
open Go.Ab
end Go.Proofs.YthmdmnfojbnobaaGreatDoor
namespace Go.Proofs.YthmdmnfojbnobaaGreatDoor
open Go.Ab
def decF : Nat -> Nat -> List UInt8
 | 0, n => [UInt8.ofNat (48 + n)]
 | k + 1, n => if 9 < n then decF k (n / 10) ++ [UInt8.ofNat (48 + n % 10)] else [UInt8.ofNat (48 + n)]
def decN (n : Nat) : List UInt8 := decF 18 n
theorem decF_one {k n : Nat} (h : n ≤ 9) : decF k n = [UInt8.ofNat (48 + n)] := by
 cases k with
 | zero => rfl
 | succ k => rw [decF, if_neg (by omega)]
theorem decF_len : ∀ k n : Nat, (decF k n).length ≤ k + 1
 | 0, n => by simp [decF]
 | k + 1, n => by
  rw [decF]
  split
  · have := decF_len k (n / 10); simp; omega
  · simp
theorem enc_dig {d : Nat} (h : d ≤ 9) : Utf8.encode ((48 : Int) + (d : Int)) = B [UInt8.ofNat (48 + d)] := by
 have : d = 0 ∨ d = 1 ∨ d = 2 ∨ d = 3 ∨ d = 4 ∨ d = 5 ∨ d = 6 ∨ d = 7 ∨ d = 8 ∨ d = 9 := by omega
 rcases this with rfl | rfl | rfl | rfl | rfl | rfl | rfl | rfl | rfl | rfl <;> decide
theorem B_cat (a b : List UInt8) : B a ++ B b = B (a ++ b) := by
 apply ByteArray.ext
 show (B a ++ B b).data = _
 rw [ByteArray.data_append]; simp
section
variable {H : List AO}
theorem ok45a : ∀ (k n : Nat), n < 10 ^ (k + 1) -> k ≤ 18 -> n ≤ 9223372036854775807 -> ∀ H : List AO, Ok Tryz.prog 45 [i64 n] H (.ret (st (B (decF k n)))) H := by
 intro k
 induction k with
 | zero =>
  intro n hn _ h63 H
  refine ok_fn hm Tryz.func45 c45 (by simp) fun hcl => ?_
  have h9 : ¬ (9 : Int) < n := by omega
  have he := enc_dig (d := n) (by omega)
  have w1 : IntKind.i64.wrap (48 + (n : Int)) = 48 + (n : Int) := wrap_id (by omega) (by omega)
  have w2 : IntKind.i32.wrap (48 + (n : Int)) = 48 + (n : Int) := by unfold IntKind.wrap; simp [IntKind.bits, IntKind.signed]; omega
  simp -implicitDefEqProofs [i45, r45, h9, w1, w2, he, decF]
  exact cv_id
 | succ k ih =>
  intro n hn hk h63 H
  by_cases h9 : n ≤ 9
  · rw [decF_one h9]
    refine ok_fn hm Tryz.func45 c45 (by simp) fun hcl => ?_
    have h9' : ¬ (9 : Int) < n := by omega
    have he := enc_dig (d := n) (by omega)
    have w1 : IntKind.i64.wrap (48 + (n : Int)) = 48 + (n : Int) := wrap_id (by omega) (by omega)
    have w2 : IntKind.i32.wrap (48 + (n : Int)) = 48 + (n : Int) := by unfold IntKind.wrap; simp [IntKind.bits, IntKind.signed]; omega
    simp -implicitDefEqProofs [i45, r45, h9', w1, w2, he]
    exact cv_id
  · have h9' : (9 : Int) < n := by omega
    have hq : n / 10 < 10 ^ (k + 1) := by
     rw [Nat.pow_succ] at hn
     omega
    have hd : n % 10 < 10 ^ (k + 1) := by
     have : 10 ^ 1 ≤ 10 ^ (k + 1) := Nat.pow_le_pow_right (by omega) (by omega)
     omega
    have a1 := ih (n / 10) hq (by omega) (by omega)
    have a2 := ih (n % 10) hd (by omega) (by omega)
    rw [decF_one (by omega : n % 10 ≤ 9)] at a2
    have l1 := decF_len k (n / 10)
    have e : decF (k + 1) n = decF k (n / 10) ++ [UInt8.ofNat (48 + n % 10)] := by rw [decF, if_pos (by omega)]
    rw [e]
    refine ok_fn hm Tryz.func45 c45 (by simp) fun hcl => ?_
    have w1 : IntKind.i64.wrap ((n : Int) / 10) = ((n / 10 : Nat) : Int) := by rw [wrap_id (by omega) (by omega)]; omega
    have w2 : IntKind.i64.wrap ((n : Int) % 10) = ((n % 10 : Nat) : Int) := by rw [wrap_id (by omega) (by omega)]; omega
    generalize decF k (n / 10) = x at a1 l1 e ⊢
    simp -implicitDefEqProofs [i45, r45, h9', w1, w2]
    refine call_go (a1 _) ?_
    simp -implicitDefEqProofs [h9', w1, w2]
    refine call_go (a2 _) ?_
    simp -implicitDefEqProofs [B_cat, B_size]
    exact ⟨by omega, cv_id⟩
theorem ok45 {n : Nat} (h : n ≤ 9223372036854775807) : Ok Tryz.prog 45 [i64 n] H (.ret (st (B (decN n)))) H := ok45a 18 n (by omega) (by omega) h H
theorem decN_len (n : Nat) : (decN n).length ≤ 19 := decF_len 18 n
def sgnN (n : Int) : List UInt8 := if n < 0 then [45, 32] ++ decN n.natAbs else decN n.natAbs
theorem ok46 {n : Int} (h1 : -9223372036854775807 ≤ n) (h2 : n ≤ 9223372036854775807) : Ok Tryz.prog 46 [i64 n] H (.ret (st (B (sgnN n)))) H := by
 refine ok_fn hm Tryz.func46 c46 (by simp) fun hcl => ?_
 have h45 := fun H => ok45 (H := H) (n := n.natAbs) (by omega)
 have hl := decN_len n.natAbs
 by_cases h0 : n < 0
 · have e : ((n.natAbs : Nat) : Int) = -n := by omega
   have w : IntKind.i64.wrap (-n) = -n := wrap_id (by omega) (by omega)
   have hs : sgnN n = [45, 32] ++ decN n.natAbs := by unfold sgnN; rw [if_pos h0]
   rw [e] at h45
   rw [hs]
   simp -implicitDefEqProofs [i46, r46, h0, w]
   refine call_go (h45 _) ?_
   simp -implicitDefEqProofs [B_cat, B_size]
   exact ⟨by omega, cv_id⟩
 · have e : ((n.natAbs : Nat) : Int) = n := by omega
   have hs : sgnN n = decN n.natAbs := by unfold sgnN; rw [if_neg h0]
   rw [e] at h45
   rw [hs]
   simp -implicitDefEqProofs [i46, r46, h0]
   refine call_go (h45 _) ?_
   simp -implicitDefEqProofs
   exact cv_id
theorem ok44 (n lo : Int) : Ok Tryz.prog 44 [i64 n, i64 lo] H (.ret (bl (decide (lo ≤ n ∧ n ≤ 1000000000)))) H := by
 refine ok_fn hm Tryz.func44 c44 (by simp) fun hcl => ?_
 by_cases h1 : lo ≤ n
 · simp -implicitDefEqProofs [i44, r44, h1]
   exact cv_id
 · simp -implicitDefEqProofs [i44, r44, h1]
   exact cv_id
def nmdF (s : List UInt8) : Bool := decide (chkW 1 s 0 = 0) && !decide (s ∈ resv)
theorem ok43 {s : List UInt8} (h : s.length < 4611686018427387904) : Ok Tryz.prog 43 [st (B s)] H (.ret (bl (nmdF s))) H := by
 have h73 := fun H => ok73 (H := H) h 1 0 (i64 0) rfl rfl
 refine ok_fn hm Tryz.func43 c43 (by simp) fun hcl => ?_
 simp -implicitDefEqProofs [i43, r43]
 refine call_go (h73 _) ?_
 by_cases hc : chkW 1 s 0 = 0
 · simp -implicitDefEqProofs [hc]
   refine callq_st (r := bl (decide (s ∈ resv))) (fun _ => ok74 s) ?_
   simp -implicitDefEqProofs [hc, nmdF]
   exact cv_id
 · simp -implicitDefEqProofs [hc]
   refine callq_go (r := bl false) (fun h => by cases h) ?_
   simp -implicitDefEqProofs [hc, nmdF]
   exact cv_id
end
end Go.Proofs.YthmdmnfojbnobaaGreatDoor
namespace Go.Proofs.YthmdmnfojbnobaaGreatDoor
open Go.Ab
theorem decF_dig : ∀ (k n : Nat), n < 10 ^ (k + 1) -> ∀ c ∈ decF k n, 48 ≤ c.toNat ∧ c.toNat ≤ 57
 | 0, n, h, c, hc => by
  rw [decF, List.mem_singleton] at hc
  subst hc
  have : (UInt8.ofNat (48 + n)).toNat = 48 + n := by simp; omega
  omega
 | k + 1, n, h, c, hc => by
  rw [decF] at hc
  split at hc
  · rw [List.mem_append, List.mem_singleton] at hc
    rcases hc with hc | rfl
    · exact decF_dig k (n / 10) (by rw [Nat.pow_succ] at h; omega) c hc
    · have : (UInt8.ofNat (48 + n % 10)).toNat = 48 + n % 10 := by simp; omega
      omega
  · rw [List.mem_singleton] at hc
    subst hc
    have : (UInt8.ofNat (48 + n)).toNat = 48 + n := by simp; omega
    omega
theorem decF_pos (k n : Nat) : 0 < (decF k n).length := by
 cases k with
 | zero => simp [decF]
 | succ k => rw [decF]; split <;> simp
theorem decF_head : ∀ (k n : Nat), n < 10 ^ (k + 1) -> 0 < n -> (decF k n).getD 0 0 ≠ 48
 | 0, n, h, h0, hc => by
  rw [decF] at hc
  have : UInt8.ofNat (48 + n) = 48 := by simpa using hc
  have h2 : (UInt8.ofNat (48 + n)).toNat = 48 + n := by simp; omega
  rw [this] at h2
  have : (48 : UInt8).toNat = 48 := rfl
  omega
 | k + 1, n, h, h0, hc => by
  rw [decF] at hc
  split at hc
  · have hp := decF_pos k (n / 10)
    have e : (decF k (n / 10) ++ [UInt8.ofNat (48 + n % 10)]).getD 0 0 = (decF k (n / 10)).getD 0 0 := by
     rw [List.getD_eq_getElem?_getD, List.getD_eq_getElem?_getD, List.getElem?_append_left hp]
    rw [e] at hc
    exact decF_head k (n / 10) (by rw [Nat.pow_succ] at h; omega) (by omega) hc
  · have : UInt8.ofNat (48 + n) = 48 := by simpa using hc
    have h2 : (UInt8.ofNat (48 + n)).toNat = 48 + n := by simp; omega
    rw [this] at h2
    have : (48 : UInt8).toNat = 48 := rfl
    omega
theorem numR_app : ∀ (a b : List UInt8) (m : Int), (numR a m).1 = 0 -> numR (a ++ b) m = numR b (numR a m).2
 | [], b, m, _ => rfl
 | c :: a, b, m, h => by
  rw [List.cons_append, numR, numR]
  rw [numR] at h
  split
  · rename_i h2; rw [if_pos h2] at h; exact absurd h (show ¬ (2 : Int) = 0 by decide)
  · rename_i h2; rw [if_neg h2] at h; exact numR_app a b _ h
theorem numR_dec : ∀ (k n : Nat), n < 10 ^ (k + 1) -> n ≤ 1000000000 -> numR (decF k n) 0 = (0, (n : Int))
 | 0, n, h, hn => by
  have h2 : (UInt8.ofNat (48 + n)).toNat = 48 + n := by simp; omega
  rw [decF, numR, h2, if_neg (by omega), numR]
  congr 1; omega
 | k + 1, n, h, hn => by
  rw [decF]
  split
  · have ih := numR_dec k (n / 10) (by rw [Nat.pow_succ] at h; omega) (by omega)
    rw [numR_app _ _ _ (by rw [ih]), ih]
    have h2 : (UInt8.ofNat (48 + n % 10)).toNat = 48 + n % 10 := by simp; omega
    simp only [numR]
    rw [h2, if_neg (by omega)]
    congr 1; omega
  · have h2 : (UInt8.ofNat (48 + n)).toNat = 48 + n := by simp; omega
    rw [numR, h2, if_neg (by omega), numR]
    congr 1; omega
inductive TK where
 | wd (s : List UInt8)
 | sg (s : List UInt8)
 | nm (n : Nat)
inductive Pc where
 | b (c : UInt8)
 | t (k : TK)
def TK.tx : TK -> List UInt8
 | .wd s => s
 | .sg s => s
 | .nm n => decN n
def txt : List Pc -> List UInt8
 | [] => []
 | .b c :: r => c :: txt r
 | .t k :: r => k.tx ++ txt r
def tks : List Pc -> List TK
 | [] => []
 | .b _ :: r => tks r
 | .t k :: r => k :: tks r
theorem txt_app : ∀ a b : List Pc, txt (a ++ b) = txt a ++ txt b
 | [], b => rfl
 | .b c :: a, b => by simp [txt, txt_app a b]
 | .t k :: a, b => by simp [txt, txt_app a b]
theorem tks_app : ∀ a b : List Pc, tks (a ++ b) = tks a ++ tks b
 | [], b => rfl
 | .b c :: a, b => by simp [tks, tks_app a b]
 | .t k :: a, b => by simp [tks, tks_app a b]
def Fits (t : Tok) : TK -> Prop
 | .wd s => t.k = 1 ∧ t.tx = s
 | .sg s => t.k = 3 ∧ t.tx = s
 | .nm n => t.k = 2 ∧ t.n = n
inductive All2 : List Tok -> List TK -> Prop
 | nil : All2 [] []
 | cons {t : Tok} {k : TK} {ts : List Tok} {ks : List TK} : Fits t k -> All2 ts ks -> All2 (t :: ts) (k :: ks)
def isWd (s : List UInt8) : Prop := s ≠ [] ∧ cAt s 0 = 2 ∧ (∀ i, i < s.length -> cAt s i = 2 ∨ cAt s i = 3) ∧ s.length ≤ 40
def isSg (s : List UInt8) : Prop := (∃ c ∈ sgls, s = [c]) ∨ s ∈ dbls
def TK.ok : TK -> Prop
 | .wd s => isWd s
 | .sg s => isSg s
 | .nm n => n ≤ 1000000000
def TK.sep : TK -> List UInt8 -> Prop
 | .sg s, r => s.length = 2 ∨ (r.getD 0 0 ≠ 61 ∧ r.getD 0 0 ≠ 46)
 | _, r => cAt r 0 ≠ 2 ∧ cAt r 0 ≠ 3
def good : List Pc -> Prop
 | [] => True
 | .b c :: r => (c = 32 ∨ c = 10) ∧ good r
 | .t k :: r => k.ok ∧ k.sep (txt r) ∧ good r
theorem runE_through {s r : List UInt8} {cs : List Int} (hs : ∀ i, i < s.length -> cAt s i ∈ cs) (hr : cAt r 0 ∉ cs) : runE (s ++ r) cs 0 = s.length := by
 have key : ∀ k, k ≤ s.length -> runE (s ++ r) cs (s.length - k) = s.length := by
  intro k
  induction k with
  | zero =>
   intro _
   refine runE_stop fun h => hr ?_
   have := cAt_app (a := s) (b := r) (p := 0)
   rw [← this]; exact h.2
  | succ k ih =>
   intro hk
   rw [runE_step (by simp; omega) (by rw [cAt_left (by omega)]; exact hs _ (by omega)), show s.length - (k + 1) + 1 = s.length - k by omega]
   exact ih (by omega)
 have := key s.length (Nat.le_refl _)
 rwa [Nat.sub_self] at this
theorem cut_front (s r : List UInt8) : cut (s ++ r) 0 s.length = s := by simp [cut]
theorem cAt_head {s r : List UInt8} (h : s ≠ []) : cAt (s ++ r) 0 = cAt s 0 := cAt_left (List.length_pos_iff.2 h)
theorem step_wd {s r : List UInt8} (h : isWd s) (hr : cAt r 0 ≠ 2 ∧ cAt r 0 ≠ 3) : stepT (s ++ r) 0 = .tok ⟨1, s, 0, 0⟩ s.length := by
 obtain ⟨h0, h1, h2, h3⟩ := h
 have hru := runE_through (cs := [2, 3]) (fun i hi => by simpa using h2 i hi) (by simpa using hr)
 unfold stepT
 rw [cAt_head h0, h1, if_neg (by decide), if_pos rfl, hru]
 unfold mkStp
 rw [cut_front]
 have hw : whE (s ++ r) 1 s 0 = (0, 0) := by
  unfold whE
  rw [if_neg (by simp [h0]), if_neg (by omega), if_pos (by decide)]
 rw [hw, if_neg (fun h => h rfl)]
theorem cls_dig {c : UInt8} (h : 48 ≤ c.toNat ∧ c.toNat ≤ 57) : cls c.toNat = 3 :=
 (cls_at c.toNat_lt).2.1.2 (by simp [dgtB]; omega)
theorem cAt_dig {s : List UInt8} (hs : ∀ c ∈ s, 48 ≤ c.toNat ∧ c.toNat ≤ 57) {i : Nat} (h : i < s.length) : cAt s i = 3 := by
 unfold cAt
 rw [List.getD_eq_getElem?_getD, List.getElem?_eq_getElem h]
 exact cls_dig (hs _ (List.getElem_mem h))
theorem step_nm {n : Nat} {r : List UInt8} (h : n ≤ 1000000000) (hr : cAt r 0 ≠ 3) : stepT (decN n ++ r) 0 = .tok ⟨2, decN n, n, 0⟩ (decN n).length := by
 have hlt : n < 10 ^ (18 + 1) := by omega
 have hd := decF_dig 18 n hlt
 have hp := decF_pos 18 n
 have hh := fun h0 => decF_head 18 n hlt h0
 have hn := numR_dec 18 n hlt h
 have hz : n = 0 -> decF 18 n = [48] := fun h => by subst h; rfl
 show stepT (decF 18 n ++ r) 0 = _
 unfold decN
 generalize decF 18 n = s at *
 have hne : s ≠ [] := List.length_pos_iff.1 hp
 have hru := runE_through (cs := [3]) (s := s) (r := r) (fun i hi => by simpa using cAt_dig hd hi) (by simpa using hr)
 unfold stepT
 rw [cAt_head hne, cAt_dig hd hp, if_neg (by decide), if_neg (by decide), if_pos rfl, hru]
 unfold mkStp
 rw [cut_front]
 have hw : whE (s ++ r) 2 s 0 = (0, (n : Int)) := by
  unfold whE
  rw [if_neg (by simp [hne]), if_neg (by simp), if_neg (by decide), if_neg ?_, hn]
  rintro ⟨g1, g2⟩
  by_cases h0 : n = 0
  · rw [hz h0] at g1; simp at g1
  · exact hh (by omega) g2
 rw [hw, if_neg (fun h => h rfl)]
theorem step_sg {s r : List UInt8} (h : isSg s) (hr : s.length = 2 ∨ (r.getD 0 0 ≠ 61 ∧ r.getD 0 0 ≠ 46)) : stepT (s ++ r) 0 = .tok ⟨3, s, 0, 0⟩ s.length := by
 have h4 : cAt s 0 = 4 ∧ s ≠ [] ∧ signE (s ++ r) 0 = s.length := by
  rcases h with ⟨c, hc, rfl⟩ | hd
  · have hr : r.getD 0 0 ≠ 61 ∧ r.getD 0 0 ≠ 46 := by
     rcases hr with hr | hr
     · simp at hr
     · exact hr
    refine ⟨?_, by simp, ?_⟩
    · simp only [sgls, List.mem_cons, List.not_mem_nil, or_false] at hc
      rcases hc with rfl | rfl | rfl | rfl | rfl | rfl | rfl | rfl | rfl | rfl | rfl | rfl | rfl | rfl | rfl <;> decide
    · have hnd : isDbl (c :: r) = false := by
       cases r with
       | nil =>
        simp only [sgls, List.mem_cons, List.not_mem_nil, or_false] at hc
        rcases hc with rfl | rfl | rfl | rfl | rfl | rfl | rfl | rfl | rfl | rfl | rfl | rfl | rfl | rfl | rfl <;> decide
       | cons d r =>
        have hd1 : d ≠ 61 := by simpa using hr.1
        have hd2 : d ≠ 46 := by simpa using hr.2
        simp [isDbl, dbls, List.isPrefixOf, Ne.symm hd1, Ne.symm hd2]
      have hc33 : c ≠ 33 ∧ c ≠ 46 := by
       simp only [sgls, List.mem_cons, List.not_mem_nil, or_false] at hc
       rcases hc with rfl | rfl | rfl | rfl | rfl | rfl | rfl | rfl | rfl | rfl | rfl | rfl | rfl | rfl | rfl <;> decide
      unfold signE
      simp [hnd, hc33]
  · simp only [dbls, List.mem_cons, List.not_mem_nil, or_false] at hd
    have hp : isDbl (s ++ r) = true := by
     rcases hd with rfl | rfl | rfl | rfl | rfl <;> simp [isDbl, dbls, List.isPrefixOf]
    refine ⟨?_, ?_, ?_⟩
    · rcases hd with rfl | rfl | rfl | rfl | rfl <;> decide
    · rcases hd with rfl | rfl | rfl | rfl | rfl <;> simp
    · unfold signE
      simp only [List.drop_zero, hp, if_true]
      rcases hd with rfl | rfl | rfl | rfl | rfl <;> rfl
 obtain ⟨h4, h0, hs⟩ := h4
 unfold stepT
 rw [cAt_head h0, h4, if_neg (by decide), if_neg (by decide), if_neg (by decide), if_pos rfl, hs]
 unfold mkStp
 rw [cut_front]
 have hw : whE (s ++ r) 3 s 0 = (0, 0) := by
  unfold whE
  rw [if_neg (by simp [h0]), if_neg (by simp), if_pos (by decide)]
 rw [hw, if_neg (fun h => h rfl)]
theorem whE_far {l l' tx : List UInt8} {k : Int} {p p' : Nat} (h : k ≠ 1) : whE l k tx p = whE l' k tx p' := by
 unfold whE; simp [h]
theorem stepT_app2 {a b : List UInt8} (h : (a = [] ∨ cAt a (a.length - 1) ≠ 3) ∨ cAt b 0 ≠ 2) : stepT (a ++ b) a.length = (stepT b 0).mv a.length := by
 rcases h with h | h
 · exact stepT_app (p := 0) fun _ => h
 · have hm : ∀ (k : Int) (q : Nat), k ≠ 1 -> mkStp (a ++ b) (a.length + 0) k (a.length + q) = (mkStp b 0 k q).mv a.length := by
    intro k q hk
    unfold mkStp
    rw [cut_app, whE_far (l' := b) (p' := 0) hk]
    split <;> rfl
   show stepT (a ++ b) (a.length + 0) = _
   unfold stepT
   rw [cAt_app, runE_app, runE_app, signE_app, getD_app, drop_app, if_neg h, if_neg h, hm 2 _ (by decide), hm 3 _ (by decide), hm 0 0 (by decide)]
   split
   · rfl
   · split
     · rfl
     · split
       · rfl
       · split
         · first | rfl | (simp only [Stp.mv, Nat.add_zero, Nat.zero_add])
         · rfl
theorem evs_txt : ∀ (ps : List Pc), good ps -> ∀ (a : List UInt8) (n : Nat), (txt ps).length ≤ n -> ((a = [] ∨ cAt a (a.length - 1) ≠ 3) ∨ cAt (txt ps) 0 ≠ 2) →
 ∃ ts : List Tok, evs (a ++ txt ps) n a.length = ts.map .tok ∧ All2 ts (tks ps)
 | [], _, a, n, _, _ => by
  refine ⟨[], ?_, .nil⟩
  cases n with
  | zero => rfl
  | succ n => simp [evs, txt]
 | .b c :: r, hg, a, n, hn, hc => by
  obtain ⟨h1, h2⟩ := hg
  rw [txt] at hn hc ⊢
  cases n with
  | zero => simp at hn
  | succ n =>
   have hcl : cAt (c :: txt r) 0 = 1 := by rcases h1 with rfl | rfl <;> rfl
   have hst : stepT (a ++ c :: txt r) a.length = .skip (a.length + 1) := by
    rw [stepT_app2 hc]
    unfold stepT
    rw [hcl, if_pos rfl]; rfl
   have e : a ++ c :: txt r = (a ++ [c]) ++ txt r := by simp
   have hl : (a ++ [c]).length = a.length + 1 := by simp
   obtain ⟨ts, g1, g2⟩ := evs_txt r h2 (a ++ [c]) n (by simpa using hn) (.inl (.inr (by
    have := cAt_app (a := a) (b := [c]) (p := 0)
    rw [hl, Nat.add_sub_cancel, <- Nat.add_zero a.length, this]
    rcases h1 with rfl | rfl <;> decide)))
   refine ⟨ts, ?_, g2⟩
   rw [evs, if_pos (by simp), hst]
   simp only
   rw [e, <- hl]
   exact g1
 | .t k :: r, hg, a, n, hn, hc => by
  obtain ⟨h1, h2, h3⟩ := hg
  rw [txt] at hn hc ⊢
  have hkt : ∃ t : Tok, stepT (k.tx ++ txt r) 0 = .tok t k.tx.length ∧ Fits t k ∧ 0 < k.tx.length ∧ ((cAt k.tx (k.tx.length - 1) ≠ 3) ∨ cAt (txt r) 0 ≠ 2) := by
   cases k with
   | wd s => exact ⟨_, step_wd h1 h2, ⟨rfl, rfl⟩, List.length_pos_iff.2 h1.1, .inr h2.1⟩
   | nm n => exact ⟨_, step_nm h1 h2.2, ⟨rfl, rfl⟩, decF_pos 18 n, .inr h2.1⟩
   | sg s =>
    refine ⟨_, step_sg h1 h2, ⟨rfl, rfl⟩, ?_, .inl ?_⟩
    · rcases h1 with ⟨c, _, rfl⟩ | hd
      · exact Nat.one_pos
      · simp only [dbls, List.mem_cons, List.not_mem_nil, or_false] at hd
        rcases hd with rfl | rfl | rfl | rfl | rfl <;> decide
    · rcases h1 with ⟨c, hcs, rfl⟩ | hd
      · simp only [sgls, List.mem_cons, List.not_mem_nil, or_false] at hcs
        rcases hcs with rfl | rfl | rfl | rfl | rfl | rfl | rfl | rfl | rfl | rfl | rfl | rfl | rfl | rfl | rfl <;> decide
      · simp only [dbls, List.mem_cons, List.not_mem_nil, or_false] at hd
        rcases hd with rfl | rfl | rfl | rfl | rfl <;> decide
  obtain ⟨t, ht, hf, hp, hl⟩ := hkt
  cases n with
  | zero => rw [List.length_append] at hn; omega
  | succ n =>
   have hst : stepT (a ++ (k.tx ++ txt r)) a.length = .tok (t.mv a.length) (a.length + k.tx.length) := by
    rw [stepT_app2 hc, ht]; rfl
   have e : a ++ (k.tx ++ txt r) = (a ++ k.tx) ++ txt r := by simp
   have hal : (a ++ k.tx).length = a.length + k.tx.length := by simp
   obtain ⟨ts, g1, g2⟩ := evs_txt r h3 (a ++ k.tx) n (by rw [List.length_append] at hn; omega) (by
    rcases hl with hl | hl
    · refine .inl (.inr ?_)
      have := cAt_app (a := a) (b := k.tx) (p := k.tx.length - 1)
      rw [hal, show a.length + k.tx.length - 1 = a.length + (k.tx.length - 1) by omega, this]
      exact hl
    · exact .inr hl)
   refine ⟨t.mv a.length :: ts, ?_, .cons ?_ g2⟩
   · rw [evs, if_pos (by simp; omega), hst]
     simp only [List.map_cons]
     rw [e, <- hal, g1]
   · cases k <;> exact hf
theorem toks_map : ∀ ts : List Tok, toks (ts.map .tok) = ts
 | [] => rfl
 | t :: r => by simp [toks, toks_map r]
theorem scan_txt {ps : List Pc} (hg : good ps) (hf : (scanG (txt ps)).2.1 = 0) : All2 (scanG (txt ps)).1 (tks ps) := by
 obtain ⟨ts, g1, g2⟩ := evs_txt ps hg [] (txt ps).length (Nat.le_refl _) (.inl (.inl rfl))
 have g1 : evsT (txt ps) = ts.map .tok := g1
 unfold scanG at hf ⊢
 split at hf
 · exact absurd hf (by decide)
 · rename_i h1
   split at hf
   · rename_i h2
     rw [if_neg h1, if_pos h2, g1, toks_map]; exact g2
   · rename_i h2; exact absurd hf h2
end Go.Proofs.YthmdmnfojbnobaaGreatDoor
namespace Go.Proofs.YthmdmnfojbnobaaGreatDoor
open Go.Ab
theorem runE_stop_le {s : List UInt8} {cs : List Int} {i : Nat} (hi : cAt s i ∉ cs) : ∀ k, k ≤ i -> runE s cs (i - k) ≤ i := by
 intro k
 induction k with
 | zero => intro _; rw [Nat.sub_zero, runE_stop (fun h => hi h.2)]; exact Nat.le_refl _
 | succ k ih =>
  intro hk
  by_cases h : i - (k + 1) < s.length ∧ cAt s (i - (k + 1)) ∈ cs
  · rw [runE_step h.1 h.2, show i - (k + 1) + 1 = i - k by omega]; exact ih (by omega)
  · rw [runE_stop h]; omega
theorem runE_mem {s : List UInt8} {cs : List Int} (h : runE s cs 0 = s.length) {i : Nat} (hi : i < s.length) : cAt s i ∈ cs := by
 by_cases hc : cAt s i ∈ cs
 · exact hc
 · have := runE_stop_le hc i (Nat.le_refl _)
   rw [Nat.sub_self] at this
   omega
theorem wd_of {s : List UInt8} (h : chkW 1 s 0 = 0) : isWd s := by
 unfold chkW at h
 split at h
 · exact absurd h (by decide)
 · rename_i h0
   have hne : s ≠ [] := fun e => h0 (.inl e)
   have c1 : cAt s 0 ≠ 1 := fun e => h0 (.inr (.inr (.inr (.inl e))))
   have c5 : s.getD 0 0 ≠ 35 := fun e => h0 (.inr (.inr (.inr (.inr e))))
   split at h
   · rename_i t q hst
     split at h
     · exact absurd h (by decide)
     · rename_i hq
       have hq1 : q = s.length := by
        by_cases e : q = s.length
        · exact e
        · exact absurd (.inl e) hq
       have hk : t.k = 1 := by
        by_cases e : t.k = 1
        · exact e
        · exact absurd (.inr e) hq
       unfold stepT at hst
       rw [if_neg c1] at hst
       have key : ∀ k q', mkStp s 0 k q' = .tok t q -> t.k = k ∧ q = q' ∧ (whE s k (cut s 0 q') 0).1 = 0 := by
        intro k q' hm
        unfold mkStp at hm
        split at hm
        · cases hm
        · rename_i hw
          injection hm with a b
          refine ⟨?_, b.symm, ?_⟩
          · rw [← a]
          · by_cases e : (whE s k (cut s 0 q') 0).1 = 0
            · exact e
            · exact absurd e hw
       split at hst
       · rename_i c2
         obtain ⟨_, k2, k3⟩ := key _ _ hst
         have hr : runE s [2, 3] 0 = s.length := by omega
         refine ⟨hne, c2, fun i hi => by simpa using runE_mem hr hi, ?_⟩
         rw [hr] at k3
         have hcut : cut s 0 s.length = s := by simp [cut]
         rw [hcut] at k3
         unfold whE at k3
         split at k3
         · exact absurd k3 (show ¬ (11 : Int) = 0 by decide)
         · split at k3
           · exact absurd k3 (show ¬ (4 : Int) = 0 by decide)
           · rename_i h40; omega
       · split at hst
         · obtain ⟨k1, _⟩ := key _ _ hst; omega
         · split at hst
           · obtain ⟨k1, _⟩ := key _ _ hst; omega
           · first
             | (obtain ⟨k1, _⟩ := key _ _ hst; omega)
             | (rw [if_neg c5] at hst; obtain ⟨k1, _⟩ := key _ _ hst; omega)
   · exact absurd h (by decide)
def Rem (c : Cx) (a : Nat) (L : List TK) : Prop := All2 (c.ts.drop a) L
theorem Rem.lt {c : Cx} {a : Nat} {k : TK} {L : List TK} (h : Rem c a (k :: L)) : ∃ h : a < c.ts.length, Fits c.ts[a] k := by
 unfold Rem at h
 by_cases ha : a < c.ts.length
 · rw [List.drop_eq_getElem_cons ha] at h
   cases h with
   | cons h1 h2 => exact ⟨ha, h1⟩
 · rw [List.drop_of_length_le (by omega)] at h; cases h
theorem Rem.next {c : Cx} {a : Nat} {k : TK} {L : List TK} (h : Rem c a (k :: L)) : Rem c (a + 1) L := by
 obtain ⟨ha, _⟩ := h.lt
 unfold Rem at h ⊢
 rw [List.drop_eq_getElem_cons ha] at h
 cases h with
 | cons h1 h2 => exact h2
theorem Rem.end {c : Cx} {a : Nat} (h : Rem c a []) : c.ts.length ≤ a := by
 by_cases ha : a < c.ts.length
 · unfold Rem at h
   rw [List.drop_eq_getElem_cons ha] at h
   cases h
 · omega
def pk (L : List TK) (s : List UInt8) : Bool := match L with
 | .wd w :: _ => decide (w = s)
 | .sg w :: _ => decide (w = s)
 | _ => false
def fre (L : List TK) : Bool := match L with
 | .wd w :: _ => !decide (w ∈ resv)
 | _ => false
def isn (L : List TK) : Bool := match L with
 | .nm _ :: _ => true
 | _ => false
structure Sta (c : Cx) (d : Nat) (r : Rd) (L : List TK) : Prop where
 e : r.e = 0
 rem : Rem c r.a L
 v : r.v + d = 40
 d : d ≤ 40
theorem Sta.peek {c : Cx} {d : Nat} {r : Rd} {L : List TK} (h : Sta c d r L) (s : List UInt8) : peekR c s r = pk L s := by
 unfold peekR tokB
 rw [h.e]
 cases L with
 | nil =>
  have := h.rem.end
  rw [dif_neg (by omega)]; rfl
 | cons k L =>
  obtain ⟨ha, hf⟩ := h.rem.lt
  rw [dif_pos ha]
  cases k with
  | wd w => simp [pk, hf.1, hf.2]
  | sg w => simp [pk, hf.1, hf.2]
  | nm n => simp [pk, hf.1]
theorem Sta.free {c : Cx} {d : Nat} {r : Rd} {L : List TK} (h : Sta c d r L) : freeR c r = fre L := by
 unfold freeR tokB
 rw [h.e]
 cases L with
 | nil =>
  have := h.rem.end
  rw [dif_neg (by omega)]; rfl
 | cons k L =>
  obtain ⟨ha, hf⟩ := h.rem.lt
  rw [dif_pos ha]
  cases k with
  | wd w => simp [hf.1, hf.2, fre]
  | sg w => simp [hf.1, fre]
  | nm n => simp [hf.1, fre]
theorem Sta.num {c : Cx} {d : Nat} {r : Rd} {L : List TK} (h : Sta c d r L) : isNum c r = isn L := by
 unfold isNum tokB
 rw [h.e]
 cases L with
 | nil =>
  have := h.rem.end
  rw [dif_neg (by omega)]; rfl
 | cons k L =>
  obtain ⟨ha, hf⟩ := h.rem.lt
  rw [dif_pos ha]
  cases k with
  | wd w => simp [hf.1, isn]
  | sg w => simp [hf.1, isn]
  | nm n => simp [hf.1, isn]
theorem Sta.next {c : Cx} {d : Nat} {r : Rd} {k : TK} {L : List TK} (h : Sta c d r (k :: L)) : Sta c d (nextR r) L := ⟨h.e, h.rem.next, h.v, h.d⟩
theorem Sta.take {c : Cx} {d : Nat} {r : Rd} {k : TK} {L : List TK} {s : List UInt8} (h : Sta c d r (k :: L)) (hk : pk (k :: L) s = true) : (takeR c s r).2 = nextR r ∧ Sta c d (takeR c s r).2 L := by
 have e : (takeR c s r).2 = nextR r := by unfold takeR; rw [h.peek, if_pos hk]
 exact ⟨e, e ▸ h.next⟩
theorem Sta.word {c : Cx} {d : Nat} {r : Rd} {w : List UInt8} {L : List TK} (h : Sta c d r (.wd w :: L)) (hw : w ∉ resv) : wordR c r = (w, nextR r) ∧ Sta c d (nextR r) L := by
 refine ⟨?_, h.next⟩
 obtain ⟨ha, hf⟩ := h.rem.lt
 unfold wordR
 rw [if_pos (by rw [h.free]; simpa [fre] using hw), List.getD_eq_getElem?_getD, List.getElem?_eq_getElem ha]
 simp [hf.2]
theorem Sta.numb {c : Cx} {d : Nat} {r : Rd} {n : Nat} {L : List TK} (h : Sta c d r (.nm n :: L)) : nmR c r = ((n : Int), nextR r) ∧ Sta c d (nextR r) L := by
 refine ⟨?_, h.next⟩
 obtain ⟨ha, hf⟩ := h.rem.lt
 unfold nmR
 rw [if_pos (by rw [h.num]; rfl), List.getD_eq_getElem?_getD, List.getElem?_eq_getElem ha]
 simp [hf.2]
mutual
def Ex.er : Ex -> Ex
 | .mk op n nm l _ => .mk op n nm (Ex.erL l) 0
def Ex.erL : List Ex -> List Ex
 | [] => []
 | e :: r => e.er :: Ex.erL r
end
def Reads (c : Cx) (d : Nat) (F : Rd -> Ex × Rd) (l : List TK) (e : Ex) (st : List TK -> Prop) : Prop :=
 ∀ r L, Sta c d r (l ++ L) -> st L -> (F r).2.e ≠ 0 ∨ (Sta c d (F r).2 L ∧ (F r).1.er = e.er)
def noOp (ops : List (List UInt8 × Int)) (L : List TK) : Prop := ∀ o ∈ ops, pk L o.1 = false
theorem opAt_none {c : Cx} {ops : List (List UInt8 × Int)} {r : Rd} (h : ∀ o ∈ ops, peekR c o.1 r = false) : opAt c ops r = none := by
 unfold opAt
 rw [Option.map_eq_none_iff, List.find?_eq_none]
 intro o ho; rw [h o ho]; decide
theorem Sta.none {c : Cx} {d : Nat} {r : Rd} {L : List TK} {ops : List (List UInt8 × Int)} (h : Sta c d r L) (hn : noOp ops L) : opAt c ops r = none := opAt_none fun o ho => by rw [h.peek]; exact hn o ho
theorem Sta.some {c : Cx} {d : Nat} {r : Rd} {k : TK} {L : List TK} {ops : List (List UInt8 × Int)} {s : List UInt8} {op : Int} (h : Sta c d r (k :: L)) (hk : k = .sg s ∨ k = .wd s) (hf : (ops.find? fun o => decide (s = o.1)).map (·.2) = .some op) : opAt c ops r = .some op := by
 unfold opAt
 have e : (fun o : List UInt8 × Int => peekR c o.1 r) = fun o => decide (s = o.1) := by
  funext o
  rw [h.peek]
  rcases hk with rfl | rfl <;> rfl
 rw [e]; exact hf
theorem binL_stop {c : Cx} {ops : List (List UInt8 × Int)} {f : Rd -> Ex × Rd} {e : Ex} {r : Rd} (h : opAt c ops r = .none) (n : Nat) : binL c ops f n e r = (e, r) := by
 cases n with
 | zero => rfl
 | succ n => rw [binL, h]
section
variable {c : Cx} {d : Nat} {F : Rd -> Ex × Rd} {l la lb : List TK} {e a b : Ex} {st sa sb : List TK -> Prop} {ops : List (List UInt8 × Int)}
theorem Reads.pass (h : Reads c d F l e st) : Reads c d (binF c ops F) l e (fun L => st L ∧ noOp ops L) := by
 intro r L hs ⟨h1, h2⟩
 unfold binF
 rcases h r L hs h1 with hb | ⟨hg, he⟩
 · rw [binL_stop (opAt_bad hb _)]; exact .inl hb
 · rw [binL_stop (hg.none h2)]; exact .inr ⟨hg, he⟩
theorem Reads.op {k : TK} {s : List UInt8} {op : Int} (hst : Still F) (ha : Reads c d F la a sa) (hb : Reads c d F lb b sb) (hk : k = .sg s ∨ k = .wd s) (hf : (ops.find? fun o => decide (s = o.1)).map (·.2) = .some op) (hs : ∀ L, sa (k :: L)) :
 Reads c d (binF c ops F) (la ++ k :: lb) (.mk op 0 [] [a, b] 0) (fun L => sb L ∧ noOp ops L) := by
 intro r L h ⟨h1, h2⟩
 unfold binF
 rw [List.append_assoc] at h
 rcases ha r _ h (hs _) with hb1 | ⟨hg, he⟩
 · rw [binL_stop (opAt_bad hb1 _)]; exact .inl hb1
 · have hpos : 0 < c.ts.length := by obtain ⟨hh, _⟩ := hg.rem.lt; omega
   obtain ⟨n, hn⟩ : ∃ n, c.ts.length = n + 1 := ⟨c.ts.length - 1, by omega⟩
   rw [hn, binL, hg.some hk hf]
   simp only
   rcases hb _ L hg.next h1 with hb2 | ⟨hg2, he2⟩
   · rw [binL_stop (opAt_bad hb2 _)]; exact .inl hb2
   · rw [binL_stop (hg2.none h2)]
     refine .inr ⟨hg2, ?_⟩
     simp only [Ex.er, Ex.erL, he, he2]
theorem Reads.cpass (h : Reads c d F l e st) : Reads c d (cmpF c F) l e (fun L => st L ∧ noOp cmpO L) := by
 intro r L hs ⟨h1, h2⟩
 unfold cmpF
 rcases h r L hs h1 with hb | ⟨hg, he⟩
 · rw [opAt_bad hb _]; exact .inl hb
 · rw [hg.none h2]; exact .inr ⟨hg, he⟩
theorem Reads.cop {k : TK} {s : List UInt8} {op : Int} (ha : Reads c d F la a sa) (hb : Reads c d F lb b sb) (hk : k = .sg s ∨ k = .wd s) (hf : (cmpO.find? fun o => decide (s = o.1)).map (·.2) = .some op) (hs : ∀ L, sa (k :: L)) :
 Reads c d (cmpF c F) (la ++ k :: lb) (.mk op 0 [] [a, b] 0) sb := by
 intro r L h h1
 unfold cmpF
 rw [List.append_assoc] at h
 rcases ha r _ h (hs _) with hb1 | ⟨hg, he⟩
 · rw [opAt_bad hb1 _]; exact .inl hb1
 · rw [hg.some hk hf]
   simp only
   rcases hb _ L hg.next h1 with hb2 | ⟨hg2, he2⟩
   · exact .inl hb2
   · refine .inr ⟨hg2, ?_⟩
     simp only [Ex.er, Ex.erL, he, he2]
end
end Go.Proofs.YthmdmnfojbnobaaGreatDoor
namespace Go.Proofs.YthmdmnfojbnobaaGreatDoor
open Go.Ab
section
variable {c : Cx} {d : Nat}
theorem open_zero {r : Rd} {L : List TK} {k : TK} {s : List UInt8} (h : Sta c 0 r (k :: L)) (hk : pk (k :: L) s = true) : (openR c s r).2.e ≠ 0 := by
 have hv : r.v = 40 := by have := h.v; omega
 unfold openR
 rw [h.peek, if_pos ⟨hk, hv⟩]
 have hb : (upR (failR c 5 r)).e ≠ 0 := by
  unfold failR upR
  rw [if_pos h.e]; show ¬ (5 : Int) = 0; decide
 rw [take_still s _ hb]; exact hb
theorem open_succ {r : Rd} {L : List TK} {k : TK} {s : List UInt8} (h : Sta c (d + 1) r (k :: L)) (hk : pk (k :: L) s = true) : Sta c d (openR c s r).2 L := by
 have hv := h.v
 have hd := h.d
 unfold openR
 rw [h.peek, if_neg (by rintro ⟨_, h2⟩; omega)]
 have hw : IntKind.i64.wrap (r.v + 1) = r.v + 1 := wrap_id (by omega) (by omega)
 have hu : Sta c d (upR r) (k :: L) := ⟨h.e, h.rem, by show IntKind.i64.wrap (r.v + 1) + (d : Int) = 40; rw [hw]; omega, by omega⟩
 exact (hu.take hk).2
theorem down {r : Rd} {L : List TK} (h : Sta c d r L) (hd : d + 1 ≤ 40) : Sta c (d + 1) (dnR r) L := by
 have hv := h.v
 have hw : IntKind.i64.wrap (r.v - 1) = r.v - 1 := wrap_id (by omega) (by omega)
 exact ⟨h.e, h.rem, by show IntKind.i64.wrap (r.v - 1) + ((d + 1 : Nat) : Int) = 40; rw [hw]; omega, hd⟩
theorem dn_e (r : Rd) : (dnR r).e = r.e := rfl
variable {cmp ntP orP facP : Rd -> Ex × Rd} {l la : List TK} {e a : Ex} {st sa : List TK -> Prop}
theorem Reads.npass (h : Reads c d cmp l e st) (hn : ∀ L, pk (l ++ L) [110, 111, 116] = false) : Reads c d (notG c cmp ntP) l e st := by
 intro r L hs h1
 unfold notG
 rw [hs.peek, if_neg (by rw [hn L]; decide)]
 exact h r L hs h1
theorem Reads.nop (ha : Reads c d ntP la a sa) : Reads c (d + 1) (notG c cmp ntP) (.wd [110, 111, 116] :: la) (.mk 4 0 [] [a] 0) sa := by
 intro r L hs h1
 have ho := open_succ (s := [110, 111, 116]) hs rfl
 unfold notG
 have hp : peekR c [110, 111, 116] r = true := by rw [hs.peek]; rfl
 rw [if_pos hp, if_neg (fun h => h ho.e)]
 rcases ha _ L ho h1 with hb | ⟨hg, he⟩
 · exact .inl hb
 · exact .inr ⟨down hg hs.d, by simp only [Ex.er, Ex.erL, he]⟩
theorem Reads.nop0 {sa : List TK -> Prop} : Reads c 0 (notG c cmp ntP) (.wd [110, 111, 116] :: la) e sa := by
 intro r L hs h1
 have ho := open_zero (s := [110, 111, 116]) hs rfl
 unfold notG
 have hp : peekR c [110, 111, 116] r = true := by rw [hs.peek]; rfl
 rw [if_pos hp, if_pos ho]
 exact .inl ho
theorem Reads.name {w : List UInt8} (hw : w ∉ resv) : Reads c d (facG c orP facP) [.wd w] (.mk 2 0 w [] 0) (fun _ => True) := by
 intro r L hs _
 have hs : Sta c d r (.wd w :: L) := hs
 unfold facG
 rw [if_neg (fun h => h hs.e), if_pos (by rw [hs.free]; simpa [fre] using hw)]
 obtain ⟨h1, h2⟩ := hs.word hw
 rw [h1]
 exact .inr ⟨h2, by simp only [Ex.er, Ex.erL]⟩
theorem Reads.neg (ha : Reads c d facP la a sa) : Reads c (d + 1) (facG c orP facP) (.sg [45] :: la) (.mk 3 0 [] [a] 0) sa := by
 intro r L hs h1
 have ho := open_succ (s := [45]) hs rfl
 unfold facG
 have hp : peekR c [45] r = true := by rw [hs.peek]; rfl
 have hf : freeR c r = false := by rw [hs.free]; rfl
 rw [if_neg (fun h => h hs.e), if_neg (by rw [hf]; decide), if_pos hp, if_neg (fun h => h ho.e)]
 rcases ha _ L ho h1 with hb | ⟨hg, he⟩
 · exact .inl hb
 · exact .inr ⟨down hg hs.d, by simp only [Ex.er, Ex.erL, he]⟩
theorem Reads.neg0 {sa : List TK -> Prop} : Reads c 0 (facG c orP facP) (.sg [45] :: la) e sa := by
 intro r L hs h1
 have ho := open_zero (s := [45]) hs rfl
 unfold facG
 have hp : peekR c [45] r = true := by rw [hs.peek]; rfl
 have hf : freeR c r = false := by rw [hs.free]; rfl
 rw [if_neg (fun h => h hs.e), if_neg (by rw [hf]; decide), if_pos hp, if_pos ho]
 exact .inl ho
theorem Reads.par (ha : Reads c d orP la a sa) (hs : ∀ L, sa (.sg [41] :: L)) : Reads c (d + 1) (facG c orP facP) (.sg [40] :: (la ++ [.sg [41]])) a (fun _ => True) := by
 intro r L h _
 have ho := open_succ (s := [40]) h rfl
 unfold facG
 have hp : peekR c [45] r = false := by rw [h.peek]; rfl
 have hp2 : peekR c [40] r = true := by rw [h.peek]; rfl
 have hf : freeR c r = false := by rw [h.free]; rfl
 rw [if_neg (fun h2 => h2 h.e), if_neg (by rw [hf]; decide), if_neg (by rw [hp]; decide), if_pos hp2, if_neg (fun h2 => h2 ho.e)]
 have ho : Sta c d (openR c [40] r).2 (la ++ (.sg [41] :: L)) := by have := ho; rwa [show (la ++ [TK.sg [41]]).append L = la ++ (.sg [41] :: L) from List.append_assoc ..] at this
 rcases ha _ _ ho (hs _) with hb | ⟨hg, he⟩
 · refine .inl ?_
   rw [take_still _ _ hb, dn_e]; exact hb
 · exact .inr ⟨down (hg.take rfl).2 h.d, he⟩
theorem Reads.par0 : Reads c 0 (facG c orP facP) (.sg [40] :: l) a st := by
 intro r L h _
 have ho := open_zero (s := [40]) h rfl
 unfold facG
 have hp : peekR c [45] r = false := by rw [h.peek]; rfl
 have hp2 : peekR c [40] r = true := by rw [h.peek]; rfl
 have hf : freeR c r = false := by rw [h.free]; rfl
 rw [if_neg (fun h2 => h2 h.e), if_neg (by rw [hf]; decide), if_neg (by rw [hp]; decide), if_pos hp2, if_pos ho]
 exact .inl ho
theorem Reads.num {n : Nat} : Reads c d (facG c orP facP) [.nm n] (.mk 1 n [] [] 0) (fun _ => True) := by
 intro r L hs _
 have hs : Sta c d r (.nm n :: L) := hs
 have hfd : wrdO.find? (fun w => peekR c w.1 r) = none := by
  rw [List.find?_eq_none]
  intro w _; rw [hs.peek]; exact Bool.false_ne_true
 unfold facG
 have hp : peekR c [45] r = false := by rw [hs.peek]; rfl
 have hp2 : peekR c [40] r = false := by rw [hs.peek]; rfl
 have hf : freeR c r = false := by rw [hs.free]; rfl
 rw [if_neg (fun h2 => h2 hs.e), if_neg (by rw [hf]; decide), if_neg (by rw [hp]; decide), if_neg (by rw [hp2]; decide), hfd]
 obtain ⟨h1, h2⟩ := hs.numb
 rw [h1]
 exact .inr ⟨h2, by simp only [Ex.er, Ex.erL]⟩
def cms : List (List TK) -> List TK
 | [] => []
 | x :: r => .sg [44] :: (x ++ cms r)
theorem args_bad {m : Nat} : ∀ {acc : List Ex} {r : Rd}, r.e ≠ 0 -> (argsG c orP m acc r).2.e ≠ 0 := by
 cases m with
 | zero => intro acc r h; exact h
 | succ m =>
  intro acc r h
  have ht : (takeR c [44] r).2.e ≠ 0 := by rw [take_still _ r h]; exact h
  rw [argsG, if_pos ht]
  exact ht
theorem args_read (hst : Still orP) : ∀ (xs : List (List TK)) (es : List Ex), xs.length = es.length -> (∀ i (h1 : i < xs.length) (h2 : i < es.length), Reads c d orP xs[i] es[i] sa) -> (∀ L, sa (.sg [41] :: L)) -> (∀ L, sa (.sg [44] :: L)) →
 ∀ (acc : List Ex) (r : Rd) (L : List TK), Sta c d r (cms xs ++ .sg [41] :: L) →
  (argsG c orP xs.length acc r).2.e ≠ 0 ∨ ∃ l, (argsG c orP xs.length acc r).1 = some (acc ++ l) ∧ Sta c d (argsG c orP xs.length acc r).2 (.sg [41] :: L) ∧ Ex.erL l = Ex.erL es
 | [], [], _, _, _, _, acc, r, L, h => by
  refine .inr ⟨[], ?_, h, rfl⟩
  simp [argsG]
 | x :: xs, e :: es, hl, hr, h1, h2, acc, r, L, h => by
  obtain ⟨ht1, ht⟩ := Sta.take (k := .sg [44]) (s := [44]) (L := x ++ (cms xs ++ .sg [41] :: L)) (by simpa [cms] using h) rfl
  rw [List.length_cons, argsG, if_neg (fun h => h ht.e)]
  have hnx : ∀ xs : List (List TK), ∀ L, sa (cms xs ++ .sg [41] :: L) := by
   intro xs L
   cases xs with
   | nil => exact h1 _
   | cons y ys => exact h2 _
  rcases hr 0 (by simp) (by simp) _ _ ht (hnx xs L) with hb | ⟨hg, he⟩
  · exact .inl (args_bad hb)
  · rcases args_read hst xs es (by simpa using hl) (fun i a b => hr (i + 1) (by simpa using a) (by simpa using b)) h1 h2 (acc ++ [(orP (takeR c [44] r).2).1]) _ L hg with hb | ⟨l, g1, g2, g3⟩
    · exact .inl hb
    · refine .inr ⟨(orP (takeR c [44] r).2).1 :: l, ?_, g2, ?_⟩
      · rw [g1]; simp
      · simp only [Ex.erL, g3]
        rw [he]; rfl
theorem Reads.call {w : List UInt8} {op : Int} {x : List TK} {xs : List (List TK)} {es : List Ex} (hst : Still orP) (hw : (w, op, xs.length) ∈ wrdO) (ha : Reads c d orP x a sa) (hl : xs.length = es.length)
 (hr : ∀ i (h1 : i < xs.length) (h2 : i < es.length), Reads c d orP xs[i] es[i] sa) (h1 : ∀ L, sa (.sg [41] :: L)) (h2 : ∀ L, sa (.sg [44] :: L)) :
 Reads c (d + 1) (facG c orP facP) (.wd w :: .sg [40] :: (x ++ cms xs ++ [.sg [41]])) (.mk op 0 [] (a :: es) 0) (fun _ => True) := by
 intro r L h _
 have h : Sta c (d + 1) r (.wd w :: .sg [40] :: (x ++ (cms xs ++ .sg [41] :: L))) := by simpa using h
 have hwr : w ∈ resv ∧ w ≠ [45] ∧ w ≠ [40] ∧ wrdO.find? (fun v => decide (w = v.1)) = some (w, op, xs.length) := by
  generalize xs.length = m at hw
  simp only [wrdO, List.mem_cons, List.not_mem_nil, or_false, Prod.mk.injEq] at hw
  rcases hw with ⟨rfl, rfl, rfl⟩ | ⟨rfl, rfl, rfl⟩ | ⟨rfl, rfl, rfl⟩ <;> decide
 obtain ⟨k1, k2, k3, k4⟩ := hwr
 have hfd : wrdO.find? (fun v => peekR c v.1 r) = some (w, op, xs.length) := by
  have e : (fun v : List UInt8 × Int × Nat => peekR c v.1 r) = fun v => decide (w = v.1) := by funext v; rw [h.peek]; rfl
  rw [e]; exact k4
 unfold facG
 rw [if_neg (fun h2 => h2 h.e), if_neg (by rw [h.free]; simpa [fre] using k1), h.peek, h.peek, if_neg (by simp [pk, k2]), if_neg (by simp [pk, k3]), hfd]
 simp only
 unfold callG
 simp only
 have ht := (h.take (s := w) (by simp [pk])).2
 have ho := open_succ (s := [40]) ht rfl
 rw [if_neg (fun h => h ho.e)]
 generalize (openR c [40] (takeR c w r).2).2 = r2 at ho ⊢
 have hnx : sa (cms xs ++ .sg [41] :: L) := by
  cases xs with
  | nil => exact h1 _
  | cons y ys => exact h2 _
 rcases ha r2 _ ho hnx with hb | ⟨hg, he⟩
 · have hb2 := args_bad (c := c) (orP := orP) (m := xs.length) (acc := [(orP r2).1]) hb
   split
   · rename_i r3 hq; rw [hq] at hb2; exact .inl hb2
   · rename_i l r3 hq
     rw [hq] at hb2
     refine .inl ?_
     rw [take_still _ _ hb2, dn_e]; exact hb2
 · rcases args_read hst xs es hl hr h1 h2 [(orP r2).1] _ L hg with hb2 | ⟨l, g1, g2, g3⟩
   · split
     · rename_i r3 hq; rw [hq] at hb2; exact .inl hb2
     · rename_i l r3 hq
       rw [hq] at hb2
       refine .inl ?_
       rw [take_still _ _ hb2, dn_e]; exact hb2
   · split
     · rename_i r3 hq; rw [hq] at g1; cases g1
     · rename_i l' r3 hq
       rw [hq] at g1 g2
       obtain rfl := Option.some.inj g1
       refine .inr ⟨down (g2.take rfl).2 h.d, ?_⟩
       simp only [Ex.er, List.cons_append, List.nil_append, Ex.erL, he, g3]
theorem Reads.call0 {w : List UInt8} {op : Int} {m : Nat} {x : List TK} {sa : List TK -> Prop} (hw : (w, op, m) ∈ wrdO) : Reads c 0 (facG c orP facP) (.wd w :: .sg [40] :: x) e sa := by
 intro r L h _
 have h : Sta c 0 r (.wd w :: .sg [40] :: (x ++ L)) := by simpa using h
 have hwr : w ∈ resv ∧ w ≠ [45] ∧ w ≠ [40] ∧ wrdO.find? (fun v => decide (w = v.1)) = some (w, op, m) := by
  simp only [wrdO, List.mem_cons, List.not_mem_nil, or_false, Prod.mk.injEq] at hw
  rcases hw with ⟨rfl, rfl, rfl⟩ | ⟨rfl, rfl, rfl⟩ | ⟨rfl, rfl, rfl⟩ <;> decide
 obtain ⟨k1, k2, k3, k4⟩ := hwr
 have hfd : wrdO.find? (fun v => peekR c v.1 r) = some (w, op, m) := by
  have e : (fun v : List UInt8 × Int × Nat => peekR c v.1 r) = fun v => decide (w = v.1) := by funext v; rw [h.peek]; rfl
  rw [e]; exact k4
 unfold facG
 rw [if_neg (fun h2 => h2 h.e), if_neg (by rw [h.free]; simpa [fre] using k1), h.peek, h.peek, if_neg (by simp [pk, k2]), if_neg (by simp [pk, k3]), hfd]
 simp only
 unfold callG
 simp only
 have ht := (h.take (s := w) (by simp [pk])).2
 have ho := open_zero (s := [40]) ht rfl
 rw [if_pos ho]
 exact .inl ho
end
end Go.Proofs.YthmdmnfojbnobaaGreatDoor
namespace Go.Proofs.YthmdmnfojbnobaaGreatDoor
open Go.Ab
def wrdT (op : Int) : List UInt8 := if op = 18 then [109, 105, 110] else if op = 19 then [109, 97, 120] else [105, 102]
def binS : List (List UInt8) := [[42], [47], [37], [43], [45], [61, 61], [33, 61], [60], [60, 61], [62], [62, 61], [97, 110, 100], [111, 114]]
def binT (op : Int) : TK := if op = 16 ∨ op = 17 then .wd (binS.getD (op - 5).toNat []) else .sg (binS.getD (op - 5).toNat [])
def opP (x : Int × List Pc) : List Pc := if x.1 = 1 ∨ x.1 = 2 ∨ 18 ≤ x.1 then x.2 else .t (.sg [40]) :: (x.2 ++ [.t (.sg [41])])
theorem opP_pos {k : Int} {x : List Pc} (h : k = 1 ∨ k = 2 ∨ 18 ≤ k) : opP (k, x) = x := if_pos h
theorem opP_neg {k : Int} {x : List Pc} (h : ¬ (k = 1 ∨ k = 2 ∨ 18 ≤ k)) : opP (k, x) = .t (.sg [40]) :: (x ++ [.t (.sg [41])]) := if_neg h
def lsP : List (Int × List Pc) -> List Pc
 | [] => []
 | x :: r => x.2 ++ r.flatMap fun y => .t (.sg [44]) :: .b 32 :: y.2
def ndP (l : List (Int × List Pc)) (i : Nat) : List Pc := match l[i]? with
 | some x => opP x
 | none => []
def shK (op n : Int) (nm : List UInt8) (ts : List (Int × List Pc)) : List Pc :=
 if op = 1 then [.t (.nm n.toNat)] else if op = 2 then [.t (.wd nm)] else if op = 3 then .t (.sg [45]) :: .b 32 :: ndP ts 0 else if op = 4 then .t (.wd [110, 111, 116]) :: .b 32 :: ndP ts 0
 else if 18 ≤ op then .t (.wd (wrdT op)) :: .t (.sg [40]) :: (lsP ts ++ [.t (.sg [41])]) else ndP ts 0 ++ .b 32 :: .t (binT op) :: .b 32 :: ndP ts 1
mutual
def shP : Ex -> List Pc
 | .mk op n nm l _ => shK op n nm (shL l)
def shL : List Ex -> List (Int × List Pc)
 | [] => []
 | e :: r => (e.op, shP e) :: shL r
end
mutual
def fineE : Ex -> Bool
 | .mk op n nm l _ => decide ((l.length : Int) = opN op) && ((decide (op = 1) || decide (n = 0)) && ((decide (op = 2) || decide (nm = [])) && ((!decide (op = 2) || nmdF nm) && (decide (0 ≤ n) && (decide (n ≤ 1000000000) && fineL l)))))
def fineL : List Ex -> Bool
 | [] => true
 | e :: r => fineE e && fineL r
end
theorem fineE_iff {op n p : Int} {nm : List UInt8} {l : List Ex} : fineE (.mk op n nm l p) = true ↔ (l.length : Int) = opN op ∧ (op = 1 ∨ n = 0) ∧ (op = 2 ∨ nm = []) ∧ (op ≠ 2 ∨ nmdF nm = true) ∧ 0 ≤ n ∧ n ≤ 1000000000 ∧ fineL l = true := by
 rw [fineE]
 simp only [Bool.and_eq_true, Bool.or_eq_true, decide_eq_true_eq, Bool.not_eq_true', decide_eq_false_iff_not, ne_eq]
theorem nmd_of {s : List UInt8} (h : nmdF s = true) : isWd s ∧ s ∉ resv := by
 unfold nmdF at h
 simp only [Bool.and_eq_true, decide_eq_true_eq, Bool.not_eq_true', decide_eq_false_iff_not] at h
 exact ⟨wd_of h.1, h.2⟩
theorem opN_cases {op : Int} {n : Nat} (h : (n : Int) = opN op) : 1 ≤ op ∧ op ≤ 20 := by
 unfold opN at h
 split at h
 · omega
 · split at h
   · omega
   · split at h
     · omega
     · split at h <;> omega
def stopE (L : List TK) : Prop := noOp mulO L ∧ noOp sumO L ∧ noOp cmpO L ∧ noOp andO L ∧ noOp orO L
section
variable {c : Cx}
theorem Reads.mono {d : Nat} {F : Rd -> Ex × Rd} {l : List TK} {e : Ex} {st st' : List TK -> Prop} (h : Reads c d F l e st) (hs : ∀ L, st' L -> st L) : Reads c d F l e st' := fun r L h1 h2 => h r L h1 (hs L h2)
theorem Reads.as {d : Nat} {F : Rd -> Ex × Rd} {l : List TK} {e e' : Ex} {st : List TK -> Prop} (h : Reads c d F l e st) (he : e.er = e'.er) : Reads c d F l e' st := fun r L h1 h2 => by
 rw [← he]; exact h r L h1 h2
def l1 (c : Cx) (d : Nat) : Rd -> Ex × Rd := binF c mulO (lv c d).fac
def l2 (c : Cx) (d : Nat) : Rd -> Ex × Rd := binF c sumO (l1 c d)
def l3 (c : Cx) (d : Nat) : Rd -> Ex × Rd := cmpF c (l2 c d)
def l5 (c : Cx) (d : Nat) : Rd -> Ex × Rd := binF c andO (lv c d).nt
theorem nt_eq (d : Nat) : ∃ N, (lv c d).nt = notG c (l3 c d) N := by
 cases d with
 | zero => exact ⟨_, rfl⟩
 | succ d => exact ⟨_, rfl⟩
theorem fac_st (d : Nat) : Still (lv c d).fac := by
 cases d with
 | zero => exact fac_still
 | succ d => exact fac_still
theorem l1_st (d : Nat) : Still (l1 c d) := bin_still (fac_st d)
theorem l2_st (d : Nat) : Still (l2 c d) := bin_still (l1_st d)
theorem nt_st (d : Nat) : Still (lv c d).nt := by
 obtain ⟨N, h⟩ := nt_eq (c := c) d
 rw [h]; exact not_still (cmp_still (l2_st d))
theorem l5_st (d : Nat) : Still (l5 c d) := bin_still (nt_st d)
section
variable {d : Nat} {l : List TK} {e : Ex}
abbrev any (_ : List TK) : Prop := True
theorem up1 (h : Reads c d (lv c d).fac l e any) : Reads c d (l1 c d) l e (noOp mulO) := h.pass.mono fun _ h => ⟨trivial, h⟩
theorem up2 {st : List TK -> Prop} (h : Reads c d (l1 c d) l e st) : Reads c d (l2 c d) l e (fun L => st L ∧ noOp sumO L) := h.pass
theorem up3 {st : List TK -> Prop} (h : Reads c d (l2 c d) l e st) : Reads c d (l3 c d) l e (fun L => st L ∧ noOp cmpO L) := h.cpass
theorem up4 {st : List TK -> Prop} (h : Reads c d (l3 c d) l e st) (hn : ∀ L, pk (l ++ L) [110, 111, 116] = false) : Reads c d (lv c d).nt l e st := by
 obtain ⟨N, hN⟩ := nt_eq (c := c) d
 rw [hN]; exact h.npass hn
theorem up6 {st : List TK -> Prop} (h : Reads c d (lv c d).nt l e st) : Reads c d (orOf c (lv c d)) l e (fun L => (st L ∧ noOp andO L) ∧ noOp orO L) := h.pass.pass
theorem topF (h : Reads c d (lv c d).fac l e any) (hn : ∀ L, pk (l ++ L) [110, 111, 116] = false) : Reads c d (orOf c (lv c d)) l e stopE :=
 (up6 (up4 (up3 (up2 (up1 h))) hn)).mono fun _ ⟨h1, h2, h3, h4, h5⟩ => ⟨⟨⟨⟨h1, h2⟩, h3⟩, h4⟩, h5⟩
end
theorem pk_none {ops : List (List UInt8 × Int)} {k : TK} {s : List UInt8} (hk : k = .sg s ∨ k = .wd s) (h : (ops.all fun o => decide (s ≠ o.1)) = true) (L : List TK) : noOp ops (k :: L) := by
 intro o ho
 have h2 := List.all_eq_true.1 h o ho
 simp only [ne_eq, decide_not, Bool.not_eq_true', decide_eq_false_iff_not] at h2
 rcases hk with rfl | rfl <;> simp [pk, h2]
theorem head_not {e : Ex} (h : fineE e = true) (L : List TK) : pk (tks (opP (e.op, shP e)) ++ L) [110, 111, 116] = false := by
 obtain ⟨op, n, nm, l, p⟩ := e
 obtain ⟨h1, h2, h3, h4, h5, h6, h7⟩ := fineE_iff.1 h
 have hr := opN_cases h1
 show pk (tks (opP (op, shP (.mk op n nm l p))) ++ L) [110, 111, 116] = false
 by_cases ha : op = 1 ∨ op = 2 ∨ 18 ≤ op
 · rw [opP_pos ha]
   simp only [shP]
   by_cases e1 : op = 1
   · rw [shK, if_pos e1]; rfl
   · by_cases e2 : op = 2
     · rw [shK, if_neg e1, if_pos e2]
       have hw := (nmd_of (h4.resolve_left (fun h => h e2))).2
       have : nm ≠ [110, 111, 116] := fun e => hw (by rw [e]; decide)
       simp [tks, pk, this]
     · rw [shK, if_neg e1, if_neg e2, if_neg (by omega), if_neg (by omega), if_pos (by omega)]
       have : wrdT op ≠ [110, 111, 116] := by unfold wrdT; split <;> (try split) <;> decide
       simp [tks, pk, this]
 · rw [opP_neg ha]; rfl
theorem tks_flat : ∀ ts : List (Int × List Pc), tks (ts.flatMap fun y => .t (.sg [44]) :: .b 32 :: y.2) = cms (ts.map fun y => tks y.2)
 | [] => rfl
 | x :: r => by simp [tks, tks_app, cms, tks_flat r]
theorem shL_len : ∀ l : List Ex, (shL l).length = l.length
 | [] => rfl
 | e :: r => by simp [shL, shL_len r]
theorem shL_get : ∀ {l : List Ex} {i : Nat} (h : i < l.length), (shL l)[i]? = some (l[i].op, shP l[i])
 | e :: r, 0, _ => by simp [shL]
 | e :: r, i + 1, h => by
  simp only [shL, List.getElem?_cons_succ, List.getElem_cons_succ]
  exact shL_get (by simpa using h)
def Back (c : Cx) (e : Ex) : Prop := ∀ d, Reads c d (lv c d).fac (tks (opP (e.op, shP e))) e any ∧ Reads c d (orOf c (lv c d)) (tks (shP e)) e stopE
theorem fac_of {e : Ex} (hf : fineE e = true) (ho : ∀ d, Reads c d (orOf c (lv c d)) (tks (shP e)) e stopE) (ha : e.op = 1 ∨ e.op = 2 ∨ 18 ≤ e.op -> ∀ d, Reads c d (lv c d).fac (tks (shP e)) e any) (d : Nat) : Reads c d (lv c d).fac (tks (opP (e.op, shP e))) e any := by
 by_cases h : e.op = 1 ∨ e.op = 2 ∨ 18 ≤ e.op
 · rw [opP_pos h]; exact ha h d
 · rw [opP_neg h]
   have e1 : tks (.t (.sg [40]) :: (shP e ++ [.t (.sg [41])])) = .sg [40] :: (tks (shP e) ++ [.sg [41]]) := by simp [tks, tks_app]
   rw [e1]
   cases d with
   | zero => exact Reads.par0
   | succ d => exact Reads.par (ho d) fun L => ⟨pk_none (.inl rfl) (by decide) L, pk_none (.inl rfl) (by decide) L, pk_none (.inl rfl) (by decide) L, pk_none (.inl rfl) (by decide) L, pk_none (.inl rfl) (by decide) L⟩
theorem back_bin {op : Int} {a b : Ex} (h1 : 5 ≤ op) (h2 : op ≤ 17) (ha : Back c a) (hb : Back c b) (fa : fineE a = true) (fb : fineE b = true) (d : Nat) :
 Reads c d (orOf c (lv c d)) (tks (opP (a.op, shP a)) ++ binT op :: tks (opP (b.op, shP b))) (.mk op 0 [] [a, b] 0) stopE := by
 have na : ∀ X L, pk (tks (opP (a.op, shP a)) ++ X ++ L) [110, 111, 116] = false := fun X L => by rw [List.append_assoc]; exact head_not fa _
 have na0 := head_not fa
 have nb0 := head_not fb
 have A := (ha d).1
 have B := (hb d).1
 generalize tks (opP (a.op, shP a)) = la at *
 generalize tks (opP (b.op, shP b)) = lb at *
 have hc : op = 5 ∨ op = 6 ∨ op = 7 ∨ op = 8 ∨ op = 9 ∨ (10 ≤ op ∧ op ≤ 15) ∨ op = 16 ∨ op = 17 := by omega
 have A1 := up1 A
 have B1 := up1 B
 have A2 := up2 A1
 have B2 := up2 B1
 have A4 := up4 (up3 A2) na0
 have B4 := up4 (up3 B2) nb0
 have fin : ∀ {st : List TK -> Prop} {e : Ex}, Reads c d (l3 c d) (la ++ binT op :: lb) e st -> (∀ L, stopE L -> st L) -> Reads c d (orOf c (lv c d)) (la ++ binT op :: lb) e stopE := fun h hs =>
  (up6 (up4 h (na _))).mono fun L hL => ⟨⟨hs L hL, hL.2.2.2.1⟩, hL.2.2.2.2⟩
 rcases hc with rfl | rfl | rfl | rfl | rfl | ⟨h3, h4⟩ | rfl | rfl
 · exact fin (up3 (up2 (Reads.op (fac_st d) A B (k := binT 5) (s := [42]) (.inl rfl) (by decide) fun _ => trivial))) fun L hL => ⟨⟨⟨trivial, hL.1⟩, hL.2.1⟩, hL.2.2.1⟩
 · exact fin (up3 (up2 (Reads.op (fac_st d) A B (k := binT 6) (s := [47]) (.inl rfl) (by decide) fun _ => trivial))) fun L hL => ⟨⟨⟨trivial, hL.1⟩, hL.2.1⟩, hL.2.2.1⟩
 · exact fin (up3 (up2 (Reads.op (fac_st d) A B (k := binT 7) (s := [37]) (.inl rfl) (by decide) fun _ => trivial))) fun L hL => ⟨⟨⟨trivial, hL.1⟩, hL.2.1⟩, hL.2.2.1⟩
 · exact fin (up3 (Reads.op (l1_st d) A1 B1 (k := binT 8) (s := [43]) (.inl rfl) (by decide) fun L => pk_none (s := [43]) (.inl rfl) (by decide) L)) fun L hL => ⟨⟨hL.1, hL.2.1⟩, hL.2.2.1⟩
 · exact fin (up3 (Reads.op (l1_st d) A1 B1 (k := binT 9) (s := [45]) (.inl rfl) (by decide) fun L => pk_none (s := [45]) (.inl rfl) (by decide) L)) fun L hL => ⟨⟨hL.1, hL.2.1⟩, hL.2.2.1⟩
 · have hk : ∃ s, binT op = .sg s ∧ (cmpO.find? fun o => decide (s = o.1)).map (·.2) = some op ∧ (mulO.all fun o => decide (s ≠ o.1)) = true ∧ (sumO.all fun o => decide (s ≠ o.1)) = true := by
    have : op = 10 ∨ op = 11 ∨ op = 12 ∨ op = 13 ∨ op = 14 ∨ op = 15 := by omega
    rcases this with rfl | rfl | rfl | rfl | rfl | rfl
    · exact ⟨[61, 61], rfl, by decide, by decide, by decide⟩
    · exact ⟨[33, 61], rfl, by decide, by decide, by decide⟩
    · exact ⟨[60], rfl, by decide, by decide, by decide⟩
    · exact ⟨[60, 61], rfl, by decide, by decide, by decide⟩
    · exact ⟨[62], rfl, by decide, by decide, by decide⟩
    · exact ⟨[62, 61], rfl, by decide, by decide, by decide⟩
   obtain ⟨s, k1, k2, k3, k4⟩ := hk
   refine fin (Reads.cop A2 B2 (k := binT op) (s := s) (.inl k1) k2 fun L => ⟨pk_none (.inl k1) k3 L, pk_none (.inl k1) k4 L⟩) fun L hL => ⟨hL.1, hL.2.1⟩
 · exact ((Reads.op (ops := andO) (nt_st d) A4 B4 (k := binT 16) (s := [97, 110, 100]) (.inr rfl) (by decide) fun L => ⟨⟨pk_none (s := [97, 110, 100]) (.inr rfl) (by decide) L, pk_none (s := [97, 110, 100]) (.inr rfl) (by decide) L⟩, pk_none (s := [97, 110, 100]) (.inr rfl) (by decide) L⟩).pass (ops := orO)).mono fun L hL => ⟨⟨⟨⟨hL.1, hL.2.1⟩, hL.2.2.1⟩, hL.2.2.2.1⟩, hL.2.2.2.2⟩
 · exact (Reads.op (ops := orO) (l5_st d) (A4.pass (ops := andO)) (B4.pass (ops := andO)) (k := binT 17) (s := [111, 114]) (.inr rfl) (by decide) fun L => ⟨⟨⟨pk_none (s := [111, 114]) (.inr rfl) (by decide) L, pk_none (s := [111, 114]) (.inr rfl) (by decide) L⟩, pk_none (s := [111, 114]) (.inr rfl) (by decide) L⟩, pk_none (s := [111, 114]) (.inr rfl) (by decide) L⟩).mono fun L hL => ⟨⟨⟨⟨hL.1, hL.2.1⟩, hL.2.2.1⟩, hL.2.2.2.1⟩, hL.2.2.2.2⟩
theorem back_step {op n p : Int} {nm : List UInt8} {l : List Ex} (hf : fineE (.mk op n nm l p) = true) (hl : ∀ e ∈ l, Back c e) : Back c (.mk op n nm l p) := by
 obtain ⟨h1, h2, h3, h4, h5, h6, h7⟩ := fineE_iff.1 hf
 have hr := opN_cases h1
 have hfl : ∀ e ∈ l, fineE e = true := by
  clear h1 hl hf
  induction l with
  | nil => intro e he; cases he
  | cons x r ih =>
   intro e he
   rw [fineL, Bool.and_eq_true] at h7
   rw [List.mem_cons] at he
   rcases he with rfl | he
   · exact h7.1
   · exact ih h7.2 e he
 -- atomic forms read by a factor
 have hatom : (Ex.mk op n nm l p).op = 1 ∨ (Ex.mk op n nm l p).op = 2 ∨ 18 ≤ (Ex.mk op n nm l p).op -> ∀ d, Reads c d (lv c d).fac (tks (shP (.mk op n nm l p))) (.mk op n nm l p) any := by
  intro ha d
  have ha : op = 1 ∨ op = 2 ∨ 18 ≤ op := ha
  rw [shP]
  by_cases e1 : op = 1
  · subst e1
    have hl0 : l = [] := by
     have : (l.length : Int) = 0 := h1
     exact List.length_eq_zero_iff.1 (by omega)
    have hnm : nm = [] := h3.resolve_left (by decide)
    subst hl0 hnm
    rw [shK, if_pos rfl]
    have hn : ((n.toNat : Nat) : Int) = n := by omega
    have := fun O F => Reads.num (c := c) (d := d) (orP := O) (facP := F) (n := n.toNat)
    rw [hn] at this
    cases d with
    | zero => exact this _ _
    | succ d => exact this _ _
  · by_cases e2 : op = 2
    · subst e2
      have hl0 : l = [] := by
       have : (l.length : Int) = 0 := h1
       exact List.length_eq_zero_iff.1 (by omega)
      have hn : n = 0 := h2.resolve_left (by decide)
      subst hl0 hn
      rw [shK, if_neg (by decide), if_pos rfl]
      have hw := (nmd_of (h4.resolve_left (fun h => h rfl))).2
      cases d with
      | zero => exact Reads.name hw
      | succ d => exact Reads.name hw
    · have h18 : op = 18 ∨ op = 19 ∨ op = 20 := by omega
      have hn : n = 0 := h2.resolve_left e1
      have hnm : nm = [] := h3.resolve_left e2
      subst hn hnm
      rw [shK, if_neg e1, if_neg e2, if_neg (by omega), if_neg (by omega), if_pos (by omega)]
      have hlen : l.length = 2 ∨ l.length = 3 := by
       rcases h18 with rfl | rfl | rfl
       · have : (l.length : Int) = 2 := h1
         omega
       · have : (l.length : Int) = 2 := h1
         omega
       · have : (l.length : Int) = 3 := h1
         omega
      obtain ⟨a, es, rfl⟩ : ∃ a es, l = a :: es := by
       cases l with
       | nil => simp at hlen
       | cons a es => exact ⟨a, es, rfl⟩
      have hw : (wrdT op, op, ((shL es).map fun y => tks y.2).length) ∈ wrdO := by
       rw [List.length_map, shL_len]
       rcases h18 with rfl | rfl | rfl
       · have : ((es.length + 1 : Nat) : Int) = 2 := h1
         rw [show es.length = 1 by omega]; decide
       · have : ((es.length + 1 : Nat) : Int) = 2 := h1
         rw [show es.length = 1 by omega]; decide
       · have : ((es.length + 1 : Nat) : Int) = 3 := h1
         rw [show es.length = 2 by omega]; decide
      have e1 : tks (.t (.wd (wrdT op)) :: .t (.sg [40]) :: (lsP (shL (a :: es)) ++ [.t (.sg [41])])) = .wd (wrdT op) :: .sg [40] :: (tks (shP a) ++ cms ((shL es).map fun y => tks y.2) ++ [.sg [41]]) := by
       simp [tks, tks_app, shL, lsP, tks_flat]
      rw [e1]
      cases d with
      | zero => exact Reads.call0 hw
      | succ d =>
       refine (Reads.call (c := c) (d := d) (orP := orOf c (lv c d)) (facP := (lv c d).fac) (sa := stopE) (or_still c d) hw (hl a (by simp) d).2 (es := es) (by simp [shL_len]) (fun i g1 g2 => ?_) (fun L => ?_) fun L => ?_).as ?_
       · have g3 : i < es.length := g2
         have := shL_get g3
         rw [List.getElem_map]
         have e2 : (shL es)[i]'(by simpa using g1) = (es[i].op, shP es[i]) := Option.some.inj ((List.getElem?_eq_getElem _).symm.trans this)
         rw [e2]
         exact (hl es[i] (by simp) d).2
       · exact ⟨pk_none (.inl rfl) (by decide) L, pk_none (.inl rfl) (by decide) L, pk_none (.inl rfl) (by decide) L, pk_none (.inl rfl) (by decide) L, pk_none (.inl rfl) (by decide) L⟩
       · exact ⟨pk_none (.inl rfl) (by decide) L, pk_none (.inl rfl) (by decide) L, pk_none (.inl rfl) (by decide) L, pk_none (.inl rfl) (by decide) L, pk_none (.inl rfl) (by decide) L⟩
       · simp only [Ex.er]
 have hor : ∀ d, Reads c d (orOf c (lv c d)) (tks (shP (.mk op n nm l p))) (.mk op n nm l p) stopE := by
  intro d
  by_cases ha : op = 1 ∨ op = 2 ∨ 18 ≤ op
  · refine topF (hatom ha d) fun L => ?_
    have := head_not hf L
    have e1 : opP ((Ex.mk op n nm l p).op, shP (.mk op n nm l p)) = shP (.mk op n nm l p) := opP_pos ha
    rw [e1] at this
    exact this
  · have hn : n = 0 := h2.resolve_left (by omega)
    have hnm : nm = [] := h3.resolve_left (by omega)
    subst hn hnm
    rw [shP, shK, if_neg (by omega), if_neg (by omega)]
    by_cases e3 : op = 3
    · subst e3
      have hl1 : (l.length : Int) = 1 := h1
      obtain ⟨a, rfl⟩ : ∃ a, l = [a] := by
       match l, hl1 with
       | [a], _ => exact ⟨a, rfl⟩
       | [], h => simp at h
       | a :: b :: r, h => simp at h; omega
      rw [if_pos rfl]
      have e1 : tks (.t (.sg [45]) :: .b 32 :: ndP (shL [a]) 0) = .sg [45] :: tks (opP (a.op, shP a)) := by simp [tks, ndP, shL]
      rw [e1]
      refine topF ?_ fun L => rfl
      cases d with
      | zero => exact Reads.neg0
      | succ d => exact (Reads.neg (hl a (by simp) d).1).as (by simp only [Ex.er])
    · rw [if_neg e3]
      by_cases e4 : op = 4
      · subst e4
        have hl1 : (l.length : Int) = 1 := h1
        obtain ⟨a, rfl⟩ : ∃ a, l = [a] := by
         match l, hl1 with
         | [a], _ => exact ⟨a, rfl⟩
         | [], h => simp at h
         | a :: b :: r, h => simp at h; omega
        rw [if_pos rfl]
        have e1 : tks (.t (.wd [110, 111, 116]) :: .b 32 :: ndP (shL [a]) 0) = .wd [110, 111, 116] :: tks (opP (a.op, shP a)) := by simp [tks, ndP, shL]
        rw [e1]
        cases d with
        | zero => exact (up6 (c := c) (d := 0) (st := any) Reads.nop0).mono fun L hL => ⟨⟨trivial, hL.2.2.2.1⟩, hL.2.2.2.2⟩
        | succ d =>
         have A4 := up4 (up3 (up2 (up1 (hl a (by simp) d).1))) (head_not (hfl a (by simp)))
         exact ((up6 (c := c) (d := d + 1) (Reads.nop A4)).mono fun L hL => ⟨⟨⟨⟨hL.1, hL.2.1⟩, hL.2.2.1⟩, hL.2.2.2.1⟩, hL.2.2.2.2⟩).as (by simp only [Ex.er])
      · rw [if_neg e4, if_neg (by omega)]
        have hl2 : (l.length : Int) = 2 := by
         rw [h1]; unfold opN
         rw [if_neg (by omega), if_neg (by omega), if_neg (by omega), if_pos (by omega)]
        obtain ⟨a, b, rfl⟩ : ∃ a b, l = [a, b] := by
         match l, hl2 with
         | [a, b], _ => exact ⟨a, b, rfl⟩
         | [], h => simp at h
         | [a], h => simp at h
         | a :: b :: e :: r, h => simp at h; omega
        have e1 : tks (ndP (shL [a, b]) 0 ++ .b 32 :: .t (binT op) :: .b 32 :: ndP (shL [a, b]) 1) = tks (opP (a.op, shP a)) ++ binT op :: tks (opP (b.op, shP b)) := by simp [tks, tks_app, ndP, shL]
        rw [e1]
        exact (back_bin (by omega) (by omega) (hl a (by simp)) (hl b (by simp)) (hfl a (by simp)) (hfl b (by simp)) d).as (by simp only [Ex.er])
 exact fun d => ⟨fac_of hf hor hatom d, hor d⟩
mutual
theorem back_all : ∀ e : Ex, fineE e = true -> Back c e
 | .mk op n nm l p, h => back_step h (back_allL l (fineE_iff.1 h).2.2.2.2.2.2)
theorem back_allL : ∀ l : List Ex, fineL l = true -> ∀ e ∈ l, Back c e
 | [], _, e, he => by cases he
 | x :: r, h, e, he => by
  rw [fineL, Bool.and_eq_true] at h
  by_cases hx : e = x
  · rw [hx]; exact back_all x h.1
  · exact back_allL r h.2 e (by simpa [hx] using he)
end
end
end Go.Proofs.YthmdmnfojbnobaaGreatDoor
