/-
  Steps of the proof: contracts of functions and plain facts that the statement rests on.
-/
import Derived.Test.YthmdmnfojbnobaaGreatDoorPart2
import Derived.Test.YthmdmnfojbnobaaGreatDoorCore4
import Derived.LaidMore
import Derived.OpenShut
import Derived.Stop.Joined
import Derived.LaidHandle
import Derived.JoinedCond
import Derived.JoinedAt
import Derived.Conc.Holds
import Derived.SevenTiedAt
set_option linter.all false
namespace Go.Proofs.YthmdmnfojbnobaaGreatDoor
open Go.Ab
def wantL (vs : List (List UInt8)) (k : Int) : List Ex → Int × Int
 | [] => (0, 0)
 | e :: r => if (wantF vs e k).1 ≠ 0 then wantF vs e k else wantL vs k r
section
variable {H : List AO} {vs : List (List UInt8)} {rest : List SV} {j : Nat} {T : TypeId}
theorem loop54_0 {l : List Ex} (hl : l.length < 4611686018427387904) (hh : ∀ e ∈ l, e.hgt ≤ 100000) (ho : H[j]? = some (tyO (varsM vs) opsM rest T)) {N : Nat} {K : XE → Env → List AO → Prop} {A : AO} {res : Int × Int} {x0 : SV}
   (hret : res.1 ≠ 0 → ∀ env G, env.get 4 = errV res.1 res.2 → K .ret env (H ++ A :: G)) (hexit : res = (0, 0) → ∀ env G, env.get 0 = rp j → env.get 3 = x0 → K (.exit 0) env (H ++ A :: G)) :
   ∀ (n i : Nat) (G : List AO) (env : Env), i + n = l.length → wantL vs 1 (l.drop i) = res → env.get 0 = rp j → env.get 3 = x0 → env.get 47 = exS l → env.get 48 = i64 l.length → env.get 49 = i64 i →
     LI Tryz.prog N drawB l54_0 env (H ++ A :: G) K := by
 intro n
 induction n with
 | zero =>
   intro i G env hi hr h0 hx0 hs hn hii
   refine li_go hm l54_0.eq_1 ?_
   have e : i = l.length := by omega
   subst e
   rw [List.drop_length] at hr
   simp -implicitDefEqProofs [h0, hx0, hs, hn, hii]
   refine hexit hr.symm _ _ ?_ ?_ <;> simp [h0, hx0]
 | succ n ih =>
   intro i G env hi hr h0 hx0 hs hn hii
   refine li_go hm l54_0.eq_1 ?_
   have hlt : i < l.length := by omega
   have hlt' : (i : Int) < l.length := by omega
   rw [List.drop_eq_getElem_cons hlt, wantL] at hr
   have hg := exL_get hlt
   have hlen := exL_len l
   have h46 := fun L => ok83 (H := H ++ L) (T := T) (rest := rest) (hh l[i] (List.getElem_mem hlt)) (get_app_l ho L) 1
   generalize l[i] = e at hr hg h46
   simp -implicitDefEqProofs [h0, hx0, hs, hn, hii, exS, hlt, hlt', hg, hlen, rp]
   refine ⟨by omega, callq_go (fun _ => h46 _) ?_⟩
   generalize wantF vs e 1 = w at hr ⊢
   by_cases hw : w.1 = 0
   · rw [if_neg (by simpa using hw)] at hr
     have hev : errV w.1 w.2 = .val .nilIface := by rw [hw]; rfl
     rw [hev]
     simp -implicitDefEqProofs [h0, hx0, hs, hn, hii]
     refine ih (i + 1) _ _ (by omega) hr ?_ ?_ ?_ ?_ ?_
     all_goals simp [h0, hx0, hs, hn, exS, rp, wrap_suc (show i < 9223372036854775807 by omega)]
   · rw [if_pos hw] at hr
     subst hr
     have hev := errV_of hw w.2
     rw [hev]
     simp -implicitDefEqProofs [h0, hx0, hs, hn, hii]
     refine hret hw _ _ ?_
     simp [hev]
theorem loop56_0 {l : List Ex} (hl : l.length < 4611686018427387904) (hh : ∀ e ∈ l, e.hgt ≤ 100000) (ho : H[j]? = some (tyO (varsM vs) opsM rest T)) {N : Nat} {K : XE → Env → List AO → Prop} {A : AO} {res : Int × Int}
   (hret : res.1 ≠ 0 → ∀ env G, env.get 4 = errV res.1 res.2 → K .ret env (H ++ A :: G)) (hexit : res = (0, 0) → ∀ env G, env.get 0 = rp j → K (.exit 0) env (H ++ A :: G)) :
   ∀ (n i : Nat) (G : List AO) (env : Env), i + n = l.length → wantL vs 1 (l.drop i) = res → env.get 0 = rp j → env.get 21 = exS l → env.get 22 = i64 l.length → env.get 23 = i64 i →
     LI Tryz.prog N drawB l56_0 env (H ++ A :: G) K := by
 intro n
 induction n with
 | zero =>
   intro i G env hi hr h0 hs hn hii
   refine li_go hm l56_0.eq_1 ?_
   have e : i = l.length := by omega
   subst e
   rw [List.drop_length] at hr
   simp -implicitDefEqProofs [h0, hs, hn, hii]
   refine hexit hr.symm _ _ ?_ <;> simp [h0]
 | succ n ih =>
   intro i G env hi hr h0 hs hn hii
   refine li_go hm l56_0.eq_1 ?_
   have hlt : i < l.length := by omega
   have hlt' : (i : Int) < l.length := by omega
   rw [List.drop_eq_getElem_cons hlt, wantL] at hr
   have hg := exL_get hlt
   have hlen := exL_len l
   have h46 := fun L => ok83 (H := H ++ L) (T := T) (rest := rest) (hh l[i] (List.getElem_mem hlt)) (get_app_l ho L) 1
   generalize l[i] = e at hr hg h46
   simp -implicitDefEqProofs [h0, hs, hn, hii, exS, hlt, hlt', hg, hlen, rp]
   refine ⟨by omega, callq_go (fun _ => h46 _) ?_⟩
   generalize wantF vs e 1 = w at hr ⊢
   by_cases hw : w.1 = 0
   · rw [if_neg (by simpa using hw)] at hr
     have hev : errV w.1 w.2 = .val .nilIface := by rw [hw]; rfl
     rw [hev]
     simp -implicitDefEqProofs [h0, hs, hn, hii]
     refine ih (i + 1) _ _ (by omega) hr ?_ ?_ ?_ ?_
     all_goals simp [h0, hs, hn, exS, rp, wrap_suc (show i < 9223372036854775807 by omega)]
   · rw [if_pos hw] at hr
     subst hr
     have hev := errV_of hw w.2
     rw [hev]
     simp -implicitDefEqProofs [h0, hs, hn, hii]
     refine hret hw _ _ ?_
     simp [hev]
theorem loop84_0 {l : List Ex} (hl : l.length < 4611686018427387904) (hh : ∀ e ∈ l, e.hgt ≤ 100000) (ho : H[j]? = some (tyO (varsM vs) opsM rest T)) {N : Nat} {K : XE → Env → List AO → Prop} {A : AO} {res : Int × Int} {x0 x1 : SV}
   (hret : res.1 ≠ 0 → ∀ env G, env.get 6 = errV res.1 res.2 → K .ret env (H ++ A :: G)) (hexit : res = (0, 0) → ∀ env G, env.get 0 = rp j → env.get 1 = x0 → env.get 5 = x1 → K (.exit 0) env (H ++ A :: G)) :
   ∀ (n i : Nat) (G : List AO) (env : Env), i + n = l.length → wantL vs 2 (l.drop i) = res → env.get 0 = rp j → env.get 1 = x0 → env.get 5 = x1 → env.get 22 = exS l → env.get 23 = i64 l.length → env.get 24 = i64 i →
     LI Tryz.prog N drawB l84_0 env (H ++ A :: G) K := by
 intro n
 induction n with
 | zero =>
   intro i G env hi hr h0 hx0 hx1 hs hn hii
   refine li_go hm l84_0.eq_1 ?_
   have e : i = l.length := by omega
   subst e
   rw [List.drop_length] at hr
   simp -implicitDefEqProofs [h0, hx0, hx1, hs, hn, hii]
   refine hexit hr.symm _ _ ?_ ?_ ?_ <;> simp [h0, hx0, hx1]
 | succ n ih =>
   intro i G env hi hr h0 hx0 hx1 hs hn hii
   refine li_go hm l84_0.eq_1 ?_
   have hlt : i < l.length := by omega
   have hlt' : (i : Int) < l.length := by omega
   rw [List.drop_eq_getElem_cons hlt, wantL] at hr
   have hg := exL_get hlt
   have hlen := exL_len l
   have h46 := fun L => ok83 (H := H ++ L) (T := T) (rest := rest) (hh l[i] (List.getElem_mem hlt)) (get_app_l ho L) 2
   generalize l[i] = e at hr hg h46
   simp -implicitDefEqProofs [h0, hx0, hx1, hs, hn, hii, exS, hlt, hlt', hg, hlen, rp]
   refine ⟨by omega, callq_go (fun _ => h46 _) ?_⟩
   generalize wantF vs e 2 = w at hr ⊢
   by_cases hw : w.1 = 0
   · rw [if_neg (by simpa using hw)] at hr
     have hev : errV w.1 w.2 = .val .nilIface := by rw [hw]; rfl
     rw [hev]
     simp -implicitDefEqProofs [h0, hx0, hx1, hs, hn, hii]
     refine ih (i + 1) _ _ (by omega) hr ?_ ?_ ?_ ?_ ?_ ?_
     all_goals simp [h0, hx0, hx1, hs, hn, exS, rp, wrap_suc (show i < 9223372036854775807 by omega)]
   · rw [if_pos hw] at hr
     subst hr
     have hev := errV_of hw w.2
     rw [hev]
     simp -implicitDefEqProofs [h0, hx0, hx1, hs, hn, hii]
     refine hret hw _ _ ?_
     simp [hev]
end
def endF (vs : List (List UInt8)) (pl : Int) (x : StageP) : Int × Int := if (x.pays.length : Int) ≠ pl then (3, x.p) else wantL vs 1 x.pays
section
variable {H : List AO} {r : RulesP} {j : Nat}
theorem ok56 (ho : H[j]? = some (cO r)) {x : StageP} (hl : x.pays.length < 4611686018427387904) (hh : ∀ e ∈ x.pays, e.hgt ≤ 100000) : Ok Tryz.prog 56 [rp j, stageV x] H (.ret (errV (endF (namesOf r) r.pl x).1 (endF (namesOf r) r.pl x).2)) H := by
 have hj := getElem?_lt ho
 have e1 := fun L => oc_app ho rfl rfl L
 simp only [cO, tyO] at e1
 generalize hw : endF (namesOf r) r.pl x = w
 unfold endF at hw
 refine ok_fn hm Tryz.func56 c56 (by simp [rp]) fun hcl => ?_
 by_cases hp : (x.pays.length : Int) = r.pl
 · rw [if_neg (by simpa using hp)] at hw
   have hp' : decide ((x.pays.length : Int) = r.pl) = true := by simpa using hp
   simp -implicitDefEqProofs [i56, r56, rp, e1, stageV, StageP.c, exS, hp']
   refine LI.cong (H' := H ++ ⟨x.c, 45, 0, true⟩ :: []) (by simp [exS, StageP.c]) ?_
   refine loop56_0 (vs := namesOf r) (T := 68) hl hh ho (res := w) (fun h1 env G h4 => ?_) (fun h1 env G h0 => ?_) x.pays.length 0 [] _ (by omega) hw ?_ ?_ ?_ ?_
   · simp -implicitDefEqProofs [h4]
     refine cv_fz 3 hcl rfl ?_
     simp
   · rw [h1]
     simp -implicitDefEqProofs
     refine cv_fz 3 hcl rfl ?_
     simp [errV_0]
   all_goals simp [rp, exS]
 · rw [if_pos hp] at hw
   have hp' : decide ((x.pays.length : Int) = r.pl) = false := by simpa using hp
   subst hw
   simp -implicitDefEqProofs [i56, r56, rp, e1, stageV, StageP.c, exS, hp']
   refine call_go (ok53 (e := 3) (by decide) x.p) ?_
   simp -implicitDefEqProofs
   refine cv_fz 3 hcl rfl ?_
   simp
end
end Go.Proofs.YthmdmnfojbnobaaGreatDoor

namespace Go.Proofs.YthmdmnfojbnobaaGreatDoor
open Go.Ab
def seenF (pl p : Int) : Int → List Int → Int × Int
 | _, [] => (0, 0)
 | q, n :: r => if n < 0 ∨ pl ≤ n then (2, p) else if n ≤ q then (9, p) else seenF pl p n r
def dealF (vs : List (List UInt8)) (pl : Int) (x : StageP) : Int × Int :=
 if x.nm ∉ vs then (7, x.p) else if x.lo < -1000000000 ∨ 1000000000 < x.lo ∨ x.hi < x.lo ∨ x.lo + 60 ≤ x.hi then (2, x.p) else if (wantL vs 1 x.wt).1 ≠ 0 then wantL vs 1 x.wt else seenF pl x.p (-1) x.seen
section
variable {H : List AO} {r : RulesP} {j : Nat}
theorem loop54_1 {x : StageP} (hl : x.seen.length < 4611686018427387904) (ho : H[j]? = some (cO r)) {N : Nat} {K : XE → Env → List AO → Prop} {res : Int × Int}
   (hret : res.1 ≠ 0 → ∀ env G, env.get 4 = errV res.1 res.2 → K .ret env (H ++ G)) (hexit : res = (0, 0) → ∀ env G, K (.exit 2) env (H ++ G)) :
   ∀ (n i : Nat) (q : Int) (G : List AO) (env : Env), i + n = x.seen.length → seenF r.pl x.p q (x.seen.drop i) = res → q = (if i = 0 then -1 else x.seen.getD (i - 1) 0) → env.get 0 = rp j → env.get 3 = rp H.length → env.get 63 = .slc (ints x.seen) x.seen.length → env.get 64 = i64 x.seen.length → env.get 65 = i64 i →
     LI Tryz.prog N drawB l54_1 env (H ++ ⟨x.c, 45, 0, true⟩ :: G) K := by
 have hj := getElem?_lt ho
 have e1 := fun L => oc_app ho rfl rfl L
 simp only [cO, tyO] at e1
 intro n
 induction n with
 | zero =>
   intro i q G env hi hr hq h0 h3 hs hn hii
   refine li_go hm l54_1.eq_1 ?_
   have e : i = x.seen.length := by omega
   subst e
   rw [List.drop_length] at hr
   simp -implicitDefEqProofs [h0, h3, hs, hn, hii]
   exact hexit hr.symm _ _
 | succ n ih =>
   intro i q G env hi hr hq h0 h3 hs hn hii
   refine li_go hm l54_1.eq_1 ?_
   have hlt : i < x.seen.length := by omega
   have hlt' : (i : Int) < x.seen.length := by omega
   rw [List.drop_eq_getElem_cons hlt, seenF] at hr
   obtain ⟨v, hv⟩ : ∃ v, x.seen[i] = v := ⟨_, rfl⟩
   rw [hv] at hr
   by_cases h1 : v < 0
   · rw [if_pos (.inl h1)] at hr
     subst hr
     simp -implicitDefEqProofs [h0, h3, hs, hn, hii, hlt, hlt', hv, h1, rp, e1, StageP.c, exS]
     refine ⟨by omega, call_go (ok53 (e := 2) (by decide) x.p) ?_⟩
     simp -implicitDefEqProofs
     refine hret (show ¬ (2 : Int) = 0 by decide) _ _ ?_
     simp
   by_cases h2 : r.pl ≤ v
   · rw [if_pos (.inr h2)] at hr
     subst hr
     simp -implicitDefEqProofs [h0, h3, hs, hn, hii, hlt, hlt', hv, h1, h2, rp, e1, StageP.c, exS]
     refine ⟨by omega, call_go (ok53 (e := 2) (by decide) x.p) ?_⟩
     simp -implicitDefEqProofs
     refine hret (show ¬ (2 : Int) = 0 by decide) _ _ ?_
     simp
   rw [if_neg (by omega)] at hr
   by_cases hz : i = 0
   · rw [if_pos hz] at hq
     rw [if_neg (by omega)] at hr
     have hp : ¬ (0 : Int) < (i : Int) := by omega
     have hp' : ¬ 0 < i := by omega
     simp -implicitDefEqProofs [h0, h3, hs, hn, hii, hlt, hlt', hv, h1, h2, rp, e1, StageP.c, exS, hp, hp']
     refine ⟨by omega, ?_⟩
     refine LI.cong ?_ (ih (i + 1) v G _ (by omega) hr ?_ ?_ ?_ ?_ ?_ ?_)
     · simp [StageP.c, exS]
     all_goals simp [h0, h3, hs, hn, rp, List.getD, hlt, hv, wrap_suc (show i < 9223372036854775807 by omega)]
   · rw [if_neg hz] at hq
     obtain ⟨k, hik⟩ : ∃ k, i - 1 = k := ⟨_, rfl⟩
     rw [hik] at hq
     have hk : k < x.seen.length := by omega
     have hk' : (k : Int) < x.seen.length := by omega
     obtain ⟨u, hu⟩ : ∃ u, x.seen[k] = u := ⟨_, rfl⟩
     have hqu : q = u := by simpa [List.getD, hk, hu] using hq
     subst hqu
     have w1 : IntKind.i64.wrap ((i : Int) - 1) = (k : Int) := by rw [wrap_id (by omega) (by omega)]; omega
     have hp : (0 : Int) < (i : Int) := by omega
     have hp' : 0 < i := by omega
     by_cases h4 : v ≤ q
     · rw [if_pos h4] at hr
       subst hr
       simp -implicitDefEqProofs [h0, h3, hs, hn, hii, hlt, hlt', hv, h1, h2, rp, e1, StageP.c, exS, hp, hp', w1, hk, hk', hu, h4]
       refine ⟨by omega, by omega, call_go (ok53 (e := 9) (by decide) x.p) ?_⟩
       simp -implicitDefEqProofs
       refine hret (show ¬ (9 : Int) = 0 by decide) _ _ ?_
       simp
     · rw [if_neg h4] at hr
       simp -implicitDefEqProofs [h0, h3, hs, hn, hii, hlt, hlt', hv, h1, h2, rp, e1, StageP.c, exS, hp, hp', w1, hk, hk', hu, h4]
       refine ⟨by omega, by omega, ?_⟩
       refine LI.cong ?_ (ih (i + 1) v G _ (by omega) hr ?_ ?_ ?_ ?_ ?_ ?_)
       · simp [StageP.c, exS]
       all_goals simp [h0, h3, hs, hn, rp, List.getD, hlt, hv, wrap_suc (show i < 9223372036854775807 by omega)]
theorem ok54 (ho : H[j]? = some (cO r)) {x : StageP} (hl : x.wt.length < 4611686018427387904) (hl2 : x.seen.length < 4611686018427387904) (hh : ∀ e ∈ x.wt, e.hgt ≤ 100000) : Ok Tryz.prog 54 [rp j, stageV x] H (.ret (errV (dealF (namesOf r) r.pl x).1 (dealF (namesOf r) r.pl x).2)) H := by
 have hj := getElem?_lt ho
 have e1 := fun L => oc_app ho rfl rfl L
 have h44 := fun L => ok82 (H := H ++ L) (T := 68) (get_app_l ho L) x.nm
 simp only [cO, tyO] at e1
 generalize hw : dealF (namesOf r) r.pl x = w
 unfold dealF at hw
 refine ok_fn hm Tryz.func54 c54 (by simp [rp]) fun hcl => ?_
 simp -implicitDefEqProofs [i54, r54, rp, e1, stageV, StageP.c, exS]
 refine callq_go (fun _ => h44 _) ?_
 by_cases h1 : x.nm ∈ namesOf r
 · rw [if_neg (by simpa using h1)] at hw
   by_cases a1 : x.lo < -1000000000
   · rw [if_pos (.inl a1)] at hw
     subst hw
     simp -implicitDefEqProofs [h1, a1, e1, stageV, StageP.c, exS]
     refine call_go (ok53 (e := 2) (by decide) x.p) ?_
     simp -implicitDefEqProofs
     refine cv_fz 3 hcl rfl ?_
     simp
   by_cases a2 : 1000000000 < x.lo
   · rw [if_pos (.inr (.inl a2))] at hw
     subst hw
     simp -implicitDefEqProofs [h1, a1, a2, e1, stageV, StageP.c, exS]
     refine call_go (ok53 (e := 2) (by decide) x.p) ?_
     simp -implicitDefEqProofs
     refine cv_fz 3 hcl rfl ?_
     simp
   by_cases a3 : x.hi < x.lo
   · rw [if_pos (.inr (.inr (.inl a3)))] at hw
     subst hw
     simp -implicitDefEqProofs [h1, a1, a2, a3, e1, stageV, StageP.c, exS]
     refine call_go (ok53 (e := 2) (by decide) x.p) ?_
     simp -implicitDefEqProofs
     refine cv_fz 3 hcl rfl ?_
     simp
   have w6 : IntKind.i64.wrap (x.lo + 60) = x.lo + 60 := wrap_id (by omega) (by omega)
   by_cases a4 : x.lo + 60 ≤ x.hi
   · rw [if_pos (.inr (.inr (.inr a4)))] at hw
     subst hw
     simp -implicitDefEqProofs [h1, a1, a2, a3, w6, a4, e1, stageV, StageP.c, exS]
     refine call_go (ok53 (e := 2) (by decide) x.p) ?_
     simp -implicitDefEqProofs
     refine cv_fz 3 hcl rfl ?_
     simp
   rw [if_neg (by omega)] at hw
   simp -implicitDefEqProofs [h1, a1, a2, a3, w6, a4, e1, stageV, StageP.c, exS]
   refine LI.cong (H' := H ++ ⟨x.c, 45, 0, true⟩ :: []) (by simp [exS, StageP.c]) ?_
   refine loop54_0 (vs := namesOf r) (T := 68) (x0 := rp H.length) hl hh ho (res := wantL (namesOf r) 1 x.wt) (fun h1 env G h4 => ?_) (fun h1 env G h0 h3 => ?_) x.wt.length 0 [] _ (by omega) rfl ?_ ?_ ?_ ?_ ?_
   · rw [if_pos h1] at hw
     subst hw
     simp -implicitDefEqProofs [h4]
     refine cv_fz 3 hcl rfl ?_
     simp
   · rw [h1, if_neg (by simp)] at hw
     simp -implicitDefEqProofs [h0, h3, rp, StageP.c]
     refine LI.cong (H' := H ++ ⟨x.c, 45, 0, true⟩ :: G) (by simp [exS, StageP.c]) ?_
     refine loop54_1 hl2 ho (res := w) (fun h1 env G h4 => ?_) (fun h1 env G => ?_) x.seen.length 0 (-1) G _ (by omega) hw rfl ?_ ?_ ?_ ?_ ?_
     · simp -implicitDefEqProofs [h4]
       refine cv_fz 3 hcl rfl ?_
       simp
     · rw [h1]
       simp -implicitDefEqProofs
       refine cv_fz 3 hcl rfl ?_
       simp [errV_0]
     all_goals simp [h0, h3, rp]
   all_goals simp [rp, exS]
 · rw [if_pos h1] at hw
   subst hw
   simp -implicitDefEqProofs [h1, stageV, StageP.c, exS]
   refine call_go (ok53 (e := 7) (by decide) x.p) ?_
   simp -implicitDefEqProofs
   refine cv_fz 3 hcl rfl ?_
   simp
end
end Go.Proofs.YthmdmnfojbnobaaGreatDoor

namespace Go.Proofs.YthmdmnfojbnobaaGreatDoor
open Go.Ab
def setF (vs : List (List UInt8)) : List SetP → Int × Int
 | [] => (0, 0)
 | s :: r => if s.nm ∉ vs then (7, s.p) else if (wantF vs s.e 1).1 ≠ 0 then wantF vs s.e 1 else setF vs r
def goF (stgs : List StageP) (i : Int) (a : ActP) : Int × Int :=
 if a.go = [] then (0, 0) else if findF stgs a.go < 0 then (7, a.p) else if findF stgs a.go ≤ i then (9, a.p) else (0, 0)
def actF (vs : List (List UInt8)) (stgs : List StageP) (i : Int) (a : ActP) : Int × Int :=
 if 1 < a.wh.length then (3, a.p) else if (wantL vs 2 a.wh).1 ≠ 0 then wantL vs 2 a.wh else if (setF vs a.sets).1 ≠ 0 then setF vs a.sets else goF stgs i a
theorem SetP.c_len7 (s : SetP) : s.c.length = 7 := by simp [SetP.c]
section
variable {H : List AO} {vs : List (List UInt8)} {rest : List SV} {r : RulesP} {j : Nat} {T : TypeId}
theorem loop84_1 {l : List SetP} (hl : l.length < 1099511627776) (hh : ∀ s ∈ l, s.e.hgt ≤ 100000) (ho : H[j]? = some (tyO (varsM vs) opsM rest T)) {N : Nat} {K : XE → Env → List AO → Prop} {A : AO} {res : Int × Int} {x0 x1 : SV}
   (hret : res.1 ≠ 0 → ∀ env G, env.get 6 = errV res.1 res.2 → K .ret env (H ++ A :: G)) (hexit : res = (0, 0) → ∀ env G, env.get 0 = rp j → env.get 1 = x0 → env.get 5 = x1 → K (.exit 2) env (H ++ A :: G)) :
   ∀ (n i : Nat) (G : List AO) (env : Env), i + n = l.length → setF vs (l.drop i) = res → env.get 0 = rp j → env.get 1 = x0 → env.get 5 = x1 → env.get 38 = .slc (rws SetP.c l) l.length → env.get 39 = i64 l.length → env.get 40 = i64 i →
     LI Tryz.prog N drawB l84_1 env (H ++ A :: G) K := by
 intro n
 induction n with
 | zero =>
   intro i G env hi hr h0 hx0 hx1 hs hn hii
   refine li_go hm l84_1.eq_1 ?_
   have e : i = l.length := by omega
   subst e
   rw [List.drop_length] at hr
   simp -implicitDefEqProofs [h0, hx0, hx1, hs, hn, hii]
   refine hexit hr.symm _ _ ?_ ?_ ?_ <;> simp [h0, hx0, hx1]
 | succ n ih =>
   intro i G env hi hr h0 hx0 hx1 hs hn hii
   refine li_go hm l84_1.eq_1 ?_
   have hlt : i < l.length := by omega
   have hlt' : (i : Int) < l.length := by omega
   rw [List.drop_eq_getElem_cons hlt, setF] at hr
   have hg := rws_c SetP.c_len7 hlt
   have hlen := rws_len SetP.c_len7 l
   have h46 := fun L => ok83 (H := H ++ L) (T := T) (rest := rest) (hh l[i] (List.getElem_mem hlt)) (get_app_l ho L) 1
   have h44 := fun L => ok82 (H := H ++ L) (T := T) (rest := rest) (get_app_l ho L) l[i].nm
   generalize l[i] = s at hr hg h46 h44
   obtain ⟨nm, ⟨op, m, en, el, ep⟩, p⟩ := s
   simp only [SetP.c, Ex.c, List.cons_append, List.nil_append] at hg
   simp only [Ex.v, Ex.c] at h46
   simp -implicitDefEqProofs [h0, hx0, hx1, hs, hn, hii, hlt, hlt', hg, hlen, rp]
   simp only at hr h44
   refine ⟨by omega, callq_go (fun _ => h44 _) ?_⟩
   by_cases h1 : nm ∈ vs
   · rw [if_neg (by simpa using h1)] at hr
     generalize wantF vs (.mk op m en el ep) 1 = w at hr h46
     simp -implicitDefEqProofs [h0, hx0, hx1, hs, hn, hii, h1, rp]
     refine callq_go (fun _ => h46 _) ?_
     by_cases hw : w.1 = 0
     · rw [if_neg (by simpa using hw)] at hr
       have hev : errV w.1 w.2 = .val .nilIface := by rw [hw]; rfl
       rw [hev]
       simp -implicitDefEqProofs [h0, hx0, hx1, hs, hn, hii]
       refine ih (i + 1) _ _ (by omega) hr ?_ ?_ ?_ ?_ ?_ ?_
       all_goals simp [h0, hx0, hx1, hs, hn, rp, wrap_suc (show i < 9223372036854775807 by omega)]
     · rw [if_pos hw] at hr
       subst hr
       have hev := errV_of hw w.2
       rw [hev]
       simp -implicitDefEqProofs [h0, hx0, hx1, hs, hn, hii]
       refine hret hw _ _ ?_
       simp [hev]
   · rw [if_pos h1] at hr
     subst hr
     simp -implicitDefEqProofs [h0, hx0, hx1, hs, hn, hii, h1, rp]
     refine call_go (ok53 (e := 7) (by decide) p) ?_
     simp -implicitDefEqProofs
     refine hret (show ¬ (7 : Int) = 0 by decide) _ _ ?_
     simp
theorem ok84 (ho : H[j]? = some (cO r)) (hl : r.stages.length < 4611686018427387904) {a : ActP} (hs2 : a.sets.length < 1099511627776) (hw2 : ∀ e ∈ a.wh, e.hgt ≤ 100000) (hh : ∀ s ∈ a.sets, s.e.hgt ≤ 100000) {i : Nat} (hi : i < 4611686018427387904) :
   Ok Tryz.prog 84 [rp j, i64 i, actV a] H (.ret (errV (actF (namesOf r) r.stages i a).1 (actF (namesOf r) r.stages i a).2)) H := by
 have hj := getElem?_lt ho
 have e1 := fun L => oc_app ho rfl rfl L
 simp only [cO, tyO] at e1
 generalize hw : actF (namesOf r) r.stages i a = w
 unfold actF at hw
 refine ok_fn hm Tryz.func84 c84 (by simp [rp]) fun hcl => ?_
 by_cases h1 : 1 < a.wh.length
 · rw [if_pos h1] at hw
   subst hw
   have h1' : (1 : Int) < a.wh.length := by omega
   simp -implicitDefEqProofs [i84, r84, rp, e1, actV, ActP.c, exS, h1, h1']
   refine call_go (ok53 (e := 3) (by decide) a.p) ?_
   simp -implicitDefEqProofs
   refine cv_fz 4 hcl rfl ?_
   simp
 rw [if_neg h1] at hw
 have h1' : ¬ (1 : Int) < a.wh.length := by omega
 simp -implicitDefEqProofs [i84, r84, rp, e1, actV, ActP.c, exS, h1, h1']
 refine LI.cong (H' := H ++ ⟨a.c, 51, 0, true⟩ :: []) (by simp [exS, ActP.c]) ?_
 refine loop84_0 (vs := namesOf r) (T := 68) (x0 := i64 i) (x1 := rp H.length) (by omega) hw2 ho (res := wantL (namesOf r) 2 a.wh) (fun h1 env G h4 => ?_) (fun h1 env G h0 hx0 hx1 => ?_) a.wh.length 0 [] _ (by omega) rfl ?_ ?_ ?_ ?_ ?_ ?_
 · rw [if_pos h1] at hw
   subst hw
   simp -implicitDefEqProofs [h4]
   refine cv_fz 4 hcl rfl ?_
   simp
 · rw [h1, if_neg (by simp)] at hw
   simp -implicitDefEqProofs [h0, hx0, hx1, rp, ActP.c]
   refine LI.cong (H' := H ++ ⟨a.c, 51, 0, true⟩ :: G) (by simp [exS, ActP.c]) ?_
   refine loop84_1 (vs := namesOf r) (T := 68) (x0 := i64 i) (x1 := rp H.length) hs2 hh ho (res := setF (namesOf r) a.sets) (fun h1 env G h4 => ?_) (fun h1 env G h0 hx0 hx1 => ?_) a.sets.length 0 G _ (by omega) rfl ?_ ?_ ?_ ?_ ?_ ?_
   · rw [if_pos h1] at hw
     subst hw
     simp -implicitDefEqProofs [h4]
     refine cv_fz 4 hcl rfl ?_
     simp
   · rw [h1, if_neg (by simp)] at hw
     unfold goF at hw
     by_cases h2 : a.go = []
     · rw [if_pos h2] at hw
       subst hw
       simp -implicitDefEqProofs [h0, hx0, hx1, rp, ActP.c, h2]
       refine cv_fz 4 hcl rfl ?_
       simp [errV_0]
     · rw [if_neg h2] at hw
       simp -implicitDefEqProofs [h0, hx0, hx1, rp, ActP.c, h2, e1]
       refine call_of (ok22 hl a.go) ?_
       generalize findF r.stages a.go = t at hw ⊢
       by_cases h3 : t < 0
       · rw [if_pos h3] at hw
         subst hw
         simp -implicitDefEqProofs [h0, hx0, hx1, rp, h3]
         refine call_go (ok53 (e := 7) (by decide) a.p) ?_
         simp -implicitDefEqProofs
         refine cv_fz 4 hcl rfl ?_
         simp
       rw [if_neg h3] at hw
       by_cases h4 : t ≤ (i : Int)
       · rw [if_pos h4] at hw
         subst hw
         simp -implicitDefEqProofs [h0, hx0, hx1, rp, h3, h4]
         refine call_go (ok53 (e := 9) (by decide) a.p) ?_
         simp -implicitDefEqProofs
         refine cv_fz 4 hcl rfl ?_
         simp
       · rw [if_neg h4] at hw
         subst hw
         simp -implicitDefEqProofs [h0, hx0, hx1, rp, h3, h4]
         refine cv_fz 4 hcl rfl ?_
         simp [errV_0]
   all_goals simp [h0, hx0, hx1, rp]
 all_goals simp [rp, exS]
end
end Go.Proofs.YthmdmnfojbnobaaGreatDoor

namespace Go.Proofs.YthmdmnfojbnobaaGreatDoor
open Go.Ab
def actsF (vs : List (List UInt8)) (stgs : List StageP) (i : Int) : List (List UInt8) → List ActP → Int × Int
 | _, [] => (0, 0)
 | l, a :: r => if a.nm ∈ l then (8, a.p) else if (actF vs stgs i a).1 ≠ 0 then actF vs stgs i a else actsF vs stgs i (addS l a.nm) r
def turnF (vs : List (List UInt8)) (stgs : List StageP) (i : Int) (x : StageP) : Int × Int := match x.who with
 | [] => (0, 0)
 | e :: _ => if (wantF vs e 1).1 ≠ 0 then wantF vs e 1 else if x.acts.length < 1 ∨ 10 < x.acts.length then (3, x.p) else actsF vs stgs i [] x.acts
structure ActP.Ok (a : ActP) : Prop where
 sets : a.sets.length < 1099511627776
 wh : ∀ e ∈ a.wh, e.hgt ≤ 100000
 e : ∀ s ∈ a.sets, s.e.hgt ≤ 100000
section
variable {H : List AO} {r : RulesP} {j : Nat}
theorem loop55 {l : List ActP} (hl : l.length ≤ 10) (hh : ∀ a ∈ l, a.Ok) (ho : H[j]? = some (cO r)) (hstg : r.stages.length < 4611686018427387904) {st : Nat} (hst : st < 4611686018427387904) {N : Nat} {K : XE → Env → List AO → Prop} {A : AO} {res : Int × Int}
   (hret : res.1 ≠ 0 → ∀ env G, env.get 6 = errV res.1 res.2 → K .ret env (H ++ A :: G)) (hexit : res = (0, 0) → ∀ env G, K (.exit 0) env (H ++ A :: G)) :
   ∀ (n i : Nat) (m : List (List UInt8)) (G : List AO) (env : Env), i + n = l.length → actsF (namesOf r) r.stages st m (l.drop i) = res → env.get 0 = rp j → env.get 1 = i64 st → env.get 8 = .mp (H.length + 1) 0 → env.get 38 = .slc (rws ActP.c l) l.length → env.get 39 = i64 l.length → env.get 40 = i64 i →
     LI Tryz.prog N drawB l55_0 env (H ++ A :: vmO m :: G) K := by
 intro n
 induction n with
 | zero =>
   intro i m G env hi hr h0 h1 h8 hs hn hii
   refine li_go hm l55_0.eq_1 ?_
   have e : i = l.length := by omega
   subst e
   rw [List.drop_length] at hr
   simp -implicitDefEqProofs [h0, h1, h8, hs, hn, hii]
   exact hexit hr.symm _ _
 | succ n ih =>
   intro i m G env hi hr h0 h1 h8 hs hn hii
   refine li_go hm l55_0.eq_1 ?_
   have hlt : i < l.length := by omega
   have hlt' : (i : Int) < l.length := by omega
   rw [List.drop_eq_getElem_cons hlt, actsF] at hr
   have hg := rws_c ActP.c_len hlt
   have hlen := rws_len ActP.c_len l
   have hok := hh l[i] (List.getElem_mem hlt)
   have h47 := fun L => ok84 (H := H ++ L) (get_app_l ho L) hstg (a := l[i]) hok.sets hok.wh hok.e hst
   generalize l[i] = a at hr hg h47 hok
   have mo : ∀ G, SV.mapOf (H ++ A :: vmO m :: G) (.mp (H.length + 1) 0) = some (sks m, trues m.length) := fun G => by
     have : (H ++ A :: vmO m :: G)[H.length + 1]? = some (vmO m) := by simp
     simp only [SV.mapOf, this]; simp [vmO]
   have hal' : ∀ v ∈ sks m, KK.s.is v = true := fun v hv => List.all_eq_true.1 (sks_all m) v hv
   have hlk := lkm_s a.nm m
   simp only [ActP.c, exS] at hg
   simp only [actV, ActP.c, exS] at h47
   by_cases hv : a.nm ∈ m
   · rw [if_pos hv] at hr hlk
     subst hr
     simp -implicitDefEqProofs [h0, h1, h8, hs, hn, hii, hlt, hlt', hg, hlen, mo, hlk, exS]
     refine ⟨by omega, hal', call_go (ok53 (e := 8) (by decide) a.p) ?_⟩
     simp -implicitDefEqProofs
     refine hret (show ¬ (8 : Int) = 0 by decide) _ _ ?_
     simp
   · rw [if_neg hv] at hr hlk
     have e1 := setK_s a.nm m
     have e2 := setV_s a.nm m
     generalize actF (namesOf r) r.stages st a = w at hr h47
     simp -implicitDefEqProofs [h0, h1, h8, hs, hn, hii, hlt, hlt', hg, hlen, mo, hlk, exS]
     refine ⟨by omega, hal', s_mup_go (x := (sks m, trues m.length)) (mo _) rfl rfl (sks_all m) ?_⟩
     simp -implicitDefEqProofs [h0, h1, h8, hs, hn, hii, vmO, e1, e2, rp]
     refine call_go (h47 _) ?_
     by_cases hw : w.1 = 0
     · rw [if_neg (by simpa using hw)] at hr
       have hev : errV w.1 w.2 = .val .nilIface := by rw [hw]; rfl
       rw [hev]
       simp -implicitDefEqProofs [h0, h1, h8, hs, hn, hii]
       refine LI.cong ?_ (ih (i + 1) (addS m a.nm) (G ++ [⟨a.c, 51, 0, true⟩]) _ (by omega) hr ?_ ?_ ?_ ?_ ?_ ?_)
       · simp [vmO, ActP.c, exS]
       all_goals simp [h0, h1, h8, hs, hn, rp, wrap_suc (show i < 9223372036854775807 by omega)]
     · rw [if_pos hw] at hr
       subst hr
       have hev := errV_of hw w.2
       rw [hev]
       simp -implicitDefEqProofs [h0, h1, h8, hs, hn, hii]
       refine hret hw _ _ ?_
       simp [hev]
theorem ok55 (ho : H[j]? = some (cO r)) (hl : r.stages.length < 4611686018427387904) {x : StageP} (hx : x.acts.length < 4611686018427387904) {e0 : Ex} {wr : List Ex} (hwho : x.who = e0 :: wr) (he0 : e0.hgt ≤ 100000) (hh : ∀ a ∈ x.acts, a.Ok) {i : Nat} (hi : i < 4611686018427387904) :
   Ok Tryz.prog 55 [rp j, i64 i, stageV x] H (.ret (errV (turnF (namesOf r) r.stages i x).1 (turnF (namesOf r) r.stages i x).2)) H := by
 have hj := getElem?_lt ho
 have e1 := fun L => oc_app ho rfl rfl L
 simp only [cO, tyO] at e1
 have h46 := fun L => ok83 (H := H ++ L) (T := 68) (vs := namesOf r) he0 (get_app_l ho L) 1
 generalize hw : turnF (namesOf r) r.stages i x = w
 unfold turnF at hw
 rw [hwho] at hw
 simp only at hw
 refine ok_fn hm Tryz.func55 c55 (by simp [rp]) fun hcl => ?_
 generalize hq : wantF (namesOf r) e0 1 = q at hw h46
 obtain ⟨op, m, en, el, ep⟩ := e0
 simp only [Ex.v, Ex.c] at h46
 simp -implicitDefEqProofs [i55, r55, rp, e1, stageV, StageP.c, exS, hwho, Ex.cL, Ex.c]
 refine callq_go (fun _ => h46 _) ?_
 by_cases hw1 : q.1 = 0
 · rw [if_neg (by simpa using hw1)] at hw
   have hev : errV q.1 q.2 = .val .nilIface := by rw [hw1]; rfl
   rw [hev]
   by_cases a1 : x.acts.length < 1
   · rw [if_pos (.inl a1)] at hw
     subst hw
     have a1' : (x.acts.length : Int) < 1 := by omega
     simp -implicitDefEqProofs [rp, a1, a1']
     refine call_go (ok53 (e := 3) (by decide) x.p) ?_
     simp -implicitDefEqProofs
     refine cv_fz 3 hcl rfl ?_
     simp
   by_cases a2 : 10 < x.acts.length
   · rw [if_pos (.inr a2)] at hw
     subst hw
     have a1' : ¬ (x.acts.length : Int) < 1 := by omega
     have a2' : (10 : Int) < x.acts.length := by omega
     simp -implicitDefEqProofs [rp, a1, a1', a2, a2']
     refine call_go (ok53 (e := 3) (by decide) x.p) ?_
     simp -implicitDefEqProofs
     refine cv_fz 3 hcl rfl ?_
     simp
   rw [if_neg (by omega)] at hw
   have a1' : decide ((x.acts.length : Int) < 1) = false := by simp; omega
   have a2' : decide ((10 : Int) < x.acts.length) = false := by simp; omega
   simp -implicitDefEqProofs [rp, a1', a2']
   refine LI.cong (H' := H ++ ⟨x.c, 45, 0, true⟩ :: vmO [] :: []) (by simp [exS, StageP.c, vmO, hwho, Ex.cL, Ex.c, sks, trues]) ?_
   refine loop55 (by omega) hh ho hl hi (res := w) (fun h1 env G h4 => ?_) (fun h1 env G => ?_) x.acts.length 0 [] [] _ (by omega) hw ?_ ?_ ?_ ?_ ?_ ?_
   · simp -implicitDefEqProofs [h4]
     refine cv_fz 4 hcl rfl ?_
     simp
   · rw [h1]
     simp -implicitDefEqProofs
     refine cv_fz 4 hcl rfl ?_
     simp [errV_0]
   all_goals simp [rp]
 · rw [if_pos hw1] at hw
   subst hw
   have hev := errV_of hw1 q.2
   rw [hev]
   simp -implicitDefEqProofs
   refine cv_fz 3 hcl rfl ?_
   rw [← hev]; simp
end
end Go.Proofs.YthmdmnfojbnobaaGreatDoor

namespace Go.Proofs.YthmdmnfojbnobaaGreatDoor
open Go.Ab
def stageF (vs : List (List UInt8)) (pl : Int) (stgs : List StageP) (i : Int) (x : StageP) : Int × Int :=
 if 1 < x.wt.length ∨ (x.k = 2 ∧ x.who.length ≠ 1) then (3, x.p) else if x.k = 1 then dealF vs pl x else if x.k = 2 then turnF vs stgs i x else if x.k = 3 then endF vs pl x else (3, x.p)
def stagesF (vs : List (List UInt8)) (pl : Int) (stgs : List StageP) : Nat → List StageP → Int × Int
 | _, [] => (0, 0)
 | i, x :: r => if (stageF vs pl stgs (i : Int) x).1 ≠ 0 then stageF vs pl stgs (i : Int) x else stagesF vs pl stgs (i + 1) r
structure StageP.Ok (x : StageP) : Prop where
 wt : ∀ e ∈ x.wt, e.hgt ≤ 100000
 seen : x.seen.length < 4611686018427387904
 who : ∀ e ∈ x.who, e.hgt ≤ 100000
 acts : x.acts.length < 4611686018427387904
 act : ∀ a ∈ x.acts, a.Ok
 lp : x.pays.length < 4611686018427387904
 pays : ∀ e ∈ x.pays, e.hgt ≤ 100000
section
variable {H : List AO} {r : RulesP} {j : Nat}
theorem loop30 (hl : r.stages.length < 4611686018427387904) (hh : ∀ x ∈ r.stages, x.Ok) (ho : H[j]? = some (cO r)) {N : Nat} {K : XE → Env → List AO → Prop} {res : Int × Int}
   (hret : res.1 ≠ 0 → ∀ env G, env.get 2 = errV res.1 res.2 → K .ret env (H ++ G)) (hexit : res = (0, 0) → ∀ env G, K (.exit 0) env (H ++ G)) :
   ∀ (n i : Nat) (G : List AO) (env : Env), i + n = r.stages.length → stagesF (namesOf r) r.pl r.stages i (r.stages.drop i) = res → env.get 0 = rp j → env.get 10 = stgsV r.stages → env.get 11 = i64 r.stages.length → env.get 12 = i64 i →
     LI Tryz.prog N drawB l30_0 env (H ++ G) K := by
 intro n
 induction n with
 | zero =>
   intro i G env hi hr h0 hs hn hii
   refine li_go hm l30_0.eq_1 ?_
   have e : i = r.stages.length := by omega
   subst e
   rw [List.drop_length] at hr
   simp -implicitDefEqProofs [h0, hs, hn, hii]
   exact hexit hr.symm _ _
 | succ n ih =>
   intro i G env hi hr h0 hs hn hii
   refine li_go hm l30_0.eq_1 ?_
   have hlt : i < r.stages.length := by omega
   have hlt' : (i : Int) < r.stages.length := by omega
   rw [List.drop_eq_getElem_cons hlt, stagesF] at hr
   have hg := rws_c StageP.c_len hlt
   have hlen := rws_len StageP.c_len r.stages
   have hok := hh r.stages[i] (List.getElem_mem hlt)
   generalize r.stages[i] = x at hr hg hok
   have hob := fun L => get_app_l ho L
   simp only [StageP.c, exS] at hg
   have hsv : stageV x = .agg [i64 x.k, st (B x.lb), st (B x.nm), i64 x.lo, i64 x.hi, .slc (Ex.cL x.wt) x.wt.length, bl x.all, .slc (ints x.seen) x.seen.length, .slc (Ex.cL x.who) x.who.length, .slc (rws ActP.c x.acts) x.acts.length, .slc (Ex.cL x.pays) x.pays.length, i64 x.p] := rfl
   generalize hw : stageF (namesOf r) r.pl r.stages i x = w at hr
   unfold stageF at hw
   have h28 : ∀ L, (3, x.p) = w → Ok Tryz.prog 53 [i64 3, i64 x.p] L (.ret (errV w.1 w.2)) L := fun L h => by subst h; exact ok53 (e := 3) (by decide) x.p
   by_cases w1 : 1 < x.wt.length
   · rw [if_pos (.inl w1)] at hw
     have w1' : decide ((1 : Int) < x.wt.length) = true := by simp; omega
     simp -implicitDefEqProofs [h0, hs, hn, hii, stgsV, hlt, hlt', hg, hlen, rp, w1']
     refine ⟨by omega, call_go (out := .ret (errV w.1 w.2)) (h28 _ hw) ?_⟩
     by_cases hw1 : w.1 = 0
     · rw [if_neg (by simpa using hw1)] at hr
       have hev : errV w.1 w.2 = .val .nilIface := by rw [hw1]; rfl
       rw [hev]
       simp -implicitDefEqProofs [h0, hs, hn, hii]
       refine LI.cong ?_ (ih (i + 1) (G ++ [⟨x.c, 45, 0, true⟩]) _ (by omega) hr ?_ ?_ ?_ ?_)
       · simp [StageP.c, exS]
       all_goals simp [h0, hs, hn, rp, stgsV, wrap_suc (show i < 9223372036854775807 by omega)]
     · rw [if_pos hw1] at hr
       subst hr
       have hev := errV_of hw1 w.2
       rw [hev]
       simp -implicitDefEqProofs [h0, hs, hn, hii]
       refine hret hw1 _ _ ?_
       simp [hev]
   have w1' : decide ((1 : Int) < x.wt.length) = false := by simp; omega
   by_cases w2 : x.k = 2
   · by_cases w3 : x.who.length = 1
     · rw [if_neg (by omega), if_neg (by omega), if_pos w2] at hw
       obtain ⟨e0, hwho⟩ := List.length_eq_one_iff.1 w3
       have w3' : decide ((x.who.length : Int) = 1) = true := by simp; omega
       have k1 : decide (x.k = 1) = false := by simp; omega
       have k2 : decide (x.k = 2) = true := by simp; omega
       simp -implicitDefEqProofs [h0, hs, hn, hii, stgsV, hlt, hlt', hg, hlen, rp, w1', k1, k2, w3']
       refine ⟨by omega, call_go (out := .ret (errV w.1 w.2)) (hw ▸ hsv ▸ ok55 (hob _) hl hok.acts hwho (hok.who e0 (by simp [hwho])) hok.act (by omega)) ?_⟩
       by_cases hw1 : w.1 = 0
       · rw [if_neg (by simpa using hw1)] at hr
         have hev : errV w.1 w.2 = .val .nilIface := by rw [hw1]; rfl
         rw [hev]
         simp -implicitDefEqProofs [h0, hs, hn, hii]
         refine LI.cong ?_ (ih (i + 1) (G ++ [⟨x.c, 45, 0, true⟩]) _ (by omega) hr ?_ ?_ ?_ ?_)
         · simp [StageP.c, exS]
         all_goals simp [h0, hs, hn, rp, stgsV, wrap_suc (show i < 9223372036854775807 by omega)]
       · rw [if_pos hw1] at hr
         subst hr
         have hev := errV_of hw1 w.2
         rw [hev]
         simp -implicitDefEqProofs [h0, hs, hn, hii]
         refine hret hw1 _ _ ?_
         simp [hev]
     · rw [if_pos (.inr ⟨w2, w3⟩)] at hw
       have w3' : decide ((x.who.length : Int) = 1) = false := by simp; omega
       have k1 : decide (x.k = 1) = false := by simp; omega
       have k2 : decide (x.k = 2) = true := by simp; omega
       simp -implicitDefEqProofs [h0, hs, hn, hii, stgsV, hlt, hlt', hg, hlen, rp, w1', k1, k2, w3']
       refine ⟨by omega, call_go (out := .ret (errV w.1 w.2)) (h28 _ hw) ?_⟩
       by_cases hw1 : w.1 = 0
       · rw [if_neg (by simpa using hw1)] at hr
         have hev : errV w.1 w.2 = .val .nilIface := by rw [hw1]; rfl
         rw [hev]
         simp -implicitDefEqProofs [h0, hs, hn, hii]
         refine LI.cong ?_ (ih (i + 1) (G ++ [⟨x.c, 45, 0, true⟩]) _ (by omega) hr ?_ ?_ ?_ ?_)
         · simp [StageP.c, exS]
         all_goals simp [h0, hs, hn, rp, stgsV, wrap_suc (show i < 9223372036854775807 by omega)]
       · rw [if_pos hw1] at hr
         subst hr
         have hev := errV_of hw1 w.2
         rw [hev]
         simp -implicitDefEqProofs [h0, hs, hn, hii]
         refine hret hw1 _ _ ?_
         simp [hev]
   rw [if_neg (by omega)] at hw
   by_cases w3 : x.k = 1
   · rw [if_pos w3] at hw
     have k1 : decide (x.k = 1) = true := by simp; omega
     have k2 : decide (x.k = 2) = false := by simp; omega
     simp -implicitDefEqProofs [h0, hs, hn, hii, stgsV, hlt, hlt', hg, hlen, rp, w1', k1, k2]
     refine ⟨by omega, call_go (out := .ret (errV w.1 w.2)) (hw ▸ hsv ▸ ok54 (hob _) (by omega) hok.seen hok.wt) ?_⟩
     by_cases hw1 : w.1 = 0
     · rw [if_neg (by simpa using hw1)] at hr
       have hev : errV w.1 w.2 = .val .nilIface := by rw [hw1]; rfl
       rw [hev]
       simp -implicitDefEqProofs [h0, hs, hn, hii]
       refine LI.cong ?_ (ih (i + 1) (G ++ [⟨x.c, 45, 0, true⟩]) _ (by omega) hr ?_ ?_ ?_ ?_)
       · simp [StageP.c, exS]
       all_goals simp [h0, hs, hn, rp, stgsV, wrap_suc (show i < 9223372036854775807 by omega)]
     · rw [if_pos hw1] at hr
       subst hr
       have hev := errV_of hw1 w.2
       rw [hev]
       simp -implicitDefEqProofs [h0, hs, hn, hii]
       refine hret hw1 _ _ ?_
       simp [hev]
   rw [if_neg w3, if_neg w2] at hw
   by_cases w4 : x.k = 3
   · rw [if_pos w4] at hw
     have k1 : decide (x.k = 1) = false := by simp; omega
     have k2 : decide (x.k = 2) = false := by simp; omega
     have k3 : decide (x.k = 3) = true := by simp; omega
     simp -implicitDefEqProofs [h0, hs, hn, hii, stgsV, hlt, hlt', hg, hlen, rp, w1', k1, k2, k3]
     refine ⟨by omega, call_go (out := .ret (errV w.1 w.2)) (hw ▸ hsv ▸ ok56 (hob _) hok.lp hok.pays) ?_⟩
     by_cases hw1 : w.1 = 0
     · rw [if_neg (by simpa using hw1)] at hr
       have hev : errV w.1 w.2 = .val .nilIface := by rw [hw1]; rfl
       rw [hev]
       simp -implicitDefEqProofs [h0, hs, hn, hii]
       refine LI.cong ?_ (ih (i + 1) (G ++ [⟨x.c, 45, 0, true⟩]) _ (by omega) hr ?_ ?_ ?_ ?_)
       · simp [StageP.c, exS]
       all_goals simp [h0, hs, hn, rp, stgsV, wrap_suc (show i < 9223372036854775807 by omega)]
     · rw [if_pos hw1] at hr
       subst hr
       have hev := errV_of hw1 w.2
       rw [hev]
       simp -implicitDefEqProofs [h0, hs, hn, hii]
       refine hret hw1 _ _ ?_
       simp [hev]
   · rw [if_neg w4] at hw
     have k1 : decide (x.k = 1) = false := by simp; omega
     have k2 : decide (x.k = 2) = false := by simp; omega
     have k3 : decide (x.k = 3) = false := by simp; omega
     simp -implicitDefEqProofs [h0, hs, hn, hii, stgsV, hlt, hlt', hg, hlen, rp, w1', k1, k2, k3]
     refine ⟨by omega, call_go (out := .ret (errV w.1 w.2)) (h28 _ hw) ?_⟩
     by_cases hw1 : w.1 = 0
     · rw [if_neg (by simpa using hw1)] at hr
       have hev : errV w.1 w.2 = .val .nilIface := by rw [hw1]; rfl
       rw [hev]
       simp -implicitDefEqProofs [h0, hs, hn, hii]
       refine LI.cong ?_ (ih (i + 1) (G ++ [⟨x.c, 45, 0, true⟩]) _ (by omega) hr ?_ ?_ ?_ ?_)
       · simp [StageP.c, exS]
       all_goals simp [h0, hs, hn, rp, stgsV, wrap_suc (show i < 9223372036854775807 by omega)]
     · rw [if_pos hw1] at hr
       subst hr
       have hev := errV_of hw1 w.2
       rw [hev]
       simp -implicitDefEqProofs [h0, hs, hn, hii]
       refine hret hw1 _ _ ?_
       simp [hev]
end
end Go.Proofs.YthmdmnfojbnobaaGreatDoor

namespace Go.Proofs.YthmdmnfojbnobaaGreatDoor
open Go.Ab
def firstF : List (Int × Int) → Int × Int
 | [] => (0, 0)
 | w :: r => if w.1 ≠ 0 then w else firstF r
def checkF (r : RulesP) : Int × Int := firstF [plF r, varF [] r.vars, labF [] r.stages, lastF r.stages, stagesF (namesOf r) r.pl r.stages 0 r.stages]
section
variable {H : List AO} {r : RulesP} {j : Nat}
theorem ok30 (ho : H[j]? = some (cO r)) (hl : r.stages.length < 4611686018427387904) (hh : ∀ x ∈ r.stages, x.Ok) : Ok Tryz.prog 30 [rp j] H (.ret (errV (stagesF (namesOf r) r.pl r.stages 0 r.stages).1 (stagesF (namesOf r) r.pl r.stages 0 r.stages).2)) H := by
 have hj := getElem?_lt ho
 have e1 := fun L => oc_app ho rfl rfl L
 have e0 : objCells H j 0 = (cO r).cells := objCells_of ho rfl
 simp only [cO, tyO, stgsV] at e1 e0
 generalize hw : stagesF (namesOf r) r.pl r.stages 0 r.stages = w
 refine ok_fn hm Tryz.func30 c30 (by simp [rp]) fun hcl => ?_
 simp -implicitDefEqProofs [i30, r30, rp, e0, e1]
 refine LI.cong (H' := H ++ []) (by simp) ?_
 refine loop30 hl hh ho (res := w) (fun h1 env G h4 => ?_) (fun h1 env G => ?_) r.stages.length 0 [] _ (by omega) hw ?_ ?_ ?_ ?_
 · simp -implicitDefEqProofs [h4]
   refine cv_fz 3 hcl rfl ?_
   simp
 · rw [h1]
   simp -implicitDefEqProofs
   refine cv_fz 3 hcl rfl ?_
   simp [errV_0]
 all_goals simp [rp, stgsV]
def stepsO (fs : List Nat) (j : Nat) : List SV := fs.map fun k => .fn (.func k) [rp j] []
theorem loop25 {fs : List Nat} {ws : List (Int × Int)} {q T : Nat} (hf : fs.length = 5) (hws : ws.length = 5) (hq : H[q]? = some ⟨stepsO fs j, T, 0, true⟩) (hall : ∀ i (h1 : i < fs.length) (h2 : i < ws.length) L, Ok Tryz.prog fs[i] [rp j] (H ++ L) (.ret (errV ws[i].1 ws[i].2)) (H ++ L)) {N : Nat} {K : XE → Env → List AO → Prop} {res : Int × Int}
   (hret : res.1 ≠ 0 → ∀ env G, env.get 2 = errV res.1 res.2 → K .ret env (H ++ G)) (hexit : res = (0, 0) → ∀ env G, K (.exit 0) env (H ++ G)) :
   ∀ (n i : Nat) (G : List AO) (env : Env), i + n = 5 → firstF (ws.drop i) = res → env.get 6 = .own q 0 5 1 0 → env.get 7 = i64 5 → env.get 8 = i64 i →
     LI Tryz.prog N drawB l25_0 env (H ++ G) K := by
 have hj := getElem?_lt hq
 have e1 := fun L => oc_app hq rfl rfl L
 intro n
 induction n with
 | zero =>
   intro i G env hi hr hs hn hii
   refine li_go hm l25_0.eq_1 ?_
   have e : i = 5 := by omega
   subst e
   rw [List.drop_of_length_le (by omega)] at hr
   simp -implicitDefEqProofs [hs, hn, hii]
   exact hexit hr.symm _ _
 | succ n ih =>
   intro i G env hi hr hs hn hii
   refine li_go hm l25_0.eq_1 ?_
   have hlt : i < fs.length := by omega
   have hlt2 : i < ws.length := by omega
   have hlt5 : i < 5 := by omega
   have hlt' : (i : Int) < 5 := by omega
   rw [List.drop_eq_getElem_cons hlt2, firstF] at hr
   have h := hall i hlt hlt2
   have hc : ∀ h, (stepsO fs j)[i]'h = .fn (.func fs[i]) [rp j] [] := fun h => by simp [stepsO]
   have hsl : (stepsO fs j).length = 5 := by simp [stepsO, hf]
   generalize ws[i] = w at hr h
   generalize fs[i] = k at h hc
   simp -implicitDefEqProofs [hs, hn, hii, hlt', hlt5, e1, hj, hc, hsl]
   refine ⟨by omega, call_of (h _) ?_⟩
   by_cases hw : w.1 = 0
   · rw [if_neg (by simpa using hw)] at hr
     have hev : errV w.1 w.2 = .val .nilIface := by rw [hw]; rfl
     rw [hev]
     simp -implicitDefEqProofs [hs, hn, hii]
     refine ih (i + 1) _ _ (by omega) hr ?_ ?_ ?_
     all_goals simp [hs, hn, wrap_suc (show i < 9223372036854775807 by omega)]
   · rw [if_pos hw] at hr
     subst hr
     have hev := errV_of hw w.2
     rw [hev]
     simp -implicitDefEqProofs [hs, hn, hii]
     refine hret hw _ _ ?_
     simp [hev]
theorem ok25 {fs : List Nat} {ws : List (Int × Int)} {q T : Nat} (hf : fs.length = 5) (hws : ws.length = 5) (hq : H[q]? = some ⟨stepsO fs j, T, 0, true⟩) (hall : ∀ i (h1 : i < fs.length) (h2 : i < ws.length) L, Ok Tryz.prog fs[i] [rp j] (H ++ L) (.ret (errV ws[i].1 ws[i].2)) (H ++ L)) :
   Ok Tryz.prog 25 [.own q 0 5 1 0] H (.ret (errV (firstF ws).1 (firstF ws).2)) H := by
 have hj := getElem?_lt hq
 generalize hw : firstF ws = w
 refine ok_fn hm Tryz.func25 c25 (by simp) fun hcl => ?_
 simp -implicitDefEqProofs [i25, r25]
 refine LI.cong (H' := H ++ []) (by simp) ?_
 refine loop25 hf hws hq hall (res := w) (fun h1 env G h4 => ?_) (fun h1 env G => ?_) 5 0 [] _ (by omega) hw ?_ ?_ ?_
 · simp -implicitDefEqProofs [h4]
   refine cv_fz 3 hcl rfl ?_
   simp
 · rw [h1]
   simp -implicitDefEqProofs
   refine cv_fz 3 hcl rfl ?_
   simp [errV_0]
 all_goals simp
structure RulesP.Ok (r : RulesP) : Prop where
 vars : r.vars.length < 1099511627776
 stages : r.stages.length < 4611686018427387904
 st : ∀ x ∈ r.stages, x.Ok
theorem firstF_0 : ∀ l : List (Int × Int), (firstF l).1 = 0 → firstF l = (0, 0)
 | [], _ => rfl
 | w :: l, h => by
   rw [firstF] at h ⊢
   by_cases hw : w.1 = 0
   · rw [if_neg (by simpa using hw)] at h ⊢
     exact firstF_0 l h
   · rw [if_pos hw] at h
     exact absurd h hw
theorem ok10 (hr : r.Ok) : Ok Tryz.prog 10 [rulesV r] H (.ret (.agg [i64 (checkF r).1, i64 (checkF r).2])) H := by
 have h14 := fun H => ok13 (H := H) (r := r) hr.vars
 have h13 := fun H => ok24 (H := H) (vs := namesOf r) (by have := hr.vars; simp [namesOf]; omega)
 generalize hw : checkF r = w
 simp only [rulesV, RulesP.c] at h14
 refine ok_fn hm Tryz.func10 c10 (by simp) fun hcl => ?_
 simp -implicitDefEqProofs [i10, r10, rulesV, RulesP.c]
 refine callq_go (fun _ => h14 _) ?_
 simp -implicitDefEqProofs
 refine callq_go (fun _ => h13 _) ?_
 simp -implicitDefEqProofs [typV]
 have hc : ∀ L, Ok Tryz.prog 25 [.own (H.length + 3) 0 5 1 0] (H ++ ⟨r.c, 25, 0, true⟩ :: ⟨[i64 0, i64 0], 32, 0, true⟩ :: cO r :: ⟨stepsO [26, 27, 28, 29, 30] (H.length + 2), 72, 0, true⟩ :: L) (.ret (errV w.1 w.2)) (H ++ ⟨r.c, 25, 0, true⟩ :: ⟨[i64 0, i64 0], 32, 0, true⟩ :: cO r :: ⟨stepsO [26, 27, 28, 29, 30] (H.length + 2), 72, 0, true⟩ :: L) := fun L => by
   rw [← hw]
   refine ok25 (j := H.length + 2) (T := 72) (fs := [26, 27, 28, 29, 30]) rfl rfl (by simp) fun i h1 h2 L2 => ?_
   have ho : ((H ++ ⟨r.c, 25, 0, true⟩ :: ⟨[i64 0, i64 0], 32, 0, true⟩ :: cO r :: ⟨stepsO [26, 27, 28, 29, 30] (H.length + 2), 72, 0, true⟩ :: L) ++ L2)[H.length + 2]? = some (cO r) := by
     rw [List.append_assoc, List.getElem?_append_right (by omega), show H.length + 2 - H.length = 2 by omega]; rfl
   have hst := hr.stages
   rcases i with _ | _ | _ | _ | _ | i
   · exact ok26 ho
   · exact ok27 ho (by have := hr.vars; omega)
   · exact ok28 ho hr.stages
   · exact ok29 ho hr.stages
   · exact ok30 ho hr.stages hr.st
   · exact absurd h1 (by simp)
 refine ⟨⟨rfl, rfl, rfl⟩, call_go (hc []) ?_⟩
 by_cases h0 : w.1 = 0
 · have hev : errV w.1 w.2 = .val .nilIface := by rw [h0]; rfl
   rw [hev]
   simp -implicitDefEqProofs
   have hw0 : w = (0, 0) := by subst hw; exact firstF_0 _ h0
   rw [hw0]
   refine cv_fz 4 hcl rfl ?_
   simp
 · have hev := errV_of h0 w.2
   have h22 := fun L => ok31 (H := L) h0 w.2
   rw [hev] at h22
   rw [hev]
   simp -implicitDefEqProofs
   refine call_go (h22 _) ?_
   simp -implicitDefEqProofs [fltV]
   refine cv_fz 4 hcl rfl ?_
   simp
end
end Go.Proofs.YthmdmnfojbnobaaGreatDoor

namespace Go.Proofs.YthmdmnfojbnobaaGreatDoor
open Go.Ab
def xS : List (List UInt8) := [[120]]
def okA (a : ActP) : Bool := decide (a.sets.length < 1099511627776) && (a.wh.all (fun e => decide (e.hgt ≤ 100000)) && a.sets.all (fun s => decide (s.e.hgt ≤ 100000)))
def okS (x : StageP) : Bool := x.wt.all (fun e => decide (e.hgt ≤ 100000)) && (decide (x.seen.length < 4611686018427387904) && (x.who.all (fun e => decide (e.hgt ≤ 100000)) && (decide (x.acts.length < 4611686018427387904) && (x.acts.all okA && (decide (x.pays.length < 4611686018427387904) && x.pays.all (fun e => decide (e.hgt ≤ 100000)))))))
def okR (r : RulesP) : Bool := decide (r.vars.length < 1099511627776) && (decide (r.stages.length < 4611686018427387904) && r.stages.all okS)
theorem okA_ok {a : ActP} (h : okA a = true) : a.Ok := by
 simp only [okA, Bool.and_eq_true, decide_eq_true_eq, List.all_eq_true] at h
 exact ⟨h.1, h.2.1, h.2.2⟩
theorem okS_ok {x : StageP} (h : okS x = true) : x.Ok := by
 simp only [okS, Bool.and_eq_true, decide_eq_true_eq, List.all_eq_true] at h
 obtain ⟨h1, h2, h3, h4, h5, h6, h7⟩ := h
 exact ⟨h1, h2, h3, h4, fun a ha => okA_ok (h5 a ha), h6, h7⟩
theorem okR_ok {r : RulesP} (h : okR r = true) : r.Ok := by
 simp only [okR, Bool.and_eq_true, decide_eq_true_eq, List.all_eq_true] at h
 exact ⟨h.1, h.2.1, fun x hx => okS_ok (h.2.2 x hx)⟩
section
variable {H : List AO} {l : List UInt8}
theorem ok50 (hl : l.length < 4611686018427387904) : Ok Tryz.prog 50 [st (B l)] H (.ret (exprR l).1.v) H := by
 have h := fun H => ok81 (H := H) hl
 generalize exprR l = q at h ⊢
 obtain ⟨⟨op, n, nm, es, p⟩, e, at_⟩ := q
 simp only [Ex.v, Ex.c] at h
 refine ok_fn hm Tryz.func50 c50 (by simp) fun hcl => ?_
 simp -implicitDefEqProofs [i50, r50, Ex.v, Ex.c]
 refine call_go (h _) ?_
 simp -implicitDefEqProofs [fltV]
 refine cv_fz 4 hcl rfl ?_
 simp
theorem ok16 (hl : l.length < 4611686018427387904) : Ok Tryz.prog 16 [st (B l)] H (.ret (rulesV (parseR l).1)) H := by
 have h := fun H => ok36 (H := H) hl
 generalize parseR l = q at h ⊢
 obtain ⟨⟨nm, pl, vs, ss⟩, e, at_⟩ := q
 simp only [rulesV, RulesP.c] at h
 refine ok_fn hm Tryz.func16 c16 (by simp) fun hcl => ?_
 simp -implicitDefEqProofs [i16, r16, rulesV, RulesP.c]
 refine call_go (h _) ?_
 simp -implicitDefEqProofs [fltV]
 refine cv_fz 4 hcl rfl ?_
 simp
theorem ok21 (hl : l.length < 4611686018427387904) {k e p : Int} (hh : decide ((exprR l).1.hgt ≤ 100000) = true) (ht : tyE xS (exprR l).1 = (k, e, p)) : Ok Tryz.prog 21 [st (B l), i64 k, i64 e, i64 p] H (.ret (bl true)) H := by
 have h := fun H => ok50 (H := H) hl
 have h10 := fun H x (hx : IsS H x xS) => ok49x (H := H) (vs := xS) hx (of_decide_eq_true hh) (by decide)
 rw [ht] at h10
 refine ok_fn hm Tryz.func21 c21 (by simp) fun hcl => ?_
 simp -implicitDefEqProofs [i21, r21]
 refine call_go (h _) ?_
 simp -implicitDefEqProofs
 refine call_go (h10 _ _ (IsS.own1 (T := 9) (k := 0) rfl rfl)) ?_
 simp -implicitDefEqProofs [fltV]
 refine cv_fz 4 hcl rfl ?_
 simp
end
end Go.Proofs.YthmdmnfojbnobaaGreatDoor

namespace Go.Proofs.YthmdmnfojbnobaaGreatDoor
open Go.Ab
section
variable {H : List AO}
theorem ex0 : Ok Tryz.prog 21 [st ⟨#[49, 32, 43, 32, 120]⟩, i64 1, i64 0, i64 0] H (.ret (bl true)) H := ok21 (l := [49, 32, 43, 32, 120]) (by decide) (by kernel_rfl) (by kernel_rfl)
theorem ex1 : Ok Tryz.prog 21 [st ⟨#[120, 32, 60, 32, 50, 32, 97, 110, 100, 32, 110, 111, 116, 32, 120, 32, 61, 61, 32, 49]⟩, i64 2, i64 0, i64 0] H (.ret (bl true)) H := ok21 (l := [120, 32, 60, 32, 50, 32, 97, 110, 100, 32, 110, 111, 116, 32, 120, 32, 61, 61, 32, 49]) (by decide) (by kernel_rfl) (by kernel_rfl)
def rt0 : List UInt8 := [103, 97, 109, 101, 32, 103, 59, 32, 112, 108, 97, 121, 101, 114, 115, 32, 53, 59, 32, 101, 110, 100, 32, 123, 32, 112, 97, 121, 32, 49, 59, 32, 125]
def rr0 : RulesP := (parseR rt0).1
theorem ra0 : Ok Tryz.prog 16 [st ⟨#[103, 97, 109, 101, 32, 103, 59, 32, 112, 108, 97, 121, 101, 114, 115, 32, 53, 59, 32, 101, 110, 100, 32, 123, 32, 112, 97, 121, 32, 49, 59, 32, 125]⟩] H (.ret (rulesV rr0)) H := ok16 (l := rt0) (by decide)
theorem rc0 : checkF rr0 = (2, 0) := by kernel_rfl
theorem rb0 : Ok Tryz.prog 10 [rulesV rr0] H (.ret (.agg [i64 2, i64 0])) H := by
 have := ok10 (H := H) (r := rr0) (okR_ok (by kernel_rfl))
 rwa [rc0] at this
theorem ok7 : Ok Tryz.prog 7 [] H (.ret (bl true)) H := by
 refine ok_fn hm Tryz.func7 c7 (by simp) fun hcl => ?_
 simp -implicitDefEqProofs [i7, r7]
 refine call_go ex0 ?_
 simp -implicitDefEqProofs
 refine callq_go (fun _ => ex1) ?_
 simp -implicitDefEqProofs
 refine callq_go (fun _ => ra0) ?_
 simp -implicitDefEqProofs
 refine callq_st (fun _ => rb0) ?_
 simp -implicitDefEqProofs
 exact cv_id
end
end Go.Proofs.YthmdmnfojbnobaaGreatDoor

namespace Go.Proofs.YthmdmnfojbnobaaGreatDoor
open Go.Ab Go.ChangeShapes Go.WideShapes Go.ChangeAt Go.RowKit
def laid3 : List (String × DataW Unit) := [("errors.errorType", Rows.laid_errors_errorType)]
theorem own : ownKnob Tryz.prog.godebug = none := by kernel_rfl
theorem laidOut : laidOutB Tryz.prog = true := by kernel_rfl
theorem gE : Tryz.prog.globalNamed "errors.errorType" = some 0 := by kernel_rfl
theorem rtE : (Tryz.prog.cutTypes.find? (·.1 == "internal/reflectlite.rtype")).map (·.2) = some 161 := by kernel_rfl
theorem size : Tryz.prog.types.size = 208 := by kernel_rfl
theorem oneRow : ((List.range 208).filter fun t => Tryz.prog.rowNamed t [101, 114, 114, 111, 114]) = [70] := by kernel_rfl
theorem door_met (os : Os) (args : Array Value) : laidMetH Tryz.prog laid3 ((World.doorLaid Tryz.prog 400 os).forCall (fun _ _ => 0) ⟨#[], args, []⟩).memory :=
 laidMetH_of_parts3 (fuel := 8) (laidMet_of_run' 8 (by kernel_rfl) (by kernel_rfl)) (by kernel_rfl) (by kernel_rfl)
theorem gl_of {W : World} (h : laidMetH Tryz.prog laid3 W) : (st0 W).GL := by
 have h' : laidMet Tryz.prog [] W ∧ handlesMet Tryz.prog [("errors.errorType", Rows.laid_errors_errorType)] W := h
 obtain ⟨_, hh⟩ := h'
 obtain ⟨name, u, ty, e1, e2, e3, e4, e5⟩ := hh _ (List.mem_singleton.2 rfl)
 have en : name = [101, 114, 114, 111, 114] := (Option.some.inj e1).symm
 subst en
 obtain rfl := Option.some.inj (rtE.symm.trans e2)
 have hm : ty ∈ (List.range 208).filter fun t => Tryz.prog.rowNamed t [101, 114, 114, 111, 114] := List.mem_filter.2 ⟨List.mem_range.2 (by rw [← size]; exact e3), e4⟩
 rw [oneRow] at hm
 obtain rfl := List.mem_singleton.1 hm
 have hh : typeHandle Tryz.prog 70 = .pointer (some ⟨1, 70, none⟩) := by kernel_rfl
 rw [hh] at e5
 have key : ∀ (g : Nat) (nm : String) (cs : Array Value) (us : List Value), Tryz.prog.globalNamed nm = some g → W.var? Tryz.prog nm = some cs → cs.toList = us → (st0 W).Imm ⟨g, 0, none⟩ us := by
   intro g nm cs us h1 h2 h3
   refine ⟨fun j u hj => ?_, fun _ => rw0 W _⟩
   have := World.var?_cell h1 h2 j
   have e : ((⟨g, 0, none⟩ : Addr).add j) = ⟨g, j, none⟩ := by unfold Addr.add; split <;> simp_all
   rw [e]
   show W.cell? _ = _
   rw [this, ← Array.getElem?_toList, h3]; exact hj
 intro g us hg
 match g, hg with
 | 0, hg => cases hg; exact key 0 _ _ _ gE e5 rfl
end Go.Proofs.YthmdmnfojbnobaaGreatDoor

namespace Go.Proofs.YthmdmnfojbnobaaGreatDoor
open Go.Ab
section
variable {H : List AO}
theorem ok32 (e p : Int) : Ok Tryz.prog 32 [i64 e, i64 p] H (.ret (fltV e p)) H := by
 refine ok_fn hm Tryz.func32 c32 (by simp) fun hcl => ?_
 simp -implicitDefEqProofs [i32, r32]
 refine cv_fz 2 hcl rfl ?_
 simp [fltV]
theorem ok33 (n : Int) : Ok Tryz.prog 33 [i64 n] H (.ret (bl (decide (-1000000000 ≤ n ∧ n ≤ 1000000000)))) H := by
 refine ok_fn hm Tryz.func33 c33 (by simp) fun hcl => ?_
 by_cases h1 : -1000000000 ≤ n
 · by_cases h2 : n ≤ 1000000000
   · simp -implicitDefEqProofs [i33, r33, h1, h2]
     exact cv_id
   · simp -implicitDefEqProofs [i33, r33, h1, h2]
     exact cv_id
 · simp -implicitDefEqProofs [i33, r33, h1]
   exact cv_id
theorem loop34 {vs : List (List UInt8)} {x : SV} {s : List UInt8} (hx : IsS H x vs) (hl : vs.length < 4611686018427387904) {N : Nat} {K : XE → Env → List AO → Prop}
   (hret : s ∈ vs → ∀ env, env.get 4 = bl true → K .ret env H) (hexit : s ∉ vs → ∀ env, K (.exit 0) env H) :
   ∀ (n i : Nat) (env : Env), i + n = vs.length → (s ∈ vs ↔ s ∈ vs.drop i) → env.get 0 = x → env.get 1 = st (B s) → env.get 5 = i64 i → LI Tryz.prog N drawB l34_0 env H K := by
 intro n
 induction n with
 | zero =>
   intro i env hi hm' h0 h1 h5
   refine li_go hm l34_0.eq_1 ?_
   have e : i = vs.length := by omega
   subst e
   rw [List.drop_length] at hm'
   simp -implicitDefEqProofs [h0, h1, h5, hx.vd, hx.ug, hx.sl, hx.len]
   exact hexit (fun h => by simpa using hm'.1 h) _
 | succ n ih =>
   intro i env hi hm' h0 h1 h5
   refine li_go hm l34_0.eq_1 ?_
   have hlt : i < vs.length := by omega
   have hlt' : (i : Int) < vs.length := by omega
   rw [List.drop_eq_getElem_cons hlt] at hm'
   have hv := hx.vA [] hlt
   have ho := hx.okA [] hlt
   simp only [List.append_nil] at hv ho
   have hmem : vs[i] ∈ vs := List.getElem_mem hlt
   generalize vs[i] = v at hm' hv hmem
   by_cases hs : v = s
   · subst hs
     simp -implicitDefEqProofs [h0, h1, h5, hlt, hlt', hx.vd, hx.ug, hx.sl, hx.cell, hx.sz, hx.len, hv, ho]
     exact hret hmem _ (by simp)
   · simp -implicitDefEqProofs [h0, h1, h5, hlt, hlt', hx.vd, hx.ug, hx.sl, hx.cell, hx.sz, hx.len, hv, ho, hs]
     refine ih (i + 1) _ (by omega) ?_ ?_ ?_ ?_
     · rw [hm', List.mem_cons]
       constructor
       · rintro (h | h)
         · exact absurd h.symm hs
         · exact h
       · exact .inr
     all_goals simp [h0, h1, wrap_suc (show i < 9223372036854775807 by omega)]
theorem ok34 {vs : List (List UInt8)} {x : SV} (s : List UInt8) (hx : IsS H x vs) (hl : vs.length < 4611686018427387904) : Ok Tryz.prog 34 [x, st (B s)] H (.ret (bl (decide (s ∈ vs)))) H := by
 refine ok_fn hm Tryz.func34 c34 (by simp [hx.vd]) fun hcl => ?_
 simp -implicitDefEqProofs [i34, r34]
 refine loop34 (s := s) hx hl (fun hs env h4 => ?_) (fun hs env => ?_) vs.length 0 _ (by omega) (by simp) ?_ ?_ ?_
 · simp -implicitDefEqProofs [h4, hs]
   exact cv_id
 · simp -implicitDefEqProofs [hs]
   exact cv_id
 all_goals simp
theorem stg_0 {l : List StageP} {i : Nat} (h : i < l.length) : (rws StageP.c l)[i * 12]? = some (i64 l[i].k) := by
 have := rws_get (t := 0) StageP.c_len h (by omega); rw [Nat.add_zero] at this; rw [this]; rfl
theorem stg_1 {l : List StageP} {i : Nat} (h : i < l.length) : (rws StageP.c l)[i * 12 + 1]? = some (st (B l[i].lb)) := by rw [rws_get StageP.c_len h (by omega)]; rfl
theorem stg_9 {l : List StageP} {i : Nat} (h : i < l.length) : (rws StageP.c l)[i * 12 + 9]? = some (.slc (rws ActP.c l[i].acts) l[i].acts.length) := by rw [rws_get StageP.c_len h (by omega)]; rfl
theorem stg_11 {l : List StageP} {i : Nat} (h : i < l.length) : (rws StageP.c l)[i * 12 + 11]? = some (i64 l[i].p) := by rw [rws_get StageP.c_len h (by omega)]; rfl
theorem loop23 {l : List StageP} {s : List UInt8} (hs0 : s ≠ []) (hl : l.length < 4611686018427387904) {A : AO} (hA : A.live = true ∧ A.ver = 0 ∧ ∃ a b c, A.cells = [a, b, c, stgsV l]) {N : Nat} {K : XE → Env → List AO → Prop} {res : Int}
   (hret : ∀ env G, env.get 4 = i64 res → K .ret env (H ++ A :: G)) (hexit : res = -1 → ∀ env G, K (.exit 0) env (H ++ A :: G)) :
   ∀ (n i : Nat) (G : List AO) (env : Env), i + n = l.length → findG s i (l.drop i) = res → env.get 1 = st (B s) → env.get 2 = rp H.length → env.get 5 = i64 i →
     LI Tryz.prog N drawB l23_0 env (H ++ A :: G) K := by
 obtain ⟨hA1, hA2, a, b, c, hA3⟩ := hA
 obtain ⟨cs, T, ver, lv⟩ := A
 simp only at hA1 hA2 hA3
 subst hA1 hA2 hA3
 intro n
 induction n with
 | zero =>
   intro i G env hi hr h1 h2 h5
   refine li_go hm l23_0.eq_1 ?_
   have e : i = l.length := by omega
   subst e
   rw [List.drop_length] at hr
   simp -implicitDefEqProofs [h1, h2, h5, rp, stgsV]
   exact hexit hr.symm _ _
 | succ n ih =>
   intro i G env hi hr h1 h2 h5
   refine li_go hm l23_0.eq_1 ?_
   have hlt : i < l.length := by omega
   have hlt' : (i : Int) < l.length := by omega
   rw [List.drop_eq_getElem_cons hlt, findG] at hr
   have hg := stg_1 hlt
   have hlen := rws_len StageP.c_len l
   generalize l[i] = v at hr hg
   by_cases hv : v.lb = s
   · rw [if_pos hv] at hr
     subst hr
     simp -implicitDefEqProofs [h1, h2, h5, rp, stgsV, hlt, hlt', hg, hlen, StageP.c, exS, hv, hs0]
     refine ⟨by omega, ?_⟩
     refine hret _ _ ?_
     simp
   · rw [if_neg hv] at hr
     simp -implicitDefEqProofs [h1, h2, h5, rp, stgsV, hlt, hlt', hg, hlen, StageP.c, exS, hv, hs0]
     refine ⟨by omega, ?_⟩
     refine ih (i + 1) _ _ (by omega) hr ?_ ?_ ?_
     all_goals simp [h1, h2, rp, wrap_suc (show i < 9223372036854775807 by omega)]
theorem ok23 {r : RulesP} (hl : r.stages.length < 4611686018427387904) {s : List UInt8} (hs : s ≠ []) : Ok Tryz.prog 23 [rulesV r, st (B s)] H (.ret (i64 (findF r.stages s))) H := by
 refine ok_fn hm Tryz.func23 c23 (by simp) fun hcl => ?_
 simp -implicitDefEqProofs [i23, r23, rulesV, RulesP.c]
 refine LI.cong (H' := H ++ ⟨[st (B r.nm), i64 r.pl, varsV r.vars, stgsV r.stages], 25, 0, true⟩ :: []) (by simp [varsV, stgsV]) ?_
 refine loop23 (s := s) hs hl ⟨rfl, rfl, _, _, _, rfl⟩ (res := findF r.stages s) (fun env G h4 => ?_) (fun h0 env G => ?_) r.stages.length 0 [] _ (by omega) rfl ?_ ?_ ?_
 · simp -implicitDefEqProofs [h4]
   exact cv_fz 1 hcl rfl rfl
 · rw [h0]
   simp -implicitDefEqProofs
   exact cv_fz 1 hcl rfl rfl
 all_goals simp [rp]
def opN (op : Int) : Int := if op = 1 ∨ op = 2 then 0 else if op = 3 ∨ op = 4 then 1 else if op = 20 then 3 else if 5 ≤ op ∧ op ≤ 19 then 2 else -1
theorem ok111 (op : Int) : Ok Tryz.prog 111 [i64 op] H (.ret (i64 (opN op))) H := by
 refine ok_fn hm Tryz.func111 c111 (by simp) fun hcl => ?_
 generalize hw : opN op = w
 unfold opN at hw
 by_cases h1 : op = 1
 · subst h1; simp at hw; subst hw
   simp -implicitDefEqProofs [i111, r111]; exact cv_id
 by_cases h2 : op = 2
 · subst h2; simp at hw; subst hw
   simp -implicitDefEqProofs [i111, r111]; exact cv_id
 by_cases h3 : op = 3
 · subst h3; simp at hw; subst hw
   simp -implicitDefEqProofs [i111, r111]; exact cv_id
 by_cases h4 : op = 4
 · subst h4; simp at hw; subst hw
   simp -implicitDefEqProofs [i111, r111]; exact cv_id
 by_cases h5 : op = 20
 · subst h5; simp at hw; subst hw
   simp -implicitDefEqProofs [i111, r111]; exact cv_id
 rw [if_neg (by omega), if_neg (by omega), if_neg h5] at hw
 by_cases h6 : 5 ≤ op
 · by_cases h7 : op ≤ 19
   · rw [if_pos ⟨h6, h7⟩] at hw; subst hw
     simp -implicitDefEqProofs [i111, r111, h1, h2, h3, h4, h5, h6, h7]; exact cv_id
   · rw [if_neg (by omega)] at hw; subst hw
     simp -implicitDefEqProofs [i111, r111, h1, h2, h3, h4, h5, h6, h7]; exact cv_id
 · rw [if_neg (by omega)] at hw; subst hw
   simp -implicitDefEqProofs [i111, r111, h1, h2, h3, h4, h5, h6]; exact cv_id
theorem ok103 (op : Int) : Ok Tryz.prog 103 [i64 op] H (.ret (i64 (opN op))) H := by
 refine ok_fn hm Tryz.func103 c103 (by simp) fun hcl => ?_
 simp -implicitDefEqProofs [i103, r103]
 refine call_go (ok111 op) ?_
 simp -implicitDefEqProofs
 exact cv_id
def tkN (op : Int) : Int × Int := if op = 4 ∨ op = 16 ∨ op = 17 then (2, 2) else if 10 ≤ op ∧ op ≤ 15 then (1, 2) else (1, 1)
theorem ok104 (op : Int) : Ok Tryz.prog 104 [i64 op] H (.ret (.tup [i64 (tkN op).1, i64 (tkN op).2])) H := by
 refine ok_fn hm Tryz.func104 c104 (by simp) fun hcl => ?_
 generalize hw : tkN op = w
 unfold tkN at hw
 by_cases h1 : op = 4
 · subst h1; simp at hw; subst hw
   simp -implicitDefEqProofs [i104, r104]; exact cv_id
 by_cases h2 : op = 16
 · subst h2; simp at hw; subst hw
   simp -implicitDefEqProofs [i104, r104]; exact cv_id
 by_cases h3 : op = 17
 · subst h3; simp at hw; subst hw
   simp -implicitDefEqProofs [i104, r104]; exact cv_id
 rw [if_neg (by omega)] at hw
 by_cases h6 : 10 ≤ op
 · by_cases h7 : op ≤ 15
   · rw [if_pos ⟨h6, h7⟩] at hw; subst hw
     simp -implicitDefEqProofs [i104, r104, h1, h2, h3, h6, h7]; exact cv_id
   · rw [if_neg (by omega)] at hw; subst hw
     simp -implicitDefEqProofs [i104, r104, h1, h2, h3, h6, h7]; exact cv_id
 · rw [if_neg (by omega)] at hw; subst hw
   simp -implicitDefEqProofs [i104, r104, h1, h2, h3, h6]; exact cv_id
end
end Go.Proofs.YthmdmnfojbnobaaGreatDoor

namespace Go.Proofs.YthmdmnfojbnobaaGreatDoor
open Go.Ab
theorem op_cases {op : Int} (h1 : 1 ≤ op) (h2 : op ≤ 20) : op = 1 ∨ op = 2 ∨ op = 3 ∨ op = 4 ∨ op = 5 ∨ op = 6 ∨ op = 7 ∨ op = 8 ∨ op = 9 ∨ op = 10 ∨ op = 11 ∨ op = 12 ∨ op = 13 ∨ op = 14 ∨ op = 15 ∨ op = 16 ∨ op = 17 ∨ op = 18 ∨ op = 19 ∨ op = 20 := by omega
theorem opOf_out {op : Int} (h : ¬ (3 ≤ op ∧ op ≤ 20)) : opOf op = none := by
 unfold opOf
 rw [Option.map_eq_none_iff, List.find?_eq_none]
 intro x hx
 have hall : ∀ x ∈ opTab, 3 ≤ x.1 ∧ x.1 ≤ 20 := by decide
 have := hall x hx
 simp; omega
def tyRef (vs : List (List UInt8)) (op : Int) (nm : List UInt8) (l : List Ex) (p : Int) : Int × Int × Int :=
 if opN op ≠ l.length then (0, 3, p) else if op = 1 then (1, 0, 0) else if op = 2 then (if nm ∈ vs then (1, 0, 0) else (0, 7, p)) else
 match tyL vs l with
 | .error f => (0, f)
 | .ok ks => if op = 20 then chkT (ks.getD 1 0) [2, ks.getD 1 0, ks.getD 1 0] ks l else chkT (tkN op).2 (List.replicate l.length (tkN op).1) ks l
theorem tyE_ref (vs : List (List UInt8)) (op n : Int) (nm : List UInt8) (l : List Ex) (p : Int) : tyE vs (.mk op n nm l p) = tyRef vs op nm l p := by
 rw [tyE, tyRef]
 by_cases hr : 1 ≤ op ∧ op ≤ 20
 · have e0 : ∀ x : Int, (opN x ≠ (l.length : Int)) = ¬ (l.length : Int) = opN x := fun x => propext ⟨fun h e => h e.symm, fun h e => h e.symm⟩
   rcases op_cases hr.1 hr.2 with rfl | rfl | rfl | rfl | rfl | rfl | rfl | rfl | rfl | rfl | rfl | rfl | rfl | rfl | rfl | rfl | rfl | rfl | rfl | rfl
   · simp [show opOf 1 = none from by decide, show opN 1 = 0 from rfl]
     by_cases h : l = []
     · subst h; simp
     · have h' : ¬ (0 : Int) = l.length := fun e => h (by have : l.length = 0 := by omega
                                                          exact List.length_eq_zero_iff.1 this)
       simp [h, h']
   · simp [show opOf 2 = none from by decide, show opN 2 = 0 from rfl]
     by_cases h : l = []
     · subst h; simp; try (by_cases hv : nm ∈ vs <;> simp [hv])
     · have h' : ¬ (0 : Int) = l.length := fun e => h (by have : l.length = 0 := by omega
                                                          exact List.length_eq_zero_iff.1 this)
       simp [h, h']
   all_goals
     first
       | (simp only [show opOf 20 = some ([0, 0, 0], 0, true) from by decide, show opN 20 = 3 from rfl]
          by_cases h : l.length = 3
          · rw [if_neg (by simp [h]), if_neg (by simp [h])]
            simp only [takesOf, ownOf, if_true]
            try (cases tyL vs l <;> simp)
          · rw [if_pos (by simpa using h), if_pos (by simp; omega)])
       | (generalize ho : opOf _ = o
          have ho2 := ho.symm
          first
            | (rw [show opOf 3 = some ([1], 1, false) from by decide] at ho2)
            | (rw [show opOf 4 = some ([2], 2, false) from by decide] at ho2)
            | (rw [show opOf 5 = some ([1, 1], 1, false) from by decide] at ho2)
            | (rw [show opOf 6 = some ([1, 1], 1, false) from by decide] at ho2)
            | (rw [show opOf 7 = some ([1, 1], 1, false) from by decide] at ho2)
            | (rw [show opOf 8 = some ([1, 1], 1, false) from by decide] at ho2)
            | (rw [show opOf 9 = some ([1, 1], 1, false) from by decide] at ho2)
            | (rw [show opOf 10 = some ([1, 1], 2, false) from by decide] at ho2)
            | (rw [show opOf 11 = some ([1, 1], 2, false) from by decide] at ho2)
            | (rw [show opOf 12 = some ([1, 1], 2, false) from by decide] at ho2)
            | (rw [show opOf 13 = some ([1, 1], 2, false) from by decide] at ho2)
            | (rw [show opOf 14 = some ([1, 1], 2, false) from by decide] at ho2)
            | (rw [show opOf 15 = some ([1, 1], 2, false) from by decide] at ho2)
            | (rw [show opOf 16 = some ([2, 2], 2, false) from by decide] at ho2)
            | (rw [show opOf 17 = some ([2, 2], 2, false) from by decide] at ho2)
            | (rw [show opOf 18 = some ([1, 1], 1, false) from by decide] at ho2)
            | (rw [show opOf 19 = some ([1, 1], 1, false) from by decide] at ho2)
          subst ho2
          simp only [opN, tkN]
          simp
          by_cases h : l.length = 1
          · simp [h, takesOf, ownOf]; try (cases tyL vs l <;> simp)
            try rfl
          · by_cases h2 : l.length = 2
            · simp [h2, takesOf, ownOf]; try (cases tyL vs l <;> simp)
              try rfl
            · have a1 : ¬ (1 : Int) = l.length := by omega
              have a2 : ¬ (2 : Int) = l.length := by omega
              simp [h, h2, a1, a2])
 · have h1 : op ≠ 1 := by omega
   have h2 : op ≠ 2 := by omega
   rw [opOf_out (by omega)]
   have hn : opN op = -1 := by unfold opN; rw [if_neg (by omega), if_neg (by omega), if_neg (by omega), if_neg (by omega)]
   have h3 : ¬ (-1 : Int) = l.length := by omega
   simp [h1, h2, hn, h3]
end Go.Proofs.YthmdmnfojbnobaaGreatDoor

namespace Go.Proofs.YthmdmnfojbnobaaGreatDoor
open Go.Ab
def fO (f : Int × Int) : AO := ⟨[i64 f.1, i64 f.2], 32, 0, true⟩
section
variable {H : List AO} {vs : List (List UInt8)} {x : SV}
theorem loop89_0 {l : List Ex} (hx : IsS H x vs) (hl : l.length ≤ 3) (hIH : ∀ e ∈ l, ∀ H x, IsS H x vs → Ok Tryz.prog 89 [x, e.v] H (.ret (.tup [i64 (tyE vs e).1, fltV (tyE vs e).2.1 (tyE vs e).2.2])) H)
   {op n : Int} {nm : List UInt8} {p : Int} {N : Nat} {K : XE → Env → List AO → Prop} {res : Except (Int × Int) (List Int)}
   (hret : ∀ f, res = .error f → f.1 ≠ 0 → ∀ env G, env.get 4 = i64 0 → env.get 5 = rp (H.length + 1) → K .ret env (H ++ ⟨[i64 op, i64 n, st (B nm), .slc (Ex.cL l) l.length, i64 p], 53, 0, true⟩ :: fO f :: G))
   (hexit : ∀ ks, res = .ok ks → ks.length = l.length → ∀ env G, env.get 0 = x → env.get 3 = rp H.length → env.get 5 = rp (H.length + 1) → env.get 6 = .own (H.length + 2) 0 ks.length 1 ks.length → K (.exit 0) env (H ++ ⟨[i64 op, i64 n, st (B nm), .slc (Ex.cL l) l.length, i64 p], 53, 0, true⟩ :: fO (0, 0) :: kO ks :: G)) :
   ∀ (m i : Nat) (ks : List Int) (G : List AO) (env : Env), i + m = l.length → ks.length = i → (match tyL vs (l.drop i) with | .error f => .error f | .ok r => .ok (ks ++ r)) = res → env.get 0 = x → env.get 3 = rp H.length → env.get 5 = rp (H.length + 1) → env.get 6 = .own (H.length + 2) 0 ks.length 1 ks.length → env.get 7 = i64 i →
     LI Tryz.prog N drawB l89_0 env (H ++ ⟨[i64 op, i64 n, st (B nm), .slc (Ex.cL l) l.length, i64 p], 53, 0, true⟩ :: fO (0, 0) :: kO ks :: G) K := by
 intro m
 induction m with
 | zero =>
   intro i ks G env hi hk hr h0 h3 h5 h6 h7
   refine li_go hm l89_0.eq_1 ?_
   have e : i = l.length := by omega
   subst e
   rw [List.drop_length] at hr
   simp only [tyL, List.append_nil] at hr
   simp -implicitDefEqProofs [h0, h3, h5, h6, h7, rp, hx.vd]
   refine hexit ks hr.symm hk _ G ?_ ?_ ?_ ?_ <;> simp [h0, h3, h5, h6, rp]
 | succ m ih =>
   intro i ks G env hi hk hr h0 h3 h5 h6 h7
   refine li_go hm l89_0.eq_1 ?_
   have hlt : i < l.length := by omega
   have hlt' : (i : Int) < l.length := by omega
   have hg := exL_get hlt
   have hcl := exL_len l
   rw [List.drop_eq_getElem_cons hlt, tyL] at hr
   have hIH' := fun L => hIH l[i] (List.getElem_mem hlt) (H ++ L) x (hx.app L)
   generalize l[i] = e at hr hg hIH'
   simp -implicitDefEqProofs [h0, h3, h5, h6, h7, rp, hlt, hlt', hg, hcl, hx.vd, hx.ug]
   refine ⟨by omega, call_go (hIH' _) ?_⟩
   generalize tyE vs e = w at hr ⊢
   by_cases he : w.2.1 = 0
   · rw [if_neg (by simp [he])] at hr
     simp -implicitDefEqProofs [h0, h3, h5, h6, h7, rp, kO, he, fltV, hx.vd, hx.ug]
     refine ⟨by omega, by omega, ?_⟩
     have hkl : (ks ++ [w.1]).length = ks.length + 1 := by simp
     refine LI.cong ?_ (ih (i + 1) (ks ++ [w.1]) (G ++ [fO (0, w.2.2), ⟨[i64 w.1], 3, 0, true⟩]) _ (by omega) (by omega) ?_ ?_ ?_ ?_ ?_ ?_)
     · simp [kO, fO, ints]
     · rw [← hr]
       cases tyL vs (l.drop (i + 1)) <;> simp
     all_goals simp [h0, h3, h5, rp, hkl, wrap_suc (show i < 9223372036854775807 by omega)]
   · rw [if_pos he] at hr
     simp -implicitDefEqProofs [h0, h3, h5, h6, h7, rp, kO, fO, he, fltV, hx.vd, hx.ug]
     refine hret w.2 hr.symm he _ _ ?_ ?_ <;> simp [h5, rp]
theorem loop89_1 {l : List Ex} {ks : List Int} {tk own : Int} (hl : l.length ≤ 3) (hkl : ks.length = l.length) {op n : Int} {nm : List UInt8} {p : Int} {N : Nat} {K : XE → Env → List AO → Prop} {res : Int × Int × Int}
   (hret : res.2.1 = 10 → res.1 = 0 → ∀ env G, env.get 4 = i64 0 → env.get 5 = rp (H.length + 1) → K .ret env (H ++ ⟨[i64 op, i64 n, st (B nm), .slc (Ex.cL l) l.length, i64 p], 53, 0, true⟩ :: fO res.2 :: G))
   (hexit : res = (own, 0, 0) → ∀ env G, env.get 5 = rp (H.length + 1) → env.get 11 = i64 own → K (.exit 2) env (H ++ ⟨[i64 op, i64 n, st (B nm), .slc (Ex.cL l) l.length, i64 p], 53, 0, true⟩ :: fO (0, 0) :: G)) :
   ∀ (m i : Nat) (G : List AO) (env : Env), i + m = l.length → chkT own (List.replicate m tk) (ks.drop i) (l.drop i) = res → env.get 3 = rp H.length → env.get 5 = rp (H.length + 1) → env.get 6 = .own (H.length + 2) 0 ks.length 1 ks.length → env.get 10 = i64 tk → env.get 11 = i64 own → env.get 12 = i64 i →
     LI Tryz.prog N drawB l89_1 env (H ++ ⟨[i64 op, i64 n, st (B nm), .slc (Ex.cL l) l.length, i64 p], 53, 0, true⟩ :: fO (0, 0) :: kO ks :: G) K := by
 intro m
 induction m with
 | zero =>
   intro i G env hi hr h3 h5 h6 h10 h11 h12
   refine li_go hm l89_1.eq_1 ?_
   have e : i = l.length := by omega
   have hn : ¬ (i : Int) < ks.length := by omega
   have hn' : ¬ i < ks.length := by omega
   rw [List.drop_of_length_le (show l.length ≤ i by omega)] at hr
   simp [chkT] at hr
   simp -implicitDefEqProofs [h3, h5, h6, h10, h11, h12, hn, hn', rp, kO]
   refine hexit hr.symm _ _ ?_ ?_ <;> simp [h5, h11, rp]
 | succ m ih =>
   intro i G env hi hr h3 h5 h6 h10 h11 h12
   refine li_go hm l89_1.eq_1 ?_
   have h1 : i < l.length := by omega
   have h2 : i < ks.length := by omega
   have h2' : (i : Int) < ks.length := by omega
   have h1' : (i : Int) < l.length := by omega
   rw [List.drop_eq_getElem_cons h1, List.drop_eq_getElem_cons h2, List.replicate_succ, chkT] at hr
   have hat := exL_at h1
   have hcl := exL_len l
   by_cases hne : ks[i] = tk
   · rw [if_neg (by simp [hne])] at hr
     simp -implicitDefEqProofs [h3, h5, h6, h10, h11, h12, h2, h2', hne, kO, rp]
     refine ⟨by omega, ?_⟩
     refine LI.cong ?_ (ih (i + 1) G _ (by omega) hr ?_ ?_ ?_ ?_ ?_ ?_)
     · simp [kO]
     all_goals simp [h3, h5, h6, h10, h11, rp, wrap_suc (show i < 9223372036854775807 by omega)]
   · rw [if_pos hne] at hr
     simp -implicitDefEqProofs [h3, h5, h6, h10, h11, h12, h2, h2', hne, kO, h1, h1', hat, hcl, rp]
     refine ⟨by omega, by omega, call_go (ok32 10 l[i].at) ?_⟩
     simp -implicitDefEqProofs [h5, rp, fltV, fO]
     subst hr
     refine hret rfl rfl _ _ ?_ ?_ <;> simp [h5, rp]
theorem ok89_go (hcl : closed H) (hx : IsS H x vs) (hl : vs.length < 4611686018427387904) {op n : Int} {nm : List UInt8} {l : List Ex} {p : Int}
   (hIH : ∀ e ∈ l, ∀ H x, IsS H x vs → Ok Tryz.prog 89 [x, e.v] H (.ret (.tup [i64 (tyE vs e).1, fltV (tyE vs e).2.1 (tyE vs e).2.2])) H) :
   X Tryz.prog Tryz.f89.ntmps drawB i89 (argsEnv [x, (Ex.mk op n nm l p).v]) H (Fin H.length r89 (.ret (.tup [i64 (tyE vs (.mk op n nm l p)).1, fltV (tyE vs (.mk op n nm l p)).2.1 (tyE vs (.mk op n nm l p)).2.2])) H) := by
 have hxv := hx.vd
 have hxu := hx.ug
 rw [tyE_ref]
 generalize hw : tyRef vs op nm l p = w
 unfold tyRef at hw
 simp -implicitDefEqProofs [i89, r89, Ex.v, Ex.c, hxv, hxu]
 refine callq_go (fun _ => ok103 op) ?_
 by_cases hn : opN op = l.length
 · rw [if_neg (by simp [hn])] at hw
   have hl3 : l.length ≤ 3 := by
     have : opN op ≤ 3 := by unfold opN; split <;> (try split) <;> (try split) <;> (try split) <;> omega
     omega
   by_cases h1 : op = 1
   · rw [if_pos h1] at hw
     subst hw
     subst h1
     simp -implicitDefEqProofs [hn]
     refine cv_fz 3 hcl rfl ?_
     simp [fltV]
   · rw [if_neg h1] at hw
     by_cases h2 : op = 2
     · rw [if_pos h2] at hw
       subst h2
       simp -implicitDefEqProofs [hn, hxv, hxu]
       refine call_go (ok34 nm (hx.app _) hl) ?_
       by_cases hv : nm ∈ vs
       · rw [if_pos hv] at hw
         subst hw
         simp -implicitDefEqProofs [hv]
         refine cv_fz 3 hcl rfl ?_
         simp [fltV]
       · rw [if_neg hv] at hw
         subst hw
         simp -implicitDefEqProofs [hv]
         refine call_go (ok32 7 p) ?_
         simp -implicitDefEqProofs [fltV]
         refine cv_fz 3 hcl rfl ?_
         simp
     · rw [if_neg h2] at hw
       generalize hres : tyL vs l = res at hw
       simp -implicitDefEqProofs [hn, h1, h2, hxv, hxu]
       refine LI.cong (H' := H ++ ⟨[i64 op, i64 n, st (B nm), .slc (Ex.cL l) l.length, i64 p], 53, 0, true⟩ :: fO (0, 0) :: kO [] :: []) (by simp [fO, kO, ints]) ?_
       refine loop89_0 hx hl3 hIH (res := res) (fun f hf hf0 env G h4 h5 => ?_) (fun ks hks hkl env G h0 h3 h5 h6 => ?_) l.length 0 [] [] _ (by omega) rfl ?_ ?_ ?_ ?_ ?_ ?_
       · subst hf
         simp only at hw
         subst hw
         simp -implicitDefEqProofs [h4, h5, rp, fO]
         refine cv_fz 3 hcl rfl ?_
         simp [fltV]
       · subst hks
         simp only at hw
         by_cases h20 : op = 20
         · rw [if_pos h20] at hw
           subst h20
           have hl3 : l.length = 3 := by have : opN 20 = 3 := rfl; omega
           obtain ⟨a, b, c, rfl⟩ : ∃ a b c, ks = [a, b, c] := by
             match ks, hkl with
             | [a, b, c], _ => exact ⟨a, b, c, rfl⟩
             | [], h => simp at h; omega
             | [a], h => simp at h; omega
             | [a, b], h => simp at h; omega
             | a :: b :: c :: d :: r, h => simp at h; omega
           obtain ⟨x0, x1, x2, rfl⟩ : ∃ a b c, l = [a, b, c] := by
             match l, hl3 with
             | [a, b, c], _ => exact ⟨a, b, c, rfl⟩
           obtain ⟨o0, n0, m0, l0, p0⟩ := x0
           obtain ⟨o1, n1, m1, l1, p1⟩ := x1
           obtain ⟨o2, n2, m2, l2, p2⟩ := x2
           simp only [chkT, List.getD_cons_succ, List.getD_cons_zero] at hw
           by_cases ha : a = 2
           · rw [if_neg (by simp [ha])] at hw
             rw [if_neg (by simp)] at hw
             by_cases hcb : c = b
             · rw [if_neg (by simp [hcb])] at hw
               subst hw
               simp -implicitDefEqProofs [h0, h3, h5, h6, rp, kO, fO, ha, hcb, ints, Ex.cL, Ex.c]
               refine cv_fz 3 hcl rfl ?_
               simp [fltV]
             · rw [if_pos hcb] at hw
               subst hw
               simp -implicitDefEqProofs [h0, h3, h5, h6, rp, kO, fO, ha, hcb, ints, Ex.cL, Ex.c]
               refine call_go (ok32 10 p2) ?_
               simp -implicitDefEqProofs [h5, rp, fltV]
               refine cv_fz 3 hcl rfl ?_
               simp [Ex.at]
           · rw [if_pos ha] at hw
             subst hw
             simp -implicitDefEqProofs [h0, h3, h5, h6, rp, kO, fO, ha, ints, Ex.cL, Ex.c]
             refine call_go (ok32 10 p0) ?_
             simp -implicitDefEqProofs [h5, rp, fltV]
             refine cv_fz 3 hcl rfl ?_
             simp [Ex.at]
         · rw [if_neg h20] at hw
           simp -implicitDefEqProofs [h0, h3, h5, h6, rp, h20]
           refine call_go (ok104 op) ?_
           simp -implicitDefEqProofs [h0, h3, h5, h6, rp]
           refine loop89_1 (l := l) (ks := ks) (tk := (tkN op).1) (own := (tkN op).2) (op := op) (n := n) (nm := nm) (p := p) (res := w) hl3 hkl (fun h10 hz env G h4 h5 => ?_) (fun he env G h5 h11 => ?_) l.length 0 _ _ (by omega) hw ?_ ?_ ?_ ?_ ?_ ?_
           · simp -implicitDefEqProofs [h4, h5, rp, fO]
             rw [hz]
             refine cv_fz 3 hcl rfl ?_
             simp [fltV]
           · simp -implicitDefEqProofs [h5, h11, rp, fO]
             subst he
             refine cv_fz 3 hcl rfl ?_
             simp [fltV]
           all_goals simp [h3, h5, h6, rp]
       · rw [← hres]; simp; cases tyL vs l <;> rfl
       all_goals simp [rp]
 · rw [if_pos hn] at hw
   subst hw
   simp -implicitDefEqProofs [hn]
   refine call_go (ok32 3 p) ?_
   simp -implicitDefEqProofs [fltV]
   refine cv_fz 3 hcl rfl ?_
   simp
end
mutual
theorem ok89 {vs : List (List UInt8)} (hl : vs.length < 4611686018427387904) : ∀ (e : Ex) (H : List AO) (x : SV), IsS H x vs → Ok Tryz.prog 89 [x, e.v] H (.ret (.tup [i64 (tyE vs e).1, fltV (tyE vs e).2.1 (tyE vs e).2.2])) H
 | .mk op k nm l p, H, x, hx => by
   refine ok_fn hm Tryz.func89 c89 (by simp [hx.vd]) fun hcl => ?_
   exact ok89_go hcl hx hl (ok89L hl l)
theorem ok89L {vs : List (List UInt8)} (hl : vs.length < 4611686018427387904) : ∀ (l : List Ex), ∀ e ∈ l, ∀ (H : List AO) (x : SV), IsS H x vs → Ok Tryz.prog 89 [x, e.v] H (.ret (.tup [i64 (tyE vs e).1, fltV (tyE vs e).2.1 (tyE vs e).2.2])) H
 | [], e, he, _, _, _ => by simp at he
 | y :: r, e, he, H, x, hx => by
   by_cases h : e = y
   · rw [h]; exact ok89 hl y H x hx
   · exact ok89L hl r e (by simpa [h] using he) H x hx
end
end Go.Proofs.YthmdmnfojbnobaaGreatDoor

namespace Go.Proofs.YthmdmnfojbnobaaGreatDoor
open Go.Ab
theorem act_0 {l : List ActP} {i : Nat} (h : i < l.length) : (rws ActP.c l)[i * 6]? = some (st (B l[i].nm)) := by
 have := rws_get (t := 0) ActP.c_len h (by omega); rw [Nat.add_zero] at this; rw [this]; rfl
theorem act_5 {l : List ActP} {i : Nat} (h : i < l.length) : (rws ActP.c l)[i * 6 + 5]? = some (i64 l[i].p) := by rw [rws_get ActP.c_len h (by omega)]; rfl
theorem set_0 {l : List SetP} {i : Nat} (h : i < l.length) : (rws SetP.c l)[i * 7]? = some (st (B l[i].nm)) := by
 have := rws_get (t := 0) SetP.len h (by omega); rw [Nat.add_zero] at this; rw [this]; rfl
theorem set_6 {l : List SetP} {i : Nat} (h : i < l.length) : (rws SetP.c l)[i * 7 + 6]? = some (i64 l[i].p) := by
 rw [rws_get SetP.len h (by omega)]; cases l[i] with
 | mk nm e p => cases e; rfl
theorem set_e {l : List SetP} {i : Nat} (h : i < l.length) : ((rws SetP.c l).drop (i * 7 + 1)).take 5 = l[i].e.c := by
 have h7 := rws_c SetP.len h
 have : ((rws SetP.c l).drop (i * 7 + 1)).take 5 = ((((rws SetP.c l).drop (i * 7)).take 7).drop 1).take 5 := by
   rw [List.drop_take, List.drop_drop, List.take_take]
   congr 1
 rw [this, h7]
 cases l[i] with
 | mk nm e p => cases e; rfl
section
variable {H : List AO} {vs : List (List UInt8)} {x : SV}
theorem ok59 (hx : IsS H x vs) (hl : vs.length < 4611686018427387904) (e : Ex) (k : Int) : Ok Tryz.prog 59 [x, e.v, i64 k] H (.ret (fltV (wantF vs e k).1 (wantF vs e k).2)) H := by
 have h89 := fun L => ok89 hl e (H ++ L) x (hx.app L)
 refine ok_fn hm Tryz.func59 c59 (by simp [hx.vd]) fun hcl => ?_
 have hxv := hx.vd
 have hxu := hx.ug
 generalize hw : wantF vs e k = w
 unfold wantF at hw
 obtain ⟨op, n, nm, l, p⟩ := e
 generalize tyE vs (.mk op n nm l p) = y at hw h89
 simp only [Ex.v, Ex.c] at h89
 simp -implicitDefEqProofs [i59, r59, Ex.v, Ex.c, hxv, hxu]
 refine call_go (h89 _) ?_
 by_cases he : y.2.1 = 0
 · rw [if_neg (by simp [he])] at hw
   by_cases hk : y.1 = k
   · rw [if_neg (by simp [hk])] at hw
     subst hw
     simp -implicitDefEqProofs [fltV, he, hk]
     refine cv_fz 3 hcl rfl ?_
     simp
   · rw [if_pos hk] at hw
     subst hw
     simp -implicitDefEqProofs [fltV, he, hk]
     refine call_go (ok32 10 p) ?_
     simp -implicitDefEqProofs [fltV]
     refine cv_fz 3 hcl rfl ?_
     simp [Ex.at]
 · rw [if_pos he] at hw
   subst hw
   simp -implicitDefEqProofs [fltV, he]
   refine cv_fz 3 hcl rfl ?_
   simp
theorem loop58_0 (hx : IsS H x vs) (hvl : vs.length < 4611686018427387904) {d : StageP} (hl : d.wt.length < 4611686018427387904) {R : AO} {N : Nat} {K : XE → Env → List AO → Prop} {res : Int × Int}
   (hret : res.1 ≠ 0 → ∀ env G, env.get 6 = rp (H.length + 2) → K .ret env (H ++ R :: ⟨d.c, 45, 0, true⟩ :: fO res :: G))
   (hexit : res.1 = 0 → ∀ env G, env.get 3 = rp H.length → env.get 5 = rp (H.length + 1) → env.get 6 = rp (H.length + 2) → K (.exit 0) env (H ++ R :: ⟨d.c, 45, 0, true⟩ :: fO (0, 0) :: G)) :
   ∀ (m i : Nat) (G : List AO) (env : Env), i + m = d.wt.length → wantL vs 1 (d.wt.drop i) = res → env.get 1 = x → env.get 3 = rp H.length → env.get 5 = rp (H.length + 1) → env.get 6 = rp (H.length + 2) → env.get 7 = i64 i →
     LI Tryz.prog N drawB l58_0 env (H ++ R :: ⟨d.c, 45, 0, true⟩ :: fO (0, 0) :: G) K := by
 intro m
 induction m with
 | zero =>
   intro i G env hi hr h1 h3 h5 h6 h7
   refine li_go hm l58_0.eq_1 ?_
   have e : i = d.wt.length := by omega
   subst e
   rw [List.drop_length] at hr
   simp -implicitDefEqProofs [h1, h3, h5, h6, h7, rp, StageP.c, exS, hx.vd]
   refine hexit (by rw [← hr]; rfl) _ _ ?_ ?_ ?_ <;> simp [h3, h5, h6, rp]
 | succ m ih =>
   intro i G env hi hr h1 h3 h5 h6 h7
   refine li_go hm l58_0.eq_1 ?_
   have hlt : i < d.wt.length := by omega
   have hlt' : (i : Int) < d.wt.length := by omega
   have hg := exL_get hlt
   have hcl := exL_len d.wt
   rw [List.drop_eq_getElem_cons hlt, wantL] at hr
   have h59 := fun L => ok59 (hx.app L) hvl d.wt[i] 1
   generalize d.wt[i] = e at hr hg h59
   generalize wantF vs e 1 = w at hr h59
   simp -implicitDefEqProofs [h1, h3, h5, h6, h7, rp, hlt, hlt', hg, hcl, hx.vd, hx.ug, StageP.c, exS]
   refine ⟨by omega, call_go (h59 _) ?_⟩
   by_cases he : w.1 = 0
   · rw [if_neg (by simp [he])] at hr
     simp -implicitDefEqProofs [h1, h3, h5, h6, h7, rp, he, fltV, hx.vd, hx.ug]
     refine LI.cong ?_ (ih (i + 1) (G ++ [fO (0, w.2)]) _ (by omega) hr ?_ ?_ ?_ ?_ ?_)
     · simp [fO, StageP.c, exS]
     all_goals simp [h1, h3, h5, h6, rp, wrap_suc (show i < 9223372036854775807 by omega)]
   · rw [if_pos he] at hr
     subst hr
     simp -implicitDefEqProofs [h1, h3, h5, h6, h7, rp, he, fltV, fO, hx.vd, hx.ug]
     refine hret he _ _ ?_
     simp [h6, rp]
theorem loop58_1 {r : RulesP} {d : StageP} (hl : d.seen.length < 4611686018427387904) {N : Nat} {K : XE → Env → List AO → Prop} {res : Int × Int}
   (hret : res.1 ≠ 0 → ∀ env G, env.get 6 = rp (H.length + 2) → K .ret env (H ++ ⟨r.c, 25, 0, true⟩ :: ⟨d.c, 45, 0, true⟩ :: fO res :: G))
   (hexit : res = (0, 0) → ∀ env G, env.get 6 = rp (H.length + 2) → K (.exit 2) env (H ++ ⟨r.c, 25, 0, true⟩ :: ⟨d.c, 45, 0, true⟩ :: fO (0, 0) :: G)) :
   ∀ (m i : Nat) (G : List AO) (env : Env), i + m = d.seen.length → seenF r.pl d.p (if i = 0 then -1 else d.seen.getD (i - 1) 0) (d.seen.drop i) = res → env.get 3 = rp H.length → env.get 5 = rp (H.length + 1) → env.get 6 = rp (H.length + 2) → env.get 9 = i64 i →
     LI Tryz.prog N drawB l58_1 env (H ++ ⟨r.c, 25, 0, true⟩ :: ⟨d.c, 45, 0, true⟩ :: fO (0, 0) :: G) K := by
 intro m
 induction m with
 | zero =>
   intro i G env hi hr h3 h5 h6 h9
   refine li_go hm l58_1.eq_1 ?_
   have e : i = d.seen.length := by omega
   subst e
   rw [List.drop_length] at hr
   simp -implicitDefEqProofs [h3, h5, h6, h9, rp, StageP.c, exS]
   refine hexit hr.symm _ _ ?_; simp [h6, rp]
 | succ m ih =>
   intro i G env hi hr h3 h5 h6 h9
   refine li_go hm l58_1.eq_1 ?_
   have hlt : i < d.seen.length := by omega
   have hlt' : (i : Int) < d.seen.length := by omega
   rw [List.drop_eq_getElem_cons hlt, seenF] at hr
   have hge : ∀ h, (ints d.seen)[i]'h = i64 d.seen[i] := fun h => by simp [ints]
   have hge? : (ints d.seen)[i]? = some (i64 d.seen[i]) := by simp [ints, hlt]
   have hlen : (ints d.seen).length = d.seen.length := by simp [ints]
   have hpe : 0 < i → (ints d.seen)[i - 1]? = some (i64 (d.seen.getD (i - 1) 0)) := fun h0 => by
     have : i - 1 < d.seen.length := by omega
     simp [ints, this]
   have hnx : (if i + 1 = 0 then (-1 : Int) else d.seen.getD (i + 1 - 1) 0) = d.seen[i] := by simp [hlt]
   generalize d.seen[i] = q at hr hge hge? hnx
   have hi0 : (i : Int) = 0 ↔ i = 0 := by omega
   by_cases h1 : q < 0
   · rw [if_pos (.inl h1)] at hr
     subst hr
     simp -implicitDefEqProofs [h3, h5, h6, h9, rp, hlt, hlt', StageP.c, RulesP.c, exS, hge, hge?, hlen, h1]
     refine ⟨by omega, fun _ => ⟨by omega, by omega⟩, call_go (ok32 2 d.p) ?_⟩
     simp -implicitDefEqProofs [h3, h5, h6, rp, fltV, fO, StageP.c, RulesP.c, exS]
     refine hret (show ¬ (2 : Int) = 0 by decide) _ _ ?_
     simp [h6, rp]
   by_cases h2 : r.pl ≤ q
   · rw [if_pos (.inr h2)] at hr
     subst hr
     simp -implicitDefEqProofs [h3, h5, h6, h9, rp, hlt, hlt', StageP.c, RulesP.c, exS, hge, hge?, hlen, h1, h2]
     refine ⟨by omega, fun _ => ⟨by omega, by omega⟩, call_go (ok32 2 d.p) ?_⟩
     simp -implicitDefEqProofs [h3, h5, h6, rp, fltV, fO, StageP.c, RulesP.c, exS]
     refine hret (show ¬ (2 : Int) = 0 by decide) _ _ ?_
     simp [h6, rp]
   rw [if_neg (by omega)] at hr
   by_cases hz : i = 0
   · subst hz
     rw [if_pos rfl, if_neg (by omega)] at hr
     have hhd : (ints d.seen).head? = some (i64 q) := by rw [List.head?_eq_getElem?]; exact hge?
     have h1' : 1 ≤ d.seen.length := hlt
     simp -implicitDefEqProofs [h3, h5, h6, h9, rp, hlt, hlt', StageP.c, RulesP.c, exS, hlen, h1, h2, hhd]
     refine ⟨by omega, fun _ => ⟨by omega, by omega⟩, ?_⟩
     refine LI.cong ?_ (ih 1 G _ (by omega) (by rw [hnx]; exact hr) ?_ ?_ ?_ ?_)
     · simp [fO, StageP.c, RulesP.c, exS]
     all_goals simp [h3, h5, h6, rp, show IntKind.i64.wrap 1 = 1 from by decide]
   · have hz' : 0 < i := by omega
     have hz2 : (0 : Int) < i := by omega
     have w1 : IntKind.i64.wrap ((i : Int) - 1) = ((i - 1 : Nat) : Int) := by rw [wrap_id (by omega) (by omega)]; omega
     have hlt1 : i - 1 < d.seen.length := by omega
     have hlt1' : ((i - 1 : Nat) : Int) < d.seen.length := by omega
     have hb : d.seen.getD (i - 1) 0 = d.seen[i - 1] := by simp [hlt1]
     rw [if_neg hz, hb] at hr
     by_cases hq : q ≤ d.seen[i - 1]
     · rw [if_pos hq] at hr
       subst hr
       simp -implicitDefEqProofs [h3, h5, h6, h9, rp, hlt, hlt', StageP.c, RulesP.c, exS, hge, hge?, hlen, h1, h2, hz', hz2, w1, hlt1, hlt1', hq]
       refine ⟨by omega, fun _ => ⟨by omega, by omega⟩, by omega, by omega, call_go (ok32 9 d.p) ?_⟩
       simp -implicitDefEqProofs [h3, h5, h6, rp, fltV, fO, StageP.c, RulesP.c, exS]
       refine hret (show ¬ (9 : Int) = 0 by decide) _ _ ?_
       simp [h6, rp]
     · rw [if_neg hq] at hr
       simp -implicitDefEqProofs [h3, h5, h6, h9, rp, hlt, hlt', StageP.c, RulesP.c, exS, hge, hge?, hlen, h1, h2, hz', hz2, w1, hlt1, hlt1', hq]
       refine ⟨by omega, fun _ => ⟨by omega, by omega⟩, by omega, by omega, ?_⟩
       refine LI.cong ?_ (ih (i + 1) G _ (by omega) (by rw [hnx]; exact hr) ?_ ?_ ?_ ?_)
       · simp [fO, StageP.c, RulesP.c, exS]
       all_goals simp [h3, h5, h6, rp, wrap_suc (show i < 9223372036854775807 by omega)]
theorem ok58 (r : RulesP) (hx : IsS H x vs) (hvl : vs.length < 4611686018427387904) {d : StageP} (hl : d.wt.length < 4611686018427387904) (hl2 : d.seen.length < 4611686018427387904) : Ok Tryz.prog 58 [rulesV r, x, stageV d] H (.ret (fltV (dealF vs r.pl d).1 (dealF vs r.pl d).2)) H := by
 have h34 := fun L => ok34 d.nm (hx.app L) hvl
 refine ok_fn hm Tryz.func58 c58 (by simp [hx.vd]) fun hcl => ?_
 have hxv := hx.vd
 have hxu := hx.ug
 generalize hw : dealF vs r.pl d = w
 unfold dealF at hw
 simp -implicitDefEqProofs [i58, r58, rulesV, RulesP.c, stageV, StageP.c, exS, hxv, hxu]
 refine call_go (h34 _) ?_
 by_cases hn : d.nm ∈ vs
 · rw [if_neg (by simpa using hn)] at hw
   simp -implicitDefEqProofs [hn]
   refine call_go (ok33 _) ?_
   by_cases hlo : -1000000000 ≤ d.lo ∧ d.lo ≤ 1000000000
   · have w1 : IntKind.i64.wrap (d.lo + 60) = d.lo + 60 := wrap_id (by omega) (by omega)
     have w2 : IntKind.i64.wrap (d.lo + 60 - 1) = d.lo + 60 - 1 := wrap_id (by omega) (by omega)
     by_cases hhi : d.hi < d.lo
     · rw [if_pos (by omega)] at hw
       subst hw
       simp -implicitDefEqProofs [hlo, hhi, w1, w2]
       refine call_go (ok32 2 d.p) ?_
       simp -implicitDefEqProofs [fltV]
       refine cv_fz 3 hcl rfl ?_
       simp
     by_cases hh2 : d.lo + 60 - 1 < d.hi
     · rw [if_pos (by omega)] at hw
       subst hw
       simp -implicitDefEqProofs [hlo, hhi, w1, w2, hh2]
       refine call_go (ok32 2 d.p) ?_
       simp -implicitDefEqProofs [fltV]
       refine cv_fz 3 hcl rfl ?_
       simp
     rw [if_neg (by omega)] at hw
     simp -implicitDefEqProofs [hlo, hhi, w1, w2, hh2]
     refine LI.cong (H' := H ++ ⟨r.c, 25, 0, true⟩ :: ⟨d.c, 45, 0, true⟩ :: fO (0, 0) :: []) (by simp [exS, StageP.c, RulesP.c, fO]) ?_
     refine loop58_0 hx hvl hl (res := wantL vs 1 d.wt) (fun h0 env G h6 => ?_) (fun h0 env G h3 h5 h6 => ?_) d.wt.length 0 [] _ (by omega) rfl ?_ ?_ ?_ ?_ ?_
     · rw [if_pos h0] at hw
       subst hw
       simp -implicitDefEqProofs [h6, rp, fO]
       refine cv_fz 3 hcl rfl ?_
       simp [fltV]
     · rw [if_neg (by simpa using h0)] at hw
       simp -implicitDefEqProofs [h3, h5, h6, rp]
       refine loop58_1 hl2 (res := w) (fun h0 env G h6 => ?_) (fun h0 env G h6 => ?_) d.seen.length 0 _ _ (by omega) hw ?_ ?_ ?_ ?_
       · simp -implicitDefEqProofs [h6, rp, fO]
         refine cv_fz 3 hcl rfl ?_
         simp [fltV]
       · simp -implicitDefEqProofs [h6, rp, fO]
         refine cv_fz 3 hcl rfl ?_
         simp [fltV, h0]
       all_goals simp [h3, h5, h6, rp]
     all_goals simp [rp]
   · rw [if_pos (by omega)] at hw
     subst hw
     simp -implicitDefEqProofs [hlo]
     refine call_go (ok32 2 d.p) ?_
     simp -implicitDefEqProofs [fltV]
     refine cv_fz 3 hcl rfl ?_
     simp
 · rw [if_pos (by simpa using hn)] at hw
   subst hw
   simp -implicitDefEqProofs [hn]
   refine call_go (ok32 7 d.p) ?_
   simp -implicitDefEqProofs [fltV]
   refine cv_fz 3 hcl rfl ?_
   simp
end
end Go.Proofs.YthmdmnfojbnobaaGreatDoor

namespace Go.Proofs.YthmdmnfojbnobaaGreatDoor
open Go.Ab
section
variable {H : List AO} {vs : List (List UInt8)} {x : SV}
theorem loop60_0 (hx : IsS H x vs) (hvl : vs.length < 4611686018427387904) {a : ActP} (hl : a.wh.length < 4611686018427387904) {at_ : Int} {R : AO} {N : Nat} {K : XE → Env → List AO → Prop} {res : Int × Int}
   (hret : res.1 ≠ 0 → ∀ env G, env.get 8 = rp (H.length + 2) → K .ret env (H ++ R :: ⟨a.c, 51, 0, true⟩ :: fO res :: G))
   (hexit : res.1 = 0 → ∀ env G, env.get 1 = x → env.get 3 = i64 at_ → env.get 4 = rp H.length → env.get 6 = rp (H.length + 1) → env.get 8 = rp (H.length + 2) → K (.exit 0) env (H ++ R :: ⟨a.c, 51, 0, true⟩ :: fO (0, 0) :: G)) :
   ∀ (m i : Nat) (G : List AO) (env : Env), i + m = a.wh.length → wantL vs 2 (a.wh.drop i) = res → env.get 1 = x → env.get 3 = i64 at_ → env.get 4 = rp H.length → env.get 6 = rp (H.length + 1) → env.get 8 = rp (H.length + 2) → env.get 9 = i64 i →
     LI Tryz.prog N drawB l60_0 env (H ++ R :: ⟨a.c, 51, 0, true⟩ :: fO (0, 0) :: G) K := by
 intro m
 induction m with
 | zero =>
   intro i G env hi hr h1 h3 h4 h6 h8 h9
   refine li_go hm l60_0.eq_1 ?_
   have e : i = a.wh.length := by omega
   subst e
   rw [List.drop_length] at hr
   simp -implicitDefEqProofs [h1, h3, h4, h6, h8, h9, rp, ActP.c, exS, hx.vd]
   refine hexit (by rw [← hr]; rfl) _ _ ?_ ?_ ?_ ?_ ?_ <;> simp [h1, h3, h4, h6, h8, rp]
 | succ m ih =>
   intro i G env hi hr h1 h3 h4 h6 h8 h9
   refine li_go hm l60_0.eq_1 ?_
   have hlt : i < a.wh.length := by omega
   have hlt' : (i : Int) < a.wh.length := by omega
   have hg := exL_get hlt
   have hcl := exL_len a.wh
   rw [List.drop_eq_getElem_cons hlt, wantL] at hr
   have h59 := fun L => ok59 (hx.app L) hvl a.wh[i] 2
   generalize a.wh[i] = e at hr hg h59
   generalize wantF vs e 2 = w at hr h59
   simp -implicitDefEqProofs [h1, h3, h4, h6, h8, h9, rp, hlt, hlt', hg, hcl, hx.vd, hx.ug, ActP.c, exS]
   refine ⟨by omega, call_go (h59 _) ?_⟩
   by_cases he : w.1 = 0
   · rw [if_neg (by simp [he])] at hr
     simp -implicitDefEqProofs [h1, h3, h4, h6, h8, h9, rp, he, fltV, hx.vd, hx.ug]
     refine LI.cong ?_ (ih (i + 1) (G ++ [fO (0, w.2)]) _ (by omega) hr ?_ ?_ ?_ ?_ ?_ ?_)
     · simp [fO, ActP.c, exS]
     all_goals simp [h1, h3, h4, h6, h8, rp, wrap_suc (show i < 9223372036854775807 by omega)]
   · rw [if_pos he] at hr
     subst hr
     simp -implicitDefEqProofs [h1, h3, h4, h6, h8, h9, rp, he, fltV, fO, hx.vd, hx.ug]
     refine hret he _ _ ?_
     simp [h8, rp]
theorem loop60_1 (hx : IsS H x vs) (hvl : vs.length < 4611686018427387904) {a : ActP} (hl : a.sets.length < 1099511627776) {at_ : Int} {R : AO} {N : Nat} {K : XE → Env → List AO → Prop} {res : Int × Int}
   (hret : res.1 ≠ 0 → ∀ env G, env.get 8 = rp (H.length + 2) → K .ret env (H ++ R :: ⟨a.c, 51, 0, true⟩ :: fO res :: G))
   (hexit : res.1 = 0 → ∀ env G, env.get 3 = i64 at_ → env.get 4 = rp H.length → env.get 6 = rp (H.length + 1) → env.get 8 = rp (H.length + 2) → K (.exit 2) env (H ++ R :: ⟨a.c, 51, 0, true⟩ :: fO (0, 0) :: G)) :
   ∀ (m i : Nat) (G : List AO) (env : Env), i + m = a.sets.length → setF vs (a.sets.drop i) = res → env.get 1 = x → env.get 3 = i64 at_ → env.get 4 = rp H.length → env.get 6 = rp (H.length + 1) → env.get 8 = rp (H.length + 2) → env.get 11 = i64 i →
     LI Tryz.prog N drawB l60_1 env (H ++ R :: ⟨a.c, 51, 0, true⟩ :: fO (0, 0) :: G) K := by
 intro m
 induction m with
 | zero =>
   intro i G env hi hr h1 h3 h4 h6 h8 h9
   refine li_go hm l60_1.eq_1 ?_
   have e : i = a.sets.length := by omega
   subst e
   rw [List.drop_length] at hr
   simp -implicitDefEqProofs [h1, h3, h4, h6, h8, h9, rp, ActP.c, exS, hx.vd]
   refine hexit (by rw [← hr]; rfl) _ _ ?_ ?_ ?_ ?_ <;> simp [h3, h4, h6, h8, rp]
 | succ m ih =>
   intro i G env hi hr h1 h3 h4 h6 h8 h9
   refine li_go hm l60_1.eq_1 ?_
   have hlt : i < a.sets.length := by omega
   have hlt' : (i : Int) < a.sets.length := by omega
   have g0 : ∀ h, (rws SetP.c a.sets)[i * 7]'(h) = st (B a.sets[i].nm) := fun h => Option.some.inj ((List.getElem?_eq_getElem h).symm.trans (set_0 hlt))
   have g6 := set_6 hlt
   have ge := set_e hlt
   have hlen := rws_len SetP.len a.sets
   rw [List.drop_eq_getElem_cons hlt, setF] at hr
   have h59 := fun L => ok59 (hx.app L) hvl a.sets[i].e 1
   have h34 := fun L => ok34 a.sets[i].nm (hx.app L) hvl
   generalize a.sets[i] = s at hr g0 g6 ge h59 h34
   generalize wantF vs s.e 1 = w at hr h59
   simp -implicitDefEqProofs [h1, h3, h4, h6, h8, h9, rp, hlt, hlt', g0, hlen, hx.vd, hx.ug, ActP.c, exS]
   refine ⟨by omega, call_go (h34 _) ?_⟩
   by_cases hn : s.nm ∈ vs
   · rw [if_neg (by simpa using hn)] at hr
     simp -implicitDefEqProofs [h1, h3, h4, h6, h8, h9, rp, hlt, hlt', g0, ge, hlen, hx.vd, hx.ug, ActP.c, exS, hn]
     refine ⟨by omega, call_go (h59 _) ?_⟩
     by_cases he : w.1 = 0
     · rw [if_neg (by simp [he])] at hr
       simp -implicitDefEqProofs [h1, h3, h4, h6, h8, h9, rp, he, fltV, hx.vd, hx.ug]
       refine LI.cong ?_ (ih (i + 1) (G ++ [fO (0, w.2)]) _ (by omega) hr ?_ ?_ ?_ ?_ ?_ ?_)
       · simp [fO, ActP.c, exS]
       all_goals simp [h1, h3, h4, h6, h8, rp, wrap_suc (show i < 9223372036854775807 by omega)]
     · rw [if_pos he] at hr
       subst hr
       simp -implicitDefEqProofs [h1, h3, h4, h6, h8, h9, rp, he, fltV, fO, hx.vd, hx.ug]
       refine hret he _ _ ?_
       simp [h8, rp]
   · rw [if_pos (by simpa using hn)] at hr
     subst hr
     simp -implicitDefEqProofs [h1, h3, h4, h6, h8, h9, rp, hlt, hlt', g6, hlen, hx.vd, hx.ug, ActP.c, exS, hn]
     refine ⟨by omega, call_go (ok32 7 s.p) ?_⟩
     simp -implicitDefEqProofs [h8, rp, fltV, fO]
     refine hret (show ¬ (7 : Int) = 0 by decide) _ _ ?_
     simp [h8, rp]
theorem ok60 {r : RulesP} (hrl : r.stages.length < 4611686018427387904) (hx : IsS H x vs) (hvl : vs.length < 4611686018427387904) {a : ActP} (hl2 : a.sets.length < 1099511627776) (at_ : Int) : Ok Tryz.prog 60 [rulesV r, x, actV a, i64 at_] H (.ret (fltV (actF vs r.stages at_ a).1 (actF vs r.stages at_ a).2)) H := by
 refine ok_fn hm Tryz.func60 c60 (by simp [hx.vd]) fun hcl => ?_
 have hxv := hx.vd
 have hxu := hx.ug
 have h23 := fun (h : a.go ≠ []) L => ok23 (H := L) (r := r) hrl h
 simp only [rulesV, RulesP.c] at h23
 generalize hw : actF vs r.stages at_ a = w
 unfold actF at hw
 simp -implicitDefEqProofs [i60, r60, rulesV, RulesP.c, actV, ActP.c, exS, hxv, hxu]
 by_cases h1 : 1 < a.wh.length
 · rw [if_pos h1] at hw
   subst hw
   have h1' : (1 : Int) < a.wh.length := by omega
   simp -implicitDefEqProofs [h1, h1']
   refine call_go (ok32 3 a.p) ?_
   simp -implicitDefEqProofs [fltV]
   refine cv_fz 3 hcl rfl ?_
   simp
 rw [if_neg h1] at hw
 have h1' : ¬ (1 : Int) < a.wh.length := by omega
 simp -implicitDefEqProofs [h1, h1']
 refine LI.cong (H' := H ++ ⟨r.c, 25, 0, true⟩ :: ⟨a.c, 51, 0, true⟩ :: fO (0, 0) :: []) (by simp [exS, ActP.c, RulesP.c, fO]) ?_
 refine loop60_0 hx hvl (by omega) (at_ := at_) (res := wantL vs 2 a.wh) (fun h0 env G h8 => ?_) (fun h0 env G h1 h3 h4 h6 h8 => ?_) a.wh.length 0 [] _ (by omega) rfl ?_ ?_ ?_ ?_ ?_ ?_
 · rw [if_pos h0] at hw
   subst hw
   simp -implicitDefEqProofs [h8, rp, fO]
   refine cv_fz 3 hcl rfl ?_
   simp [fltV]
 · rw [if_neg (by simpa using h0)] at hw
   simp -implicitDefEqProofs [h1, h3, h4, h6, h8, rp, hxv, hxu]
   refine loop60_1 hx hvl hl2 (at_ := at_) (res := setF vs a.sets) (fun h0 env G h8 => ?_) (fun h0 env G h3 h4 h6 h8 => ?_) a.sets.length 0 _ _ (by omega) rfl ?_ ?_ ?_ ?_ ?_ ?_
   · rw [if_pos h0] at hw
     subst hw
     simp -implicitDefEqProofs [h8, rp, fO]
     refine cv_fz 3 hcl rfl ?_
     simp [fltV]
   · rw [if_neg (by simpa using h0)] at hw
     unfold goF at hw
     by_cases hg : a.go = []
     · rw [if_pos hg] at hw
       subst hw
       simp -implicitDefEqProofs [h3, h4, h6, h8, rp, ActP.c, exS, fO, hg]
       refine cv_fz 3 hcl rfl ?_
       simp [fltV]
     rw [if_neg hg] at hw
     have h23 := h23 hg
     simp -implicitDefEqProofs [h3, h4, h6, h8, rp, ActP.c, RulesP.c, exS, fO, hg]
     refine call_go (h23 _) ?_
     generalize findF r.stages a.go = t at hw
     by_cases ht : t < 0
     · rw [if_pos ht] at hw
       subst hw
       simp -implicitDefEqProofs [h3, h4, h6, h8, rp, ActP.c, RulesP.c, exS, fO, ht]
       refine call_go (ok32 7 a.p) ?_
       simp -implicitDefEqProofs [h8, rp, fltV, fO]
       refine cv_fz 3 hcl rfl ?_
       simp
     rw [if_neg ht] at hw
     by_cases ht2 : t ≤ at_
     · rw [if_pos ht2] at hw
       subst hw
       simp -implicitDefEqProofs [h3, h4, h6, h8, rp, ActP.c, RulesP.c, exS, fO, ht, ht2]
       refine call_go (ok32 9 a.p) ?_
       simp -implicitDefEqProofs [h8, rp, fltV, fO]
       refine cv_fz 3 hcl rfl ?_
       simp
     · rw [if_neg ht2] at hw
       subst hw
       simp -implicitDefEqProofs [h3, h4, h6, h8, rp, ActP.c, RulesP.c, exS, fO, ht, ht2]
       refine cv_fz 3 hcl rfl ?_
       simp [fltV]
   all_goals simp [h1, h3, h4, h6, h8, rp]
 all_goals simp [rp]
end
end Go.Proofs.YthmdmnfojbnobaaGreatDoor

namespace Go.Proofs.YthmdmnfojbnobaaGreatDoor
open Go.Ab
theorem wds_app (a b : List (List UInt8)) : wds (a ++ b) = wds a ++ wds b := by simp [wds]
section
variable {H : List AO} {vs : List (List UInt8)} {x : SV}
theorem loop35_0 (hx : IsS H x vs) (hvl : vs.length < 4611686018427387904) {d : StageP} (hl : d.pays.length < 4611686018427387904) {R : AO} {N : Nat} {K : XE → Env → List AO → Prop} {res : Int × Int}
   (hret : res.1 ≠ 0 → ∀ env G, env.get 6 = rp (H.length + 1) → K .ret env (H ++ R :: fO res :: ⟨d.c, 45, 0, true⟩ :: G))
   (hexit : res = (0, 0) → ∀ env G, env.get 6 = rp (H.length + 1) → K (.exit 0) env (H ++ R :: fO (0, 0) :: ⟨d.c, 45, 0, true⟩ :: G)) :
   ∀ (m i : Nat) (G : List AO) (env : Env), i + m = d.pays.length → wantL vs 1 (d.pays.drop i) = res → env.get 1 = x → env.get 6 = rp (H.length + 1) → env.get 7 = rp (H.length + 2) → env.get 8 = i64 i →
     LI Tryz.prog N drawB l35_0 env (H ++ R :: fO (0, 0) :: ⟨d.c, 45, 0, true⟩ :: G) K := by
 intro m
 induction m with
 | zero =>
   intro i G env hi hr h1 h6 h7 h8
   refine li_go hm l35_0.eq_1 ?_
   have e : i = d.pays.length := by omega
   subst e
   rw [List.drop_length] at hr
   simp -implicitDefEqProofs [h1, h6, h7, h8, rp, StageP.c, exS, hx.vd]
   refine hexit (by rw [← hr]; rfl) _ _ ?_ ; simp [h6, rp]
 | succ m ih =>
   intro i G env hi hr h1 h6 h7 h8
   refine li_go hm l35_0.eq_1 ?_
   have hlt : i < d.pays.length := by omega
   have hlt' : (i : Int) < d.pays.length := by omega
   have hg := exL_get hlt
   have hcl := exL_len d.pays
   rw [List.drop_eq_getElem_cons hlt, wantL] at hr
   have h59 := fun L => ok59 (hx.app L) hvl d.pays[i] 1
   generalize d.pays[i] = e at hr hg h59
   generalize wantF vs e 1 = w at hr h59
   simp -implicitDefEqProofs [h1, h6, h7, h8, rp, hlt, hlt', hg, hcl, hx.vd, hx.ug, StageP.c, exS]
   refine ⟨by omega, call_go (h59 _) ?_⟩
   by_cases he : w.1 = 0
   · rw [if_neg (by simp [he])] at hr
     simp -implicitDefEqProofs [h1, h6, h7, h8, rp, he, fltV, hx.vd, hx.ug]
     refine LI.cong ?_ (ih (i + 1) (G ++ [fO (0, w.2)]) _ (by omega) hr ?_ ?_ ?_ ?_)
     · simp [fO, StageP.c, exS]
     all_goals simp [h1, h6, h7, rp, wrap_suc (show i < 9223372036854775807 by omega)]
   · rw [if_pos he] at hr
     subst hr
     simp -implicitDefEqProofs [h1, h6, h7, h8, rp, he, fltV, fO, hx.vd, hx.ug]
     refine hret he _ _ ?_
     simp [h6, rp]
theorem loop35_1 {r : RulesP} (hrl : r.stages.length < 4611686018427387904) (hx : IsS H x vs) (hvl : vs.length < 4611686018427387904) {d : StageP} (hl : d.acts.length ≤ 10) (hs : ∀ a ∈ d.acts, a.sets.length < 1099511627776) {at_ : Int} {F : AO} {N : Nat} {K : XE → Env → List AO → Prop} {res : Int × Int}
   (hret : res.1 ≠ 0 → ∀ env G, env.get 6 = rp (H.length + 1) → K .ret env (H ++ ⟨r.c, 25, 0, true⟩ :: fO res :: ⟨d.c, 45, 0, true⟩ :: G))
   (hexit : res = (0, 0) → ∀ env G, env.get 6 = rp (H.length + 1) → K (.exit 2) env (H ++ ⟨r.c, 25, 0, true⟩ :: fO (0, 0) :: ⟨d.c, 45, 0, true⟩ :: G)) :
   ∀ (m i : Nat) (l : List (List UInt8)) (G : List AO) (env : Env), i + m = d.acts.length → l.length = i → actsF vs r.stages at_ l (d.acts.drop i) = res → env.get 1 = x → env.get 2 = i64 at_ → env.get 3 = rp H.length → env.get 6 = rp (H.length + 1) → env.get 7 = rp (H.length + 2) → env.get 11 = .own (H.length + 4) 0 i 1 i → env.get 12 = i64 i →
     LI Tryz.prog N drawB l35_1 env (H ++ ⟨r.c, 25, 0, true⟩ :: fO (0, 0) :: ⟨d.c, 45, 0, true⟩ :: F :: ⟨wds l, 9, i, true⟩ :: G) K := by
 intro m
 induction m with
 | zero =>
   intro i l G env hi hli hr h1 h2 h3 h6 h7 h11 h12
   refine li_go hm l35_1.eq_1 ?_
   have e : i = d.acts.length := by omega
   subst e
   rw [List.drop_length] at hr
   simp -implicitDefEqProofs [h1, h2, h3, h6, h7, h11, h12, rp, StageP.c, exS, hx.vd]
   refine hexit (by rw [← hr]; rfl) _ _ ?_ ; simp [h6, rp]
 | succ m ih =>
   intro i l G env hi hli hr h1 h2 h3 h6 h7 h11 h12
   refine li_go hm l35_1.eq_1 ?_
   have hlt : i < d.acts.length := by omega
   have hlt' : (i : Int) < d.acts.length := by omega
   have hg := rws_c ActP.c_len hlt
   have hlen := rws_len ActP.c_len d.acts
   have g0 : ∀ h, (rws ActP.c d.acts)[i * 6]'(h) = st (B d.acts[i].nm) := fun h => Option.some.inj ((List.getElem?_eq_getElem h).symm.trans (act_0 hlt))
   have g5 := act_5 hlt
   rw [List.drop_eq_getElem_cons hlt, actsF] at hr
   have h60 := fun L => ok60 (r := r) hrl (hx.app L) hvl (hs d.acts[i] (List.getElem_mem hlt)) at_
   generalize d.acts[i] = a at hr hg h60 g0 g5
   have h34 := fun L => ok34 (H := H ++ ⟨r.c, 25, 0, true⟩ :: fO (0, 0) :: ⟨d.c, 45, 0, true⟩ :: F :: ⟨wds l, 9, i, true⟩ :: L) a.nm (IsS.own1 (T := 9) (k := 4) (n := i) (ver := i) (l := l) rfl hli.symm) (show l.length < 4611686018427387904 by omega)
   simp only [StageP.c, RulesP.c, exS] at h34
   generalize actF vs r.stages at_ a = w at hr h60
   simp only [rulesV, RulesP.c, actV] at h60
   simp -implicitDefEqProofs [h1, h2, h3, h6, h7, h11, h12, rp, hlt, hlt', g0, hlen, hx.vd, hx.ug, StageP.c, exS, RulesP.c]
   refine ⟨by omega, call_go (h34 _) ?_⟩
   by_cases hn : a.nm ∈ l
   · rw [if_pos hn] at hr
     subst hr
     simp -implicitDefEqProofs [h1, h2, h3, h6, h7, h11, h12, rp, hlt, hlt', g5, hlen, hx.vd, hx.ug, StageP.c, exS, RulesP.c, hn]
     refine ⟨by omega, call_go (ok32 8 a.p) ?_⟩
     simp -implicitDefEqProofs [h6, rp, fltV, fO]
     refine hret (show ¬ (8 : Int) = 0 by decide) _ _ ?_
     simp [h6, rp]
   · rw [if_neg hn] at hr
     have hadd : addS l a.nm = l ++ [a.nm] := by unfold addS; rw [if_neg hn]
     rw [hadd] at hr
     have hwl : (wds l).length = i := by rw [wds_len]; exact hli
     simp -implicitDefEqProofs [h1, h2, h3, h6, h7, h11, h12, rp, hlt, hlt', g0, hg, hlen, hx.vd, hx.ug, StageP.c, exS, RulesP.c, hn, hwl]
     refine ⟨by omega, by omega, by omega, by omega, callq_go (fun _ => h60 _) ?_⟩
     by_cases he : w.1 = 0
     · rw [if_neg (by simp [he])] at hr
       simp -implicitDefEqProofs [h1, h2, h3, h6, h7, h11, h12, rp, he, fltV, hx.vd, hx.ug]
       simp only [fltV, he] at h60
       refine ⟨⟨okC_go (h60 _), by omega, hg.symm⟩, ?_⟩
       refine LI.cong ?_ (ih (i + 1) (l ++ [a.nm]) (G ++ [⟨[st (B a.nm)], 9, 0, true⟩, fO (0, w.2)]) _ (by omega) (by simp [hli]) hr ?_ ?_ ?_ ?_ ?_ ?_ ?_)
       · simp [fO, StageP.c, exS, RulesP.c, wds_app]; simp [wds]
       all_goals simp [h1, h2, h3, h6, h7, rp, wrap_suc (show i < 9223372036854775807 by omega)]
     · rw [if_pos he] at hr
       subst hr
       simp -implicitDefEqProofs [h1, h2, h3, h6, h7, h11, h12, rp, he, fltV, fO, hx.vd, hx.ug]
       simp only [fltV, fO] at h60
       refine ⟨⟨okC_go (h60 _), by omega, hg.symm⟩, ?_⟩
       refine hret he _ _ ?_
       simp [h6, rp]
end
end Go.Proofs.YthmdmnfojbnobaaGreatDoor

namespace Go.Proofs.YthmdmnfojbnobaaGreatDoor
open Go.Ab
section
variable {H : List AO} {vs : List (List UInt8)} {x : SV}
theorem ok35 {r : RulesP} (hrl : r.stages.length < 4611686018427387904) (hx : IsS H x vs) (hvl : vs.length < 4611686018427387904) {i : Nat} (hi : i < r.stages.length) (hd : (r.stages[i]).Ok) :
   Ok Tryz.prog 35 [rulesV r, x, i64 i] H (.ret (fltV (stageF vs r.pl r.stages i r.stages[i]).1 (stageF vs r.pl r.stages i r.stages[i]).2)) H := by
 have hg := rws_c StageP.c_len hi
 have hlen := rws_len StageP.c_len r.stages
 have hi' : (i : Int) < r.stages.length := by omega
 generalize hdd : r.stages[i] = d at hg hd
 generalize hw : stageF vs r.pl r.stages i d = w
 unfold stageF at hw
 have h58 := fun (h : d.wt.length < 4611686018427387904) L => ok58 r (hx.app L) hvl h hd.seen
 simp only [rulesV, RulesP.c, stageV, StageP.c, exS] at h58
 refine ok_fn hm Tryz.func35 c35 (by simp [hx.vd]) fun hcl => ?_
 have hxv := hx.vd
 have hxu := hx.ug
 have hwl : ((d.wt.length : Int) ≤ 1) ↔ d.wt.length ≤ 1 := by omega
 have hol : ((d.who.length : Int) = 1) ↔ d.who.length = 1 := by omega
 simp -implicitDefEqProofs [i35, r35, rulesV, RulesP.c, hxv, hxu, hi', hg, hlen, StageP.c, exS]
 refine ⟨by omega, ?_⟩
 by_cases hk : d.k = 1 ∨ d.k = 2 ∨ d.k = 3
 · have hk1 : ¬ d.k < 1 := by omega
   have hk3 : ¬ 3 < d.k := by omega
   by_cases hbad : (d.k = 2 ∧ d.who.length ≠ 1) ∨ 1 < d.wt.length
   · rw [if_pos (by omega)] at hw
     subst hw
     rcases hbad with ⟨h2, h3⟩ | h4
     · have h3' : ¬ (d.who.length : Int) = 1 := by omega
       simp -implicitDefEqProofs [hk1, hk3, h2, h3, h3']
       refine call_go (ok32 3 d.p) ?_
       simp -implicitDefEqProofs [fltV]
       refine cv_fz 3 hcl rfl ?_
       simp
     · have h4' : (1 : Int) < d.wt.length := by omega
       by_cases h2 : d.k = 2
       · by_cases h3 : d.who.length = 1
         · simp -implicitDefEqProofs [hk1, hk3, h2, h3, h4, h4']
           refine call_go (ok32 3 d.p) ?_
           simp -implicitDefEqProofs [fltV]
           refine cv_fz 3 hcl rfl ?_
           simp
         · have h3' : ¬ (d.who.length : Int) = 1 := by omega
           simp -implicitDefEqProofs [hk1, hk3, h2, h3, h3', h4, h4']
           refine call_go (ok32 3 d.p) ?_
           simp -implicitDefEqProofs [fltV]
           refine cv_fz 3 hcl rfl ?_
           simp
       · simp -implicitDefEqProofs [hk1, hk3, h2, h4, h4']
         refine ⟨by omega, call_go (ok32 3 d.p) ?_⟩
         simp -implicitDefEqProofs [fltV]
         refine cv_fz 3 hcl rfl ?_
         simp
   · have h4 : ¬ (1 : Int) < d.wt.length := by omega
     have h4' : ¬ 1 < d.wt.length := by omega
     rw [if_neg (by omega)] at hw
     rcases hk with hk | hk | hk
     · rw [if_pos hk] at hw
       have h58 := h58 (by omega)
       simp -implicitDefEqProofs [hk, h4, h4']
       rw [hk] at h58
       refine call_go (h58 _) ?_
       subst hw
       simp -implicitDefEqProofs [fltV]
       refine cv_fz 3 hcl rfl ?_
       simp
     · rw [if_neg (by omega), if_pos hk] at hw
       have h1 : d.who.length = 1 := by omega
       have h1' : (d.who.length : Int) = 1 := by omega
       unfold turnF at hw
       obtain ⟨e, hwho⟩ : ∃ e, d.who = [e] := by
         match hq : d.who, h1 with
         | [e], _ => exact ⟨e, rfl⟩
       rw [hwho] at hw
       simp only at hw
       have h59 := fun L => ok59 (hx.app L) hvl e 1
       generalize wantF vs e 1 = y at hw h59
       have hec : (Ex.cL d.who).take 5 = e.c := by rw [hwho]; simp [Ex.cL]
       have hel : (Ex.cL d.who).length = 5 := by rw [hwho]; simp [Ex.cL]
       simp -implicitDefEqProofs [hk, h4, h4', h1, h1', hec, hel]
       refine call_go (h59 _) ?_
       by_cases hy : y.1 = 0
       · rw [if_neg (by simp [hy])] at hw
         simp -implicitDefEqProofs [fltV, hy]
         by_cases ha : d.acts.length < 1
         · rw [if_pos (.inl ha)] at hw
           subst hw
           have ha' : (d.acts.length : Int) < 1 := by omega
           simp -implicitDefEqProofs [ha']
           refine call_go (ok32 3 d.p) ?_
           simp -implicitDefEqProofs [fltV]
           refine cv_fz 4 hcl rfl ?_
           simp
         · by_cases hb : 10 < d.acts.length
           · rw [if_pos (.inr hb)] at hw
             subst hw
             have ha' : ¬ (d.acts.length : Int) < 1 := by omega
             have hb' : (10 : Int) < d.acts.length := by omega
             simp -implicitDefEqProofs [ha', hb']
             refine call_go (ok32 3 d.p) ?_
             simp -implicitDefEqProofs [fltV]
             refine cv_fz 4 hcl rfl ?_
             simp
           · rw [if_neg (by omega)] at hw
             have ha' : ¬ (d.acts.length : Int) < 1 := by omega
             have hb' : ¬ (10 : Int) < d.acts.length := by omega
             simp -implicitDefEqProofs [ha', hb']
             refine LI.cong (H' := H ++ ⟨r.c, 25, 0, true⟩ :: fO (0, 0) :: ⟨d.c, 45, 0, true⟩ :: fO (0, y.2) :: ⟨wds [], 9, 0, true⟩ :: []) (by simp [exS, StageP.c, RulesP.c, fO, hk, wds, h1]) ?_
             refine loop35_1 hrl hx hvl (by omega) (fun a ha => (hd.act a ha).sets) (at_ := i) (res := w) (fun h0 env G h6 => ?_) (fun h0 env G h6 => ?_) d.acts.length 0 [] _ _ (by omega) rfl hw ?_ ?_ ?_ ?_ ?_ ?_ ?_
             · simp -implicitDefEqProofs [h6, rp, fO]
               refine cv_fz 4 hcl rfl ?_
               simp [fltV]
             · simp -implicitDefEqProofs [h6, rp, fO]
               refine cv_fz 4 hcl rfl ?_
               simp [fltV, h0]
             all_goals simp [rp]
       · rw [if_pos hy] at hw
         subst hw
         simp -implicitDefEqProofs [fltV, hy]
         refine cv_fz 4 hcl rfl ?_
         simp
     · rw [if_neg (by omega), if_neg (by omega), if_pos hk] at hw
       unfold endF at hw
       simp -implicitDefEqProofs [hk, h4, h4']
       by_cases hp : (d.pays.length : Int) = r.pl
       · rw [if_neg (by simpa using hp)] at hw
         simp -implicitDefEqProofs [hp]
         refine LI.cong (H' := H ++ ⟨r.c, 25, 0, true⟩ :: fO (0, 0) :: ⟨d.c, 45, 0, true⟩ :: []) (by simp [exS, StageP.c, RulesP.c, fO, hk]) ?_
         refine loop35_0 hx hvl hd.lp (res := w) (fun h0 env G h6 => ?_) (fun h0 env G h6 => ?_) d.pays.length 0 [] _ (by omega) hw ?_ ?_ ?_ ?_
         · simp -implicitDefEqProofs [h6, rp, fO]
           refine cv_fz 4 hcl rfl ?_
           simp [fltV]
         · simp -implicitDefEqProofs [h6, rp, fO]
           refine cv_fz 4 hcl rfl ?_
           simp [fltV, h0]
         all_goals simp [rp]
       · rw [if_pos hp] at hw
         subst hw
         simp -implicitDefEqProofs [hp]
         refine call_go (ok32 3 d.p) ?_
         simp -implicitDefEqProofs [fltV]
         refine cv_fz 4 hcl rfl ?_
         simp
 · have hw : w = (3, d.p) := by
     rw [← hw]
     split
     · rfl
     · rw [if_neg (by omega), if_neg (by omega), if_neg (by omega)]
   subst hw
   by_cases hk1 : d.k < 1
   · simp -implicitDefEqProofs [hk1]
     refine ⟨by omega, by omega, call_go (ok32 3 d.p) ?_⟩
     simp -implicitDefEqProofs [fltV]
     refine cv_fz 4 hcl rfl ?_
     simp
   · have hk3 : 3 < d.k := by omega
     simp -implicitDefEqProofs [hk1, hk3]
     refine ⟨by omega, by omega, call_go (ok32 3 d.p) ?_⟩
     simp -implicitDefEqProofs [fltV]
     refine cv_fz 4 hcl rfl ?_
     simp
end
end Go.Proofs.YthmdmnfojbnobaaGreatDoor

namespace Go.Proofs.YthmdmnfojbnobaaGreatDoor
open Go.Ab
theorem var_0 {l : List VarP} {i : Nat} (h : i < l.length) (h') : (rws VarP.c l)[i * 3]'(h') = st (B l[i].nm) := by
 have := rws_get (t := 0) VarP.c_len h (by omega); rw [Nat.add_zero] at this
 exact Option.some.inj ((List.getElem?_eq_getElem h').symm.trans this)
theorem var_1 {l : List VarP} {i : Nat} (h : i < l.length) : (rws VarP.c l)[i * 3 + 1]? = some (i64 l[i].n) := by rw [rws_get VarP.c_len h (by omega)]; rfl
theorem var_2 {l : List VarP} {i : Nat} (h : i < l.length) : (rws VarP.c l)[i * 3 + 2]? = some (i64 l[i].p) := by rw [rws_get VarP.c_len h (by omega)]; rfl
abbrev rO (r : RulesP) : AO := ⟨r.c, 25, 0, true⟩
abbrev wO (l : List (List UInt8)) : AO := ⟨wds l, 9, l.length, true⟩
section
variable {H : List AO}
theorem loop11_0 {r : RulesP} (hl : r.vars.length < 1099511627776) {F : AO} {N : Nat} {K : XE → Env → List AO → Prop} {res : Int × Int} {x4 : SV}
   (hret : res.1 ≠ 0 → ∀ env G, env.get 2 = rp (H.length + 1) → K .ret env (H ++ rO r :: fO res :: G))
   (hexit : res = (0, 0) → ∀ env G, env.get 1 = rp H.length → env.get 2 = rp (H.length + 1) → env.get 3 = .own (H.length + 2) 0 r.vars.length 1 r.vars.length → env.get 4 = x4 → K (.exit 0) env (H ++ rO r :: fO (0, 0) :: wO (namesOf r) :: F :: G)) :
   ∀ (m i : Nat) (G : List AO) (env : Env), i + m = r.vars.length → varF ((namesOf r).take i) (r.vars.drop i) = res → env.get 1 = rp H.length → env.get 2 = rp (H.length + 1) → env.get 3 = .own (H.length + 2) 0 i 1 i → env.get 4 = x4 → env.get 5 = i64 i →
     LI Tryz.prog N drawB l11_0 env (H ++ rO r :: fO (0, 0) :: wO ((namesOf r).take i) :: F :: G) K := by
 have hnl : (namesOf r).length = r.vars.length := by simp [namesOf]
 intro m
 induction m with
 | zero =>
   intro i G env hi hr h1 h2 h3 h4 h5
   refine li_go hm l11_0.eq_1 ?_
   have e : i = r.vars.length := by omega
   subst e
   rw [List.drop_length] at hr
   simp -implicitDefEqProofs [h1, h2, h3, h4, h5, rp, RulesP.c, rO]
   have ht : (namesOf r).take r.vars.length = namesOf r := List.take_of_length_le (by omega)
   rw [ht]
   refine hexit hr.symm _ _ ?_ ?_ ?_ ?_ <;> simp [h1, h2, h3, h4, rp]
 | succ m ih =>
   intro i G env hi hr h1 h2 h3 h4 h5
   refine li_go hm l11_0.eq_1 ?_
   have hlt : i < r.vars.length := by omega
   have hlt' : (i : Int) < r.vars.length := by omega
   have hlen := rws_len VarP.c_len r.vars
   have g0 := var_0 hlt
   have g1 := var_1 hlt
   have g2 := var_2 hlt
   rw [List.drop_eq_getElem_cons hlt, varF] at hr
   have htk : (namesOf r).take (i + 1) = (namesOf r).take i ++ [r.vars[i].nm] := by
     rw [List.take_succ_eq_append_getElem (by omega)]; simp [namesOf]
   have hli : ((namesOf r).take i).length = i := by simp; omega
   generalize (namesOf r).take i = l at hr htk hli ⊢
   generalize r.vars[i] = v at hr g0 g1 g2 htk
   have h34 := fun L => ok34 (H := H ++ rO r :: fO (0, 0) :: wO l :: F :: L) v.nm (IsS.own1 (T := 9) (k := 2) (n := i) (ver := i) (l := l) (by rw [← hli]; rfl) hli.symm) (show l.length < 4611686018427387904 by omega)
   simp only [rO, wO, RulesP.c] at h34
   simp -implicitDefEqProofs [h1, h2, h3, h4, h5, rp, hlt, hlt', g1, hlen, RulesP.c, rO, wO]
   refine ⟨by omega, call_go (ok33 _) ?_⟩
   by_cases hb : v.n < -1000000000 ∨ 1000000000 < v.n
   · rw [if_pos hb] at hr
     subst hr
     have hb' : ¬ (-1000000000 ≤ v.n ∧ v.n ≤ 1000000000) := by omega
     simp -implicitDefEqProofs [h1, h2, h3, h4, h5, rp, hlt, hlt', g2, hlen, RulesP.c, rO, wO, hb']
     refine ⟨by omega, call_go (ok32 2 v.p) ?_⟩
     simp -implicitDefEqProofs [h2, rp, fltV, fO]
     refine hret (show ¬ (2 : Int) = 0 by decide) _ _ ?_
     simp [h2, rp]
   rw [if_neg hb] at hr
   have hb' : (-1000000000 ≤ v.n ∧ v.n ≤ 1000000000) := by omega
   simp -implicitDefEqProofs [h1, h2, h3, h4, h5, rp, hlt, hlt', g0, hlen, RulesP.c, rO, wO, hb']
   refine ⟨by omega, call_go (h34 _) ?_⟩
   by_cases hn : v.nm ∈ l
   · rw [if_pos hn] at hr
     subst hr
     simp -implicitDefEqProofs [h1, h2, h3, h4, h5, rp, hlt, hlt', g2, hlen, RulesP.c, rO, wO, hn]
     refine ⟨by omega, call_go (ok32 8 v.p) ?_⟩
     simp -implicitDefEqProofs [h2, rp, fltV, fO]
     refine hret (show ¬ (8 : Int) = 0 by decide) _ _ ?_
     simp [h2, rp]
   · rw [if_neg hn] at hr
     have hadd : addS l v.nm = l ++ [v.nm] := by unfold addS; rw [if_neg hn]
     rw [hadd, ← htk] at hr
     simp -implicitDefEqProofs [h1, h2, h3, h4, h5, rp, hlt, hlt', g0, hlen, RulesP.c, rO, wO, hn, hli]
     refine ⟨by omega, by omega, by omega, ?_⟩
     refine LI.cong ?_ (ih (i + 1) (G ++ [⟨[st (B v.nm)], 9, 0, true⟩]) _ (by omega) hr ?_ ?_ ?_ ?_ ?_)
     · rw [htk]; simp [fO, RulesP.c, wds_app, hli]; simp [wds]
     all_goals simp [h1, h2, h3, h4, rp, wrap_suc (show i < 9223372036854775807 by omega)]
theorem loop11_1 {r : RulesP} (hl : r.stages.length < 1099511627776) {F : AO} {N : Nat} {K : XE → Env → List AO → Prop} {res : Int × Int} {x3 : SV}
   (hret : res.1 ≠ 0 → ∀ env G, env.get 2 = rp (H.length + 1) → K .ret env (H ++ rO r :: fO res :: G))
   (hexit : res = (0, 0) → ∀ env G, env.get 1 = rp H.length → env.get 2 = rp (H.length + 1) → env.get 3 = x3 → K (.exit 2) env (H ++ rO r :: fO (0, 0) :: F :: G)) :
   ∀ (m i : Nat) (l ls : List (List UInt8)) (G : List AO) (env : Env), i + m = r.stages.length → ls.length = i → (∀ s, s ≠ [] → (s ∈ ls ↔ s ∈ l)) → labF l (r.stages.drop i) = res → env.get 1 = rp H.length → env.get 2 = rp (H.length + 1) → env.get 3 = x3 → env.get 4 = .own (H.length + 3) 0 i 1 i → env.get 6 = i64 i →
     LI Tryz.prog N drawB l11_1 env (H ++ rO r :: fO (0, 0) :: F :: wO ls :: G) K := by
 intro m
 induction m with
 | zero =>
   intro i l ls G env hi hli hq hr h1 h2 h3 h4 h6
   refine li_go hm l11_1.eq_1 ?_
   have e : i = r.stages.length := by omega
   subst e
   rw [List.drop_length] at hr
   simp -implicitDefEqProofs [h1, h2, h3, h4, h6, rp, RulesP.c, rO]
   refine hexit hr.symm _ _ ?_ ?_ ?_ <;> simp [h1, h2, h3, rp]
 | succ m ih =>
   intro i l ls G env hi hli hq hr h1 h2 h3 h4 h6
   refine li_go hm l11_1.eq_1 ?_
   have hlt : i < r.stages.length := by omega
   have hlt' : (i : Int) < r.stages.length := by omega
   have hlen := rws_len StageP.c_len r.stages
   have g1 := stg_1 hlt
   have g11 := stg_11 hlt
   rw [List.drop_eq_getElem_cons hlt, labF] at hr
   generalize r.stages[i] = v at hr g1 g11
   have h34 := fun L => ok34 (H := H ++ rO r :: fO (0, 0) :: F :: wO ls :: L) v.lb (IsS.own1 (T := 9) (k := 3) (n := i) (ver := i) (l := ls) (by rw [← hli]; rfl) hli.symm) (show ls.length < 4611686018427387904 by omega)
   simp only [rO, wO, RulesP.c] at h34
   by_cases he : v.lb = []
   · rw [if_pos he] at hr
     simp -implicitDefEqProofs [h1, h2, h3, h4, h6, rp, hlt, hlt', g1, hlen, RulesP.c, rO, wO, he]
     refine ⟨by omega, callq_go (r := bl false) (fun h => by cases h) ?_⟩
     simp -implicitDefEqProofs [h1, h2, h3, h4, h6, rp, hlt, hlt', g1, hlen, RulesP.c, rO, wO, he, hli]
     refine ⟨by omega, by omega, ?_⟩
     refine LI.cong ?_ (ih (i + 1) l (ls ++ [[]]) (G ++ [⟨[st (B [])], 9, 0, true⟩]) _ (by omega) (by simp [hli]) (fun s hs => ?_) hr ?_ ?_ ?_ ?_ ?_)
     · simp [fO, RulesP.c, wds_app, hli]; simp [wds]
     · rw [List.mem_append, ← hq s hs]; simp [hs]
     all_goals simp [h1, h2, h3, h4, rp, wrap_suc (show i < 9223372036854775807 by omega)]
   · rw [if_neg he] at hr
     simp -implicitDefEqProofs [h1, h2, h3, h4, h6, rp, hlt, hlt', g1, hlen, RulesP.c, rO, wO, he]
     refine ⟨by omega, callq_st (r := bl (decide (v.lb ∈ ls))) (fun _ => h34 _) ?_⟩
     by_cases hn : v.lb ∈ ls
     · rw [if_pos ((hq _ he).1 hn)] at hr
       subst hr
       simp -implicitDefEqProofs [h1, h2, h3, h4, h6, rp, hlt, hlt', g1, g11, hlen, RulesP.c, rO, wO, hn, he]
       refine ⟨by omega, call_go (ok32 8 v.p) ?_⟩
       simp -implicitDefEqProofs [h2, rp, fltV, fO]
       refine hret (show ¬ (8 : Int) = 0 by decide) _ _ ?_
       simp [h2, rp]
     · have hn2 : v.lb ∉ l := fun h => hn ((hq _ he).2 h)
       rw [if_neg hn2] at hr
       simp -implicitDefEqProofs [h1, h2, h3, h4, h6, rp, hlt, hlt', g1, hlen, RulesP.c, rO, wO, hn, hli, he]
       refine ⟨by omega, by omega, ?_⟩
       refine LI.cong ?_ (ih (i + 1) (addS l v.lb) (ls ++ [v.lb]) (G ++ [⟨[st (B v.lb)], 9, 0, true⟩]) _ (by omega) (by simp [hli]) (fun s hs => ?_) hr ?_ ?_ ?_ ?_ ?_)
       · simp [fO, RulesP.c, wds_app, hli]; simp [wds]
       · unfold addS; rw [if_neg hn2, List.mem_append, List.mem_append, hq s hs]
       all_goals simp [h1, h2, h3, h4, rp, wrap_suc (show i < 9223372036854775807 by omega)]
theorem loop11_2 {r : RulesP} {vs : List (List UInt8)} (hvl : vs.length < 1099511627776) (hl : r.stages.length < 4611686018427387904) (hok : ∀ x ∈ r.stages, x.Ok) {N : Nat} {K : XE → Env → List AO → Prop} {res : Int × Int}
   (hret : res.1 ≠ 0 → ∀ env G, env.get 2 = rp (H.length + 1) → K .ret env (H ++ rO r :: fO res :: G))
   (hexit : res = (0, 0) → ∀ env G, env.get 2 = rp (H.length + 1) → K (.exit 4) env (H ++ rO r :: fO (0, 0) :: G)) :
   ∀ (m i : Nat) (G : List AO) (env : Env), i + m = r.stages.length → stagesF vs r.pl r.stages i (r.stages.drop i) = res → env.get 1 = rp H.length → env.get 2 = rp (H.length + 1) → env.get 3 = .own (H.length + 2) 0 vs.length 1 vs.length → env.get 9 = i64 i →
     LI Tryz.prog N drawB l11_2 env (H ++ rO r :: fO (0, 0) :: wO vs :: G) K := by
 intro m
 induction m with
 | zero =>
   intro i G env hi hr h1 h2 h3 h9
   refine li_go hm l11_2.eq_1 ?_
   have e : i = r.stages.length := by omega
   subst e
   rw [List.drop_length] at hr
   simp -implicitDefEqProofs [h1, h2, h3, h9, rp, RulesP.c, rO]
   refine hexit hr.symm _ _ ?_; simp [h2, rp]
 | succ m ih =>
   intro i G env hi hr h1 h2 h3 h9
   refine li_go hm l11_2.eq_1 ?_
   have hlt : i < r.stages.length := by omega
   have hlt' : (i : Int) < r.stages.length := by omega
   rw [List.drop_eq_getElem_cons hlt, stagesF] at hr
   have h35 := fun L => ok35 (H := H ++ rO r :: fO (0, 0) :: wO vs :: L) (vs := vs) (r := r) hl (IsS.own1 (T := 9) (k := 2) (n := vs.length) (ver := vs.length) (l := vs) rfl rfl) (by omega) hlt (hok _ (List.getElem_mem hlt))
   generalize stageF vs r.pl r.stages i r.stages[i] = w at hr h35
   simp only [rO, wO, RulesP.c, rulesV] at h35
   simp -implicitDefEqProofs [h1, h2, h3, h9, rp, hlt, hlt', RulesP.c, rO, wO]
   refine call_go (h35 _) ?_
   by_cases he : w.1 = 0
   · rw [if_neg (by simp [he])] at hr
     simp -implicitDefEqProofs [h1, h2, h3, h9, rp, he, fltV]
     refine LI.cong ?_ (ih (i + 1) (G ++ [fO (0, w.2)]) _ (by omega) hr ?_ ?_ ?_ ?_)
     · simp [fO, RulesP.c]
     all_goals simp [h1, h2, h3, rp, wrap_suc (show i < 9223372036854775807 by omega)]
   · rw [if_pos he] at hr
     subst hr
     simp -implicitDefEqProofs [h1, h2, h3, h9, rp, he, fltV, fO]
     refine hret he _ _ ?_
     simp [h2, rp]
end
end Go.Proofs.YthmdmnfojbnobaaGreatDoor

namespace Go.Proofs.YthmdmnfojbnobaaGreatDoor
open Go.Ab
section
variable {H : List AO}
theorem ok11 {r : RulesP} (hr : r.Ok) (hst : r.stages.length < 1099511627776) : Ok Tryz.prog 11 [rulesV r] H (.ret (fltV (checkF r).1 (checkF r).2)) H := by
 refine ok_fn hm Tryz.func11 c11 (by simp) fun hcl => ?_
 generalize hw : checkF r = w
 unfold checkF at hw
 have hvl : (namesOf r).length = r.vars.length := by simp [namesOf]
 have hv := hr.vars
 have hd : i11 = .seq (IC.nth 0 i11) (.seq (IC.nth 1 i11) (.seq (IC.nth 2 i11) (IC.tl 3 i11))) := rfl
 simp -implicitDefEqProofs [i11, r11, rulesV, RulesP.c]
 rw [firstF] at hw
 by_cases hp : r.pl < 1 ∨ 4 < r.pl
 · have : plF r = (2, 0) := by unfold plF; rw [if_pos hp]
   rw [this, if_pos (by decide)] at hw
   subst hw
   rcases hp with hp | hp
   · simp -implicitDefEqProofs [hp]
     refine call_go (ok32 2 0) ?_
     simp -implicitDefEqProofs [fltV]
     refine cv_fz 4 hcl rfl ?_
     simp
   · have hp1 : ¬ r.pl < 1 := by omega
     simp -implicitDefEqProofs [hp, hp1]
     refine call_go (ok32 2 0) ?_
     simp -implicitDefEqProofs [fltV]
     refine cv_fz 4 hcl rfl ?_
     simp
 have : plF r = (0, 0) := by unfold plF; rw [if_neg hp]
 rw [this, if_neg (by decide), firstF] at hw
 have hp1 : ¬ r.pl < 1 := by omega
 have hp2 : ¬ 4 < r.pl := by omega
 simp -implicitDefEqProofs [hp1, hp2]
 refine LI.cong (H' := H ++ rO r :: fO (0, 0) :: wO ((namesOf r).take 0) :: wO [] :: []) (by simp [fO, RulesP.c, wds]) ?_
 refine loop11_0 hr.vars (x4 := .own (H.length + 3) 0 0 1 0) (res := varF [] r.vars) (fun h0 env G h2 => ?_) (fun h0 env G h1 h2 h3 h4 => ?_) r.vars.length 0 [] _ (by omega) rfl ?_ ?_ ?_ ?_ ?_
 · rw [if_pos h0] at hw
   subst hw
   simp -implicitDefEqProofs [h2, rp, fO]
   refine cv_fz 4 hcl rfl ?_
   simp [fltV]
 · rw [h0, if_neg (by decide), firstF] at hw
   simp -implicitDefEqProofs [h1, h2, h3, h4, rp]
   refine loop11_1 hst (x3 := .own (H.length + 2) 0 r.vars.length 1 r.vars.length) (res := labF [] r.stages) (fun h0 env G h2 => ?_) (fun h0 env G h1 h2 h3 => ?_) r.stages.length 0 [] [] _ _ (by omega) rfl (fun s _ => Iff.rfl) rfl ?_ ?_ ?_ ?_ ?_
   · rw [if_pos h0] at hw
     subst hw
     simp -implicitDefEqProofs [h2, rp, fO]
     refine cv_fz 4 hcl rfl ?_
     simp [fltV]
   · rw [h0, if_neg (by decide), firstF] at hw
     simp -implicitDefEqProofs [h1, h2, h3, rp, RulesP.c, rO]
     by_cases hz : r.stages = []
     · have hl : lastF r.stages = (3, 0) := by rw [hz]; rfl
       rw [hl, if_pos (by decide)] at hw
       subst hw
       simp -implicitDefEqProofs [hz]
       refine call_go (ok32 3 0) ?_
       simp -implicitDefEqProofs [h2, rp, fltV, fO]
       refine cv_fz 4 hcl rfl ?_
       simp
     have hn0 : r.stages.length ≠ 0 := fun h => hz (List.length_eq_zero_iff.1 h)
     have hlt : r.stages.length - 1 < r.stages.length := by omega
     have hlast : r.stages.getLast? = some r.stages[r.stages.length - 1] := by rw [List.getLast?_eq_getElem?]; exact List.getElem?_eq_getElem hlt
     have hlf : lastF r.stages = if r.stages[r.stages.length - 1].k ≠ 3 then (3, r.stages[r.stages.length - 1].p) else (0, 0) := by unfold lastF; rw [hlast]
     have hg := rws_c StageP.c_len hlt
     have hlen := rws_len StageP.c_len r.stages
     generalize r.stages[r.stages.length - 1] = x at hlf hg
     have hnn : ¬ (r.stages.length : Int) = 0 := by omega
     have w1 : IntKind.i64.wrap ((r.stages.length : Int) - 1) = ((r.stages.length - 1 : Nat) : Int) := by rw [wrap_id (by omega) (by omega)]; omega
     have hlt' : ((r.stages.length - 1 : Nat) : Int) < r.stages.length := by omega
     have hmin : min 12 (r.stages.length * 12 - (r.stages.length - 1) * 12) = 12 := by omega
     by_cases hk : x.k = 3
     · have hl : lastF r.stages = (0, 0) := by rw [hlf, if_neg (by simp [hk])]
       rw [hl, if_neg (by decide), firstF, firstF] at hw
       simp -implicitDefEqProofs [h1, h2, h3, rp, hz, hnn, w1, hlt', hg, hlen, hmin, RulesP.c, rO, hk, StageP.c, exS]
       refine ⟨by omega, ?_⟩
       refine LI.cong (H' := H ++ rO r :: fO (0, 0) :: wO (namesOf r) :: (G ++ [⟨x.c, 45, 0, true⟩])) (by simp [fO, RulesP.c, StageP.c, hk, exS]) ?_
       refine loop11_2 (vs := namesOf r) (by omega) (by omega) hr.st (res := stagesF (namesOf r) r.pl r.stages 0 r.stages) (fun h0 env G h2 => ?_) (fun h0 env G h2 => ?_) r.stages.length 0 _ _ (by omega) rfl ?_ ?_ ?_ ?_
       · rw [if_pos h0] at hw
         subst hw
         simp -implicitDefEqProofs [h2, rp, fO]
         refine cv_fz 4 hcl rfl ?_
         simp [fltV]
       · rw [if_neg (by rw [h0]; decide)] at hw
         subst hw
         simp -implicitDefEqProofs [h2, rp, fO]
         refine cv_fz 4 hcl rfl ?_
         simp [fltV]
       all_goals simp [h1, h2, h3, rp, hvl]
     · have hl : lastF r.stages = (3, x.p) := by rw [hlf, if_pos hk]
       rw [hl, if_pos (show ((3 : Int), x.p).1 ≠ 0 by show ¬ (3 : Int) = 0; decide)] at hw
       subst hw
       simp -implicitDefEqProofs [h1, h2, h3, rp, hz, hnn, w1, hlt', hg, hlen, hmin, RulesP.c, rO, hk, StageP.c, exS]
       refine ⟨by omega, call_go (ok32 3 x.p) ?_⟩
       simp -implicitDefEqProofs [h2, rp, fltV, fO]
       refine cv_fz 4 hcl rfl ?_
       simp
   all_goals simp [h1, h2, h3, h4, rp]
 all_goals simp [rp]
end
end Go.Proofs.YthmdmnfojbnobaaGreatDoor

namespace Go.Proofs.YthmdmnfojbnobaaGreatDoor
open Go.Ab
def goT (l : List StageP) (i : Int) (s : List UInt8) : Int × Int := if s = [] then (IntKind.i64.wrap (i + 1), 0) else if 0 ≤ findF l s then (findF l s, 0) else (0, 7)
def actT (l : List StageP) (i act : Int) (x : StageP) : Int × Int := if x.k ≠ 2 ∨ act < 0 then (0, 2) else match x.acts[act.toNat]? with
 | none => (0, 2)
 | some a => goT l i a.go
def tgtF (l : List StageP) (i act : Int) : Int × Int := if i < 0 then (0, 2) else match l[i.toNat]? with
 | none => (0, 2)
 | some x => actT l i act x
theorem act_4 {l : List ActP} {i : Nat} (h : i < l.length) : (rws ActP.c l)[i * 6 + 4]? = some (st (B l[i].go)) := by rw [rws_get ActP.c_len h (by omega)]; rfl
section
variable {H : List AO} {r : RulesP}
set_option maxRecDepth 100000 in
theorem ok9 (hl : r.stages.length < 4611686018427387904) (ha : ∀ x ∈ r.stages, x.acts.length < 4611686018427387904) (i act : Int) : Ok Tryz.prog 9 [rulesV r, i64 i, i64 act] H (.ret (.tup [i64 (tgtF r.stages i act).1, i64 (tgtF r.stages i act).2])) H := by
 refine ok_fn hm Tryz.func9 c9 (by simp) fun hcl => ?_
 generalize hw : tgtF r.stages i act = w
 unfold tgtF at hw
 by_cases h0 : i < 0
 · rw [if_pos h0] at hw
   subst hw
   simp -implicitDefEqProofs [i9, r9, rulesV, RulesP.c, h0]
   refine cv_fz 4 hcl rfl ?_
   simp
 rw [if_neg h0] at hw
 obtain ⟨n, rfl⟩ := Int.eq_ofNat_of_zero_le (by omega : 0 ≤ i)
 rw [Int.toNat_natCast] at hw
 by_cases h1 : n < r.stages.length
 · rw [List.getElem?_eq_getElem h1] at hw
   simp only at hw
   unfold actT at hw
   have h1' : (n : Int) < r.stages.length := by omega
   have h1b : ¬ (r.stages.length : Int) ≤ n := by omega
   have hax := ha _ (List.getElem_mem h1)
   have g0 : ∀ h, (rws StageP.c r.stages)[n * 12]'(h) = i64 r.stages[n].k := fun h => Option.some.inj ((List.getElem?_eq_getElem h).symm.trans (stg_0 h1))
   have g0' := stg_0 h1
   have g9 := stg_9 h1
   have hg := rws_c StageP.c_len h1
   have hlen := rws_len StageP.c_len r.stages
   have hmin : min 12 (r.stages.length * 12 - n * 12) = 12 := by omega
   generalize r.stages[n] = x at hw g0 g0' g9 hax hg
   by_cases hk : x.k = 2
   · by_cases hn : act < 0
     · rw [if_pos (.inr hn)] at hw
       subst hw
       simp -implicitDefEqProofs [i9, r9, rulesV, RulesP.c, h0, h1, h1', h1b, g0, g0', g9, hlen, hk, hn, hg, hmin, StageP.c, exS]
       refine ⟨by omega, cv_fz 4 hcl rfl ?_⟩
       simp
     rw [if_neg (by omega)] at hw
     obtain ⟨m, rfl⟩ := Int.eq_ofNat_of_zero_le (by omega : 0 ≤ act)
     rw [Int.toNat_natCast] at hw
     by_cases h2 : m < x.acts.length
     · rw [List.getElem?_eq_getElem h2] at hw
       simp only at hw
       unfold goT at hw
       have h2' : (m : Int) < x.acts.length := by omega
       have h2b : ¬ (x.acts.length : Int) ≤ m := by omega
       have g4 := act_4 h2
       have hlen2 := rws_len ActP.c_len x.acts
       generalize x.acts[m] = a at hw g4
       by_cases hgo : a.go = []
       · rw [if_pos hgo] at hw
         subst hw
         rw [hgo] at g4
         generalize hws : IntKind.i64.wrap ((n : Int) + 1) = ws
         simp -implicitDefEqProofs [hws, i9, r9, rulesV, RulesP.c, h0, h1, h1', h1b, g0, g0', g9, hlen, hk, hn, h2, h2', h2b, g4, hlen2, hg, hmin, StageP.c, exS]
         refine ⟨by omega, by omega, by omega, cv_fz 4 hcl rfl ?_⟩
         simp
       · rw [if_neg hgo] at hw
         simp -implicitDefEqProofs [i9, r9, rulesV, RulesP.c, h0, h1, h1', h1b, g0, g0', g9, hlen, hk, hn, h2, h2', h2b, g4, hlen2, hgo, hg, hmin, StageP.c, exS]
         refine ⟨by omega, by omega, by omega, call_go (by have := ok23 (H := H ++ [⟨r.c, 25, 0, true⟩]) (r := r) hl hgo; simpa only [rulesV, RulesP.c] using this) ?_⟩
         generalize findF r.stages a.go = t at hw
         by_cases ht : 0 ≤ t
         · rw [if_pos ht] at hw
           subst hw
           have ht' : ¬ t < 0 := by omega
           simp -implicitDefEqProofs [ht, ht']
           refine cv_fz 4 hcl rfl ?_
           simp
         · rw [if_neg ht] at hw
           subst hw
           have ht' : t < 0 := by omega
           simp -implicitDefEqProofs [ht, ht']
           refine cv_fz 4 hcl rfl ?_
           simp
     · rw [List.getElem?_eq_none (by omega)] at hw
       simp only at hw
       subst hw
       have h2' : ¬ (m : Int) < x.acts.length := by omega
       have h2b : (x.acts.length : Int) ≤ m := by omega
       simp -implicitDefEqProofs [i9, r9, rulesV, RulesP.c, h0, h1, h1', h1b, g0, g0', g9, hlen, hk, hn, h2, h2', h2b, hg, hmin, StageP.c, exS]
       refine ⟨by omega, by omega, cv_fz 4 hcl rfl ?_⟩
       simp
   · rw [if_pos (.inl hk)] at hw
     subst hw
     simp -implicitDefEqProofs [i9, r9, rulesV, RulesP.c, h0, h1, h1', h1b, g0, g0', hlen, hk, hg, hmin, StageP.c, exS]
     refine ⟨by omega, cv_fz 4 hcl rfl ?_⟩
     simp
 · rw [List.getElem?_eq_none (by omega)] at hw
   simp only at hw
   subst hw
   have h1' : ¬ (n : Int) < r.stages.length := by omega
   have h1b : (r.stages.length : Int) ≤ n := by omega
   simp -implicitDefEqProofs [i9, r9, rulesV, RulesP.c, h0, h1, h1', h1b]
   refine cv_fz 4 hcl rfl ?_
   simp
set_option maxRecDepth 100000 in
theorem ok8 (hl : r.stages.length < 4611686018427387904) (ha : ∀ x ∈ r.stages, x.acts.length < 4611686018427387904) (i act : Int) : Ok Tryz.prog 8 [rulesV r, i64 i, i64 act] H (.ret (.tup [i64 (tgtF r.stages i act).1, i64 (tgtF r.stages i act).2])) H := by
 refine ok_fn hm Tryz.func8 c8 (by simp) fun hcl => ?_
 generalize hw : tgtF r.stages i act = w
 unfold tgtF at hw
 by_cases h0 : i < 0
 · rw [if_pos h0] at hw
   subst hw
   simp -implicitDefEqProofs [i8, r8, rulesV, RulesP.c, h0]
   refine cv_fz 4 hcl rfl ?_
   simp
 rw [if_neg h0] at hw
 obtain ⟨n, rfl⟩ := Int.eq_ofNat_of_zero_le (by omega : 0 ≤ i)
 rw [Int.toNat_natCast] at hw
 by_cases h1 : n < r.stages.length
 · rw [List.getElem?_eq_getElem h1] at hw
   simp only at hw
   unfold actT at hw
   have h1' : (n : Int) < r.stages.length := by omega
   have h1b : ¬ (r.stages.length : Int) ≤ n := by omega
   have hax := ha _ (List.getElem_mem h1)
   have g0 : ∀ h, (rws StageP.c r.stages)[n * 12]'(h) = i64 r.stages[n].k := fun h => Option.some.inj ((List.getElem?_eq_getElem h).symm.trans (stg_0 h1))
   have g0' := stg_0 h1
   have g9 := stg_9 h1
   have hg := rws_c StageP.c_len h1
   have hlen := rws_len StageP.c_len r.stages
   have hmin : min 12 (r.stages.length * 12 - n * 12) = 12 := by omega
   generalize r.stages[n] = x at hw g0 g0' g9 hax hg
   by_cases hk : x.k = 2
   · by_cases hn : act < 0
     · rw [if_pos (.inr hn)] at hw
       subst hw
       simp -implicitDefEqProofs [i8, r8, rulesV, RulesP.c, h0, h1, h1', h1b, g0, g0', g9, hlen, hk, hn, hg, hmin, StageP.c, exS]
       refine ⟨by omega, by omega, cv_fz 4 hcl rfl ?_⟩
       simp
     rw [if_neg (by omega)] at hw
     obtain ⟨m, rfl⟩ := Int.eq_ofNat_of_zero_le (by omega : 0 ≤ act)
     rw [Int.toNat_natCast] at hw
     by_cases h2 : m < x.acts.length
     · rw [List.getElem?_eq_getElem h2] at hw
       simp only at hw
       unfold goT at hw
       have h2' : (m : Int) < x.acts.length := by omega
       have h2b : ¬ (x.acts.length : Int) ≤ m := by omega
       have g4 := act_4 h2
       have hlen2 := rws_len ActP.c_len x.acts
       generalize x.acts[m] = a at hw g4
       by_cases hgo : a.go = []
       · rw [if_pos hgo] at hw
         subst hw
         rw [hgo] at g4
         generalize hws : IntKind.i64.wrap ((n : Int) + 1) = ws
         simp -implicitDefEqProofs [hws, i8, r8, rulesV, RulesP.c, h0, h1, h1', h1b, g0, g0', g9, hlen, hk, hn, h2, h2', h2b, g4, hlen2, hg, hmin, StageP.c, exS]
         refine ⟨by omega, by omega, by omega, cv_fz 4 hcl rfl ?_⟩
         simp
       · rw [if_neg hgo] at hw
         simp -implicitDefEqProofs [i8, r8, rulesV, RulesP.c, h0, h1, h1', h1b, g0, g0', g9, hlen, hk, hn, h2, h2', h2b, g4, hlen2, hgo, hg, hmin, StageP.c, exS]
         refine ⟨by omega, by omega, by omega, call_of (a := [stgsV r.stages]) (b := []) (ok22 hl a.go) ?_⟩
         generalize findF r.stages a.go = t at hw
         by_cases ht : 0 ≤ t
         · rw [if_pos ht] at hw
           subst hw
           have ht' : ¬ t < 0 := by omega
           simp -implicitDefEqProofs [ht, ht']
           refine cv_fz 4 hcl rfl ?_
           simp
         · rw [if_neg ht] at hw
           subst hw
           have ht' : t < 0 := by omega
           simp -implicitDefEqProofs [ht, ht']
           refine cv_fz 4 hcl rfl ?_
           simp
     · rw [List.getElem?_eq_none (by omega)] at hw
       simp only at hw
       subst hw
       have h2' : ¬ (m : Int) < x.acts.length := by omega
       have h2b : (x.acts.length : Int) ≤ m := by omega
       simp -implicitDefEqProofs [i8, r8, rulesV, RulesP.c, h0, h1, h1', h1b, g0, g0', g9, hlen, hk, hn, h2, h2', h2b, hg, hmin, StageP.c, exS]
       refine ⟨by omega, by omega, cv_fz 4 hcl rfl ?_⟩
       simp
   · rw [if_pos (.inl hk)] at hw
     subst hw
     simp -implicitDefEqProofs [i8, r8, rulesV, RulesP.c, h0, h1, h1', h1b, g0, g0', hlen, hk, hg, hmin, StageP.c, exS]
     refine ⟨by omega, cv_fz 4 hcl rfl ?_⟩
     simp
 · rw [List.getElem?_eq_none (by omega)] at hw
   simp only at hw
   subst hw
   have h1' : ¬ (n : Int) < r.stages.length := by omega
   have h1b : (r.stages.length : Int) ≤ n := by omega
   simp -implicitDefEqProofs [i8, r8, rulesV, RulesP.c, h0, h1, h1', h1b]
   refine cv_fz 4 hcl rfl ?_
   simp
end
end Go.Proofs.YthmdmnfojbnobaaGreatDoor

namespace Go.Proofs.YthmdmnfojbnobaaGreatDoor
open Go.Ab
section
variable {H : List AO} {r : RulesP}
theorem loop14 (hl : r.vars.length < 1099511627776) {N : Nat} {K : XE → Env → List AO → Prop}
   (hexit : ∀ env G, env.get 3 = .own (H.length + 1) 0 r.vars.length 1 r.vars.length → K (.exit 0) env (H ++ rO r :: wO (namesOf r) :: G)) :
   ∀ (m i : Nat) (G : List AO) (env : Env), i + m = r.vars.length → env.get 1 = rp H.length → env.get 3 = .own (H.length + 1) 0 i 1 i → env.get 4 = i64 i →
     LI Tryz.prog N drawB l14_0 env (H ++ rO r :: wO ((namesOf r).take i) :: G) K := by
 have hnl : (namesOf r).length = r.vars.length := by simp [namesOf]
 intro m
 induction m with
 | zero =>
   intro i G env hi h1 h3 h4
   refine li_go hm l14_0.eq_1 ?_
   have e : i = r.vars.length := by omega
   subst e
   simp -implicitDefEqProofs [h1, h3, h4, rp, RulesP.c, rO]
   have ht : (namesOf r).take r.vars.length = namesOf r := List.take_of_length_le (by omega)
   rw [ht]
   refine hexit _ _ ?_; simp [h3]
 | succ m ih =>
   intro i G env hi h1 h3 h4
   refine li_go hm l14_0.eq_1 ?_
   have hlt : i < r.vars.length := by omega
   have hlt' : (i : Int) < r.vars.length := by omega
   have hlen := rws_len VarP.c_len r.vars
   have g0 := var_0 hlt
   have htk : (namesOf r).take (i + 1) = (namesOf r).take i ++ [r.vars[i].nm] := by
     rw [List.take_succ_eq_append_getElem (by omega)]; simp [namesOf]
   have hli : ((namesOf r).take i).length = i := by simp; omega
   generalize (namesOf r).take i = l at htk hli ⊢
   generalize r.vars[i] = v at g0 htk
   simp -implicitDefEqProofs [h1, h3, h4, rp, hlt, hlt', g0, hlen, RulesP.c, rO, wO, hli]
   refine ⟨by omega, by omega, by omega, ?_⟩
   refine LI.cong ?_ (ih (i + 1) (G ++ [⟨[st (B v.nm)], 9, 0, true⟩]) _ (by omega) ?_ ?_ ?_)
   · rw [htk]; simp [RulesP.c, wds_app, hli]; simp [wds]
   all_goals simp [h1, h3, rp, wrap_suc (show i < 9223372036854775807 by omega)]
theorem wds_und (n : Nat) (l : List (List UInt8)) : SV.underL n (wds l) = true := (SV.underL_iff _ _).2 fun s hs => by
 rw [wds, List.mem_map] at hs; obtain ⟨a, _, rfl⟩ := hs; rfl
theorem ok14 (hl : r.vars.length < 1099511627776) : Ok Tryz.prog 14 [rulesV r] H (.ret (namesV (namesOf r))) H := by
 refine ok_fn hm Tryz.func14 c14 (by simp) fun hcl => ?_
 simp -implicitDefEqProofs [i14, r14, rulesV, RulesP.c]
 refine LI.cong (H' := H ++ rO r :: wO ((namesOf r).take 0) :: []) (by simp [wds, RulesP.c]) ?_
 refine loop14 hl (fun env G h3 => ?_) r.vars.length 0 [] _ (by omega) ?_ ?_ ?_
 · simp -implicitDefEqProofs [h3]
   refine cv_fz 2 hcl rfl ?_
   have e : (wds (namesOf r)).length = r.vars.length := by simp [namesOf]
   have e2 : (wds (namesOf r)).take r.vars.length = wds (namesOf r) := List.take_of_length_le (by omega)
   simp [namesV, e, e2, map_fz_under _ _ _ _ (wds_und _ _)]
   simp [wds, namesOf]
 all_goals simp [rp]
theorem loop12 {x y : SV} {l l' : List (List UInt8)} (hx : IsS H x l) (hy : IsS H y l') (hl : l.length < 4611686018427387904) (he : l.length = l'.length) {N : Nat} {K : XE → Env → List AO → Prop}
   (hret : l ≠ l' → ∀ env, env.get 4 = bl false → K .ret env H) (hexit : l = l' → ∀ env, K (.exit 0) env H) :
   ∀ (m i : Nat) (env : Env), i + m = l.length → (l = l' ↔ l.drop i = l'.drop i) → env.get 0 = x → env.get 1 = y → env.get 5 = i64 i → LI Tryz.prog N drawB l12_0 env H K := by
 intro m
 induction m with
 | zero =>
   intro i env hi hq h0 h1 h5
   refine li_go hm l12_0.eq_1 ?_
   have e : i = l.length := by omega
   subst e
   rw [List.drop_length, List.drop_of_length_le (by omega)] at hq
   simp -implicitDefEqProofs [h0, h1, h5, hx.vd, hx.ug, hx.sl, hx.len, hy.vd, hy.ug, hy.sl, hy.len]
   exact hexit (hq.2 rfl) _
 | succ m ih =>
   intro i env hi hq h0 h1 h5
   refine li_go hm l12_0.eq_1 ?_
   have hlt : i < l.length := by omega
   have hlt' : (i : Int) < l.length := by omega
   have hlt2 : i < l'.length := by omega
   have hlt2' : (i : Int) < l'.length := by omega
   rw [List.drop_eq_getElem_cons hlt, List.drop_eq_getElem_cons hlt2] at hq
   have hv := hx.vA [] hlt
   have ho := hx.okA [] hlt
   have hv2 := hy.vA [] hlt2
   have ho2 := hy.okA [] hlt2
   simp only [List.append_nil] at hv ho hv2 ho2
   generalize l[i] = v at hq hv
   generalize l'[i] = u at hq hv2
   by_cases hs : v = u
   · subst hs
     simp -implicitDefEqProofs [h0, h1, h5, hlt, hlt', hlt2, hlt2', hx.vd, hx.ug, hx.sl, hx.cell, hx.sz, hx.len, hv, ho, hy.vd, hy.ug, hy.sl, hy.cell, hy.sz, hy.len, hv2, ho2]
     refine ih (i + 1) _ (by omega) ?_ ?_ ?_ ?_
     · rw [hq]; simp
     all_goals simp [h0, h1, wrap_suc (show i < 9223372036854775807 by omega)]
   · have hne : l ≠ l' := fun h => hs (by have := hq.1 h; simpa using (List.cons.inj this).1)
     simp -implicitDefEqProofs [h0, h1, h5, hlt, hlt', hlt2, hlt2', hx.vd, hx.ug, hx.sl, hx.cell, hx.sz, hx.len, hv, ho, hy.vd, hy.ug, hy.sl, hy.cell, hy.sz, hy.len, hv2, ho2, hs]
     exact hret hne _ (by simp)
theorem ok12 {x y : SV} {l l' : List (List UInt8)} (hx : IsS H x l) (hy : IsS H y l') (hl : l.length < 4611686018427387904) (hl2 : l'.length < 4611686018427387904) : Ok Tryz.prog 12 [x, y] H (.ret (bl (decide (l = l')))) H := by
 refine ok_fn hm Tryz.func12 c12 (by simp [hx.vd, hy.vd]) fun hcl => ?_
 by_cases he : l.length = l'.length
 · simp -implicitDefEqProofs [i12, r12, hx.vd, hx.ug, hx.sl, hx.len, hy.vd, hy.ug, hy.sl, hy.len, he]
   refine loop12 hx hy hl he (fun hs env h4 => ?_) (fun hs env => ?_) l.length 0 _ (by omega) (by simp) ?_ ?_ ?_
   · simp -implicitDefEqProofs [h4, hs]
     exact cv_id
   · simp -implicitDefEqProofs [hs]
     exact cv_id
   all_goals simp
 · have he' : ¬ (l.length : Int) = l'.length := by omega
   have hne : l ≠ l' := fun h => he (by rw [h])
   simp -implicitDefEqProofs [i12, r12, hx.vd, hx.ug, hx.sl, hx.len, hy.vd, hy.ug, hy.sl, hy.len, he', hne]
   exact cv_id
end
end Go.Proofs.YthmdmnfojbnobaaGreatDoor

namespace Go.Proofs.YthmdmnfojbnobaaGreatDoor
open Go.Ab
mutual
def sizE : Ex → Int → Int
 | .mk _ _ _ l _, m => sizL l m 1
def sizL : List Ex → Int → Int → Int
 | [], _, n => n
 | e :: r, m, n => if n ≤ m then sizL r m (n + sizE e (m - n)) else n
end
mutual
theorem sizE_bd : ∀ (e : Ex) (m : Int), 1 ≤ sizE e m ∧ (sizE e m ≤ m + 1 ∨ sizE e m = 1)
 | .mk _ _ _ l _, m => by
   unfold sizE
   have := sizL_bd l m 1
   omega
theorem sizL_bd : ∀ (l : List Ex) (m n : Int), n ≤ sizL l m n ∧ (sizL l m n ≤ m + 1 ∨ sizL l m n = n)
 | [], m, n => by simp [sizL]
 | e :: r, m, n => by
   unfold sizL
   by_cases h : n ≤ m
   · rw [if_pos h]
     have h1 := sizE_bd e (m - n)
     have h2 := sizL_bd r m (n + sizE e (m - n))
     omega
   · rw [if_neg h]; omega
end
section
variable {H : List AO}
theorem loop20 {l : List Ex} {m : Int} (hm1 : m ≤ 1000000000) (hl : l.length < 4611686018427387904) (hIH : ∀ e ∈ l, ∀ (H : List AO) (m' : Int), 0 ≤ m' → m' ≤ 1000000000 → Ok Tryz.prog 20 [e.v, i64 m'] H (.ret (i64 (sizE e m'))) H) {A : AO} (hA : A.live = true ∧ A.ver = 0 ∧ ∃ a b c d, A.cells = [a, b, c, exS l, d]) {N : Nat} {K : XE → Env → List AO → Prop} {res : Int}
   (hexit : ∀ env G, env.get 5 = i64 res → K (.exit 0) env (H ++ A :: G)) :
   ∀ (k i : Nat) (n : Int) (G : List AO) (env : Env), i + k = l.length → 1 ≤ n → n ≤ 1000000001 → sizL (l.drop i) m n = res → env.get 1 = i64 m → env.get 2 = rp H.length → env.get 5 = i64 n → env.get 6 = i64 i →
     LI Tryz.prog N drawB l20_0 env (H ++ A :: G) K := by
 obtain ⟨hA1, hA2, a, b, c, d, hA3⟩ := hA
 obtain ⟨cs, T, ver, lv⟩ := A
 simp only at hA1 hA2 hA3
 subst hA1 hA2 hA3
 intro k
 induction k with
 | zero =>
   intro i n G env hi hn1 hn2 hr h1 h2 h5 h6
   refine li_go hm l20_0.eq_1 ?_
   have e : i = l.length := by omega
   subst e
   rw [List.drop_length] at hr
   have hr : n = res := hr
   subst hr
   simp -implicitDefEqProofs [h1, h2, h5, h6, rp, exS]
   exact hexit _ _ (by simp [h5])
 | succ k ih =>
   intro i n G env hi hn1 hn2 hr h1 h2 h5 h6
   refine li_go hm l20_0.eq_1 ?_
   have hlt : i < l.length := by omega
   have hlt' : (i : Int) < l.length := by omega
   rw [List.drop_eq_getElem_cons hlt, sizL] at hr
   have hg := exL_get hlt
   have hlen := exL_len l
   have h9 := hIH l[i] (List.getElem_mem hlt)
   have hbd := sizE_bd l[i]
   generalize l[i] = e at hr hg h9 hbd
   by_cases hnm : n ≤ m
   · rw [if_pos hnm] at hr
     have w1 : IntKind.i64.wrap (m - n) = m - n := wrap_id (by omega) (by omega)
     have hb := hbd (m - n)
     simp -implicitDefEqProofs [h1, h2, h5, h6, rp, exS, hlt, hlt', hnm, hg, hlen, w1]
     refine ⟨by omega, call_go (h9 _ (m - n) (by omega) (by omega)) ?_⟩
     generalize sizE e (m - n) = z at hr hb
     have w2 : IntKind.i64.wrap (n + z) = n + z := wrap_id (by omega) (by omega)
     simp -implicitDefEqProofs [h1, h2, h5, h6, rp, exS, w2]
     refine ih (i + 1) (n + z) G _ (by omega) (by omega) (by omega) hr ?_ ?_ ?_ ?_
     all_goals simp [h1, h2, h5, h6, rp, exS, wrap_suc (show i < 9223372036854775807 by omega)]
   · rw [if_neg hnm] at hr
     subst hr
     simp -implicitDefEqProofs [h1, h2, h5, h6, rp, exS, hlt, hlt', hnm]
     exact hexit _ _ (by simp [h5])
mutual
def Ex.lim : Ex → Prop
 | .mk _ _ _ l _ => l.length < 4611686018427387904 ∧ Ex.limL l
def Ex.limL : List Ex → Prop
 | [] => True
 | e :: r => e.lim ∧ Ex.limL r
end
mutual
theorem ok20 : ∀ (e : Ex), e.lim → ∀ (H : List AO) (m : Int), 0 ≤ m → m ≤ 1000000000 → Ok Tryz.prog 20 [e.v, i64 m] H (.ret (i64 (sizE e m))) H
 | .mk op n nm l p, he, H, m, h0, h1 => by
   have hIH := ok9L l (by unfold Ex.lim at he; exact he.2)
   have hl : l.length < 4611686018427387904 := by unfold Ex.lim at he; exact he.1
   refine ok_fn hm Tryz.func20 c20 (by simp) fun hcl => ?_
   simp -implicitDefEqProofs [i20, r20, Ex.v, Ex.c]
   refine LI.cong (H' := H ++ ⟨[i64 op, i64 n, st (B nm), exS l, i64 p], 53, 0, true⟩ :: []) (by simp [exS]) ?_
   refine loop20 h1 hl hIH ⟨rfl, rfl, _, _, _, _, rfl⟩ (res := sizL l m 1) (fun env G h5 => ?_) l.length 0 1 [] _ (by omega) (by omega) (by omega) rfl ?_ ?_ ?_ ?_
   · simp -implicitDefEqProofs [h5]
     refine cv_fz 2 hcl rfl ?_
     simp [sizE]
   all_goals simp [rp]
theorem ok9L : ∀ (l : List Ex), Ex.limL l → ∀ e ∈ l, ∀ (H : List AO) (m : Int), 0 ≤ m → m ≤ 1000000000 → Ok Tryz.prog 20 [e.v, i64 m] H (.ret (i64 (sizE e m))) H
 | [], _, _, h => by cases h
 | e :: r, hl, x, hx => by
   unfold Ex.limL at hl
   by_cases hh : x = e
   · rw [hh]; exact ok20 e hl.1
   · exact ok9L r hl.2 x (by simpa [hh] using hx)
end
end
end Go.Proofs.YthmdmnfojbnobaaGreatDoor

namespace Go.Proofs.YthmdmnfojbnobaaGreatDoor
open Go.Ab
mutual
theorem hgtE : ∀ (e : Ex) (m : Int), m ≤ 1000 → sizE e m ≤ m → (e.hgt : Int) ≤ m
 | .mk op n nm l p, m, h1, h2 => by
   unfold sizE at h2
   unfold Ex.hgt
   have := hgtLs l m 1 (by omega) h1 h2
   omega
theorem hgtLs : ∀ (l : List Ex) (m n : Int), 1 ≤ n → m ≤ 1000 → sizL l m n ≤ m → (Ex.hgtL l : Int) + n ≤ m
 | [], m, n, _, _, h => by
   unfold sizL at h; unfold Ex.hgtL; simpa using h
 | e :: r, m, n, h0, h1, h => by
   unfold sizL at h
   by_cases hn : n ≤ m
   · rw [if_pos hn] at h
     have b1 := sizE_bd e (m - n)
     have b2 := sizL_bd r m (n + sizE e (m - n))
     have a2 := hgtE e (m - n) (by omega) (by omega)
     have c3 := hgtLs r m (n + sizE e (m - n)) (by omega) h1 h
     unfold Ex.hgtL
     omega
   · rw [if_neg hn] at h; omega
end
def actE (a : ActP) : List Ex := a.wh ++ a.sets.map (·.e)
def stgE (x : StageP) (n : Int) : List Ex := if n ≤ 200 then x.wt ++ x.who ++ x.pays ++ x.acts.flatMap actE else x.wt ++ x.who ++ x.pays
def sizS (x : StageP) (n : Int) : Int := sizL (stgE x (n + x.seen.length + x.acts.length)) 200 (n + x.seen.length + x.acts.length)
def sizT : List StageP → Int → Int
 | [], n => n
 | x :: r, n => if n ≤ 200 then sizT r (sizS x n) else n
def sizR (r : RulesP) : Int := sizT r.stages (r.vars.length + r.stages.length)
structure ActP.Bd (a : ActP) : Prop where
 wh : a.wh.length ≤ 1048576
 sets : a.sets.length ≤ 1048576
 lim : ∀ e ∈ actE a, e.lim
structure StageP.Bd (x : StageP) : Prop where
 wt : x.wt.length ≤ 1048576
 who : x.who.length ≤ 1048576
 pays : x.pays.length ≤ 1048576
 seen : x.seen.length ≤ 1048576
 acts : x.acts.length ≤ 1048576
 lim : ∀ e ∈ x.wt ++ x.who ++ x.pays, e.lim
 act : ∀ a ∈ x.acts, a.Bd
structure RulesP.Bd (r : RulesP) : Prop where
 vars : r.vars.length ≤ 1048576
 stages : r.stages.length ≤ 1048576
 st : ∀ x ∈ r.stages, x.Bd
theorem cL_app : ∀ a b : List Ex, Ex.cL (a ++ b) = Ex.cL a ++ Ex.cL b
 | [], b => by simp [Ex.cL]
 | e :: a, b => by simp [Ex.cL, cL_app a b]
theorem cL_ok : ∀ l : List Ex, cellsOk (Ex.cL l)
 | [], s, h => by simp [Ex.cL] at h
 | e :: l, s, h => by
   rw [Ex.cL, List.mem_append] at h
   rcases h with h | h
   · exact e.ok s h
   · exact cL_ok l s h
@[simp] theorem cL_okT (l : List Ex) : cellsOk (Ex.cL l) = True := eq_true (cL_ok l)
@[simp] theorem cL_take (l : List Ex) : (Ex.cL l).take (l.length * 5) = Ex.cL l := List.take_of_length_le (by rw [exL_len]; exact Nat.le_refl _)
def lO (l : List Ex) (v : Nat) : AO := ⟨Ex.cL l, 53, v, true⟩
end Go.Proofs.YthmdmnfojbnobaaGreatDoor

namespace Go.Proofs.YthmdmnfojbnobaaGreatDoor
open Go.Ab
theorem act_1 {l : List ActP} {i : Nat} (h : i < l.length) : (rws ActP.c l)[i * 6 + 1]? = some (.slc (Ex.cL l[i].wh) l[i].wh.length) := by rw [rws_get ActP.c_len h (by omega)]; rfl
theorem act_3 {l : List ActP} {i : Nat} (h : i < l.length) : (rws ActP.c l)[i * 6 + 3]? = some (.slc (rws SetP.c l[i].sets) l[i].sets.length) := by rw [rws_get ActP.c_len h (by omega)]; rfl
section
variable {A : List AO}
theorem loop6_2 {x : StageP} {i : Nat} (hi : i < x.acts.length) (hs : (x.acts[i]).sets.length ≤ 1048576) {x1 x2 x5 x6 : SV} {l0 : List Ex} {v0 : Nat} (h0 : l0.length ≤ 1000000000) {N : Nat} {K : XE → Env → List AO → Prop}
   (hexit : ∀ env G, env.get 1 = x1 → env.get 2 = x2 → env.get 5 = x5 → env.get 6 = x6 → env.get 7 = rp A.length → env.get 8 = .own (A.length + 1) 0 (l0 ++ x.acts[i].sets.map (·.e)).length 5 (v0 + x.acts[i].sets.length) → env.get 9 = i64 i → K (.exit 4) env (A ++ ⟨x.c, 45, 0, true⟩ :: lO (l0 ++ x.acts[i].sets.map (·.e)) (v0 + x.acts[i].sets.length) :: G)) :
   ∀ (m j : Nat) (G : List AO) (env : Env), j + m = x.acts[i].sets.length → env.get 1 = x1 → env.get 2 = x2 → env.get 5 = x5 → env.get 6 = x6 → env.get 7 = rp A.length → env.get 8 = .own (A.length + 1) 0 (l0.length + j) 5 (v0 + j) → env.get 9 = i64 i → env.get 10 = i64 j →
     LI Tryz.prog N drawB l6_2 env (A ++ ⟨x.c, 45, 0, true⟩ :: lO (l0 ++ (x.acts[i].sets.take j).map (·.e)) (v0 + j) :: G) K := by
 have hi' : (i : Int) < x.acts.length := by omega
 have a3 := act_3 hi
 have alen := rws_len ActP.c_len x.acts
 generalize x.acts[i] = a at hs hexit a3 ⊢
 intro m
 induction m with
 | zero =>
   intro j G env hj h1 h2 h5 h6 h7 h8 h9 h10
   refine li_go hm l6_2.eq_1 ?_
   have e : j = a.sets.length := by omega
   subst e
   rw [List.take_of_length_le (Nat.le_refl _)]
   simp -implicitDefEqProofs [h1, h2, h5, h6, h7, h8, h9, h10, rp, hi, hi', a3, alen, StageP.c, exS]
   refine ⟨by omega, hexit _ _ ?_ ?_ ?_ ?_ ?_ ?_ ?_⟩ <;> simp [h1, h2, h5, h6, h7, h8, h9, rp]
 | succ m ih =>
   intro j G env hj h1 h2 h5 h6 h7 h8 h9 h10
   refine li_go hm l6_2.eq_1 ?_
   have hlt : j < a.sets.length := by omega
   have hlt' : (j : Int) < a.sets.length := by omega
   have ge := set_e hlt
   have slen := rws_len SetP.len a.sets
   have htk : (a.sets.take (j + 1)).map (·.e) = (a.sets.take j).map (·.e) ++ [a.sets[j].e] := by
     rw [List.take_succ_eq_append_getElem hlt, List.map_append]; rfl
   have hll : ((a.sets.take j).map (·.e)).length = j := by simp; omega
   generalize (a.sets.take j).map (·.e) = l at htk hll ⊢
   generalize a.sets[j] = s at ge htk
   have hcl : (Ex.cL (l0 ++ l)).length = (l0.length + j) * 5 := by rw [exL_len]; simp [hll]
   simp -implicitDefEqProofs [h1, h2, h5, h6, h7, h8, h9, h10, rp, hi, hi', a3, alen, StageP.c, exS, hlt, hlt', ge, slen, lO, hll, hcl]
   repeat (refine ⟨by omega, ?_⟩)
   refine LI.cong ?_ (ih (j + 1) (G ++ [⟨s.e.c, 53, 0, true⟩]) _ (by omega) ?_ ?_ ?_ ?_ ?_ ?_ ?_ ?_)
   · rw [htk]; simp [lO, StageP.c, exS, cL_app, hll, Ex.cL, Nat.add_assoc]
   all_goals simp [h1, h2, h5, h6, h7, h9, rp, wrap_suc (show j < 9223372036854775807 by omega), Nat.add_assoc]
theorem loop6_1 {x : StageP} (hx : x.acts.length ≤ 1048576) (hb : ∀ a ∈ x.acts, a.Bd) {x2 x6 : SV} {n : Int} (hn : n ≤ 200) {l0 : List Ex} (h0 : l0.length ≤ 4000000) (ha2 : (x.acts.length : Int) ≤ 200) {N : Nat} {K : XE → Env → List AO → Prop}
   (hexit : ∀ v env G, env.get 1 = i64 200 → env.get 2 = x2 → env.get 5 = i64 n → env.get 6 = x6 → env.get 8 = .own (A.length + 1) 0 (l0 ++ x.acts.flatMap actE).length 5 v → K (.exit 2) env (A ++ ⟨x.c, 45, 0, true⟩ :: lO (l0 ++ x.acts.flatMap actE) v :: G)) :
   ∀ (m i v : Nat) (G : List AO) (env : Env), i + m = x.acts.length → (l0 ++ (x.acts.take i).flatMap actE).length ≤ 4000000 + i * 2097152 → env.get 1 = i64 200 → env.get 2 = x2 → env.get 5 = i64 n → env.get 6 = x6 → env.get 7 = rp A.length → env.get 8 = .own (A.length + 1) 0 (l0 ++ (x.acts.take i).flatMap actE).length 5 v → env.get 9 = i64 i →
     LI Tryz.prog N drawB l6_1 env (A ++ ⟨x.c, 45, 0, true⟩ :: lO (l0 ++ (x.acts.take i).flatMap actE) v :: G) K := by
 intro m
 induction m with
 | zero =>
   intro i v G env hi hq h1 h2 h5 h6 h7 h8 h9
   refine li_go hm l6_1.eq_1 ?_
   have e : i = x.acts.length := by omega
   subst e
   rw [List.take_of_length_le (Nat.le_refl _)] at h8 ⊢
   simp -implicitDefEqProofs [h1, h2, h5, h6, h7, h8, h9, rp, StageP.c, exS]
   refine hexit _ _ _ ?_ ?_ ?_ ?_ ?_ <;> simp [h1, h2, h5, h6, h8]
 | succ m ih =>
   intro i v G env hi hq h1 h2 h5 h6 h7 h8 h9
   refine li_go hm l6_1.eq_1 ?_
   have hlt : i < x.acts.length := by omega
   have hlt' : (i : Int) < x.acts.length := by omega
   have a1 := act_1 hlt
   have alen := rws_len ActP.c_len x.acts
   have hbd := hb _ (List.getElem_mem hlt)
   have htk : (x.acts.take (i + 1)).flatMap actE = (x.acts.take i).flatMap actE ++ actE x.acts[i] := by
     rw [List.take_succ_eq_append_getElem hlt, List.flatMap_append]; simp
   have ih := ih (i + 1)
   have hl62 := fun (l : List Ex) v h K => loop6_2 (A := A) (v0 := v) (x1 := i64 200) (x2 := x2) (x5 := i64 n) (x6 := x6) (l0 := l) (N := N) (K := K) hlt hbd.sets h
   rw [htk] at ih
   rw [← List.append_assoc] at ih
   generalize l0 ++ (x.acts.take i).flatMap actE = l at hq h8 ih ⊢
   have hwh := hbd.wh
   have hst := hbd.sets
   have hae : actE x.acts[i] = x.acts[i].wh ++ x.acts[i].sets.map (·.e) := rfl
   rw [hae, ← List.append_assoc] at ih
   have hcl := exL_len l
   have hcw := exL_len x.acts[i].wh
   have hlw : (l ++ x.acts[i].wh).length = l.length + x.acts[i].wh.length := List.length_append
   simp -implicitDefEqProofs [h1, h2, h5, h6, h7, h8, h9, rp, hlt, hlt', a1, alen, StageP.c, exS, lO, hn, hcl, hcw]
   repeat (refine ⟨by omega, ?_⟩)
   refine LI.cong ?_ (hl62 (l ++ x.acts[i].wh) (v + 1) (by omega) _ (fun env G h1 h2 h5 h6 h7 h8 h9 => ?_) x.acts[i].sets.length 0 G _ (by omega) ?_ ?_ ?_ ?_ ?_ ?_ ?_ ?_)
   · simp [lO, StageP.c, exS, cL_app]
   · simp -implicitDefEqProofs [h1, h2, h5, h6, h7, h8, h9, rp]
     refine LI.cong ?_ (ih (v + 1 + x.acts[i].sets.length) G _ (by omega) ?_ ?_ ?_ ?_ ?_ ?_ ?_ ?_)
     · simp
     · simp; omega
     all_goals simp [h1, h2, h5, h6, h7, h8, rp, wrap_suc (show i < 9223372036854775807 by omega), Nat.add_assoc]
   all_goals simp [h1, h2, h5, h6, h7, rp, h9, hlw]
theorem loop6_1x {x : StageP} {x2 x6 : SV} {n : Int} (hn : ¬ n ≤ 200) {l : List Ex} {v : Nat} {N : Nat} {K : XE → Env → List AO → Prop} {G : List AO} {env : Env}
   (hexit : ∀ env, env.get 1 = i64 200 → env.get 2 = x2 → env.get 5 = i64 n → env.get 6 = x6 → env.get 8 = .own (A.length + 1) 0 l.length 5 v → K (.exit 2) env (A ++ ⟨x.c, 45, 0, true⟩ :: lO l v :: G))
   (h1 : env.get 1 = i64 200) (h2 : env.get 2 = x2) (h5 : env.get 5 = i64 n) (h6 : env.get 6 = x6) (h7 : env.get 7 = rp A.length) (h8 : env.get 8 = .own (A.length + 1) 0 l.length 5 v) (h9 : env.get 9 = i64 0) :
     LI Tryz.prog N drawB l6_1 env (A ++ ⟨x.c, 45, 0, true⟩ :: lO l v :: G) K := by
 refine li_go hm l6_1.eq_1 ?_
 by_cases h0 : (0 : Int) < x.acts.length
 · have h0' : 0 < x.acts.length := by omega
   simp -implicitDefEqProofs [h1, h2, h5, h6, h7, h8, h9, rp, StageP.c, exS, hn, h0, h0']
   refine hexit _ ?_ ?_ ?_ ?_ ?_ <;> simp [h1, h2, h5, h6, h8]
 · have h0' : x.acts.length = 0 := by omega
   simp -implicitDefEqProofs [h1, h2, h5, h6, h7, h8, h9, rp, StageP.c, exS, hn, h0]
   refine hexit _ ?_ ?_ ?_ ?_ ?_ <;> simp [h1, h2, h5, h6, h8]
theorem loop6_3 {x2 x6 : SV} {l : List Ex} {v : Nat} (hl : l.length ≤ 1000000000) (hlim : ∀ e ∈ l, e.lim) {B : AO} {N : Nat} {K : XE → Env → List AO → Prop} {res : Int}
   (hexit : ∀ env G, env.get 1 = i64 200 → env.get 2 = x2 → env.get 5 = i64 res → env.get 6 = x6 → K (.exit 6) env (A ++ B :: lO l v :: G)) :
   ∀ (m i : Nat) (n : Int) (G : List AO) (env : Env), i + m = l.length → 0 ≤ n → n ≤ 10000000 → sizL (l.drop i) 200 n = res → env.get 1 = i64 200 → env.get 2 = x2 → env.get 5 = i64 n → env.get 6 = x6 → env.get 8 = .own (A.length + 1) 0 l.length 5 v → env.get 11 = i64 i →
     LI Tryz.prog N drawB l6_3 env (A ++ B :: lO l v :: G) K := by
 intro m
 induction m with
 | zero =>
   intro i n G env hi hn0 hn hr h1 h2 h5 h6 h8 h11
   refine li_go hm l6_3.eq_1 ?_
   have e : i = l.length := by omega
   subst e
   rw [List.drop_length] at hr
   have hr : n = res := hr
   subst hr
   simp -implicitDefEqProofs [h1, h2, h5, h6, h8, h11, lO]
   refine hexit _ _ ?_ ?_ ?_ ?_ <;> simp [h1, h2, h5, h6]
 | succ m ih =>
   intro i n G env hi hn0 hn hr h1 h2 h5 h6 h8 h11
   refine li_go hm l6_3.eq_1 ?_
   have hlt : i < l.length := by omega
   have hlt' : (i : Int) < l.length := by omega
   rw [List.drop_eq_getElem_cons hlt, sizL] at hr
   have hg := exL_get hlt
   have hlen := exL_len l
   have h20 := ok20 l[i] (hlim _ (List.getElem_mem hlt))
   have hbd := sizE_bd l[i]
   generalize l[i] = e at hr hg h20 hbd
   by_cases hnm : n ≤ 200
   · rw [if_pos hnm] at hr
     have w1 : IntKind.i64.wrap (200 - n) = 200 - n := wrap_id (by omega) (by omega)
     have hb := hbd (200 - n)
     simp -implicitDefEqProofs [h1, h2, h5, h6, h8, h11, hlt, hlt', hnm, hg, hlen, w1, lO]
     refine ⟨by omega, call_go (h20 _ (200 - n) (by omega) (by omega)) ?_⟩
     generalize sizE e (200 - n) = z at hr hb
     have w2 : IntKind.i64.wrap (n + z) = n + z := wrap_id (by omega) (by omega)
     simp -implicitDefEqProofs [h1, h2, h5, h6, h8, h11, w2, lO]
     refine LI.cong ?_ (ih (i + 1) (n + z) G _ (by omega) (by omega) (by omega) hr ?_ ?_ ?_ ?_ ?_ ?_)
     · simp [lO]
     all_goals simp [h1, h2, h5, h6, h8, wrap_suc (show i < 9223372036854775807 by omega), w2]
   · rw [if_neg hnm] at hr
     subst hr
     simp -implicitDefEqProofs [h1, h2, h5, h6, h8, h11, hlt, hlt', hnm, lO]
     refine hexit _ _ ?_ ?_ ?_ ?_ <;> simp [h1, h2, h5, h6]
end
end Go.Proofs.YthmdmnfojbnobaaGreatDoor

namespace Go.Proofs.YthmdmnfojbnobaaGreatDoor
open Go.Ab
section
variable {H : List AO}
set_option maxRecDepth 100000 in
theorem loop6_0 {r : RulesP} (hr : r.Bd) {N : Nat} {K : XE → Env → List AO → Prop} {res : Int}
   (hexit : ∀ env G, env.get 5 = i64 res → K (.exit 0) env (H ++ rO r :: G)) :
   ∀ (m i : Nat) (n : Int) (G : List AO) (env : Env), i + m = r.stages.length → 0 ≤ n → n ≤ 8000000 → sizT (r.stages.drop i) n = res → env.get 1 = i64 200 → env.get 2 = rp H.length → env.get 5 = i64 n → env.get 6 = i64 i →
     LI Tryz.prog N drawB l6_0 env (H ++ rO r :: G) K := by
 have b0 := hr.stages
 intro m
 induction m with
 | zero =>
   intro i n G env hi hn0 hn hq h1 h2 h5 h6
   refine li_go hm l6_0.eq_1 ?_
   have e : i = r.stages.length := by omega
   subst e
   rw [List.drop_length] at hq
   have hq : n = res := hq
   subst hq
   simp -implicitDefEqProofs [h1, h2, h5, h6, rp, RulesP.c]
   exact hexit _ _ (by simp [h5])
 | succ m ih =>
   intro i n G env hi hn0 hn hq h1 h2 h5 h6
   refine li_go hm l6_0.eq_1 ?_
   have hlt : i < r.stages.length := by omega
   have hlt' : (i : Int) < r.stages.length := by omega
   rw [List.drop_eq_getElem_cons hlt, sizT] at hq
   by_cases hnm : n ≤ 200
   · rw [if_pos hnm] at hq
     have hg := rws_c StageP.c_len hlt
     have hlen := rws_len StageP.c_len r.stages
     have hmin : min 12 (r.stages.length * 12 - i * 12) = 12 := by omega
     have hxb := hr.st _ (List.getElem_mem hlt)
     generalize r.stages[i] = x at hq hg hxb
     obtain ⟨b1, b2, b3, b4, b5, b6, b7⟩ := hxb
     have w1 : IntKind.i64.wrap (n + x.seen.length) = n + x.seen.length := wrap_id (by omega) (by omega)
     have w2 : IntKind.i64.wrap (n + x.seen.length + x.acts.length) = n + x.seen.length + x.acts.length := wrap_id (by omega) (by omega)
     unfold sizS at hq
     have hcw := exL_len x.wt
     have hco := exL_len x.who
     have hcp := exL_len x.pays
     simp -implicitDefEqProofs [h1, h2, h5, h6, rp, hlt, hlt', hnm, hg, hlen, hmin, RulesP.c, StageP.c, exS, w1, w2, hcw, hco, hcp]
     refine ⟨by omega, by omega, by omega, by omega, by omega, by omega, by omega, by omega, ?_⟩
     have hAl : (H ++ rO r :: G).length = H.length + (G.length + 1) := by simp
     have fin : ∀ (l : List Ex) (v : Nat) (n2 : Int) (env : Env) (G2 : List AO), sizL l 200 (n + x.seen.length + x.acts.length) = n2 → sizT (r.stages.drop (i + 1)) n2 = res → env.get 1 = i64 200 → env.get 2 = rp H.length → env.get 5 = i64 n2 → env.get 6 = i64 ((i + 1 : Nat) : Int) →
         LI Tryz.prog N drawB l6_0 env ((H ++ rO r :: G) ++ ⟨x.c, 45, 0, true⟩ :: lO l v :: G2) K := by
       intro l v n2 env G2 hl hq2 g1 g2 g5 g6
       have hbd := sizL_bd l 200 (n + x.seen.length + x.acts.length)
       refine LI.cong ?_ (ih (i + 1) n2 (G ++ ⟨x.c, 45, 0, true⟩ :: lO l v :: G2) _ (by omega) (by omega) (by omega) hq2 g1 g2 g5 g6)
       simp
     by_cases hn2 : n + x.seen.length + x.acts.length ≤ 200
     · have hse : stgE x (n + x.seen.length + x.acts.length) = x.wt ++ x.who ++ x.pays ++ x.acts.flatMap actE := by unfold stgE; rw [if_pos hn2]
       rw [hse] at hq
       refine LI.cong (H' := (H ++ rO r :: G) ++ ⟨x.c, 45, 0, true⟩ :: lO ((x.wt ++ x.who ++ x.pays) ++ (x.acts.take 0).flatMap actE) 3 :: []) (by simp [lO, cL_app, StageP.c, exS]) ?_
       refine loop6_1 (A := H ++ rO r :: G) b5 b7 (x2 := rp H.length) (x6 := i64 i) hn2 (l0 := x.wt ++ x.who ++ x.pays) (by simp; omega) (by omega) (fun v env G2 h1 h2 h5 h6 h8 => ?_) x.acts.length 0 3 [] _ (by omega) (by simp; omega) ?_ ?_ ?_ ?_ ?_ ?_ ?_
       · simp -implicitDefEqProofs [h1, h2, h5, h6, h8, rp]
         refine LI.cong (H' := (H ++ rO r :: G) ++ ⟨x.c, 45, 0, true⟩ :: lO (x.wt ++ x.who ++ x.pays ++ x.acts.flatMap actE) v :: G2) (by simp [lO, cL_app]) ?_
         refine loop6_3 (A := H ++ rO r :: G) (x2 := rp H.length) (x6 := i64 i) (l := x.wt ++ x.who ++ x.pays ++ x.acts.flatMap actE) (v := v) ?_ ?_ (res := sizL (x.wt ++ x.who ++ x.pays ++ x.acts.flatMap actE) 200 (n + x.seen.length + x.acts.length)) (fun env G3 h1 h2 h5 h6 => ?_) _ 0 (n + x.seen.length + x.acts.length) G2 _ (Nat.zero_add _) (by omega) (by omega) rfl ?_ ?_ ?_ ?_ ?_ ?_
         · have hfl : (x.acts.flatMap actE).length ≤ x.acts.length * 2097152 := by
             have : ∀ ys : List ActP, (∀ a ∈ ys, a.Bd) → (ys.flatMap actE).length ≤ ys.length * 2097152 := by
               intro ys
               induction ys with
               | nil => intro _; simp
               | cons a r iha =>
                 intro hb
                 have ha := hb a (by simp)
                 have h1 := ha.wh
                 have h2 := ha.sets
                 have h3 := iha (fun y hy => hb y (by simp [hy]))
                 simp only [List.flatMap_cons, List.length_append, List.length_cons]
                 have : (actE a).length = a.wh.length + a.sets.length := by simp [actE]
                 omega
             exact this _ b7
           simp only [List.length_append]; omega
         · intro e he
           rw [List.mem_append] at he
           rcases he with he | he
           · exact b6 e he
           · rw [List.mem_flatMap] at he
             obtain ⟨a, ha, hea⟩ := he
             exact (b7 a ha).lim e hea
         · simp -implicitDefEqProofs [h1, h2, h5, h6, rp]
           refine LI.cong ?_ (fin _ v _ _ G3 rfl hq ?_ ?_ ?_ ?_)
           · simp
           all_goals simp [h1, h2, h5, rp, wrap_suc (show i < 9223372036854775807 by omega)]
         all_goals first | exact h1 | simp [h1, h2, h5, h6, h8, hAl, rp]
       all_goals simp [hAl, rp, Nat.add_assoc]
     · have hse : stgE x (n + x.seen.length + x.acts.length) = x.wt ++ x.who ++ x.pays := by unfold stgE; rw [if_neg hn2]
       rw [hse] at hq
       refine LI.cong (H' := (H ++ rO r :: G) ++ ⟨x.c, 45, 0, true⟩ :: lO (x.wt ++ x.who ++ x.pays) 3 :: []) (by simp [lO, cL_app, StageP.c, exS]) ?_
       refine loop6_1x (A := H ++ rO r :: G) (x2 := rp H.length) (x6 := i64 i) hn2 (fun env h1 h2 h5 h6 h8 => ?_) ?_ ?_ ?_ ?_ ?_ ?_ ?_
       · simp -implicitDefEqProofs [h1, h2, h5, h6, h8, rp]
         refine LI.cong (H' := (H ++ rO r :: G) ++ ⟨x.c, 45, 0, true⟩ :: lO (x.wt ++ x.who ++ x.pays) 3 :: []) (by simp [lO, cL_app]) ?_
         refine loop6_3 (A := H ++ rO r :: G) (x2 := rp H.length) (x6 := i64 i) (l := x.wt ++ x.who ++ x.pays) (v := 3) ?_ b6 (res := sizL (x.wt ++ x.who ++ x.pays) 200 (n + x.seen.length + x.acts.length)) (fun env G3 h1 h2 h5 h6 => ?_) _ 0 (n + x.seen.length + x.acts.length) [] _ (Nat.zero_add _) (by omega) (by omega) rfl ?_ ?_ ?_ ?_ ?_ ?_
         · simp only [List.length_append]; omega
         · simp -implicitDefEqProofs [h1, h2, h5, h6, rp]
           refine LI.cong ?_ (fin _ 3 _ _ G3 rfl hq ?_ ?_ ?_ ?_)
           · simp
           all_goals simp [h1, h2, h5, rp, wrap_suc (show i < 9223372036854775807 by omega)]
         all_goals simp [h1, h2, h5, h6, h8, hAl, rp]
       all_goals simp [hAl, rp, Nat.add_assoc]
   · rw [if_neg hnm] at hq
     subst hq
     simp -implicitDefEqProofs [h1, h2, h5, h6, rp, hlt, hlt', hnm, RulesP.c]
     exact hexit _ _ (by simp [h5])
theorem ok6 {r : RulesP} (hr : r.Bd) : Ok Tryz.prog 6 [rulesV r, i64 200] H (.ret (i64 (sizR r))) H := by
 refine ok_fn hm Tryz.func6 c6 (by simp) fun hcl => ?_
 have b1 := hr.vars
 have b2 := hr.stages
 have w1 : IntKind.i64.wrap ((r.vars.length : Int) + r.stages.length) = (r.vars.length : Int) + r.stages.length := wrap_id (by omega) (by omega)
 simp -implicitDefEqProofs [i6, r6, rulesV, RulesP.c, w1]
 refine LI.cong (H' := H ++ rO r :: []) (by simp [RulesP.c]) ?_
 refine loop6_0 hr (res := sizR r) (fun env G h5 => ?_) r.stages.length 0 (r.vars.length + r.stages.length) [] _ (by omega) (by omega) (by omega) rfl ?_ ?_ ?_ ?_
 · simp -implicitDefEqProofs [h5]
   exact cv_fz 3 hcl rfl rfl
 all_goals simp [rp]
end
end Go.Proofs.YthmdmnfojbnobaaGreatDoor

namespace Go.Proofs.YthmdmnfojbnobaaGreatDoor
open Go.Ab
theorem hgtL_mem : ∀ {l : List Ex} {e : Ex}, e ∈ l → e.hgt ≤ Ex.hgtL l
 | x :: r, e, h => by
   rw [List.mem_cons] at h
   unfold Ex.hgtL
   rcases h with rfl | h
   · omega
   · have := hgtL_mem h; omega
theorem sizL_hgt {l : List Ex} {n : Int} (h0 : 0 ≤ n) (h : sizL l 200 n ≤ 200) : ∀ e ∈ l, e.hgt ≤ 200 := by
 intro e he
 by_cases h1 : 1 ≤ n
 · have := hgtLs l 200 n h1 (by omega) h
   have := hgtL_mem he
   omega
 · have hn : n = 0 := by omega
   subst hn
   cases l with
   | nil => cases he
   | cons x r =>
     unfold sizL at h
     rw [if_pos (by omega)] at h
     have b1 := sizE_bd x (200 - 0)
     have b2 := sizL_bd r 200 (0 + sizE x (200 - 0))
     have a2 := hgtE x (200 - 0) (by omega) (by omega)
     have c3 := hgtLs r 200 (0 + sizE x (200 - 0)) (by omega) (by omega) h
     rw [List.mem_cons] at he
     rcases he with rfl | he
     · omega
     · have := hgtL_mem he
       omega
theorem sizS_ge (x : StageP) (n : Int) : n ≤ sizS x n := by
 unfold sizS
 have := sizL_bd (stgE x (n + x.seen.length + x.acts.length)) 200 (n + x.seen.length + x.acts.length)
 omega
theorem sizT_ge : ∀ (l : List StageP) (n : Int), n ≤ sizT l n
 | [], n => by simp [sizT]
 | x :: r, n => by
   unfold sizT
   split
   · have := sizS_ge x n
     have := sizT_ge r (sizS x n)
     omega
   · omega
theorem sizS_ok {x : StageP} {n : Int} (hb : x.Bd) (h0 : 0 ≤ n) (h : sizS x n ≤ 200) : x.Ok := by
 unfold sizS at h
 have hbd := sizL_bd (stgE x (n + x.seen.length + x.acts.length)) 200 (n + x.seen.length + x.acts.length)
 have hh := sizL_hgt (by omega) h
 have he : stgE x (n + x.seen.length + x.acts.length) = x.wt ++ x.who ++ x.pays ++ x.acts.flatMap actE := by unfold stgE; rw [if_pos (by omega)]
 rw [he] at hh
 obtain ⟨b1, b2, b3, b4, b5, b6, b7⟩ := hb
 refine ⟨fun e he => ?_, by omega, fun e he => ?_, by omega, fun a ha => ?_, by omega, fun e he => ?_⟩
 · have := hh e (by simp [he]); omega
 · have := hh e (by simp [he]); omega
 · obtain ⟨c1, c2, c3⟩ := b7 a ha
   refine ⟨by omega, fun e he => ?_, fun s hs => ?_⟩
   · have := hh e (by simp only [List.mem_append, List.mem_flatMap]; exact .inr ⟨a, ha, by simp [actE, he]⟩); omega
   · have := hh s.e (by simp only [List.mem_append, List.mem_flatMap]; exact .inr ⟨a, ha, by simp only [actE, List.mem_append, List.mem_map]; exact .inr ⟨s, hs, rfl⟩⟩); omega
 · have := hh e (by simp [he]); omega
theorem sizT_ok : ∀ {l : List StageP} {n : Int}, (∀ x ∈ l, x.Bd) → 0 ≤ n → sizT l n ≤ 200 → ∀ x ∈ l, x.Ok
 | y :: r, n, hb, h0, h, x, hx => by
   unfold sizT at h
   by_cases hn : n ≤ 200
   · rw [if_pos hn] at h
     have h1 := sizS_ge y n
     have h2 := sizT_ge r (sizS y n)
     rw [List.mem_cons] at hx
     rcases hx with rfl | hx
     · exact sizS_ok (hb _ (by simp)) h0 (by omega)
     · exact sizT_ok (fun z hz => hb z (by simp [hz])) (by omega) h x hx
   · rw [if_neg hn] at h; omega
theorem sizR_ok {r : RulesP} (hb : r.Bd) (h : sizR r ≤ 200) : r.Ok := by
 unfold sizR at h
 exact ⟨by have := hb.vars; omega, by have := hb.stages; omega, sizT_ok hb.st (by omega) h⟩
section
variable {H : List AO}
theorem ok3 {r : RulesP} (hb : r.Bd) (i act : Int) : Ok Tryz.prog 3 [rulesV r, i64 i, i64 act] H (.ret (bl true)) H := by
 have b1 := hb.vars
 have b2 := hb.stages
 have h6 := fun H => ok6 (H := H) hb
 have hr := sizR_ok hb
 generalize sizR r = z at h6 hr
 simp only [rulesV, RulesP.c] at h6
 refine ok_fn hm Tryz.func3 c3 (by simp) fun hcl => ?_
 simp -implicitDefEqProofs [i3, r3, rulesV, RulesP.c]
 refine call_go (h6 _) ?_
 by_cases hz : 200 < z
 · simp -implicitDefEqProofs [hz]
   refine call_go ok7 ?_
   simp -implicitDefEqProofs
   exact cv_fz 2 hcl rfl rfl
 · have hr := hr (by omega)
   have ha : ∀ x ∈ r.stages, x.acts.length < 4611686018427387904 := fun x hx => (hr.st x hx).acts
   have h8 := fun H => ok8 (H := H) (r := r) (by omega) ha i act
   have h9 := fun H => ok9 (H := H) (r := r) (by omega) ha i act
   have h10 := fun H => ok10 (H := H) hr
   have h11 := fun H => ok11 (H := H) hr (by omega)
   have h13 := fun H => ok13 (H := H) (r := r) (by omega)
   have h14 := fun H => ok14 (H := H) (r := r) (by omega)
   generalize tgtF r.stages i act = w at h8 h9
   generalize checkF r = f at h10 h11
   simp only [rulesV, RulesP.c] at h8 h9 h10 h11 h13 h14
   have hvl : (namesOf r).length < 4611686018427387904 := by simp [namesOf]; omega
   have h12 := fun H => ok12 (H := H) (IsS.slc H (namesOf r)) (IsS.slc H (namesOf r)) hvl hvl
   simp -implicitDefEqProofs [hz]
   refine call_go (h8 _) ?_
   simp -implicitDefEqProofs
   refine call_go (h9 _) ?_
   simp -implicitDefEqProofs
   refine callq_go (fun _ => h10 _) ?_
   simp -implicitDefEqProofs
   refine callq_go (fun _ => h11 _) ?_
   simp -implicitDefEqProofs [fltV]
   refine callq_st (r := namesV (namesOf r)) (fun _ => h13 _) ?_
   simp -implicitDefEqProofs [namesV]
   refine callq_st (r := namesV (namesOf r)) (fun _ => h14 _) ?_
   simp -implicitDefEqProofs [namesV]
   have h12 : ∀ H, Ok Tryz.prog 12 [namesV (namesOf r), namesV (namesOf r)] H (.ret (bl true)) H := fun H => by
     have := h12 H
     rw [decide_eq_true (rfl : namesOf r = namesOf r)] at this
     exact this
   refine callq_st (r := bl true) (fun _ => h12 _) ?_
   simp -implicitDefEqProofs
   refine callq_go (fun _ => ok7) ?_
   simp -implicitDefEqProofs
   exact cv_fz 2 hcl rfl rfl
end
end Go.Proofs.YthmdmnfojbnobaaGreatDoor

namespace Go.Proofs.YthmdmnfojbnobaaGreatDoor
open Go Go.Ab Go.ChangeShapes Go.WideShapes Go.ChangeAt Go.RowKit
theorem leaves_of_alone {P : Program} {last : Machine} {w : World} {t : Trace} (h : aloneAtReturn P last w t) : leavingAtReturn P last w t := by
 obtain ⟨⟨h1, h2⟩, h3, h4⟩ := h
 refine ⟨h3, ⟨fun g hg => ⟨0, ?_⟩, h2⟩, h4⟩
 unfold Machine.othersDone at h1
 have h5 := List.all_eq_true.1 h1 g hg
 show g.status = .finished
 exact beq_iff_eq.1 h5
theorem leaving_of_handed {a : Assume} {C : Checked} {os : Os} {f : FuncId} {r : Reach} {Pre : World → Array Value → Prop} {Post : World → Array Value → Value → World → Prop}
   (h : ReturnsInHanded a C os f r Pre Post) : ReturnsInLeavingWide a C os f r Pre Post := fun e =>
 ReturnsInOpen.mono (fun _ _ _ x => leaves_of_alone x) (fun _ x => x) (h e)
theorem tied_goes (Lk : Looks) {p : Pinned} {s : OpenSpec} {c : OpenClaim} (kinds : List LaidKind) (tests : Bool) (har : Bool × String) (lk : Bool)
   (hc : c.holds p s) (hw : c.wfByText s = true)
   (htie : c.laidByTextAt Lk p kinds tests)
   (hst : c.start = .entering) (hnb : c.noBlocks = false ∧ c.again = false) (hm : p.checked.prog.mainIs = some (har.1, har.2.toList)) (hn : (!har.1 && har.2.isEmpty && !lk) = false)
   (hl : ∀ f fn, p.checked.prog.funcNamed c.func = some f → p.checked.prog.funcs[f]? = some fn → lk = p.checked.prog.looks [] ∧ ∀ (j : Nat) t, fn.params[j]? = some t → p.checked.prog.wantsStandIn t = false)
   (hg : true = c.goesBy p.checked.prog) :
   Claim7.holds p (.plain s) { stood := { row := c, standIns := [], harness := har, looks := lk }, kinds := [], alts := [], goes := true, laidByText := true, laidKinds := kinds, laidTests := tests, laidLooks := Lk } := by
 have h6 : ∀ r : OpenClaim, Claim7.isSixth { stood := { row := r, standIns := [], harness := har, looks := lk }, kinds := [] } = false := fun r => by simpa [Claim7.isSixth] using hn
 exact ⟨Claim7.tied_new_at Lk kinds tests (Claim7.new_of_sixth hc har lk hst hnb hm (h6 c) hl) hw, (fun D hD => by cases hD), htie, (fun h => by cases h), hg⟩
theorem holds_of_cond_leaving {p : Pinned} {s : OpenSpec} {c : OpenClaim} (f : FuncId) (fn : Func)
   (hn : c.program = p.name) (hs : c.sum = p.sum) (hsp : c.spec = s.name)
   (hstart : c.start = .entering) (hout : c.outside = []) (hin : c.inits = []) (hun : c.under = none) (hi4 : c.initsInPlace = [] ∧ c.initsUnfollowed = false ∧ c.initsRecurse = false ∧ c.initsNamed = [] ∧ c.initsPassed = []) (hnb : c.noBlocks = false) (hlv : c.leaving = true) (hfo : c.followed = none) (hnar : c.narrowed = s.cond.isSome) (hstill : c.still = false)
   (hfn : p.checked.prog.funcNamed c.func = some f) (hf : p.checked.prog.funcs[f]? = some fn)
   (closed : joinedFacts p.checked.prog f fn s.bare c = true)
   (hinst : fn.isInstance p.checked.prog c.origin c.targs) (hwrap : fn.isWrapper p.checked.prog c.wrapper c.mainSum)
   (h : ∀ os : Os, os.Started → ∀ (H : Type) (enc : TypeId × Value → H), (∀ a b, enc a = enc b → a = b) → ∀ F : Stop.Interp,
     ReturnsInLeavingWide c.assume p.checked os f .any (c.pre enc p.checked.prog fn s) ((s.at F).post enc p.checked.prog fn c.apart c.fresh c.handsOn c.again)) : c.holds p s := by
 simp only [joinedFacts, Bool.and_eq_true, beq_iff_eq, Array.all_eq_true_iff_forall_mem, List.all_eq_true, decide_eq_true_eq] at closed
 obtain ⟨⟨⟨⟨⟨⟨⟨⟨⟨⟨⟨⟨⟨⟨⟨⟨⟨⟨⟨⟨⟨⟨⟨⟨⟨⟨⟨⟨⟨⟨⟨k1, k2⟩, k3⟩, k4⟩, k5⟩, k6⟩, k7⟩, k8⟩, k9⟩, k10⟩, k11⟩, k12⟩, k13⟩, k14⟩, k15⟩, k16⟩, k17⟩, k17b⟩, k18⟩, k19⟩, k20⟩, k21⟩, k22⟩, k23⟩, k23b⟩, k24⟩, k24b⟩, k24c⟩, k25⟩, k26⟩, k27⟩, k28⟩ := closed
 have hq : ∀ os : Os, Stop.quiet p.checked.prog os := fun os k hk => by rw [k9] at hk; cases hk
 refine ⟨k1, hn, hs, hsp, k2, k3, by unfold OpenClaim.startFits; rw [hstart]; exact k24, by unfold OpenClaim.startTold; rw [hstart]; exact ⟨hin, hun, hi4⟩, f, fn, hfn, hf, ⟨k4, k19⟩, (fun hb => by rw [hnb] at hb; cases hb), by unfold OpenClaim.namedList; rw [hfo]; exact k5, hinst, hwrap,
   k6.trans k7.symm, ⟨k8.trans k9.symm, by unfold Program.envWorded; rw [k9]; rfl, k23b⟩, k10, k11, k12, k13, k14, ⟨k15, k27, k28⟩, ⟨k16, k20⟩, ⟨k17, k21, k25, k26⟩, ⟨k22, k24b, k24c, k17b⟩, (by rw [hout, hnar]; cases hsh : c.shortTexts with | none => simp | some _ => rw [hsh] at k23; cases k23), fun n hn' => varReadable_some (k18 n hn'),
   ⟨_, by unfold OpenClaim.world; rw [hout, hstart]; exact WideRow.started_initial, hq _⟩, [], by unfold OpenClaim.lists; rw [hfo], fun os st _ H enc inj => ?_⟩
 have st' : os.Started := by unfold OpenClaim.world at st; rw [hout, hstart] at st; exact st
 rw [OpenClaim.post_not_still hstill]
 unfold OpenClaim.form
 rw [hstart, k6]
 intro F
 have e1 : c.okInput = Input.okWide := by unfold OpenClaim.okInput; rw [hnb]
 have e2 : c.atReturn p.checked.prog = leavingAtReturn p.checked.prog := by unfold OpenClaim.atReturn; rw [hlv]
 have e3 : c.always p.checked.prog [] = nothingAlways := by unfold OpenClaim.always; rw [hfo]
 have e4 : s.post enc p.checked.prog fn F c.outside c.apart c.fresh c.handsOn c.again = (s.at F).post enc p.checked.prog fn c.apart c.fresh c.handsOn c.again := by rw [hout]; rfl
 rw [e1, e2, e3]
 show ReturnsInOpen _ _ _ _ _ _ _ _ (s.post enc p.checked.prog fn F c.outside c.apart c.fresh c.handsOn c.again) _ _
 rw [e4]
 exact h os st' H enc inj F k24
theorem returns_of_cond {a : Assume} {C : Checked} {os : Os} {f : FuncId} {fn : Func} {H : Type} {enc : TypeId × Value → H} {s : OpenSpec} {k : (H : Type) → List (DataW H) → Bool} (hk : s.cond = some k) {F : Stop.Interp} {conds : List PathCond} {apart fresh handsOn again : Bool} {X : World → Prop}
   (hX : ∀ (w w' : World), w.heap = w'.heap → X w → X w')
   (own : ownKnob C.prog.godebug = none) (started : os.Started) (noInit : C.prog.inits.idxOf? f = none) (hfn : C.prog.funcs[f]? = some fn)
   (witness : ∃ (w : World) (tape : Tape) (i : Input), w.os = os ∧ (w.forCall tape i).Shaped C.prog ∧ i.vars = [] ∧ Input.okWide C.prog (w.forCall tape i) .any w.heap.size f i ∧
     ((s.pre enc C.prog fn conds apart (w.forCall tape i).memory i.args ∧ X (w.forCall tape i).memory) ∧ sizedMet enc C.prog fn s apart (w.forCall tape i).memory i.args) ∧ a.holds C.prog (lone (Frame.enter C.prog f i.args .normal) [] (w.forCall tape i)))
   (contract : ∀ (W : World) (base : Nat) (args : Array Value) (ds gs : List (DataW H)) (before : List MemPlace),
     (∀ (j : Nat) t v, fn.params[j]? = some t → args[j]? = some v → Value.okWide C.prog W .any base t v) →
     DataW.Whole enc C.prog fn.params.toList s.vars apart W args.toList ds gs before → k H (ds ++ gs) = true →
     (DataW.weightsEach C.prog (fn.params.toList ++ s.bare.plain.varTypes C.prog) (ds ++ gs)).all (· ≤ reachBytes) = true → X W →
     Calls C.prog f args W fun e W' => ∃ v, e = .returned v ∧ (s.at F).post enc C.prog fn apart fresh handsOn again W args v W') :
   ReturnsInHanded a C os f .any (fun w args => (s.pre enc C.prog fn conds apart w args ∧ X w) ∧ sizedMet enc C.prog fn s apart w args) ((s.at F).post enc C.prog fn apart fresh handsOn again) := by
 refine returnsInHanded_of_calls own started noInit witness ?_
 intro w tape i _ _ _ hok hpre hholds
 obtain ⟨_, _, _, fn', hfn', _, _, _, _, hval⟩ := hok
 have e : fn' = fn := Option.some.inj (hfn'.symm.trans hfn)
 subst e
 obtain ⟨⟨hp, hx⟩, hz⟩ := hpre
 obtain ⟨ds, gs, before, hw, hc, hkk⟩ := (OpenSpec.pre_some hk conds apart _ _).1 hp
 have hw' := DataW.Whole.of_heap (w' := w.forCall tape i) (by rfl) hw
 refine (contract (w.forCall tape i) w.heap.size i.args ds gs before hval hw' hkk (hz.weights hw) (hX _ _ (by rfl) hx)).mono fun e W' ⟨v, he, hp⟩ => ?_
 subst he
 exact ChangeSpec.post_blind hp
end Go.Proofs.YthmdmnfojbnobaaGreatDoor

