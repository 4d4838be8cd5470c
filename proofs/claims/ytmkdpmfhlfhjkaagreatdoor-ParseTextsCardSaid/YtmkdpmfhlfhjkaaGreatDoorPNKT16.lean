/-
  Steps of the proof: contracts of functions and plain facts that the statement rests on.
-/
import Derived.Test.YtmkdpmfhlfhjkaaGreatDoorPNKT15
set_option linter.all false
namespace Go.Proofs.YtmkdpmfhlfhjkaaGreatDoor
open Go.Ab
section
variable {H:List AO} {l:List UInt8}
theorem cAt_get {e:Nat} (he:e<l.length):cAt l e=cls l[e].toNat:=by simp[cAt,he]
theorem loop82_0 (hl:l.length<4611686018427387904) {N:Nat} {K:XE->Env->List AO->Prop} {p:Nat} {x4 x6:SV}
 (hexit:∀ env,env.get 0=st (B l)->env.get 1=i64 p->env.get 4=x4->env.get 6=x6->env.get 7=i64 (runE l [2,3] p)->K (.exit 0) env H) :
 ∀ (k e:Nat) (env:Env),e+k=l.length->runE l [2,3] e=runE l [2,3] p->env.get 0=st (B l)->env.get 1=i64 p->env.get 4=x4->env.get 6=x6->env.get 7=i64 e->LI Tryz.prog N drawB l82_0 env H K:=by
 intro k
 induction k with
 | zero =>
  intro e env he hr h0 h1 h4 h6 h7
  refine li_go hm l82_0.eq_1 ?_
  have hlt:¬ e<l.length:=by omega
  have hs:=runE_stop (l:=l) (cs:=[2,3]) (e:=e) (by omega)
  rw[hs]at hr
  simp -implicitDefEqProofs[h0,h1,h4,h6,h7,hlt]
  refine callq_go (r:=bl false) (fun h=>by cases h) ?_
  simp -implicitDefEqProofs[h0,h1,h4,h6,h7,hlt]
  refine callq_go (r:=bl false) (fun h=>by cases h) ?_
  simp -implicitDefEqProofs[h0,h1,h4,h6,h7,hlt]
  exact hexit _ (by simp[h0]) (by simp[h1]) (by simp[h4]) (by simp[h6]) (by simp[h7]; rw[←hr])
 | succ k ih =>
  intro e env he hr h0 h1 h4 h6 h7
  refine li_go hm l82_0.eq_1 ?_
  have hlt:e<l.length:=by omega
  have hb:l[e].toNat<256:=l[e].toNat_lt
  obtain⟨q2,q3,_,_⟩:=cls_at hb
  simp -implicitDefEqProofs[h0,h1,h4,h6,h7,hlt]
  refine callq_st (r:=bl (ltrB l[e].toNat)) (fun _=>by rw[st_u8]; exact ok83 _ hb) ?_
  by_cases hL:ltrB l[e].toNat=true
  · have hc:cAt l e∈[(2:Int),3]:=by rw[cAt_get hlt,q2.2 hL]; simp
    simp -implicitDefEqProofs[h0,h1,h4,h6,h7,hlt,hL]
    refine callq_off _ _ _ _ ?_
    simp -implicitDefEqProofs[h0,h1,h4,h6,h7,hlt,hL]
    exact ih (e+1) _ (by omega) (by rw[←hr]; exact(runE_step hlt hc).symm) (by simp[h0]) (by simp[h1]) (by simp[h4]) (by simp[h6]) (by simp[wrap_suc (show e<9223372036854775807 by omega)])
  · rw[Bool.not_eq_true]at hL
    simp -implicitDefEqProofs[h0,h1,h4,h6,h7,hlt,hL]
    refine callq_st (r:=bl (dgtB l[e].toNat)) (fun _=>by rw[st_u8]; exact ok141 _ hb) ?_
    by_cases hD:dgtB l[e].toNat=true
    · have hc:cAt l e∈[(2:Int),3]:=by rw[cAt_get hlt,q3.2 hD]; simp
      simp -implicitDefEqProofs[h0,h1,h4,h6,h7,hlt,hD]
      exact ih (e+1) _ (by omega) (by rw[←hr]; exact(runE_step hlt hc).symm) (by simp[h0]) (by simp[h1]) (by simp[h4]) (by simp[h6]) (by simp[wrap_suc (show e<9223372036854775807 by omega)])
    · rw[Bool.not_eq_true]at hD
      have hc:cAt l e∉[(2:Int),3]:=by
       rw[cAt_get hlt]
       intro hm
       rcases List.mem_cons.1 hm with h | h
       · rw[q2.1 h]at hL; cases hL
       · rw[q3.1 (List.mem_singleton.1 h)]at hD; cases hD
      have hs:=runE_stop (l:=l) (cs:=[2,3]) (e:=e) (fun h=>hc h.2)
      rw[hs]at hr
      simp -implicitDefEqProofs[h0,h1,h4,h6,h7,hlt,hD]
      exact hexit _ (by simp[h0]) (by simp[h1]) (by simp[h4]) (by simp[h6]) (by simp[h7]; rw[←hr])
theorem loop82_1 (hl:l.length<4611686018427387904) {N:Nat} {K:XE->Env->List AO->Prop} {p:Nat} {x4 x6:SV}
 (hexit:∀ env,env.get 0=st (B l)->env.get 1=i64 p->env.get 4=x4->env.get 6=x6->env.get 7=i64 (runE l [3] p)->K (.exit 2) env H) :
 ∀ (k e:Nat) (env:Env),e+k=l.length->runE l [3] e=runE l [3] p->env.get 0=st (B l)->env.get 1=i64 p->env.get 4=x4->env.get 6=x6->env.get 7=i64 e->LI Tryz.prog N drawB l82_1 env H K:=by
 intro k
 induction k with
 | zero =>
  intro e env he hr h0 h1 h4 h6 h7
  refine li_go hm l82_1.eq_1 ?_
  have hlt:¬ e<l.length:=by omega
  have hs:=runE_stop (l:=l) (cs:=[3]) (e:=e) (by omega)
  rw[hs]at hr
  simp -implicitDefEqProofs[h0,h1,h4,h6,h7,hlt]
  refine callq_go (r:=bl false) (fun h=>by cases h) ?_
  simp -implicitDefEqProofs[h0,h1,h4,h6,h7,hlt]
  exact hexit _ (by simp[h0]) (by simp[h1]) (by simp[h4]) (by simp[h6]) (by simp[h7]; rw[←hr])
 | succ k ih =>
  intro e env he hr h0 h1 h4 h6 h7
  refine li_go hm l82_1.eq_1 ?_
  have hlt:e<l.length:=by omega
  have hb:l[e].toNat<256:=l[e].toNat_lt
  obtain⟨q2,q3,_,_⟩:=cls_at hb
  simp -implicitDefEqProofs[h0,h1,h4,h6,h7,hlt]
  refine callq_st (r:=bl (dgtB l[e].toNat)) (fun _=>by rw[st_u8]; exact ok141 _ hb) ?_
  by_cases hD:dgtB l[e].toNat=true
  · have hc:cAt l e∈[(3:Int)]:=by rw[cAt_get hlt,q3.2 hD]; simp
    simp -implicitDefEqProofs[h0,h1,h4,h6,h7,hlt,hD]
    exact ih (e+1) _ (by omega) (by rw[←hr]; exact(runE_step hlt hc).symm) (by simp[h0]) (by simp[h1]) (by simp[h4]) (by simp[h6]) (by simp[wrap_suc (show e<9223372036854775807 by omega)])
  · rw[Bool.not_eq_true]at hD
    have hc:cAt l e∉[(3:Int)]:=by
     rw[cAt_get hlt]
     intro hm
     rw[q3.1 (List.mem_singleton.1 hm)]at hD; cases hD
    have hs:=runE_stop (l:=l) (cs:=[3]) (e:=e) (fun h=>hc h.2)
    rw[hs]at hr
    simp -implicitDefEqProofs[h0,h1,h4,h6,h7,hlt,hD]
    exact hexit _ (by simp[h0]) (by simp[h1]) (by simp[h4]) (by simp[h6]) (by simp[h7]; rw[←hr])
end
end Go.Proofs.YtmkdpmfhlfhjkaaGreatDoor
