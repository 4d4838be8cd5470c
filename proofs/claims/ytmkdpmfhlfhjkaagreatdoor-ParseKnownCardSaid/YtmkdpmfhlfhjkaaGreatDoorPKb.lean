/-
  Steps of the proof: contracts of functions and plain facts that the statement rests on.
-/
import Derived.Test.YtmkdpmfhlfhjkaaGreatDoorPart5
set_option linter.all false
namespace Go.Proofs.YtmkdpmfhlfhjkaaGreatDoor
open Go.Ab
def rep (s:List UInt8):Nat->List UInt8
 | 0=>[]
 | n+1=>rep s n++s
theorem rep_len (s:List UInt8):∀ n,(rep s n).length=n*s.length
 | 0=>by simp[rep]
 | n+1=>by rw[rep,List.length_append,rep_len s n,Nat.succ_mul]
mutual
def prpB:Ex->Bool
 | .mk op n nm l p=>sglE (.mk op n nm l p)&&decide (nm.length<100000)&&prpLB l
def prpLB:List Ex->Bool
 | []=>true
 | e::r=>prpB e&&prpLB r
end
mutual
theorem prp_of:∀ {e:Ex},prpB e=true->e.prp
 | .mk op n nm l p,h=>by
  unfold prpB at h
  simp only[Bool.and_eq_true,decide_eq_true_eq]at h
  obtain⟨⟨h1,h2⟩,h3⟩:=h
  unfold Ex.prp
  refine⟨h1,by omega,fun ho => ?_,prpL_of h3⟩
  subst ho
  simp only[sglE,if_true,Bool.and_eq_true,decide_eq_true_eq]at h1
  exact numK h1.2.1 (by omega)
theorem prpL_of:∀ {l:List Ex},prpLB l=true->Ex.prpL l
 | [],_=>by simp[Ex.prpL]
 | e::r,h=>by
  unfold prpLB at h
  simp only[Bool.and_eq_true]at h
  unfold Ex.prpL
  exact⟨prp_of h.1,prpL_of h.2⟩
end
section
variable {H:List AO}
theorem ok18 {tx:List UInt8} {e p:Int} (hl:tx.length<4611686018427387904) (hr:exprR tx=(zE,e,p)):Ok Tryz.prog 18 [st (B tx),i64 e,i64 p] H (.ret (bl true)) H:=by
 have h11:=fun H=>ok11x (H:=H) (l:=tx) hl
 have h13:=fun H=>ok13 zE zE_sm H
 rw[hr]at h11
 refine ok_fn hm Tryz.func18 c18 (by simp) fun hcl => ?_
 simp -implicitDefEqProofs[i18,r18]
 refine call_go (h11 _) ?_
 simp -implicitDefEqProofs[zE,Ex.v,Ex.c,fltV]
 refine callq_st (r:=bl true) (fun _=>(OkP.le ?_ (h13 _).toP).toOk) ?_
 · simp only[zE,Ex.v,Ex.cL,Ex.c,List.cons_append,List.nil_append,List.append_nil,List.map,SV.strip,List.length_cons,List.length_nil]
   repeat first
    | exact leL.nil
    | refine leL.cons ?_ ?_
    | exact SV.le.refl _
    | exact le_nil
    | refine le_slc ?_ _
    | refine le_agg ?_
 simp -implicitDefEqProofs
 exact cv_fz 3 hcl rfl (by simp)
theorem loop19 {s:List UInt8} {n:Nat} (hn:n<2147483648) (hL:n*s.length≤140737488355328) {N:Nat} {K:XE->Env->List AO->Prop} (hexit:∀ env,env.get 5=st (B (rep s n))->K (.exit 0) env H) :
 ∀ (m i:Nat) (env:Env),i+m=n->env.get 0=st (B s)->env.get 1=i64 n->env.get 5=st (B (rep s i))->env.get 6=i64 i->LI Tryz.prog N drawB l19_0 env H K:=by
 intro m
 induction m with
 | zero =>
  intro i env hi h0 h1 h5 h6
  refine li_go hm l19_0.eq_1 ?_
  have e:i=n:=by omega
  subst e
  simp -implicitDefEqProofs[h0,h1,h5,h6]
  exact hexit _ (by simp[h5])
 | succ m ih =>
  intro i env hi h0 h1 h5 h6
  refine li_go hm l19_0.eq_1 ?_
  have hlt:i<n:=by omega
  have hlt':(i:Int)<n:=by omega
  simp -implicitDefEqProofs[h0,h1,h5,h6,hlt,hlt']
  have hb:(rep s i).length+s.length≤140737488355328:=by
   rw[rep_len,<- Nat.succ_mul]
   exact Nat.le_trans (Nat.mul_le_mul_right _ (by omega)) hL
  refine⟨by omega,ih (i+1) _ (by omega) ?_ ?_ ?_ ?_⟩
  all_goals simp[h0,h1,h5,h6,rep,wrap_suc (show i<9223372036854775807 by omega)]
theorem ok19 (s:List UInt8) {n:Nat} (hn:n<2147483648) (hL:n*s.length≤140737488355328):Ok Tryz.prog 19 [st (B s),i64 n] H (.ret (st (B (rep s n)))) H:=by
 refine ok_fn hm Tryz.func19 c19 (by simp) fun hcl => ?_
 simp -implicitDefEqProofs[i19,r19]
 refine loop19 (s:=s) hn hL (fun env h5 => ?_) n 0 _ (by omega) (by simp) (by simp) (by simp[rep]) (by simp)
 simp -implicitDefEqProofs[h5]
 exact cv_id
end
end Go.Proofs.YtmkdpmfhlfhjkaaGreatDoor
