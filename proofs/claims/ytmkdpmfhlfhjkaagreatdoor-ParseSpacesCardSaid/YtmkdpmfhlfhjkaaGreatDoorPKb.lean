/- Steps of the proof. -/
import Derived.Test.YtmkdpmfhlfhjkaaGreatDoorPart6
set_option linter.all false
namespace Go.Proofs.YtmkdpmfhlfhjkaaGreatDoor
open Go.Ab
def rep (s:ZE):Nat->ZE
 |0=>[]
 |n+1=>rep s n++s
theorem Qbg (s:ZE):∀ n,(rep s n).length=n*s.length
 |0=>by simp[rep]
 |n+1=>by rw[rep,Vj,Qbg s n,YG]
mutual
def Qig:Ex->Bool
 |.mk op n nm l p=>QdY (.mk op n nm l p)&&decide (nm.length<100000)&&QiH l
def QiH:List Ex->Bool
 |[]=>true
 |e::r=>Qig e&&QiH r
end
mutual
theorem Qnj:∀ {e:Ex},Qig e=true->e.prp
 |.mk op n nm l p,h=>by
  unfold Qig at h;simp only[Va,Zq]at h;obtain⟨⟨h1,h2⟩,h3⟩:=h;unfold Ex.prp;refine⟨h1,by omega,λho => ?_,Qmy h3⟩;subst ho;simp only[QdY,Zs,Va,Zq]at h1;exact Qkx h1.2.1 (by omega)
theorem Qmy:∀ {l:List Ex},QiH l=true->Ex.prpL l
 |[],_=>by simp[Ex.prpL]
 |e::r,h=>by
  unfold QiH at h;simp only[Va]at h;unfold Ex.prpL;exact⟨Qnj h.1,Qmy h.2⟩
end
section
variable {H:ZG}
theorem QhN {tx:ZE} {e p:Int} (hl:tx.length<4611686018427387904) (hr:QO tx=(zE,e,p)):Ok Tryz.prog 18 [st (B tx),i64 e,i64 p] H (.ret (bl true)) H:=by
 have h11:=λH=>Qhg (H:=H) (l:=tx) hl;have h13:=λH=>Qmv zE Qdw H;rw[hr]at h11;refine Qz hm Tryz.func18 c18 (by simp) λhcl => ?_;simp -implicitDefEqProofs[i18,r18];refine Qc (h11 _) ?_;simp -implicitDefEqProofs[zE,Ex.v,Ex.c,QE];refine QZ (r:=bl true) (λ_=>(OkP.le ?_ (h13 _).toP).toOk) ?_
 . simp only[zE,Ex.v,Ex.cL,Ex.c,List.map,SV.strip,VH];repeat first
    |exact leL.nil
    |refine leL.cons ?_ ?_
    |exact SV.le.refl _
    |exact QdV
    |refine QlK ?_ _
    |refine Qga ?_
 simp -implicitDefEqProofs;exact Qq 3 hcl rfl (by simp)
theorem Quw {s:ZE} {n:Nat} (hn:n<2147483648) (hL:n*s.length<=140737488355328) {N:Nat} {K:ZF} (hexit:∀ env,env.get 5=st (B (rep s n))->K (.exit 0) env H) :
 ∀ (m i:Nat) (env:Env),i+m=n->env.get 0=st (B s)->env.get 1=i64 n->env.get 5=st (B (rep s i))->env.get 6=i64 i->LI Tryz.prog N Qf QjV env H K:=by
 intro m
 induction m with
 |zero =>
  intro i env hi h0 h1 h5 h6;refine Qu hm QjV.eq_1 ?_;have e:i=n:=by omega
  subst e;simp[h0,h1,h5,h6];exact hexit _ (by simp)
 |succ m ih =>
  intro i env hi h0 h1 h5 h6;refine Qu hm QjV.eq_1 ?_;have hlt:i<n:=by omega
  have hlt':(i:Int)<n:=by omega
  simp[h0,h1,h5,h6,hlt'];have hb:(rep s i).length+s.length<=140737488355328:=by
   rw[Qbg,<- YG];exact Vi (YW _ (by omega)) hL
  refine⟨by omega,ih (i+1) _ (by omega) ?_ ?_ ?_ ?_⟩;all_goals simp[rep,QaJ (show i<9223372036854775807 by omega)]
theorem Qd7 (s:ZE) {n:Nat} (hn:n<2147483648) (hL:n*s.length<=140737488355328):Ok Tryz.prog 19 [st (B s),i64 n] H (.ret (st (B (rep s n)))) H:=by
 refine Qz hm Tryz.func19 c19 (by simp) λhcl => ?_;simp[i19,r19];refine Quw (s:=s) hn hL (λenv h5 => ?_) n 0 _ (by omega) (by simp) (by simp) (by simp[rep]) (by simp);simp[h5];exact Qj
end
end Go.Proofs.YtmkdpmfhlfhjkaaGreatDoor
