/- Steps of the proof. -/
import Derived.Test.YtmkdpmfhlfhjkaaGreatDoorPart6
set_option linter.all false
namespace Go.Proofs.YtmkdpmfhlfhjkaaGreatDoor
open Go.Ab
def rep (s:ZE):Nat->ZE
 |0=>[]
 |n+1=>rep s n++s
theorem Qbd (s:ZE):∀ n,(rep s n).length=n*s.length
 |0=>by simp[rep]
 |n+1=>by rw[rep,Vj,Qbd s n,YD]
mutual
def Qit:Ex->Bool
 |.mk op n nm l p=>QdU (.mk op n nm l p)&&decide (nm.length<100000)&&QhI l
def QhI:List Ex->Bool
 |[]=>true
 |e::r=>Qit e&&QhI r
end
mutual
theorem QlO:∀ {e:Ex},Qit e=true->e.prp
 |.mk op n nm l p,h=>by
  unfold Qit at h;simp only[Va,Zq]at h;obtain⟨⟨h1,h2⟩,h3⟩:=h;unfold Ex.prp;refine⟨h1,by omega,λho => ?_,QnQ h3⟩;subst ho;simp only[QdU,Zs,Va,Zq]at h1;exact QjL h1.2.1 (by omega)
theorem QnQ:∀ {l:List Ex},QhI l=true->Ex.prpL l
 |[],_=>by simp[Ex.prpL]
 |e::r,h=>by
  unfold QhI at h;simp only[Va]at h;unfold Ex.prpL;exact⟨QlO h.1,QnQ h.2⟩
end
section
variable {H:ZG}
theorem QhC {tx:ZE} {e p:Int} (hl:tx.length<4611686018427387904) (hr:Qai tx=(zE,e,p)):Ok Tryz.prog 18 [st (B tx),i64 e,i64 p] H (.ret (bl true)) H:=by
 have h11:=λH=>QiY (H:=H) (l:=tx) hl;have h13:=λH=>QlG zE QxA H;rw[hr]at h11;refine Qz hm Tryz.func18 c18 (by simp) λhcl => ?_;simp -implicitDefEqProofs[i18,r18];refine Qc (h11 _) ?_;simp -implicitDefEqProofs[zE,Ex.v,Ex.c,QK];refine QZ (r:=bl true) (λ_=>(OkP.le ?_ (h13 _).toP).toOk) ?_
 . simp only[zE,Ex.v,Ex.cL,Ex.c,List.map,SV.strip,VK];repeat first
    |exact leL.nil
    |refine leL.cons ?_ ?_
    |exact SV.le.refl _
    |exact Qd4
    |refine Qnh ?_ _
    |refine QfL ?_
 simp -implicitDefEqProofs;exact Qp 3 hcl rfl (by simp)
theorem Qy8 {s:ZE} {n:Nat} (hn:n<2147483648) (hL:n*s.length<=140737488355328) {N:Nat} {K:ZF} (hexit:∀ env,env.get 5=st (B (rep s n))->K (.exit 0) env H) :
 ∀ (m i:Nat) (env:Env),i+m=n->env.get 0=st (B s)->env.get 1=i64 n->env.get 5=st (B (rep s i))->env.get 6=i64 i->LI Tryz.prog N Qf QjA env H K:=by
 intro m
 induction m with
 |zero =>
  intro i env hi h0 h1 h5 h6;refine Qu hm QjA.eq_1 ?_;have e:i=n:=by omega
  subst e;simp[h0,h1,h5,h6];exact hexit _ (by simp)
 |succ m ih =>
  intro i env hi h0 h1 h5 h6;refine Qu hm QjA.eq_1 ?_;have hlt:i<n:=by omega
  have hlt':(i:Int)<n:=by omega
  simp[h0,h1,h5,h6,hlt'];have hb:(rep s i).length+s.length<=140737488355328:=by
   rw[Qbd,<- YD];exact Vg (Zc _ (by omega)) hL
  refine⟨by omega,ih (i+1) _ (by omega) ?_ ?_ ?_ ?_⟩;all_goals simp[rep,QaH (show i<9223372036854775807 by omega)]
theorem Qd5 (s:ZE) {n:Nat} (hn:n<2147483648) (hL:n*s.length<=140737488355328):Ok Tryz.prog 19 [st (B s),i64 n] H (.ret (st (B (rep s n)))) H:=by
 refine Qz hm Tryz.func19 c19 (by simp) λhcl => ?_;simp[i19,r19];refine Qy8 (s:=s) hn hL (λenv h5 => ?_) n 0 _ (by omega) (by simp) (by simp) (by simp[rep]) (by simp);simp[h5];exact Qi
end
end Go.Proofs.YtmkdpmfhlfhjkaaGreatDoor
