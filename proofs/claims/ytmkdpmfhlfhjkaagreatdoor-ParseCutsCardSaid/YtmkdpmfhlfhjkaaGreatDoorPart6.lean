/- Steps of the proof. -/
import Derived.Test.YtmkdpmfhlfhjkaaGreatDoorPart5
import Derived.Test.YtmkdpmfhlfhjkaaGreatDoorPart4
set_option linter.all false
namespace Go.Proofs.YtmkdpmfhlfhjkaaGreatDoor
open Go.Ab
section
variable {H:ZG} {j q v0 N:Nat} {o0:ZE}
theorem QBc (hp:PrA H j q o0 v0) {r:Qx} (hn:r.stages.length<2147483648) (hE:∀ x∈r.stages,∀ H,SwK H j q N x) {res:ZE} (hL:res.length<=140737488355328) {K:ZF}
 (hexit:∀ env v G,K (.exit 2) env (wr H j q res v++(⟨r.c,36,0,true⟩::G))) :
 ∀ (m i:Nat) (o:ZE) (v:Nat) (G:ZG) (env:Env),i+m=r.stages.length->fW Qf1 (r.stages.drop i) o=res->env.get 0=rp j->env.get 51=.slc (rws Qb.c r.stages) r.stages.length->env.get 52=i64 r.stages.length->env.get 53=i64 i ->
  LI Tryz.prog N Qf Qc7 env (wr H j q o v++(⟨r.c,36,0,true⟩::G)) K:=by
 have hlen:=QaI Qb.c_len r.stages;intro m
 induction m with
 |zero =>
  intro i o v G env hi hr h0 h51 h52 h53;refine Qu hm Qc7.eq_1 ?_;have e:i=r.stages.length:=by omega
  subst e;rw[Yu,fW]at hr;subst hr;simp -implicitDefEqProofs[h0,h51,h52,h53];exact hexit _ _ _
 |succ m ih =>
  intro i o v G env hi hr h0 h51 h52 h53;refine Qu hm Quq ?_;generalize hK:(λ(x:XE) (env:Env) (H:ZG)=>match x with|.normal=>LI Tryz.prog N Qf Qc7 env H K|x=>K x env H)=K'
  have hKn:∀ env H,K' .normal env H=LI Tryz.prog N Qf Qc7 env H K:=λenv H=>by rw[<-hK]
  clear hK;have hlt:i<r.stages.length:=by omega
  have hlt':(i:Int)<r.stages.length:=by omega
  have hg:=QjP (c:=Qb.c) Qb.c_len hlt;have hx:=hE r.stages[i] (Vu hlt);rw[VS hlt,fW]at hr;have hgr:=Qex Qqd (r.stages.drop (i+1)) (Qf1 r.stages[i] o);rw[hr]at hgr;have ih:=ih (i+1);generalize r.stages[i]=x at hg hx hr hgr;have inc:∀ (env:Env) (v:Nat) (G:ZG),env.get 0=rp j->env.get 51=.slc (rws Qb.c r.stages) r.stages.length->env.get 52=i64 r.stages.length->env.get 53=i64 i ->
   X Tryz.prog N Qf (IC.tl 3 k50) env (wr H j q (Qf1 x o) v++(⟨r.c,36,0,true⟩::G)) K':=by
   intro env v G h0 h51 h52 h53;simp -implicitDefEqProofs[IC.tl,k50,Qc7,h0,h51,h52,h53];rw[hKn];refine ih _ v _ _ (by omega) hr ?_ ?_ ?_ ?_;all_goals simp[h0,h51,h52,h53,QaH (show i<9223372036854775807 by omega)]
  have g2:=QpV x (QeA x.lb o);have hst:Qf1 x o=QfA x (QeA x.lb o):=rfl;rw[hst]at inc hgr;have hpa:=λL=>hp.app L;have hlb:=λ(K:ZF)=>Qxs (N:=N) (K:=K) (hp.app (⟨r.c,36,0,true⟩::G)) x o v [];have hsw:=λ(K:ZF)=>hx _ (K:=K) (hp.app (⟨r.c,36,0,true⟩::G)) (QeA x.lb o);simp only[Qin hp.lj hp.lq]at hlb hsw;generalize ht3:IC.tl 3 k50=t3 at inc ⊢;generalize ht2:IC.nth 2 k50=t2;simp -implicitDefEqProofs[IC.nth,k50,Qc7,h0,h51,h52,h53,hlt'];subst ht2;rw[Qu4,Qsf];generalize ht4:IC.tl 2 b50=t4 at hsw ⊢;generalize ht5:IC.nth 1 b50=t5 at hlb ⊢;simp -implicitDefEqProofs[IC.nth,b50,k50,Qc7,h0,h51,h52,h53,hlt,hlt',hg,hlen];refine⟨by omega,Xc (by simp) (hlb _ _ (by simp) (by simp[rp]) (by omega) λenv1 v1 G1 k1 => ?_)⟩;have q0:=k1 0 (by simp); have q7:=k1 7 (by simp); have q51:=k1 51 (by simp); have q52:=k1 52 (by simp); have q53:=k1 53 (by simp);simp at q0 q7 q51 q52 q53;refine hsw _ v1 G1 env1 q0 (by rw[q7]; simp[rp]) (by omega) λenv2 v2 G2 k2 => ?_;have p0:=k2 0 (by simp); have p51:=k2 51 (by simp); have p52:=k2 52 (by simp); have p53:=k2 53 (by simp);rw[q0]at p0; rw[q51]at p51; rw[q52]at p52; rw[q53]at p53;exact Xc (by simp) (inc env2 v2 (G++(⟨x.c,78,0,true⟩::G2)) p0 p51 p52 p53)
def Qfd (n:Int) (o:ZE):ZE:=if n<0 then o++([45,32]++QbV (-n))else o++QbV n
theorem Qri (n:Int):QaA (Qfd n):=λo=>by unfold Qfd; split<;>simp
def QgK (v:Ql) (o:ZE):ZE:=Qfd v.n (o++([118,97,114,32]++(v.nm++[32,61,32])))++[59,10]
theorem QpN (v:Ql):QaA (QgK v):=λo=>Vg (Vg (Qei _ o) (Qri _ _)) (Qei _ _)
theorem Qtx (hp:PrA H j q o0 v0) {r:Qx} (hn:r.vars.length<2147483648) (hE:∀ x∈r.vars,x.prp) {res:ZE} (hL:res.length<=140737488355328) {K:ZF}
 (hexit:∀ env v G,env.get 0=rp j->env.get 3=rp H.length->K (.exit 0) env (wr H j q res v++(⟨r.c,36,0,true⟩::G))) :
 ∀ (m i:Nat) (o:ZE) (v:Nat) (G:ZG) (env:Env),i+m=r.vars.length->fW QgK (r.vars.drop i) o=res->env.get 0=rp j->env.get 3=rp H.length->env.get 19=.slc (rws Ql.c r.vars) r.vars.length->env.get 20=i64 r.vars.length->env.get 21=i64 i ->
  LI Tryz.prog N Qf QkU env (wr H j q o v++(⟨r.c,36,0,true⟩::G)) K:=by
 have hlen:=QaI Ql.len r.vars;intro m
 induction m with
 |zero =>
  intro i o v G env hi hr h0 h3 h19 h20 h21;refine Qu hm QkU.eq_1 ?_;have e:i=r.vars.length:=by omega
  subst e;rw[Yu,fW]at hr;subst hr;simp -implicitDefEqProofs[h0,h3,h19,h20,h21];exact hexit _ _ _ (by simp[h0]) (by simp[h3])
 |succ m ih =>
  intro i o v G env hi hr h0 h3 h19 h20 h21;refine Qu hm QkU.eq_1 ?_;have hlt:i<r.vars.length:=by omega
  have hlt':(i:Int)<r.vars.length:=by omega
  have hg:=QjP (c:=Ql.c) Ql.len hlt;have hx:=hE r.vars[i] (Vu hlt);rw[VS hlt,fW]at hr;have hgr:=Qex QpN (r.vars.drop (i+1)) (QgK r.vars[i] o);rw[hr]at hgr;have ih:=ih (i+1);generalize r.vars[i]=x at hg hx hr hgr;have hb:=hx.lo; have hb':=hx.hi;have hnw:=Qri x.n (o++([118,97,114,32]++(x.nm++[32,61,32])));have hst:QgK x o=Qfd x.n (o++([118,97,114,32]++(x.nm++[32,61,32])))++[59,10]:=rfl;rw[hst]at hr hgr;simp at hgr hnw;simp -implicitDefEqProofs[h0,h3,h19,h20,h21,hlt,hlt',hg,hlen,Ql.c];refine⟨by omega,Qc (QbR hp o v (l:=[[118,97,114,32],x.nm,[32,61,32]]) (T:=9) (by simp; rfl) rfl (by simp) (by simp; omega)) ?_⟩;by_cases hneg:x.n<0
  . have hF:Qfd x.n (o++([118,97,114,32]++(x.nm++[32,61,32])))=(o++([118,97,114,32]++(x.nm++[32,61,32])))++([45,32]++QbV (-x.n)):=by unfold Qfd; rw[Zn hneg]
    have hN:=λH=>QjL (by omega:0 <= -x.n) (by omega : -x.n<=9223372036854775807) H;have hw:IntKind.i64.wrap (-x.n) = -x.n:=Qae (by omega) (by omega);simp only[Vv,Vx]at hF;rw[hF]at hgr;simp only[Vv,Vx]at hr;rw[hF]at hr;simp at hgr;simp -implicitDefEqProofs[h0,h3,h19,h20,h21,hlt,hlt',hneg,hw];refine Qc (hN _) ?_;simp -implicitDefEqProofs[h0,h3,h19,h20,h21,hlt,hlt',hneg,hw];refine Qc (QbR hp _ _ (l:=[[45,32],QbV (-x.n)]) (T:=9) (by simp; rfl) rfl (by simp) (by simp; omega)) ?_;simp -implicitDefEqProofs[h0,h3,h19,h20,h21,hlt,hlt'];refine Qc (QbR hp _ _ (l:=[[59,10]]) (T:=9) (by simp; rfl) rfl (by simp) (by simp; omega)) ?_;simp -implicitDefEqProofs[h0,h3,h19,h20,h21,hlt,hlt'];refine ih _ _ _ _ (by omega) (by simpa using hr) ?_ ?_ ?_ ?_ ?_;all_goals simp[h0,h3,h19,h20,h21,QaH (show i<9223372036854775807 by omega)]
  . have hF:Qfd x.n (o++([118,97,114,32]++(x.nm++[32,61,32])))=(o++([118,97,114,32]++(x.nm++[32,61,32])))++QbV x.n:=by unfold Qfd; rw[Zm hneg]
    have hN:=λH=>QjL (by omega:0<=x.n) (by omega:x.n<=9223372036854775807) H;simp only[Vv,Vx]at hF;rw[hF]at hgr;simp only[Vv,Vx]at hr;rw[hF]at hr;simp at hgr;simp -implicitDefEqProofs[h0,h3,h19,h20,h21,hlt,hlt',hneg];refine Qc (hN _) ?_;simp -implicitDefEqProofs[h0,h3,h19,h20,h21,hlt,hlt',hneg];refine Qc (QbR hp _ _ (l:=[QbV x.n]) (T:=9) (by simp; rfl) rfl (by simp) (by simp; omega)) ?_;simp -implicitDefEqProofs[h0,h3,h19,h20,h21,hlt,hlt'];refine Qc (QbR hp _ _ (l:=[[59,10]]) (T:=9) (by simp; rfl) rfl (by simp) (by simp; omega)) ?_;simp -implicitDefEqProofs[h0,h3,h19,h20,h21,hlt,hlt'];refine ih _ _ _ _ (by omega) (by simpa using hr) ?_ ?_ ?_ ?_ ?_;all_goals simp[h0,h3,h19,h20,h21,QaH (show i<9223372036854775807 by omega)]
theorem Qya (hp:PrA H j q o0 v0) {r:Qx} (hpl:0<=r.pl/\r.pl<=1000000000):PcW H j q N ⟨r.c,36,0,true⟩ (IC.nth 1 i50) λo=>o++([103,97,109,101,32]++(r.nm++([59,10,112,108,97,121,101,114,115,32]++(QbV r.pl++[59,10])))):=by
 intro K o v L env h0 h3 hL hK;have n1:=λH=>QjL hpl.1 (by omega:r.pl<=9223372036854775807) H;simp at hL;simp -implicitDefEqProofs[IC.nth,IC.tl,i50,Qx.c,rp,h0,h3];refine QZ (r:=st (B (QbV r.pl))) (λ_=>n1 _) ?_;simp -implicitDefEqProofs[rp,h0,h3];refine Qc (QbR hp o v (l:=[[103,97,109,101,32],r.nm,[59,10,112,108,97,121,101,114,115,32],QbV r.pl,[59,10]]) (T:=9) (by simp; rfl) rfl (by simp) (by simp; omega)) ?_;simp -implicitDefEqProofs;exact⟨Qnm (n1 _),hK _ _ _ (by simp[h0,rp]) (by simp[h3,rp])⟩
theorem Qz2 (hp:PrA H j q o0 v0) {r:Qx} (hr:r.prp):PcW H j q N ⟨r.c,36,0,true⟩ (IC.nth 2 i50) (fW QgK r.vars):=by
 intro K o v L env h0 h3 hL hK;simp -implicitDefEqProofs[IC.nth,i50,Qx.c,rp,h0,h3];refine LI.cong (H':=wr H j q o v++(⟨r.c,36,0,true⟩::L)) rfl ?_;refine Qtx hp hr.vlen hr.vars hL (λenv v G h0 h3 => ?_) r.vars.length 0 o v L _ (by omega) (by simp) (by simp[h0,rp]) (by simp[h3,rp]) (by simp) (by simp) (by simp);simp -implicitDefEqProofs;exact hK _ _ _ (by simp[h0,rp]) (by simp[h3,rp])
theorem Qwq (hp:PrA H j q o0 v0) {r:Qx} (hr:r.prp) (hE:∀ x∈r.stages,∀ H,SwK H j q N x):PE H j q N ⟨r.c,36,0,true⟩ (IC.tl 3 i50) (fW Qf1 r.stages):=by
 intro K o v L env h0 h3 hL hK;simp -implicitDefEqProofs[IC.tl,i50,Qx.c,rp,h0,h3];refine LI.cong (H':=wr H j q o v++(⟨r.c,36,0,true⟩::L)) rfl ?_;refine QBc hp hr.slen hE hL (λenv v G => ?_) r.stages.length 0 o v L _ (by omega) (by simp) (by simp[h0,rp]) (by simp) (by simp) (by simp);simp -implicitDefEqProofs;exact hK _ _ _
def Qct (r:Qx) (o:ZE):ZE :=
 fW Qf1 r.stages (fW QgK r.vars (o++([103,97,109,101,32]++(r.nm++([59,10,112,108,97,121,101,114,115,32]++(QbV r.pl++[59,10]))))))
theorem QwG {r:Qx} (hr:r.prp) (hE:∀ x∈r.stages,∀ H j q,SwK H j q Tryz.f50.ntmps x):PrK 50 [.agg r.c] (Qct r):=by
 intro H j q o v hp hL;have hj:=hp.lj;refine Qa8 hm Tryz.func50 c50 (by simp[rp,SV.under,hj,QfP]) λhcl => ?_;have h:=(PG.mk (Qya (N:=Tryz.f50.ntmps) hp hr.pl) (Qei _)).seqE ((PG.mk (Qz2 hp hr) (Qex QpN _)).seqE ⟨Qwq hp hr λx hx H=>hE x hx H j q,Qex Qqd _⟩);rw[show i50=.seq (IC.nth 0 i50) (.seq (IC.nth 1 i50) (.seq (IC.nth 2 i50) (IC.tl 3 i50)))from rfl];generalize (IC.seq (IC.nth 1 i50) (.seq (IC.nth 2 i50) (IC.tl 3 i50)))=t at h;simp -implicitDefEqProofs[IC.nth,i50];refine⟨QeN r,h.pc _ o v [] _ (by simp[rp]) (by simp[rp]) hL λenv v' G => ?_⟩;simp -implicitDefEqProofs[r50];exact Qdm hp hcl (by simp) _ rfl
end
def Qfg (r:Qx):ZE×Int :=
 if 20000<(Qct r []).length then([],4)else if(QJ (Qct r [])).2.1≠0 then([],(QJ (Qct r [])).2.1)else(Qct r [],0)
section
variable {H:ZG}
set_option maxHeartbeats 2000000 in
theorem Qza {r:Qx} (h49:∀ H,Ok Tryz.prog 49 [.agg r.c] H (.ret (bl true)) H) (h50:PrK 50 [.agg r.c] (Qct r)) (hL:(Qct r []).length<=140737488355328):Ok Tryz.prog 20 [.agg r.c] H (.ret (.tup [st (B (Qfg r).1),i64 (Qfg r).2])) H:=by
 have hD:=QbW (P:=Tryz.prog) hm;have hcok:=QeN r;have hcl4:=QeC r;have hct:=Qe0 r;have hcu:=QfP (0:Nat) r;have hprn:Qfg r=if 20000<(Qct r []).length then([],4)else if(QJ (Qct r [])).2.1≠0 then([],(QJ (Qct r [])).2.1)else(Qct r [],0):=rfl;refine Qkf hm Tryz.func20 c20 (by simp[SV.under,QfP]) λhcl => ?_;generalize r.c=c at *;rw[show i20=.seq (IC.nth 0 i20) (.seq (IC.nth 1 i20) (.seq (IC.nth 2 i20) (IC.tl 3 i20)))from rfl];generalize ht:IC.tl 3 i20=t3;refine WI.seq hD ?_;simp -implicitDefEqProofs[IC.nth,i20];refine⟨hcok,?_⟩;refine WI.seq hD ?_;simp -implicitDefEqProofs[IC.nth,i20,hcl4,hct];refine Qc (h49 _) ?_;simp -implicitDefEqProofs;refine WI.seq hD ?_;simp -implicitDefEqProofs[IC.nth,i20];refine WI.tell (Qaw.own0 (j:=H.length+1) (p:=0) (o:=⟨[.val (.slice none 0 0)],85,0,true⟩) (by simp) rfl rfl 5 1) ?_;simp -implicitDefEqProofs;have hwr:∀ (o:ZE) (v:Nat),wr (H++[⟨c,36,0,true⟩,⟨[.own (H.length+2) 0 0 1 0],85,0,true⟩,⟨[],5,0,true⟩]) (H.length+1) (H.length+2) o v =
  H++[⟨c,36,0,true⟩,⟨[.own (H.length+2) 0 o.length 1 v],85,0,true⟩,⟨Qac (B o),5,v,true⟩]:=λo v=>by
  unfold wr prO byO;rw[Qib,Qib]; rfl
 have hp:PrA (H++[⟨c,36,0,true⟩,⟨[.own (H.length+2) 0 0 1 0],85,0,true⟩,⟨[],5,0,true⟩]) (H.length+1) (H.length+2) [] 0:=⟨by simp[prO],by simp[byO]; rfl,by omega⟩;have key:=h50 _ _ _ _ _ hp hL;have hful:=λv=>Qnd (hp.wr (Qct r []) v);rw[hwr]at key;simp only[hwr]at key hful;generalize Qct r []=s at *;generalize Qfg r=sh at *;refine WI.of_X hD ?_;rw[<-ht];simp -implicitDefEqProofs[IC.tl,i20,r20,hcl4,hct];refine Q4 (OkP.cast (by simp[rp]) (by simp; rfl) key) ?_;rintro out H' ⟨rfl,v',rfl⟩;simp -implicitDefEqProofs;refine Qc (hful v') ?_;by_cases h2:20000<s.length
 . rw[Zn h2]at hprn;subst hprn;simp -implicitDefEqProofs[h2];exact Qp 3 hcl rfl (by simp)
 rw[Zm h2]at hprn;have h14:=λH=>QiG (H:=H) (l:=s) (by omega);have hcok':=QeN (QJ s).1;have hcl4':=QeC (QJ s).1;have hct':=Qe0 (QJ s).1;simp only[Qby]at h14;generalize (QJ s).1.c=c2 at *;generalize (QJ s).2.1=er at *;generalize (QJ s).2.2=po at *;simp -implicitDefEqProofs[h2,Qq0,Qpn,Qig];refine Qc (h14 _) ?_;simp -implicitDefEqProofs[QK,hcl4',hct'];refine⟨hcok',?_⟩;by_cases h0:er=0
 . rw[Zn h0];rw[Zm (by simpa using h0)]at hprn;subst hprn;exact Qp 3 hcl rfl (by simp; rfl)
 . rw[Zm h0];rw[Zn h0]at hprn;subst hprn;exact Qp 3 hcl rfl (by simp)
theorem Qxa {r:Qx} (hr:r.prp) (he:∀ x∈r.stages,x.k=3) (hL:(Qct r []).length<=140737488355328):Ok Tryz.prog 20 [.agg r.c] H (.ret (.tup [st (B (Qfg r).1),i64 (Qfg r).2])) H :=
 Qza (λ_=>QtC hr λx hx _=>Qzs (hr.stages x hx) (he x hx)) (QwG hr λx hx _ _ _=>QtF (he x hx) (hr.stages x hx)) hL
end
end Go.Proofs.YtmkdpmfhlfhjkaaGreatDoor
