/- Steps of the proof. -/
import Derived.Test.YtmkdpmfhlfhjkaaGreatDoorPart5
import Derived.Test.YtmkdpmfhlfhjkaaGreatDoorPart4
set_option linter.all false
namespace Go.Proofs.YtmkdpmfhlfhjkaaGreatDoor
open Go.Ab
mutual
theorem QoS:∀ e:Ex,e.prp->e.sm
 |.mk op n nm l p,h=>by
  have:=QlZ h;unfold Ex.sm;exact⟨this.1,Qsx l this.2⟩
theorem Qsx:∀ l:List Ex,(∀ e∈l,e.prp)->Ex.smL l
 |[],_=>trivial
 |e::r,h=>⟨QoS e (h e (by simp)),Qsx r λx hx=>h x (by simp[hx])⟩
end
section
variable {H:ZG}
theorem QiD {l m:List Ex} (hlm:Ex.erL l=Ex.erL m) (h:QbZ l):Ok Tryz.prog 74 [exS l,exS m] H (.ret (bl true)) H:=ok74 hlm h.len (λe he=>QoS e (h.prp e he)) h.cst
def m161:IC :=
 (.seq
  (.reg [
    ⟨(some 2),none,.e (.box 91 (.t 0))⟩,
    ⟨(some 3),none,.e (.box 91 (.t 1))⟩,
    ⟨(some 4),none,.p (.mov (.c (bl false)))⟩])
  (.seq
   (.reg [
     ⟨(some 5),none,.p (.fa 0 (.t 2))⟩,
     ⟨(some 6),none,.p (.ld1 (.t 5))⟩,
     ⟨(some 7),none,.p (.fa 0 (.t 3))⟩,
     ⟨(some 8),none,.p (.ld1 (.t 7))⟩,
     ⟨(some 9),none,.p (.bin .eql .s (.t 6) (.t 8))⟩,
     ⟨(some 10),none,.p (.mov (.t 9))⟩,
     ⟨(some 11),(some (10,true)),.p (.fa 1 (.t 2))⟩,
     ⟨(some 12),(some (10,true)),.p (.ldn 5 (.t 11))⟩,
     ⟨(some 13),(some (10,true)),.e (.bsl 25 5 1 [i64 0,i64 0,st ⟨#[]⟩,.val (.slice none 0 0),i64 0] [(0,(.t 12))])⟩,
     ⟨(some 14),(some (10,true)),.p (.fa 1 (.t 3))⟩,
     ⟨(some 15),(some (10,true)),.p (.ldn 5 (.t 14))⟩,
     ⟨(some 16),(some (10,true)),.e (.bsl 25 5 1 [i64 0,i64 0,st ⟨#[]⟩,.val (.slice none 0 0),i64 0] [(0,(.t 15))])⟩,
     ⟨(some 17),(some (10,true)),.e (.call (.c (.fn (.func 74) [] [])) [(.t 13),(.t 16)])⟩,
     ⟨(some 18),none,.p (.pick (.t 10) (.t 17) (.c (bl false)))⟩,
     ⟨(some 4),none,.p (.mov (.t 18))⟩])
   .ret))
theorem d161:QdG Tryz.prog Qf Tryz.f161 m161 r161=true:=by kernel_rfl
theorem Qy0 {a b:Qp} (he:a.er=b.er) (ha:a.prp):Ok Tryz.prog 161 [.agg a.c,.agg b.c] H (.ret (bl true)) H:=by
 obtain⟨nm,e,p⟩:=a;obtain⟨nm',e',p'⟩:=b;simp only[Qp.er,Qp.mk.injEq]at he;obtain⟨rfl,he,_⟩:=he;have h74:=λH=>(QiD (H:=H) (l:=[e]) (m:=[e']) (by simp only[Ex.erL,he]) ha.e).toP;have hex:∀ e,exS [e]=.slc e.c 1:=λe=>by simp[exS,Ex.cL]
 rw[hex,hex]at h74;have hce:=Ex.c_len e;have hce':=Ex.c_len e';have ht:∀ L,(e.c++L).take 5=e.c:=λL=>VN hce;have ht':∀ L,(e'.c++L).take 5=e'.c:=λL=>VN hce';have hok:=Ex.okc e;have hok':=Ex.okc e';have hcc:e.c.take 5=e.c:=by rw[<-hce,VI]
 have hcc':e'.c.take 5=e'.c:=by rw[<-hce',VI]
 have hcs:∀ (nm:ZE) (e:Ex) (p:Int),Qp.c ⟨nm,e,p⟩=st (B nm)::(e.c++[i64 p]):=λ_ _ _=>rfl;refine Qz hm Tryz.func161 d161 (by simp[SV.under,Qp.und]) λhcl => ?_;rw[hcs,hcs]at *;generalize e.c=ec at *;generalize e'.c=ec' at *;simp -implicitDefEqProofs[m161,r161,ht,ht',hok,hok',hce,hce'];refine Q5 (OkP.give (H.length+2) 1 (o:=⟨ec,25,0,true⟩) (by simp) rfl (OkP.give (H.length+3) 1 (o:=⟨ec',25,0,true⟩) (by simp) rfl (OkP.cast (by simp[hcc,hcc',hce,hce']) rfl (h74 _)))) ?_;rintro out H' ⟨rfl,rfl⟩;simp -implicitDefEqProofs;exact Qq 3 hcl rfl (by simp)
theorem ok29 {a b:Ex} (he:a.er=b.er) (ha:a.sm) (hc:Qcz a<1000000000-1):Ok Tryz.prog 29 [.agg a.c,.agg b.c] H (.ret (bl true)) H:=by
 have h74:=λH=>(ok74 (H:=H) (l:=[a]) (m:=[b]) (by simp only[Ex.erL,he]) (by simp) (by simpa using ha) (by simp only[Qau]; omega)).toP;have hex:∀ e,exS [e]=.slc e.c 1:=λe=>by simp[exS,Ex.cL]
 rw[hex,hex]at h74;have hce:=Ex.c_len a;have hce':=Ex.c_len b;have hok:=Ex.okc a;have hok':=Ex.okc b;have hcc:a.c.take 5=a.c:=by rw[<-hce,VI]
 have hcc':b.c.take 5=b.c:=by rw[<-hce',VI]
 refine Qz hm Tryz.func29 c29 (by simp[SV.under,Ex.und]) λhcl => ?_;generalize a.c=ec at *;generalize b.c=ec' at *;simp -implicitDefEqProofs[i29,r29,hok,hok',hce,hce',hcc,hcc'];refine Q5 (OkP.give (H.length+2) 1 (o:=⟨ec,25,0,true⟩) (by simp) rfl (OkP.give (H.length+3) 1 (o:=⟨ec',25,0,true⟩) (by simp) rfl (OkP.cast (by simp[hcc,hcc',hce,hce']) rfl (h74 _)))) ?_;rintro out H' ⟨rfl,rfl⟩;simp -implicitDefEqProofs;exact Qq 3 hcl rfl (by simp)
theorem QwA {a b:Qn} (he:a.er=b.er) (ha:a.prp):Ok Tryz.prog 118 [.agg a.c,.agg b.c] H (.ret (bl true)) H:=by
 obtain⟨nm,wh,hid,sets,go,p⟩:=a;obtain⟨nm',wh',hid',sets',go',p'⟩:=b;simp only[Qn.er,Qn.mk.injEq]at he;obtain⟨rfl,hw,rfl,hs,rfl,_⟩:=he;have h74:=λH=>QiD (H:=H) hw ha.wh;have hsl:sets'.length=sets.length:=by simpa using (Zp List.length hs).symm
 have h162:=λH=>Quv (H:=H) (l:=sets) (m:=sets') hsl (by have:=ha.len; simp only at this; omega) λi h h' H=>Qy0 (by
  have:=Zp (λl=>l[i]?) hs;simpa[h,h']using this) (ha.sets _ (Vt h))
 refine Qz hm Tryz.func118 c118 (by simp[SV.under,Qn.und]) λhcl => ?_;simp -implicitDefEqProofs[i118,r118,Qn.c];refine⟨rfl,rfl,QZ (r:=bl true) (λ_=>by simpa[SV.strip,exS]using h74 _) ?_⟩;simp -implicitDefEqProofs;refine QZ (r:=bl true) (λ_=>by simpa[SV.strip]using h162 _) ?_;simp -implicitDefEqProofs;exact Qq 3 hcl rfl (by simp)
theorem ok59 {a b:Qm} (he:a.er=b.er):Ok Tryz.prog 59 [.agg a.c,.agg b.c] H (.ret (bl true)) H:=by
 obtain⟨nm,n,p⟩:=a;obtain⟨nm',n',p'⟩:=b;simp only[Qm.er,Qm.mk.injEq]at he;obtain⟨rfl,rfl,_⟩:=he;refine Qz hm Tryz.func59 c59 (by simp[SV.under,Qm.c,SV.underL]) λhcl => ?_;simp -implicitDefEqProofs[i59,r59,Qm.c];exact Qq 3 hcl rfl (by simp)
theorem Qvo {l:List Int} (hb:l.length<2147483648) {N:Nat} {K:ZF} (hexit:∀ env,K (.exit 0) env H) :
 ∀ (k i:Nat) (env:Env),i+k=l.length->env.get 0=.slc (QM l) l.length->env.get 1=.slc (QM l) l.length->env.get 12=i64 l.length->env.get 13=i64 i->LI Tryz.prog N Qf Qjx env H K:=by
 have hlen:(QM l).length=l.length:=by simp[QM]
 intro k
 induction k with
 |zero =>
  intro i env hi h0 h1 h12 h13;refine Qu hm Qjx.eq_1 ?_;have e:i=l.length:=by omega
  subst e;simp -implicitDefEqProofs[h0,h1,h12,h13];exact hexit _
 |succ k ih =>
  intro i env hi h0 h1 h12 h13;refine Qu hm Qjx.eq_1 ?_;have hlt:i<l.length:=by omega
  have hlt':(i:Int)<l.length:=by omega
  have hg:∀ h,(QM l)[i]'(h)=i64 l[i]:=λh=>by simp[QM]
  simp -implicitDefEqProofs[h0,h1,h12,h13,hlt,hlt',hg,hlen];refine⟨by omega,ih (i+1) _ (by omega) ?_ ?_ ?_ ?_⟩;all_goals simp[h0,h1,h12,QaJ (show i<9223372036854775807 by omega)]
theorem QBk {l:List Int} (hb:l.length<2147483648):Ok Tryz.prog 116 [.slc (QM l) l.length,.slc (QM l) l.length] H (.ret (bl true)) H:=by
 refine Qz hm Tryz.func116 c116 (by simp[SV.under,Qm4]) λhcl => ?_;simp -implicitDefEqProofs[i116,r116];refine Qvo hb (λenv => ?_) l.length 0 _ (by omega) ?_ ?_ ?_ ?_
 . simp -implicitDefEqProofs;exact Qj
 all_goals simp
theorem Qgf:QbZ []:=⟨by simp,λe he=>by simp at he,by simp[Qau]⟩
theorem Qzr {x:Qb} (h:x.prp):QbZ x.wt/\QbZ x.who/\QbZ x.pays/\(∀ a∈x.acts,a.prp)/\x.acts.length<2147483648/\x.seen.length<2147483648:=by
 rcases h.kd with ⟨_,hd,h1,h2,h3⟩|⟨_,ht⟩|⟨_,he⟩
 . rw[h1,h2,h3]; exact⟨hd.wt,Qgf,Qgf,λa ha=>by simp at ha,by simp,hd.len⟩
 . rw[ht.wt,ht.pays,ht.seen]; exact⟨Qgf,ht.who,Qgf,ht.acts,ht.len,by simp⟩
 . rw[he.wt,he.who,he.acts,he.seen]; exact⟨Qgf,Qgf,he.pays,λa ha=>by simp at ha,by simp,by simp⟩
set_option maxHeartbeats 1000000 in
theorem ok62 {a b:Qb} (he:a.er=b.er) (ha:a.prp):Ok Tryz.prog 62 [.agg a.c,.agg b.c] H (.ret (bl true)) H:=by
 obtain⟨q1,q2,q3,q4,q5,q6⟩:=Qzr ha;obtain⟨k,lb,nm,lo,hi,wt,all,seen,who,acts,pays,p⟩:=a;obtain⟨k',lb',nm',lo',hi',wt',all',seen',who',acts',pays',p'⟩:=b;simp only[Qb.er,Qb.mk.injEq]at he;obtain⟨rfl,rfl,rfl,rfl,rfl,hwt,rfl,rfl,hwho,hacts,hpays,_⟩:=he;have h1:=λH=>QiD (H:=H) hwt q1;have h2:=λH=>QiD (H:=H) hwho q2;have h3:=λH=>QiD (H:=H) hpays q3;have hal:acts'.length=acts.length:=by simpa using (Zp List.length hacts).symm
 have h4:=λH=>QBu (H:=H) (l:=acts) (m:=acts') hal q5 λi h h' H=>QwA (by
  have:=Zp (λl=>l[i]?) hacts;simpa[h,h']using this) (q4 _ (Vt h))
 have h5:=λH=>QBk (H:=H) (l:=seen) q6;refine Qz hm Tryz.func62 c62 (by simp[SV.under,Qb.und]) λhcl => ?_;simp -implicitDefEqProofs[i62,r62,Qb.c];refine⟨⟨rfl,rfl,rfl⟩,⟨rfl,rfl,rfl⟩,QZ (r:=bl true) (λ_=>by simpa[SV.strip]using h5 _) ?_⟩;simp -implicitDefEqProofs;refine QZ (r:=bl true) (λ_=>by simpa[SV.strip,exS]using h1 _) ?_;simp -implicitDefEqProofs;refine QZ (r:=bl true) (λ_=>by simpa[SV.strip,exS]using h2 _) ?_;simp -implicitDefEqProofs;refine QZ (r:=bl true) (λ_=>by simpa[SV.strip]using h4 _) ?_;simp -implicitDefEqProofs;refine QZ (r:=bl true) (λ_=>by simpa[SV.strip,exS]using h3 _) ?_;simp -implicitDefEqProofs;exact Qq 3 hcl rfl (by simp)
theorem ok23 {a b:QC} (he:a.er=b.er) (ha:a.prp):Ok Tryz.prog 23 [.agg a.c,.agg b.c] H (.ret (bl true)) H:=by
 have hv:=ha.vlen;have hst:=ha.stages;have hsl:=ha.slen;obtain⟨nm,pl,vars,stages⟩:=a;obtain⟨nm',pl',vars',stages'⟩:=b;simp only[QC.er,QC.mk.injEq]at he;obtain⟨rfl,rfl,h1,h2⟩:=he;have hal:vars'.length=vars.length:=by simpa using (Zp List.length h1).symm
 have hbl:stages'.length=stages.length:=by simpa using (Zp List.length h2).symm
 have k1:=λH=>ok60 (H:=H) (l:=vars) (m:=vars') hal hv λi h h' H=>ok59 (by
  have:=Zp (λl=>l[i]?) h1;simpa[h,h']using this)
 have k2:=λH=>ok61 (H:=H) (l:=stages) (m:=stages') hbl hsl λi h h' H=>ok62 (by
  have:=Zp (λl=>l[i]?) h2;simpa[h,h']using this) (hst _ (Vt h))
 refine Qz hm Tryz.func23 c23 (by simp[SV.under,Qf5]) λhcl => ?_;simp -implicitDefEqProofs[i23,r23,QC.c];refine QZ (r:=bl true) (λ_=>by simpa[SV.strip]using k1 _) ?_;simp -implicitDefEqProofs;refine QZ (r:=bl true) (λ_=>by simpa[SV.strip]using k2 _) ?_;simp -implicitDefEqProofs;exact Qq 3 hcl rfl (by simp)
end
def fW {α:Type} (f:α->ZE->ZE):List α->ZE->ZE
 |[],o=>o
 |x::r,o=>fW f r (f x o)
theorem Qe6 {α:Type} {f:α->ZE->ZE} (h:∀ x,QaF (f x)):∀ l,QaF (fW f l)
 |[],o=>Vb _
 |x::r,o=>Vi (h x o) (Qe6 h r (f x o))
def Qgo (e:Ex) (o:ZE):ZE:=prE e (o++[32,119,104,101,110,32])
theorem QyU (e:Ex):QaF (Qgo e):=λo=>by
 have:=Qd9 e (o++[32,119,104,101,110,32]);unfold Qgo; simp at this; omega
def Qkz (s:Qp) (o:ZE):ZE:=prE s.e (o++([32]++s.nm++[32,61,32]))++[59]
theorem Qww (s:Qp):QaF (Qkz s):=λo=>by
 have:=Qd9 s.e (o++([32]++s.nm++[32,61,32]));unfold Qkz; simp at this ⊢; omega
def Qie (b:Bool) (o:ZE):ZE:=if b=true then o++[32,104,105,100,100,101,110]else o
def goW (g:ZE) (o:ZE):ZE:=if g=[]then o else o++([32,103,111,116,111,32]++g++[59])
def Ql0 (a:Qn) (o:ZE):ZE :=
 goW a.go (fW Qkz a.sets (Qie a.hid (fW Qgo a.wh (o++([32,32,97,99,116,105,111,110,32]++a.nm)))++[32,123])++[32,125])++[10]
theorem QBr (b:Bool):QaF (Qie b):=λo=>by unfold Qie; split<;>simp
theorem QuS (g:ZE):QaF (goW g):=λo=>by unfold goW; split<;>simp
section
variable {H:ZG} {j q v0:Nat} {o0:ZE}
def PcW (H:ZG) (j q N:Nat) (b:AO) (p:IC) (F:ZE->ZE):Prop :=
 ∀ (K:ZF) (o:ZE) (v:Nat) (G:ZG) (env:Env),env.get 0=rp j->env.get 3=rp H.length->(F o).length<=140737488355328 ->
  (∀ env v' G',env.get 0=rp j->env.get 3=rp H.length->K .normal env (wr H j q (F o) v'++(b::G')))->X Tryz.prog N Qf p env (wr H j q o v++(b::G)) K
variable {N:Nat}
theorem Qeh (l:ZE):QaF λo=>o++l:=λo=>by simp
structure PG (H:ZG) (j q N:Nat) (b:AO) (p:IC) (F:ZE->ZE):Prop where
 pc:PcW H j q N b p F
 gr:QaF F
end
def wtW (e:Ex) (o:ZE):ZE:=prE e (o++[32,119,101,105,103,104,116,32])
theorem QzM (e:Ex):QaF (wtW e):=λo=>by
 have:=Qd9 e (o++[32,119,101,105,103,104,116,32]);unfold wtW; simp at this; omega
def QkD:Bool->List Int->ZE->ZE
 |_,[],o=>o
 |b,n::r,o=>QkD false r (o++(if b=true then [32,115,101,101,110,32,98,121,32]else [44,32])++QbT n)
theorem Qrn:∀ (l:List Int) (b:Bool),QaF (QkD b l)
 |[],b,o=>Vb _
 |n::r,b,o=>by
  rw[QkD];refine Vi ?_ (Qrn r false _);simp
def Qmq (b:Bool) (o:ZE):ZE:=if b=true then o++[32,115,101,101,110,32,98,121,32,97,108,108]else o
theorem Qwl (b:Bool):QaF (Qmq b):=λo=>by unfold Qmq; split<;>simp
def Qoc (x:Qb) (o:ZE):ZE :=
 QkD true x.seen (Qmq x.all (fW wtW x.wt (o++([100,101,97,108,32]++(x.nm++([32,105,110,32]++(QbT x.lo++([32,46,46,32]++QbT x.hi))))))))++[59,10]
section
variable {H:ZG} {j q v0 N:Nat} {o0:ZE}
def PE (H:ZG) (j q N:Nat) (b:AO) (p:IC) (F:ZE->ZE):Prop :=
 ∀ (K:ZF) (o:ZE) (v:Nat) (G:ZG) (env:Env),env.get 0=rp j->env.get 3=rp H.length->(F o).length<=140737488355328 ->
  (∀ env v' G',K .normal env (wr H j q (F o) v'++(b::G')))->X Tryz.prog N Qf p env (wr H j q o v++(b::G)) K
structure PEG (H:ZG) (j q N:Nat) (b:AO) (p:IC) (F:ZE->ZE):Prop where
 pc:PE H j q N b p F
 gr:QaF F
theorem PG.seqE {N:Nat} {b:AO} {p r:IC} {F G:ZE->ZE} (h1:PG H j q N b p F) (h2:PEG H j q N b r G):PEG H j q N b (.seq p r) λo=>G (F o):=by
 refine⟨?_,λo=>Vi (h1.gr o) (h2.gr _)⟩;intro K o v L env h0 h3 hL hK;simp only[Qyv];refine h1.pc _ o v L env h0 h3 (Vi (h2.gr _) hL) λenv v' G' h0 h3 => ?_;exact h2.pc _ _ _ _ _ h0 h3 hL hK
end
def QeE (s:ZE) (o:ZE):ZE:=if s=[]then o else o++(s++[58,32])
theorem Qwu (s:ZE):QaF (QeE s):=λo=>by unfold QeE; split<;>simp
theorem Qz8 (a:Qn):QaF (Ql0 a):=λo=>by
 unfold Ql0;have h1:=QuS a.go (fW Qkz a.sets (Qie a.hid (fW Qgo a.wh (o++([32,32,97,99,116,105,111,110,32]++a.nm)))++[32,123])++[32,125]);have h2:=Qe6 Qww a.sets (Qie a.hid (fW Qgo a.wh (o++([32,32,97,99,116,105,111,110,32]++a.nm)))++[32,123]);have h3:=QBr a.hid (fW Qgo a.wh (o++([32,32,97,99,116,105,111,110,32]++a.nm)));have h4:=Qe6 QyU a.wh (o++([32,32,97,99,116,105,111,110,32]++a.nm));simp at h1 h2 h3 h4 ⊢;omega
theorem QCg (x:Qb):QaF (Qoc x):=λo=>by
 unfold Qoc;refine Vi (Vi (Vi (Qeh _ o) (Qe6 QzM _ _)) (Qwl _ _)) (Vi (Qrn _ _ _) (Qeh _ _))
def QmX (w:Ex) (l:List Qn) (o:ZE):ZE:=fW Ql0 l (prE w (o++[116,117,114,110,32])++[32,123,10])++[125,10]
def Qgc (l:List Ex) (o:ZE):ZE:=QdC true (prF l) (o++[101,110,100,32,123,32,112,97,121,32])++[59,32,125,10]
theorem QAS (w:Ex) (l:List Qn):QaF (QmX w l):=λo=>by
 unfold QmX;exact Vi (Vi (Qeh _ o) (Qd9 _ _)) (Vi (Vi (Qeh _ _) (Qe6 Qz8 _ _)) (Qeh _ _))
theorem Qw9 (l:List Ex):QaF (Qgc l):=λo=>by
 unfold Qgc;exact Vi (Qeh _ o) (Vi (Qhq _ _ (QgU l) _) (Qeh _ _))
def QfF (x:Qb):ZE->ZE:=if x.k=1 then Qoc x else if x.k=2 then(match x.who with|[]=>id|w::_=>QmX w x.acts)else Qgc x.pays
theorem Qpv (x:Qb):QaF (QfF x):=by
 unfold QfF;split
 . exact QCg x
 . split
   . split
     . exact λo=>Vb _
     . exact QAS _ _
   . exact Qw9 _
def Qf1 (x:Qb) (o:ZE):ZE:=QfF x (QeE x.lb o)
theorem Qsi (x:Qb):QaF (Qf1 x):=λo=>Vi (Qwu _ _) (Qpv _ _)
def k50:IC:=match Qdd with|.keep _ a=>a|a=>a
def b50:IC:=match IC.nth 2 k50 with|.blk _ a=>a|a=>a
theorem QCp:Qdd=.keep [0,51,52,53] (.seq (IC.nth 0 k50) (.seq (IC.nth 1 k50) (.seq (IC.nth 2 k50) (IC.tl 3 k50)))):=rfl
theorem QwK:IC.nth 2 k50=.blk 3 (.seq (IC.nth 0 b50) (.seq (IC.nth 1 b50) (IC.tl 2 b50))):=rfl
section
variable {H:ZG} {j q v0 N:Nat} {o0:ZE}
theorem QzC (hp:PrA H j q o0 v0) (x:Qb) {K:ZF} (o:ZE) (v:Nat) (G:ZG) (env:Env) (h0:env.get 0=rp j) (h7:env.get 7=rp H.length) (hL:(QeE x.lb o).length<=140737488355328)
 (hK:∀ env' v' G',(∀ k∈[0,7,51,52,53],env'.get k=env.get k)->K .normal env' (wr H j q (QeE x.lb o) v'++(⟨x.c,78,0,true⟩::G'))) :
 X Tryz.prog N Qf (IC.nth 1 b50) env (wr H j q o v++(⟨x.c,78,0,true⟩::G)) K:=by
 have hF:QeE x.lb o=if x.lb=[]then o else o++(x.lb++[58,32]):=rfl;obtain⟨k,lb,nm,lo,hi,wt,all,seen,who,acts,pays,p⟩:=x;by_cases h:lb=[]
 . subst h;simp only[Zs]at hF;simp only[hF]at hL hK;simp -implicitDefEqProofs[IC.nth,b50,k50,Qdd,Qb.c,rp,h0,h7];exact hK _ _ _ (by simp)
 . simp only at hF hL hK;rw[Zn h]at hF;rw[hF]at hL hK;simp at hL;have hB:¬ B lb=B []:=λh'=>h (QrN.1 h');simp -implicitDefEqProofs[IC.nth,b50,k50,Qdd,Qb.c,rp,h0,h7,h,hB];refine Qc (QbW hp o v (l:=[lb,[58,32]]) (T:=9) (by simp; rfl) rfl (by simp) (by simp; omega)) ?_;simp -implicitDefEqProofs;exact hK _ _ _ (by simp)
theorem Quc (hp:PrA H j q o0 v0) {x:Qb} (hx:QbZ x.pays) (hk:x.k=3) {K:ZF} (o:ZE) (v:Nat) (G:ZG) (env:Env) (h0:env.get 0=rp j) (h7:env.get 7=rp H.length) (hL:(Qgc x.pays o).length<=140737488355328)
 (hK:∀ env' v' G',(∀ k∈[0,51,52,53],env'.get k=env.get k)->K .normal env' (wr H j q (Qgc x.pays o) v'++(⟨x.c,78,0,true⟩::G'))) :
 X Tryz.prog N Qf (IC.tl 2 b50) env (wr H j q o v++(⟨x.c,78,0,true⟩::G)) K:=by
 have h109:=QoR hx.len λe he=>QnY e (hx.prp e he);unfold Qgc at hL hK;have hg:=Qhq (prF x.pays) true (QgU x.pays) (o++[101,110,100,32,123,32,112,97,121,32]);have key:=λo v L h=>h109.at hp o v L h;simp at hL hg;generalize QdC true (prF x.pays)=f at *;obtain⟨k,lb,nm,lo,hi,wt,all,seen,who,acts,pays,p⟩:=x;simp only at hk; subst hk;simp only[Qb.c]at key hK;simp -implicitDefEqProofs[IC.nth,IC.tl,b50,k50,Qdd,Qb.c,rp,h0,h7,exS];refine Qc (QbW hp o v (l:=[[101,110,100,32,123,32,112,97,121,32]]) (T:=9) (by simp; rfl) rfl (by simp) (by simp; omega)) ?_;simp -implicitDefEqProofs[rp,h0,h7,exS];refine Q5 (key _ _ _ (by omega)) ?_;rintro out H' ⟨rfl,v',rfl⟩;simp -implicitDefEqProofs[rp,h0,h7,exS];refine Qc (QbW hp _ v' (l:=[[59,32,125,10]]) (T:=9) (by simp; rfl) rfl (by simp) (by simp; omega)) ?_;simp -implicitDefEqProofs;exact hK _ _ _ (by simp)
def SwK (H:ZG) (j q N:Nat) (x:Qb):Prop:=∀ {v0:Nat} {o0:ZE} (_:PrA H j q o0 v0) {K:ZF} (o:ZE) (v:Nat) (G:ZG) (env:Env),env.get 0=rp j->env.get 7=rp H.length->(QfF x o).length<=140737488355328 ->
 (∀ env' v' G',(∀ k∈[0,51,52,53],env'.get k=env.get k)->K .normal env' (wr H j q (QfF x o) v'++(⟨x.c,78,0,true⟩::G'))) ->
 X Tryz.prog N Qf (IC.tl 2 b50) env (wr H j q o v++(⟨x.c,78,0,true⟩::G)) K
theorem QxP {x:Qb} (hk:x.k=3) (hx:x.prp):SwK H j q N x:=by
 intro v0 o0 hp K o v G env h0 h7 hL hK;have hF:QfF x o=Qgc x.pays o:=by unfold QfF; rw[Zn (by omega),Zn (by omega)]
 rw[hF]at hL hK;rcases hx.kd with ⟨hk',_⟩|⟨hk',_⟩|⟨_,he⟩
 . omega
 . omega
 . exact Quc hp he.pays hk o v G env h0 h7 hL hK
end
section
variable {H:ZG} {j q v0 N:Nat} {o0:ZE}
theorem Qut (hp:PrA H j q o0 v0) {r:QC} (hn:r.stages.length<2147483648) (hE:∀ x∈r.stages,∀ H,SwK H j q N x) {res:ZE} (hL:res.length<=140737488355328) {K:ZF}
 (hexit:∀ env v G,K (.exit 2) env (wr H j q res v++(⟨r.c,36,0,true⟩::G))) :
 ∀ (m i:Nat) (o:ZE) (v:Nat) (G:ZG) (env:Env),i+m=r.stages.length->fW Qf1 (r.stages.drop i) o=res->env.get 0=rp j->env.get 51=.slc (rws Qb.c r.stages) r.stages.length->env.get 52=i64 r.stages.length->env.get 53=i64 i ->
  LI Tryz.prog N Qf Qdd env (wr H j q o v++(⟨r.c,36,0,true⟩::G)) K:=by
 have hlen:=Qa8 Qb.c_len r.stages;intro m
 induction m with
 |zero =>
  intro i o v G env hi hr h0 h51 h52 h53;refine Qu hm Qdd.eq_1 ?_;have e:i=r.stages.length:=by omega
  subst e;rw[Yo,fW]at hr;subst hr;simp -implicitDefEqProofs[h0,h51,h52,h53];exact hexit _ _ _
 |succ m ih =>
  intro i o v G env hi hr h0 h51 h52 h53;refine Qu hm QCp ?_;generalize hK:(λ(x:XE) (env:Env) (H:ZG)=>match x with|.normal=>LI Tryz.prog N Qf Qdd env H K|x=>K x env H)=K'
  have hKn:∀ env H,K' .normal env H=LI Tryz.prog N Qf Qdd env H K:=λenv H=>by rw[<-hK]
  clear hK;have hlt:i<r.stages.length:=by omega
  have hlt':(i:Int)<r.stages.length:=by omega
  have hg:=Qkd (c:=Qb.c) Qb.c_len hlt;have hx:=hE r.stages[i] (Vt hlt);rw[VT hlt,fW]at hr;have hgr:=Qe6 Qsi (r.stages.drop (i+1)) (Qf1 r.stages[i] o);rw[hr]at hgr;have ih:=ih (i+1);generalize r.stages[i]=x at hg hx hr hgr;have inc:∀ (env:Env) (v:Nat) (G:ZG),env.get 0=rp j->env.get 51=.slc (rws Qb.c r.stages) r.stages.length->env.get 52=i64 r.stages.length->env.get 53=i64 i ->
   X Tryz.prog N Qf (IC.tl 3 k50) env (wr H j q (Qf1 x o) v++(⟨r.c,36,0,true⟩::G)) K':=by
   intro env v G h0 h51 h52 h53;simp -implicitDefEqProofs[IC.tl,k50,Qdd,h0,h51,h52,h53];rw[hKn];refine ih _ v _ _ (by omega) hr ?_ ?_ ?_ ?_;all_goals simp[h0,h51,h52,h53,QaJ (show i<9223372036854775807 by omega)]
  have g2:=Qpv x (QeE x.lb o);have hst:Qf1 x o=QfF x (QeE x.lb o):=rfl;rw[hst]at inc hgr;have hpa:=λL=>hp.app L;have hlb:=λ(K:ZF)=>QzC (N:=N) (K:=K) (hp.app (⟨r.c,36,0,true⟩::G)) x o v [];have hsw:=λ(K:ZF)=>hx _ (K:=K) (hp.app (⟨r.c,36,0,true⟩::G)) (QeE x.lb o);simp only[QhT hp.lj hp.lq]at hlb hsw;generalize ht3:IC.tl 3 k50=t3 at inc ⊢;generalize ht2:IC.nth 2 k50=t2;simp -implicitDefEqProofs[IC.nth,k50,Qdd,h0,h51,h52,h53,hlt'];subst ht2;rw[QwK,Qrc];generalize ht4:IC.tl 2 b50=t4 at hsw ⊢;generalize ht5:IC.nth 1 b50=t5 at hlb ⊢;simp -implicitDefEqProofs[IC.nth,b50,k50,Qdd,h0,h51,h52,h53,hlt,hlt',hg,hlen];refine⟨by omega,Xc (by simp) (hlb _ _ (by simp) (by simp[rp]) (by omega) λenv1 v1 G1 k1 => ?_)⟩;have q0:=k1 0 (by simp); have q7:=k1 7 (by simp); have q51:=k1 51 (by simp); have q52:=k1 52 (by simp); have q53:=k1 53 (by simp);simp at q0 q7 q51 q52 q53;refine hsw _ v1 G1 env1 q0 (by rw[q7]; simp[rp]) (by omega) λenv2 v2 G2 k2 => ?_;have p0:=k2 0 (by simp); have p51:=k2 51 (by simp); have p52:=k2 52 (by simp); have p53:=k2 53 (by simp);rw[q0]at p0; rw[q51]at p51; rw[q52]at p52; rw[q53]at p53;exact Xc (by simp) (inc env2 v2 (G++(⟨x.c,78,0,true⟩::G2)) p0 p51 p52 p53)
def Qfc (n:Int) (o:ZE):ZE:=if n<0 then o++([45,32]++QbT (-n))else o++QbT n
theorem QrY (n:Int):QaF (Qfc n):=λo=>by unfold Qfc; split<;>simp
def QgC (v:Qm) (o:ZE):ZE:=Qfc v.n (o++([118,97,114,32]++(v.nm++[32,61,32])))++[59,10]
theorem QtZ (v:Qm):QaF (QgC v):=λo=>Vi (Vi (Qeh _ o) (QrY _ _)) (Qeh _ _)
theorem Qwy (hp:PrA H j q o0 v0) {r:QC} (hn:r.vars.length<2147483648) (hE:∀ x∈r.vars,x.prp) {res:ZE} (hL:res.length<=140737488355328) {K:ZF}
 (hexit:∀ env v G,env.get 0=rp j->env.get 3=rp H.length->K (.exit 0) env (wr H j q res v++(⟨r.c,36,0,true⟩::G))) :
 ∀ (m i:Nat) (o:ZE) (v:Nat) (G:ZG) (env:Env),i+m=r.vars.length->fW QgC (r.vars.drop i) o=res->env.get 0=rp j->env.get 3=rp H.length->env.get 19=.slc (rws Qm.c r.vars) r.vars.length->env.get 20=i64 r.vars.length->env.get 21=i64 i ->
  LI Tryz.prog N Qf QkM env (wr H j q o v++(⟨r.c,36,0,true⟩::G)) K:=by
 have hlen:=Qa8 Qm.len r.vars;intro m
 induction m with
 |zero =>
  intro i o v G env hi hr h0 h3 h19 h20 h21;refine Qu hm QkM.eq_1 ?_;have e:i=r.vars.length:=by omega
  subst e;rw[Yo,fW]at hr;subst hr;simp -implicitDefEqProofs[h0,h3,h19,h20,h21];exact hexit _ _ _ (by simp[h0]) (by simp[h3])
 |succ m ih =>
  intro i o v G env hi hr h0 h3 h19 h20 h21;refine Qu hm QkM.eq_1 ?_;have hlt:i<r.vars.length:=by omega
  have hlt':(i:Int)<r.vars.length:=by omega
  have hg:=Qkd (c:=Qm.c) Qm.len hlt;have hx:=hE r.vars[i] (Vt hlt);rw[VT hlt,fW]at hr;have hgr:=Qe6 QtZ (r.vars.drop (i+1)) (QgC r.vars[i] o);rw[hr]at hgr;have ih:=ih (i+1);generalize r.vars[i]=x at hg hx hr hgr;have hb:=hx.lo; have hb':=hx.hi;have hnw:=QrY x.n (o++([118,97,114,32]++(x.nm++[32,61,32])));have hst:QgC x o=Qfc x.n (o++([118,97,114,32]++(x.nm++[32,61,32])))++[59,10]:=rfl;rw[hst]at hr hgr;simp at hgr hnw;simp -implicitDefEqProofs[h0,h3,h19,h20,h21,hlt,hlt',hg,hlen,Qm.c];refine⟨by omega,Qc (QbW hp o v (l:=[[118,97,114,32],x.nm,[32,61,32]]) (T:=9) (by simp; rfl) rfl (by simp) (by simp; omega)) ?_⟩;by_cases hneg:x.n<0
  . have hF:Qfc x.n (o++([118,97,114,32]++(x.nm++[32,61,32])))=(o++([118,97,114,32]++(x.nm++[32,61,32])))++([45,32]++QbT (-x.n)):=by unfold Qfc; rw[Zo hneg]
    have hN:=λH=>Qkx (by omega:0 <= -x.n) (by omega : -x.n<=9223372036854775807) H;have hw:IntKind.i64.wrap (-x.n) = -x.n:=Qah (by omega) (by omega);simp only[Vr,VA]at hF;rw[hF]at hgr;simp only[Vr,VA]at hr;rw[hF]at hr;simp at hgr;simp -implicitDefEqProofs[h0,h3,h19,h20,h21,hlt,hlt',hneg,hw];refine Qc (hN _) ?_;simp -implicitDefEqProofs[h0,h3,h19,h20,h21,hlt,hlt',hneg,hw];refine Qc (QbW hp _ _ (l:=[[45,32],QbT (-x.n)]) (T:=9) (by simp; rfl) rfl (by simp) (by simp; omega)) ?_;simp -implicitDefEqProofs[h0,h3,h19,h20,h21,hlt,hlt'];refine Qc (QbW hp _ _ (l:=[[59,10]]) (T:=9) (by simp; rfl) rfl (by simp) (by simp; omega)) ?_;simp -implicitDefEqProofs[h0,h3,h19,h20,h21,hlt,hlt'];refine ih _ _ _ _ (by omega) (by simpa using hr) ?_ ?_ ?_ ?_ ?_;all_goals simp[h0,h3,h19,h20,h21,QaJ (show i<9223372036854775807 by omega)]
  . have hF:Qfc x.n (o++([118,97,114,32]++(x.nm++[32,61,32])))=(o++([118,97,114,32]++(x.nm++[32,61,32])))++QbT x.n:=by unfold Qfc; rw[Zn hneg]
    have hN:=λH=>Qkx (by omega:0<=x.n) (by omega:x.n<=9223372036854775807) H;simp only[Vr,VA]at hF;rw[hF]at hgr;simp only[Vr,VA]at hr;rw[hF]at hr;simp at hgr;simp -implicitDefEqProofs[h0,h3,h19,h20,h21,hlt,hlt',hneg];refine Qc (hN _) ?_;simp -implicitDefEqProofs[h0,h3,h19,h20,h21,hlt,hlt',hneg];refine Qc (QbW hp _ _ (l:=[QbT x.n]) (T:=9) (by simp; rfl) rfl (by simp) (by simp; omega)) ?_;simp -implicitDefEqProofs[h0,h3,h19,h20,h21,hlt,hlt'];refine Qc (QbW hp _ _ (l:=[[59,10]]) (T:=9) (by simp; rfl) rfl (by simp) (by simp; omega)) ?_;simp -implicitDefEqProofs[h0,h3,h19,h20,h21,hlt,hlt'];refine ih _ _ _ _ (by omega) (by simpa using hr) ?_ ?_ ?_ ?_ ?_;all_goals simp[h0,h3,h19,h20,h21,QaJ (show i<9223372036854775807 by omega)]
theorem QvF (hp:PrA H j q o0 v0) {r:QC} (hpl:0<=r.pl/\r.pl<=1000000000):PcW H j q N ⟨r.c,36,0,true⟩ (IC.nth 1 i50) λo=>o++([103,97,109,101,32]++(r.nm++([59,10,112,108,97,121,101,114,115,32]++(QbT r.pl++[59,10])))):=by
 intro K o v L env h0 h3 hL hK;have n1:=λH=>Qkx hpl.1 (by omega:r.pl<=9223372036854775807) H;simp at hL;simp -implicitDefEqProofs[IC.nth,IC.tl,i50,QC.c,rp,h0,h3];refine QZ (r:=st (B (QbT r.pl))) (λ_=>n1 _) ?_;simp -implicitDefEqProofs[rp,h0,h3];refine Qc (QbW hp o v (l:=[[103,97,109,101,32],r.nm,[59,10,112,108,97,121,101,114,115,32],QbT r.pl,[59,10]]) (T:=9) (by simp; rfl) rfl (by simp) (by simp; omega)) ?_;simp -implicitDefEqProofs;exact⟨Qod (n1 _),hK _ _ _ (by simp[h0,rp]) (by simp[h3,rp])⟩
theorem Qz5 (hp:PrA H j q o0 v0) {r:QC} (hr:r.prp):PcW H j q N ⟨r.c,36,0,true⟩ (IC.nth 2 i50) (fW QgC r.vars):=by
 intro K o v L env h0 h3 hL hK;simp -implicitDefEqProofs[IC.nth,i50,QC.c,rp,h0,h3];refine LI.cong (H':=wr H j q o v++(⟨r.c,36,0,true⟩::L)) rfl ?_;refine Qwy hp hr.vlen hr.vars hL (λenv v G h0 h3 => ?_) r.vars.length 0 o v L _ (by omega) (by simp) (by simp[h0,rp]) (by simp[h3,rp]) (by simp) (by simp) (by simp);simp -implicitDefEqProofs;exact hK _ _ _ (by simp[h0,rp]) (by simp[h3,rp])
theorem QyR (hp:PrA H j q o0 v0) {r:QC} (hr:r.prp) (hE:∀ x∈r.stages,∀ H,SwK H j q N x):PE H j q N ⟨r.c,36,0,true⟩ (IC.tl 3 i50) (fW Qf1 r.stages):=by
 intro K o v L env h0 h3 hL hK;simp -implicitDefEqProofs[IC.tl,i50,QC.c,rp,h0,h3];refine LI.cong (H':=wr H j q o v++(⟨r.c,36,0,true⟩::L)) rfl ?_;refine Qut hp hr.slen hE hL (λenv v G => ?_) r.stages.length 0 o v L _ (by omega) (by simp) (by simp[h0,rp]) (by simp) (by simp) (by simp);simp -implicitDefEqProofs;exact hK _ _ _
def QcE (r:QC) (o:ZE):ZE :=
 fW Qf1 r.stages (fW QgC r.vars (o++([103,97,109,101,32]++(r.nm++([59,10,112,108,97,121,101,114,115,32]++(QbT r.pl++[59,10]))))))
theorem QA6 {r:QC} (hr:r.prp) (hE:∀ x∈r.stages,∀ H j q,SwK H j q Tryz.f50.ntmps x):PrK 50 [.agg r.c] (QcE r):=by
 intro H j q o v hp hL;have hj:=hp.lj;refine Qbd hm Tryz.func50 c50 (by simp[rp,SV.under,hj,Qf5]) λhcl => ?_;have h:=(PG.mk (QvF (N:=Tryz.f50.ntmps) hp hr.pl) (Qeh _)).seqE ((PG.mk (Qz5 hp hr) (Qe6 QtZ _)).seqE ⟨QyR hp hr λx hx H=>hE x hx H j q,Qe6 Qsi _⟩);rw[show i50=.seq (IC.nth 0 i50) (.seq (IC.nth 1 i50) (.seq (IC.nth 2 i50) (IC.tl 3 i50)))from rfl];generalize (IC.seq (IC.nth 1 i50) (.seq (IC.nth 2 i50) (IC.tl 3 i50)))=t at h;simp -implicitDefEqProofs[IC.nth,i50];refine⟨Qey r,h.pc _ o v [] _ (by simp[rp]) (by simp[rp]) hL λenv v' G => ?_⟩;simp -implicitDefEqProofs[r50];exact QdS hp hcl (by simp) _ rfl
end
def Qfl (r:QC):ZE×Int :=
 if 20000<(QcE r []).length then([],4)else if(QG (QcE r [])).2.1≠0 then([],(QG (QcE r [])).2.1)else(QcE r [],0)
section
variable {H:ZG}
set_option maxHeartbeats 2000000 in
theorem QBw {r:QC} (h49:∀ H,Ok Tryz.prog 49 [.agg r.c] H (.ret (bl true)) H) (h50:PrK 50 [.agg r.c] (QcE r)) (hL:(QcE r []).length<=140737488355328):Ok Tryz.prog 20 [.agg r.c] H (.ret (.tup [st (B (Qfl r).1),i64 (Qfl r).2])) H:=by
 have hD:=Qb1 (P:=Tryz.prog) hm;have hcok:=Qey r;have hcl4:=Qei r;have hct:=Qex r;have hcu:=Qf5 (0:Nat) r;have hprn:Qfl r=if 20000<(QcE r []).length then([],4)else if(QG (QcE r [])).2.1≠0 then([],(QG (QcE r [])).2.1)else(QcE r [],0):=rfl;refine Qkg hm Tryz.func20 c20 (by simp[SV.under,Qf5]) λhcl => ?_;generalize r.c=c at *;rw[show i20=.seq (IC.nth 0 i20) (.seq (IC.nth 1 i20) (.seq (IC.nth 2 i20) (IC.tl 3 i20)))from rfl];generalize ht:IC.tl 3 i20=t3;refine WI.seq hD ?_;simp -implicitDefEqProofs[IC.nth,i20];refine⟨hcok,?_⟩;refine WI.seq hD ?_;simp -implicitDefEqProofs[IC.nth,i20,hcl4,hct];refine Qc (h49 _) ?_;simp -implicitDefEqProofs;refine WI.seq hD ?_;simp -implicitDefEqProofs[IC.nth,i20];refine WI.tell (Qaw.own0 (j:=H.length+1) (p:=0) (o:=⟨[.val (.slice none 0 0)],85,0,true⟩) (by simp) rfl rfl 5 1) ?_;simp -implicitDefEqProofs;have hwr:∀ (o:ZE) (v:Nat),wr (H++[⟨c,36,0,true⟩,⟨[.own (H.length+2) 0 0 1 0],85,0,true⟩,⟨[],5,0,true⟩]) (H.length+1) (H.length+2) o v =
  H++[⟨c,36,0,true⟩,⟨[.own (H.length+2) 0 o.length 1 v],85,0,true⟩,⟨Qai (B o),5,v,true⟩]:=λo v=>by
  unfold wr prO byO;rw[Qh5,Qh5]; rfl
 have hp:PrA (H++[⟨c,36,0,true⟩,⟨[.own (H.length+2) 0 0 1 0],85,0,true⟩,⟨[],5,0,true⟩]) (H.length+1) (H.length+2) [] 0:=⟨by simp[prO],by simp[byO]; rfl,by omega⟩;have key:=h50 _ _ _ _ _ hp hL;have hful:=λv=>Qn4 (hp.wr (QcE r []) v);rw[hwr]at key;simp only[hwr]at key hful;generalize QcE r []=s at *;generalize Qfl r=sh at *;refine WI.of_X hD ?_;rw[<-ht];simp -implicitDefEqProofs[IC.tl,i20,r20,hcl4,hct];refine Q5 (OkP.cast (by simp[rp]) (by simp; rfl) key) ?_;rintro out H' ⟨rfl,v',rfl⟩;simp -implicitDefEqProofs;refine Qc (hful v') ?_;by_cases h2:20000<s.length
 . rw[Zo h2]at hprn;subst hprn;simp -implicitDefEqProofs[h2];exact Qq 3 hcl rfl (by simp)
 rw[Zn h2]at hprn;have h14:=λH=>QgW (H:=H) (l:=s) (by omega);have hcok':=Qey (QG s).1;have hcl4':=Qei (QG s).1;have hct':=Qex (QG s).1;simp only[QbG]at h14;generalize (QG s).1.c=c2 at *;generalize (QG s).2.1=er at *;generalize (QG s).2.2=po at *;simp -implicitDefEqProofs[h2,Qot,Qpt,QhQ];refine Qc (h14 _) ?_;simp -implicitDefEqProofs[QE,hcl4',hct'];refine⟨hcok',?_⟩;by_cases h0:er=0
 . rw[Zo h0];rw[Zn (by simpa using h0)]at hprn;subst hprn;exact Qq 3 hcl rfl (by simp; rfl)
 . rw[Zn h0];rw[Zo h0]at hprn;subst hprn;exact Qq 3 hcl rfl (by simp)
theorem Qw2 {r:QC} (hr:r.prp) (he:∀ x∈r.stages,x.k=3) (hL:(QcE r []).length<=140737488355328):Ok Tryz.prog 20 [.agg r.c] H (.ret (.tup [st (B (Qfl r).1),i64 (Qfl r).2])) H :=
 QBw (λ_=>QCf hr λx hx _=>QBc (hr.stages x hx) (he x hx)) (QA6 hr λx hx _ _ _=>QxP (he x hx) (hr.stages x hx)) hL
end
end Go.Proofs.YtmkdpmfhlfhjkaaGreatDoor
