/- Steps of the proof. -/
import Derived.Test.YtmkdpmfhlfhjkaaGreatDoorPart3
import Derived.Test.YtmkdpmfhlfhjkaaGreatDoorPart2
set_option linter.all false
namespace Go.Proofs.YtmkdpmfhlfhjkaaGreatDoor
open Go.Ab
def rO (x:Qy):AO:=⟨x.c,36,0,true⟩
section
variable {c:Cx} {F:Rd->Ex×Rd}
theorem QqU {d:Nat} (hkF:Kp c d F) (hst:QJ F):∀ (n:Nat) (l:List Qc) (r:Rd),c.ts.length<r.a+n->Gd c d r->(QaS c F n l r).2.e=0->c.ts.length<=(QaS c F n l r).2.a
 |0,l,r,hn,hg,_=>by have:=hg.a; omega
 |n+1,l,r,hn,hg,he=>by
  rw[QaS]at he ⊢;by_cases hc:r.e=0/\(l=[]\/r.a<c.ts.length)
  . rw[Zr hc]at he ⊢;by_cases h1:(QaE c F (Qdd c l r)).2.e=0
    . have h2:Qdd c l r=r:=by
       rw[QuM]at h1 ⊢;split
       . rename_i h3;rw[Zr h3]at h1;have hb:(Qg c 12 r).e≠0:=by simp[Qg,hc.1]
         rw[QnP hst _ hb]at h1;exact absurd h1 hb
       . rfl
      rw[h2]at h1 he ⊢;have h3:=Qrq (c:=c) hkF hg h1;exact QqU hkF hst n _ _ (by omega) (Qr8 (c:=c) hkF r hg).1 he
    . rw[Qfp h1]at he;exact absurd he h1
  . rw[Zq hc]at he ⊢;rcases Vx r.a c.ts.length with h|h
    . exact absurd ⟨he,.inr h⟩ hc
    . exact h
theorem QvW {d:Nat} (hkF:Kp c d F) (hst:QJ F) {r:Rd} (hg:Gd c d r) (he:(QdD c F r).2.e=0):¬ (QdD c F r).2.a<c.ts.length:=by
 unfold QdD at he ⊢;dsimp only at he ⊢;have g1:=(QcC _ (QM (c:=c) (d:=d) [103,97,109,101] hg).1).1;have g2:=(QM (c:=c) (d:=d) [112,108,97,121,101,114,115] (QM (c:=c) (d:=d) [59] g1).1).1;have g3:=(QM (c:=c) (d:=d) [59] (Qcp _ g2).1).1;have g4:=(Qp6 (c:=c) (d:=d) c.ts.length [] _ g3).1;exact Nat.not_lt.2 (QqU hkF hst _ _ _ (by omega) g4 he)
theorem QDm:QhP c F=if(QdD c F ⟨0,0,0,0⟩).2.e≠0 then(QfK,(QdD c F ⟨0,0,0,0⟩).2.e,(QdD c F ⟨0,0,0,0⟩).2.p)else((QdD c F ⟨0,0,0,0⟩).1,0,0):=rfl
end
section
variable {H:ZI}
theorem Qxj {f g:Nat} (hf:f<H.length) (hg:g<H.length):OkD Tryz.prog 86 [rp f,rp g] H none (λH'=>H'=H):=by
 refine QlW hm Tryz.func86 c86 (by rfl) λZ => ?_;simp -implicitDefEqProofs[QmY,i86,rp,rvD,SV.isIf,SV.ifNil];exact Qi
theorem QAV {f g:Nat} {c1 c2:ZJ} (hf:H[f]? = some ⟨c1,36,0,true⟩) (hc1:c1.length=4) (hg:H[g]? = some ⟨c2,28,0,true⟩) (hc2:c2.length=2) (hne:f≠g) (e p:Int) :
 OkD Tryz.prog 86 [rp f,rp g] H (some (QZ e p)) (λH'=>H'=(H.set f zR).set g ⟨[V e,V p],28,0,true⟩):=by
 have hj:=Qk hf;have hjg:=Qk hg;have e2:∀ (L:ZI) (h:AO->AO),Ab.setObj (H++L) f h=H.set f (h ⟨c1,36,0,true⟩)++L:=λL h=>by
  rw[Qcn (o:=⟨c1,36,0,true⟩) (by rw[Vc hj]; exact hf),Vn _ _ hj]
 have hg':(H.set f zR)[g]? = some ⟨c2,28,0,true⟩:=by rw[Vg hne]; exact hg
 have e4:∀ (L:ZI) (h:AO->AO),Ab.setObj (H.set f zR++L) g h=(H.set f zR).set g (h ⟨c2,28,0,true⟩)++L:=λL h=>by
  rw[Qcn (o:=⟨c2,28,0,true⟩) (by rw[Vc (by simpa using hjg)]; exact hg'),Vn _ _ (by simpa using hjg)]
 have e1:∀ L,Qo (H++L) f 0=c1:=λL=>Q7 (o:=⟨c1,36,0,true⟩) (by rw[Vc hj]; exact hf) rfl;have e3:∀ L,Qo (H.set f zR++L) g 0=c2:=λL=>Q7 (o:=⟨c2,28,0,true⟩) (by rw[Vc (by simpa using hjg)]; exact hg') rfl;have d1:List.drop 4 c1=[]:=VZ (by omega);have d2:List.drop 2 c2=[]:=VZ (by omega);simp only[zR]at e3 e4;refine QlW hm Tryz.func86 c86 (by rfl) λZ => ?_;simp -implicitDefEqProofs[QmY,i86,rp,rvD,SV.isIf,SV.ifNil,QZ];refine Qfn (λ_=>Qlc e p) ?_;simp -implicitDefEqProofs[QG,e1,e2,e3,e4,hc1,hc2,d1,d2];have hc1':closed (H.set f zR):=by
  have:=Qfw Z f (o:=zR) (by simp[zR,SV.underL,SV.under]);simpa using this
 have hc2':closed ((H.set f zR).set g ⟨[V e,V p],28,0,true⟩):=by
  have:=Qfw hc1' g (o:=⟨[V e,V p],28,0,true⟩) (by simp[SV.underL]);simpa using this
 refine⟨rfl,Qia (by simpa[QZ,QG]using Qlc e p),?_⟩;exact Qq 2 hc2' (by simp) rfl
theorem Qu5 (Z:closed H) (e p:Int) (L:ZI):Cv H.length (.tup [.agg zR.cells,QG e p]) (H++L) (.tup [(QbJ QfK),QG e p]) H:=by
 refine Cv.le (Qq (n0:=H.length) (r1:=.tup [.agg [st (B []),V 0,nl,nl],.agg [V e,V p]]) (r:=.tup [.agg [st (B []),V 0,nl,nl],.agg [V e,V p]]) 3 Z rfl (by simp)) ?_;exact Qw9 e p
theorem QwA {q:Qy×Int×Int} (Z:closed H) (hq:q.1=QfK) {U:Env} {H1:ZI} {c1 c2:ZJ} (hf:H1[H.length]? = some ⟨c1,36,0,true⟩) (hc1:c1.length=4) (hg:H1[H.length+1]? = some ⟨c2,28,0,true⟩) (hc2:c2.length=2)
 (hp:∀ i,i<H.length->H1[i]? = H[i]?) (h4:U.get 4=rp H.length) (h5:U.get 5=rp (H.length+1)) :
 Qhj Tryz.prog H.length r38 (λo h=>o=.ret (.tup [QbJ q.1,QG q.2.1 q.2.2])/\h=H) 86 [rp H.length,rp (H.length+1)] (.panic (QZ q.2.1 q.2.2)) U H1:=by
 refine⟨_,QAV hf hc1 hg hc2 (by omega) _ _,?_⟩;rintro H4 rfl;have hlen:H.length+2<=H1.length:=by have:=Qk hg; omega
 obtain⟨L,hL⟩:∃ L,(H1.set H.length zR).set (H.length+1) ⟨[V q.2.1,V q.2.2],28,0,true⟩=H++zR::⟨[V q.2.1,V q.2.2],28,0,true⟩::L:=by
  refine⟨H1.drop (H.length+2),?_⟩;apply Ya;intro i;rcases YC i H.length with h|h|h
  . rw[Vg (by omega),Vg (by omega),hp i h,Vc h]
  . subst h;rw[Vg (by omega),Vq (by omega),Vk (by omega)];simp
  . by_cases h2:i=H.length+1
    . subst h2;rw[Vq (by simp; omega),Vk (by omega)];simp
    . rw[Vg (by omega),Vg (by omega),Vk (by omega)];obtain⟨k,rfl⟩:∃ k,i=H.length+2+k:=⟨i-(H.length+2),by omega⟩;have e:H.length+2+k-H.length=k+1+1:=by omega
      rw[e,YD,YD,VU]
 rw[hL];have e1:Qo (H++zR::⟨[V q.2.1,V q.2.2],28,0,true⟩::L) H.length 0=zR.cells:=Q7 (o:=zR) (by simp) rfl;have e2:Qo (H++zR::⟨[V q.2.1,V q.2.2],28,0,true⟩::L) (H.length+1) 0=[V q.2.1,V q.2.2]:=Q7 (o:=⟨[V q.2.1,V q.2.2],28,0,true⟩) (by simp) rfl;refine⟨?_,_,H,⟨rfl,rfl⟩,?_⟩
 . intro s hs;simp only[r38,Vd,Vu,Zw]at hs;rcases hs with rfl|rfl
   . simp[RS.side,h4,rp,zR]
   . simp[RS.side,h5,rp,e2]
 . have hr:Qa2 U (H++zR::⟨[V q.2.1,V q.2.2],28,0,true⟩::L) r38=.tup [.agg zR.cells,QG q.2.1 q.2.2]:=by
    simp[Qa2,r38,RS.ev,h4,h5,rp,zR,QG]
   rw[hr,hq];exact Qu5 Z _ _ _
theorem Qe9 (x:Qy):x.c.length=4:=rfl
theorem Qlp (x:Qy):List.drop 4 x.c=[]:=rfl
theorem Qfo (x:Qy):QF x.c:=by
 intro s hs;simp[Qy.c]at hs;rcases hs with rfl|rfl|rfl|rfl<;>rfl
theorem Qfd (x:Qy):List.take 4 x.c=x.c:=rfl
theorem Qwv {x:Qy} (Z:closed H) {U:Env} {L:ZI} (h4:U.get 4=rp H.length) (h5:U.get 5=rp (H.length+1)) :
 Qhj Tryz.prog H.length r38 (λo h=>o=.ret (.tup [.agg x.c,.agg [V 0,V 0]])/\h=H) 86 [rp H.length,rp (H.length+1)] .ret U (H++rO x::⟨[V 0,V 0],28,0,true⟩::L):=by
 refine⟨_,Qxj (by simp) (by simp),?_⟩;rintro H4 rfl;have e1:Qo (H++rO x::⟨[V 0,V 0],28,0,true⟩::L) H.length 0=x.c:=Q7 (o:=rO x) (by simp) rfl;have e2:Qo (H++rO x::⟨[V 0,V 0],28,0,true⟩::L) (H.length+1) 0=[V 0,V 0]:=Q7 (o:=⟨[V 0,V 0],28,0,true⟩) (by simp) rfl;refine⟨?_,_,H,⟨rfl,rfl⟩,?_⟩
 . intro s hs;simp only[r38,Vd,Vu,Zw]at hs;rcases hs with rfl|rfl
   . simp[RS.side,h4,rp,e1,Qe9]
   . simp[RS.side,h5,rp,e2]
 . have hr:Qa2 U (H++rO x::⟨[V 0,V 0],28,0,true⟩::L) r38=.tup [.agg x.c,.agg [V 0,V 0]]:=by
    simp[Qa2,r38,RS.ev,h4,h5,rp,e1,e2,Qfd]
   rw[hr];refine Qq 3 Z rfl (Qdl ?_);simp[SV.under,SV.underL,QnJ]
theorem ok38 {l:ZG} (hl:l.length<=20000):Ok Tryz.prog 38 [st (B l),.fn (.func 39) [] []] H (.ret (.tup [QbJ (QR l).1,QG (QR l).2.1 (QR l).2.2])) H:=by
 refine OkP.toOk (Qp7 hm Tryz.func38 c38 (by rfl) λZ => ?_);have hT:=tokT l;have hN:=tokN l;have hlen:=QnS l;have h26:=λH=>ok26 (H:=H) (l:=l) (by omega);have hex:QR l=if(QB l).2.1≠0 then(QfK,(QB l).2)else QhP ⟨(QB l).1,l.length⟩ (au ⟨(QB l).1,l.length⟩):=rfl;rw[hex];generalize QB l=s at hlen h26 hT hN ⊢;obtain⟨ts,fe,fp⟩:=s;simp only at hlen h26 hT hN ⊢;simp -implicitDefEqProofs[XL,i38p,Qph,Qsy,QsY];refine Qb (h26 _) ?_;simp -implicitDefEqProofs[QG,Qbl];by_cases hs:fe=0
 . subst hs;simp -implicitDefEqProofs[i38s,i38f,XL,QgU,i38];have hlc:ts.length<4611686018427387904:=by omega
   have hg:Gd ⟨ts,l.length⟩ 40 ⟨0,0,0,0⟩:=⟨V5 _,.inr rfl⟩;have hor:PdC ⟨ts,l.length⟩ 32 [] (au ⟨ts,l.length⟩) 40:=(QtX hT hlc 40 (by omega)).2.2;have hkF:Kp ⟨ts,l.length⟩ 40 (au ⟨ts,l.length⟩):=(QfP ⟨ts,l.length⟩ 40 (by omega)).2.2;have hst:QJ (au ⟨ts,l.length⟩):=QlY _ _;have hnb:Nb ⟨ts,l.length⟩ (au ⟨ts,l.length⟩):=λr he hb=>QvE he hb 40;refine⟨86,_,⟨rfl,rfl⟩,Qb ok78 ?_⟩;simp -implicitDefEqProofs[Qmq];have hG:∀ L,(H++(zR::⟨[V 0,V fp],28,0,true⟩::ae ⟨ts,l.length⟩ ⟨0,0,0,0⟩::L))[H.length+2]? = some (ae ⟨ts,l.length⟩ ⟨0,0,0,0⟩):=λL=>by simp
   have hc:=ok39 (c:=⟨ts,l.length⟩) hT.num hN (show ts.length<=20000 by omega) hor hkF hst hnb (hG []) hg rfl;have hend:=QvW (c:=⟨ts,l.length⟩) hkF hst hg;refine⟨⟨rfl,rfl,rfl,rfl,rfl⟩,QQ (Pt:=PdV ⟨ts,l.length⟩ (H++[zR,⟨[V 0,V fp],28,0,true⟩,ae ⟨ts,l.length⟩ ⟨0,0,0,0⟩]) (H.length+2) QbJ (QdD ⟨ts,l.length⟩ (au ⟨ts,l.length⟩) ⟨0,0,0,0⟩)) (by simpa[rp,zR,ae,pdC,Qbl]using hc) ?_⟩;intro o H' hp;unfold PdV at hp;rw[QDm];generalize QdD ⟨ts,l.length⟩ (au ⟨ts,l.length⟩) ⟨0,0,0,0⟩=x at hp hend ⊢;obtain⟨ex,r⟩:=x;dsimp only at hp hend ⊢;by_cases he:r.e=0
   . rw[Zr he]at hp;obtain⟨rfl,rfl⟩:=hp;have hset:(H++[zR,⟨[V 0,V fp],28,0,true⟩,ae ⟨ts,l.length⟩ ⟨0,0,0,0⟩]).set (H.length+2) (ae ⟨ts,l.length⟩ r)=H++[zR,⟨[V 0,V fp],28,0,true⟩,ae ⟨ts,l.length⟩ r]:=by
      rw[Yk _ _ (by omega)]; simp
     rw[hset];have hlt:=hend he;rw[Zq (by simp[he])];have hck:=Zz (Qfo ex);simp -implicitDefEqProofs[QbJ,Qe9,Qfd,Qlp,hck,zR,ae,pdC,Qbl,hlt];exact Qwv Z (by simp[rp]) (by simp[rp])
   . rw[Zq he]at hp;obtain⟨rfl,hk⟩:=hp;rw[Zr he];simp -implicitDefEqProofs;have hk1:∀ i,i<H.length+2->H'[i]? = (H++[zR,⟨[V 0,V fp],28,0,true⟩,ae ⟨ts,l.length⟩ ⟨0,0,0,0⟩])[i]? := λi hi=>hk.at_ i (by simp; omega) (by simp; omega);exact QwA (q:=(QfK,r.e,r.p)) Z rfl (c1:=zR.cells) (c2:=[V 0,V fp]) (by rw[hk1 _ (by omega)]; simp[zR]) rfl (by rw[hk1 _ (by omega)]; simp) rfl (λi hi=>by rw[hk1 i (by omega),Vc hi]) (by simp[rp]) (by simp[rp])
 . simp -implicitDefEqProofs[hs,XL,QgU,r38];simp only[Zq hs];exact⟨rfl,_,_,⟨rfl,rfl⟩,by simpa[zR,QG]using Qu5 Z fe fp _⟩
theorem Qip {l:ZG} (hl:l.length<=20000):Ok Tryz.prog 14 [st (B l)] H (.ret (.tup [QbJ (QR l).1,QG (QR l).2.1 (QR l).2.2])) H:=by
 have h38:=λH=>ok38 (H:=H) hl;generalize QR l=q at h38 ⊢;refine Qt hm Tryz.func14 c14 (by simp) λZ => ?_;simp -implicitDefEqProofs[i14,r14];refine Qb (h38 _) ?_;have hck:=Zz (Qfo q.1);simp -implicitDefEqProofs[QbJ,QG,Qe9,Qfd,hck];refine Qq 3 Z rfl (Qdl ?_);simp[SV.under,SV.underL,QnJ]
end
section
variable {H:ZI} {j q v0 N:Nat} {o0:ZG}
theorem QwB (hp:PrA H j q o0 v0) {r:Qy} (hn:r.stages.length<2147483648) (hE:∀ x∈r.stages,∀ H,SwK H j q N x) {res:ZG} (hL:res.length<=140737488355328) {K:ZH}
 (ai:∀ U v G,K (.exit 2) U (wr H j q res v++(⟨r.c,36,0,true⟩::G))) :
 ∀ (m i:Nat) (o:ZG) (v:Nat) (G:ZI) (U:Env),i+m=r.stages.length->fW QfI (r.stages.drop i) o=res->U.get 0=rp j->U.get 51=.slc (rws Qc.c r.stages) r.stages.length->U.get 52=V r.stages.length->U.get 53=V i ->
  LI Tryz.prog N Qf QcX U (wr H j q o v++(⟨r.c,36,0,true⟩::G)) K:=by
 have hlen:=QaF Qc.c_len r.stages;intro m
 induction m with
 |zero =>
  intro i o v G U hi hr h0 h51 h52 h53;refine Qp hm QcX.eq_1 ?_;have e:i=r.stages.length:=by omega
  subst e;rw[V7,fW]at hr;subst hr;simp[h0,h51,h52,h53];exact ai _ _ _
 |succ m ih =>
  intro i o v G U hi hr h0 h51 h52 h53;refine Qp hm QD1 ?_;generalize hK:(λ(x:XE) (U:Env) (H:ZI)=>match x with|.normal=>LI Tryz.prog N Qf QcX U H K|x=>K x U H)=K'
  have hKn:∀ U H,K' .normal U H=LI Tryz.prog N Qf QcX U H K:=λU H=>by rw[<-hK]
  clear hK;have hlt:i<r.stages.length:=by omega
  have ax:(i:Int)<r.stages.length:=by omega
  have hg:=QfC (c:=Qc.c) Qc.c_len hlt;have hx:=hE r.stages[i] (Vp hlt);rw[VN hlt,fW]at hr;have hgr:=Qcd QrB (r.stages.drop (i+1)) (QfI r.stages[i] o);rw[hr]at hgr;have ih:=ih (i+1);generalize r.stages[i]=x at hg hx hr hgr;have inc:∀ (U:Env) (v:Nat) (G:ZI),U.get 0=rp j->U.get 51=.slc (rws Qc.c r.stages) r.stages.length->U.get 52=V r.stages.length->U.get 53=V i ->
   X Tryz.prog N Qf (IC.tl 3 k50) U (wr H j q (QfI x o) v++(⟨r.c,36,0,true⟩::G)) K':=by
   intro U v G h0 h51 h52 h53;simp[IC.tl,k50,QcX,h53];rw[hKn];refine ih _ v _ _ (by omega) hr ?_ ?_ ?_ ?_;all_goals simp[h0,h51,h52,Qaj (show i<9223372036854775807 by omega)]
  have g2:=Qs6 x (QeN x.lb o);have hst:QfI x o=Qcs x (QeN x.lb o):=rfl;rw[hst]at inc hgr;have hpa:=λL=>hp.app L;have hlb:=λ(K:ZH)=>QxJ (N:=N) (K:=K) (hp.app (⟨r.c,36,0,true⟩::G)) x o v [];have hsw:=λ(K:ZH)=>hx _ (K:=K) (hp.app (⟨r.c,36,0,true⟩::G)) (QeN x.lb o);simp only[Qi3 hp.lj hp.lq]at hlb hsw;generalize ht3:IC.tl 3 k50=t3 at inc ⊢;generalize ht2:IC.nth 2 k50=t2;simp[IC.nth,k50,QcX,h0,h51,h52,h53,ax];subst ht2;rw[QAi,Qrp];generalize ht4:IC.tl 2 b50=t4 at hsw ⊢;generalize ht5:IC.nth 1 b50=t5 at hlb ⊢;simp[IC.nth,b50,k50,QcX,ax,hg,hlen];refine⟨by omega,Xc (by simp) (hlb _ _ (by simp) (by simp[rp]) (by omega) λenv1 v1 G1 k1 => ?_)⟩;have q0:=k1 0 (by simp); have q7:=k1 7 (by simp); have q51:=k1 51 (by simp); have q52:=k1 52 (by simp); have q53:=k1 53 (by simp);simp at q0 q7 q51 q52 q53;refine hsw _ v1 G1 env1 q0 (by rw[q7]; simp[rp]) (by omega) λenv2 v2 G2 k2 => ?_;have p0:=k2 0 (by simp); have p51:=k2 51 (by simp); have p52:=k2 52 (by simp); have p53:=k2 53 (by simp);rw[q0]at p0; rw[q51]at p51; rw[q52]at p52; rw[q53]at p53;exact Xc (by simp) (inc env2 v2 (G++(⟨x.c,78,0,true⟩::G2)) p0 p51 p52 p53)
def QeG (n:Int) (o:ZG):ZG:=if n<0 then o++([45,32]++QaC (-n))else o++QaC n
theorem Qu8 (n:Int):Qaw (QeG n):=λo=>by unfold QeG; split<;>simp
def QgK (v:Qn) (o:ZG):ZG:=QeG v.n (o++([118,97,114,32]++(v.nm++[32,61,32])))++[59,10]
theorem Qr0 (v:Qn):Qaw (QgK v):=λo=>Vf (Vf (Qcr _ o) (Qu8 _ _)) (Qcr _ _)
theorem QBs (hp:PrA H j q o0 v0) {r:Qy} (hn:r.vars.length<2147483648) (hE:∀ x∈r.vars,x.prp) {res:ZG} (hL:res.length<=140737488355328) {K:ZH}
 (ai:∀ U v G,U.get 0=rp j->U.get 3=rp H.length->K (.exit 0) U (wr H j q res v++(⟨r.c,36,0,true⟩::G))) :
 ∀ (m i:Nat) (o:ZG) (v:Nat) (G:ZI) (U:Env),i+m=r.vars.length->fW QgK (r.vars.drop i) o=res->U.get 0=rp j->U.get 3=rp H.length->U.get 19=.slc (rws Qn.c r.vars) r.vars.length->U.get 20=V r.vars.length->U.get 21=V i ->
  LI Tryz.prog N Qf Qka U (wr H j q o v++(⟨r.c,36,0,true⟩::G)) K:=by
 have hlen:=QaF Qn.len r.vars;intro m
 induction m with
 |zero =>
  intro i o v G U hi hr h0 h3 h19 h20 h21;refine Qp hm Qka.eq_1 ?_;have e:i=r.vars.length:=by omega
  subst e;rw[V7,fW]at hr;subst hr;simp[h0,h3,h19,h20,h21];exact ai _ _ _ (by simp) (by simp)
 |succ m ih =>
  intro i o v G U hi hr h0 h3 h19 h20 h21;refine Qp hm Qka.eq_1 ?_;have hlt:i<r.vars.length:=by omega
  have ax:(i:Int)<r.vars.length:=by omega
  have hg:=QfC (c:=Qn.c) Qn.len hlt;have hx:=hE r.vars[i] (Vp hlt);rw[VN hlt,fW]at hr;have hgr:=Qcd Qr0 (r.vars.drop (i+1)) (QgK r.vars[i] o);rw[hr]at hgr;have ih:=ih (i+1);generalize r.vars[i]=x at hg hx hr hgr;have hb:=hx.lo; have hb':=hx.hi;have hnw:=Qu8 x.n (o++([118,97,114,32]++(x.nm++[32,61,32])));have hst:QgK x o=QeG x.n (o++([118,97,114,32]++(x.nm++[32,61,32])))++[59,10]:=rfl;rw[hst]at hr hgr;simp at hgr hnw;simp[h0,h3,h19,h20,h21,ax,hg,hlen,Qn.c];refine⟨by omega,Qb (Qae hp o v (l:=[[118,97,114,32],x.nm,[32,61,32]]) (T:=9) (by simp; rfl) rfl (by simp) (by simp; omega)) ?_⟩;by_cases hneg:x.n<0
  . have hF:QeG x.n (o++([118,97,114,32]++(x.nm++[32,61,32])))=(o++([118,97,114,32]++(x.nm++[32,61,32])))++([45,32]++QaC (-x.n)):=by unfold QeG; rw[Zr hneg]
    have hN:=λH=>Qft (by omega:0 <= -x.n) (by omega : -x.n<=9223372036854775807) H;have hw:IntKind.i64.wrap (-x.n) = -x.n:=Qam (by omega) (by omega);simp only[Vv,VG]at hF;rw[hF]at hgr;simp only[Vv,VG]at hr;rw[hF]at hr;simp at hgr;simp[h0,h3,h19,h20,h21,hneg,hw];refine Qb (hN _) ?_;simp[h0,h3,h19,h20,h21];refine Qb (Qae hp _ _ (l:=[[45,32],QaC (-x.n)]) (T:=9) (by simp; rfl) rfl (by simp) (by simp; omega)) ?_;simp[h0,h3,h19,h20,h21];refine Qb (Qae hp _ _ (l:=[[59,10]]) (T:=9) (by simp; rfl) rfl (by simp) (by simp; omega)) ?_;simp[h0,h3,h19,h20,h21];refine ih _ _ _ _ (by omega) (by simpa using hr) ?_ ?_ ?_ ?_ ?_;all_goals simp[Qaj (show i<9223372036854775807 by omega)]
  . have hF:QeG x.n (o++([118,97,114,32]++(x.nm++[32,61,32])))=(o++([118,97,114,32]++(x.nm++[32,61,32])))++QaC x.n:=by unfold QeG; rw[Zq hneg]
    have hN:=λH=>Qft (by omega:0<=x.n) (by omega:x.n<=9223372036854775807) H;simp only[Vv,VG]at hF;rw[hF]at hgr;simp only[Vv,VG]at hr;rw[hF]at hr;simp at hgr;simp[h0,h3,h19,h20,h21,hneg];refine Qb (hN _) ?_;simp[h0,h3,h19,h20,h21];refine Qb (Qae hp _ _ (l:=[QaC x.n]) (T:=9) (by simp; rfl) rfl (by simp) (by simp; omega)) ?_;simp[h0,h3,h19,h20,h21];refine Qb (Qae hp _ _ (l:=[[59,10]]) (T:=9) (by simp; rfl) rfl (by simp) (by simp; omega)) ?_;simp[h0,h3,h19,h20,h21];refine ih _ _ _ _ (by omega) (by simpa using hr) ?_ ?_ ?_ ?_ ?_;all_goals simp[Qaj (show i<9223372036854775807 by omega)]
theorem QB2 (hp:PrA H j q o0 v0) {r:Qy} (hpl:0<=r.pl/\r.pl<=1000000000):PcW H j q N ⟨r.c,36,0,true⟩ (IC.nth 1 i50) λo=>o++([103,97,109,101,32]++(r.nm++([59,10,112,108,97,121,101,114,115,32]++(QaC r.pl++[59,10])))):=by
 intro K o v L U h0 h3 hL hK;have n1:=λH=>Qft hpl.1 (by omega:r.pl<=9223372036854775807) H;simp at hL;simp[IC.nth,i50,Qy.c,rp,h0,h3];refine QL (r:=st (B (QaC r.pl))) (λ_=>n1 _) ?_;simp;refine Qb (Qae hp o v (l:=[[103,97,109,101,32],r.nm,[59,10,112,108,97,121,101,114,115,32],QaC r.pl,[59,10]]) (T:=9) (by simp; rfl) rfl (by simp) (by simp; omega)) ?_;simp;exact⟨Qia (n1 _),hK _ _ _ (by simp[h0,rp]) (by simp[h3,rp])⟩
theorem Qxc (hp:PrA H j q o0 v0) {r:Qy} (hr:r.prp):PcW H j q N ⟨r.c,36,0,true⟩ (IC.nth 2 i50) (fW QgK r.vars):=by
 intro K o v L U h0 h3 hL hK;simp[IC.nth,i50,Qy.c,rp,h3];refine LI.cong (H':=wr H j q o v++(⟨r.c,36,0,true⟩::L)) rfl ?_;refine QBs hp hr.vlen hr.vars hL (λU v G h0 h3 => ?_) r.vars.length 0 o v L _ (by omega) (by simp) (by simp[h0,rp]) (by simp[h3,rp]) (by simp) (by simp) (by simp);simp;exact hK _ _ _ (by simp[h0,rp]) (by simp[h3,rp])
theorem QBt (hp:PrA H j q o0 v0) {r:Qy} (hr:r.prp) (hE:∀ x∈r.stages,∀ H,SwK H j q N x):PE H j q N ⟨r.c,36,0,true⟩ (IC.tl 3 i50) (fW QfI r.stages):=by
 intro K o v L U h0 h3 hL hK;simp[IC.tl,i50,Qy.c,rp,h3];refine LI.cong (H':=wr H j q o v++(⟨r.c,36,0,true⟩::L)) rfl ?_;refine QwB hp hr.slen hE hL (λU v G => ?_) r.stages.length 0 o v L _ (by omega) (by simp) (by simp[h0,rp]) (by simp) (by simp) (by simp);simp;exact hK _ _ _
def Qby (r:Qy) (o:ZG):ZG :=
 fW QfI r.stages (fW QgK r.vars (o++([103,97,109,101,32]++(r.nm++([59,10,112,108,97,121,101,114,115,32]++(QaC r.pl++[59,10]))))))
theorem Qss {r:Qy} (hr:r.prp) (hE:∀ x∈r.stages,∀ H j q,SwK H j q Tryz.f50.ntmps x):PrK 50 [.agg r.c] (Qby r):=by
 intro H j q o v hp hL;have hj:=hp.lj;refine QaY hm Tryz.func50 c50 (by simp[rp]) λZ => ?_;have h:=(PG.mk (QB2 (N:=Tryz.f50.ntmps) hp hr.pl) (Qcr _)).seqE ((PG.mk (Qxc hp hr) (Qcd Qr0 _)).seqE ⟨QBt hp hr λx hx H=>hE x hx H j q,Qcd QrB _⟩);rw[show i50=.seq (IC.nth 0 i50) (.seq (IC.nth 1 i50) (.seq (IC.nth 2 i50) (IC.tl 3 i50)))from rfl];generalize (IC.seq (IC.nth 1 i50) (.seq (IC.nth 2 i50) (IC.tl 3 i50)))=t at h;simp[IC.nth,i50];refine⟨Qfo r,h.pc _ o v [] _ (by simp[rp]) (by simp[rp]) hL λU v' G => ?_⟩;simp[r50];exact Qdf hp Z (by simp) _ rfl
theorem ok50 {r:Qy} (hr:r.prp):PrK 50 [.agg r.c] (Qby r):=Qss hr λx hx _ _ _=>sw50 (hr.stages x hx)
end
def Qdg (r:Qy):ZG×Int :=
 if 20000<(Qby r []).length then([],4)else if(QR (Qby r [])).2.1≠0 then([],(QR (Qby r [])).2.1)else(Qby r [],0)
section
variable {H:ZI}
set_option maxHeartbeats 2000000 in
theorem QrX {r:Qy} (h49:∀ H,Ok Tryz.prog 49 [.agg r.c] H (.ret (bl true)) H) (h50:PrK 50 [.agg r.c] (Qby r)) (hL:(Qby r []).length<=140737488355328):Ok Tryz.prog 20 [.agg r.c] H (.ret (.tup [st (B (Qdg r).1),V (Qdg r).2])) H:=by
 have hD:=Qb1 (P:=Tryz.prog) hm;have hcok:=Qfo r;have hcl4:=Qe9 r;have hct:=Qfd r;have hcu:=QnJ (0:Nat) r;have hprn:Qdg r=if 20000<(Qby r []).length then([],4)else if(QR (Qby r [])).2.1≠0 then([],(QR (Qby r [])).2.1)else(Qby r [],0):=rfl;refine Qk9 hm Tryz.func20 c20 (by simp) λZ => ?_;generalize r.c=c at *;rw[show i20=.seq (IC.nth 0 i20) (.seq (IC.nth 1 i20) (.seq (IC.nth 2 i20) (IC.tl 3 i20)))from rfl];generalize ht:IC.tl 3 i20=t3;refine WI.seq hD ?_;simp -implicitDefEqProofs[IC.nth,i20];refine⟨hcok,?_⟩;refine WI.seq hD ?_;simp -implicitDefEqProofs[hcl4,hct];refine Qb (h49 _) ?_;simp -implicitDefEqProofs;refine WI.seq hD ?_;simp -implicitDefEqProofs;refine WI.tell (Qat.own0 (j:=H.length+1) (p:=0) (o:=⟨[.val (.slice none 0 0)],85,0,true⟩) (by simp) rfl rfl 5 1) ?_;simp -implicitDefEqProofs;have hwr:∀ (o:ZG) (v:Nat),wr (H++[⟨c,36,0,true⟩,⟨[.own (H.length+2) 0 0 1 0],85,0,true⟩,⟨[],5,0,true⟩]) (H.length+1) (H.length+2) o v =
  H++[⟨c,36,0,true⟩,⟨[.own (H.length+2) 0 o.length 1 v],85,0,true⟩,⟨Qag (B o),5,v,true⟩]:=λo v=>by
  unfold wr prO byO;rw[Qig,Qig]; rfl
 have hp:PrA (H++[⟨c,36,0,true⟩,⟨[.own (H.length+2) 0 0 1 0],85,0,true⟩,⟨[],5,0,true⟩]) (H.length+1) (H.length+2) [] 0:=⟨by simp[prO],by simp[byO]; rfl,by omega⟩;have key:=h50 _ _ _ _ _ hp hL;have hful:=λv=>Qm3 (hp.wr (Qby r []) v);rw[hwr]at key;simp only[hwr]at key hful;generalize Qby r []=s at *;generalize Qdg r=sh at *;refine WI.of_X hD ?_;rw[<-ht];simp -implicitDefEqProofs[IC.tl,i20,r20,hcl4,hct];refine QQ (OkP.cast (by simp[rp]) (by simp; rfl) key) ?_;rintro out H' ⟨rfl,v',rfl⟩;simp -implicitDefEqProofs;refine Qb (hful v') ?_;by_cases h2:20000<s.length
 . rw[Zr h2]at hprn;subst hprn;simp -implicitDefEqProofs[h2];exact Qq 3 Z rfl (by simp)
 rw[Zq h2]at hprn;have h14:=λH=>Qip (H:=H) (l:=s) (by omega);have hcok':=Qfo (QR s).1;have hcl4':=Qe9 (QR s).1;have hct':=Qfd (QR s).1;simp only[QbJ]at h14;generalize (QR s).1.c=c2 at *;generalize (QR s).2.1=er at *;generalize (QR s).2.2=po at *;simp -implicitDefEqProofs[h2,QqF,QpM];refine Qb (h14 _) ?_;simp -implicitDefEqProofs[QG,hcl4'];refine⟨hcok',?_⟩;by_cases h0:er=0
 . rw[Zr h0];rw[Zq (by simpa using h0)]at hprn;subst hprn;exact Qq 3 Z rfl (by simp; rfl)
 . rw[Zq h0];rw[Zr h0]at hprn;subst hprn;exact Qq 3 Z rfl (by simp)
theorem ok20 {r:Qy} (hr:r.prp) (hL:(Qby r []).length<=140737488355328):Ok Tryz.prog 20 [.agg r.c] H (.ret (.tup [st (B (Qdg r).1),V (Qdg r).2])) H:=QrX (λ_=>ok49 hr) (ok50 hr) hL
theorem Qxz {r:Qy} (hr:r.prp) (he:∀ x∈r.stages,x.k=3) (hL:(Qby r []).length<=140737488355328):Ok Tryz.prog 20 [.agg r.c] H (.ret (.tup [st (B (Qdg r).1),V (Qdg r).2])) H :=
 QrX (λ_=>QqX hr λx hx _=>QDY (hr.stages x hx) (he x hx)) (Qss hr λx hx _ _ _=>QrU (he x hx) (hr.stages x hx)) hL
end
theorem Qem {a b:ZG} {p:Nat}:ao (a++b) (a.length+p)=ao b p:=by
 unfold ao;rw[Vy,Vy,Vk (by omega)];simp
theorem QhW {a b:ZG} {p:Nat} (h:p<a.length):ao (a++b) p=ao a p:=by
 unfold ao;rw[Vy,Vy,Vc h]
theorem QpN {a b:ZG} {cs:List Int}:∀ (n e:Nat),Qb3 (a++b) cs n (a.length+e)=a.length+Qb3 b cs n e
 |0,e=>rfl
 |n+1,e=>by
  simp only[Qb3,Qem,Vj];by_cases h:e<b.length/\ao b e∈cs
  . rw[Zr ⟨by omega,h.2⟩,Zr h,Yi]; exact QpN n (e+1)
  . rw[Zq (λh2=>h ⟨by omega,h2.2⟩),Zq h]
theorem Qkd {a b:ZG} {cs:List Int} {e:Nat}:Q8 (a++b) cs (a.length+e)=a.length+Q8 b cs e:=by
 unfold Q8;rw[show(a++b).length-(a.length+e)=b.length-e by simp; omega];exact QpN _ _
theorem QlO {a b:ZG} {e:Nat}:(a++b).drop (a.length+e)=b.drop e:=by
 rw[YW,VZ (by omega)];simp
theorem Qs0 {a b:ZG} {p q:Nat}:cut (a++b) (a.length+p) (a.length+q)=cut b p q:=by
 unfold cut;rw[QlO,show a.length+q-(a.length+p)=q-p by omega]
theorem QnI {a b:ZG} {p:Nat}:(a++b).getD (a.length+p) 0=b.getD p 0:=by
 rw[Vy,Vy,Vk (by omega)];simp
theorem QpO {a b:ZG} {e:Nat}:Qbo (a++b) (a.length+e)=a.length+Qbo b e:=by
 unfold Qbo;rw[QlO,QnI];split
 . omega
 . split<;>omega
theorem QCx {a b tx:ZG} {k:Int} {p:Nat} (h:p=0->a=[]\/ao a (a.length-1)≠3):whE (a++b) k tx (a.length+p)=whE b k tx p:=by
 unfold whE;have e:(tx=[]\/k=1/\0<a.length+p/\ao (a++b) (a.length+p-1)=3)↔(tx=[]\/k=1/\0<p/\ao b (p-1)=3):=by
  by_cases hp:p=0
  . subst hp;rcases h rfl with h1|h1
    . subst h1; simp
    . by_cases ha:a.length=0
      . have:a=[]:=VS ha;subst this; simp
      . have e1:ao (a++b) (a.length+0-1)=ao a (a.length-1):=QhW (by omega);rw[e1];simp[h1]
  . have e1:a.length+p-1=a.length+(p-1):=by omega
    rw[e1,Qem];have:0<a.length+p↔0<p:=by omega
    rw[this]
 simp only[e]
def Tok.mv (t:Tok) (d:Nat):Tok:={ t with p:=d+t.p }
def Stp.mv (d:Nat):Stp->Stp
 |.skip q=>.skip (d+q)
 |.tok t q=>.tok (t.mv d) (d+q)
 |.flt e=>.flt e
theorem QjH {a b:ZG} {k:Int} {p q:Nat} (h:p=0->a=[]\/ao a (a.length-1)≠3):QN (a++b) (a.length+p) k (a.length+q)=(QN b p k q).mv a.length:=by
 unfold QN;rw[Qs0,QCx h];split<;>rfl
theorem QqB {a b:ZG} {p:Nat} (h:p=0->a=[]\/ao a (a.length-1)≠3):Qw (a++b) (a.length+p)=(Qw b p).mv a.length:=by
 unfold Qw;rw[Qem,Qkd,Qkd,QpO,QnI,QlO,QjH h,QjH h,QjH h,QjH h];split
 . simp only[Stp.mv]; rw[Yi]
 . split
   . rfl
   . split
     . rfl
     . split
       . rfl
       . split
         . simp only[Stp.mv]; rw[Yi]
         . rfl
def Ev.mv (d:Nat):Ev->Ev
 |.tok t=>.tok (t.mv d)
 |.flt e p=>.flt e (d+p)
theorem QmS {a b:ZG}:∀ (n p:Nat),(p=0->a=[]\/ao a (a.length-1)≠3)->evs (a++b) n (a.length+p)=(evs b n p).map (Ev.mv a.length)
 |0,p,_=>rfl
 |n+1,p,h=>by
  simp only[evs,Vj];by_cases hp:p<b.length
  . rw[Zr (by omega),Zr hp,QqB h]
    cases hs:Qw b p with
    |skip q =>
     simp only[Stp.mv];refine QmS n q λh0 => ?_;have:p<q:=by
      unfold Qw at hs;have key:∀ k q',QN b p k q'≠.skip q:=by intro k q' h; unfold QN at h; split at h<;>cases h
      split at hs
      . cases hs; omega
      . split at hs
        . exact absurd hs (key _ _)
        . split at hs
          . exact absurd hs (key _ _)
          . split at hs
            . exact absurd hs (key _ _)
            . split at hs
              . rename_i h35; cases hs; have:=QoQ hp h35; omega
              . exact absurd hs (key _ _)
     omega
    |tok t q =>
     simp only[Stp.mv,Vl,Ev.mv];rw[QmS n q λh0=>by have:=mkq hs hp; omega]
    |flt e=>rfl
  . rw[Zq (by omega),Zq hp]; rfl
theorem QrM {l:ZG} {p q:Nat} (hp:p<l.length) (hs:Qw l p=.skip q):p<q/\q<=l.length:=by
 unfold Qw at hs;have key:∀ k q',QN l p k q'≠.skip q:=by intro k q' h; unfold QN at h; split at h<;>cases h
 split at hs
 . cases hs; omega
 . split at hs
   . exact absurd hs (key _ _)
   . split at hs
     . exact absurd hs (key _ _)
     . split at hs
       . exact absurd hs (key _ _)
       . split at hs
         . rename_i h35; cases hs
           have h1:=QoQ hp h35;have h2:=QnV (l.drop p);simp at h2; omega
         . exact absurd hs (key _ _)
theorem Ql9 {l:ZG}:∀ (n m p:Nat),l.length<=p+n->l.length<=p+m->evs l n p=evs l m p
 |0,0,p,_,_=>rfl
 |0,m+1,p,h,_=>by simp only[evs]; rw[Zq (by omega)]
 |n+1,0,p,_,h=>by simp only[evs]; rw[Zq (by omega)]
 |n+1,m+1,p,h1,h2=>by
  simp only[evs];split
  . rename_i hp
    cases hs:Qw l p with
    |skip q=>have:=QrM hp hs; exact Ql9 n m q (by omega) (by omega)
    |tok t q=>have:=mkq hs hp; simp only; rw[Ql9 n m q (by omega) (by omega)]
    |flt e=>rfl
  . rfl
def Wht (c:UInt8):Prop:=c=10\/c=32
section
variable {a b:ZG} {c:UInt8}
theorem Qt4 (hc:Wht c):ao (a++c::b) a.length=1:=by
 have h:ao (a++c::b) (a.length+0)=ao (c::b) 0:=Qem;rw[Yb]at h;rw[h];rcases hc with rfl|rfl<;>rfl
theorem Qtd (hc:Wht c) {cs:List Int} (h1:(1:Int)∉cs):∀ (n m e:Nat),e<=a.length->a.length<=e+n->a.length<e+m->Qb3 (a++c::b) cs m e=Qb3 a cs n e
 |n,0,e,h,h2,h3=>by omega
 |0,m+1,e,h,h2,h3=>by
  have e:e=a.length:=by omega
  subst e;simp only[Qb3];rw[Zq (λh=>h1 (by rw[<-Qt4 (a:=a) (b:=b) hc]; exact h.2))]
 |n+1,m+1,e,h,h2,h3=>by
  simp only[Qb3];by_cases he:e<a.length
  . rw[QhW he];by_cases h4:ao a e∈cs
    . rw[Zr ⟨by simp; omega,h4⟩,Zr ⟨he,h4⟩];exact Qtd hc h1 n m (e+1) (by omega) (by omega) (by omega)
    . rw[Zq (λh=>h4 h.2),Zq (λh=>h4 h.2)]
  . have e:e=a.length:=by omega
    subst e;rw[Zq (λh=>h1 (by rw[<-Qt4 (a:=a) (b:=b) hc]; exact h.2)),Zq (λh=>he h.1)]
theorem Qsv (hc:Wht c) {cs:List Int} (h1:(1:Int)∉cs) {e:Nat} (h:e<=a.length):Q8 (a++c::b) cs e=Q8 a cs e :=
 Qtd hc h1 _ _ e h (by omega) (by simp; omega)
theorem QoP {e:Nat} (h:e<=a.length):(a++c::b).drop e=a.drop e++c::b:=by
 rw[YY h]
theorem QDe {p q:Nat} (hp:p<=a.length) (hq:q<=a.length):cut (a++c::b) p q=cut a p q:=by
 unfold cut;rw[QoP hp,YX (by simp; omega)]
theorem QEF (hc:Wht c) {r:ZG} (h:r≠[]):Qec (r++c::b)=Qec r:=by
 unfold Qec;have h1:∀ x:UInt8,Wht c->x∈[61,46]->(x==c)=false:=by
  intro x hc hx;simp at hx;rcases hc with rfl|rfl<;>rcases hx with rfl|rfl<;>rfl
 match r,h with
 |[x],_ =>
  simp only[QaO,List.any_cons,List.any_nil,List.isPrefixOf,Vv,VG];rw[h1 61 hc (by simp),h1 46 hc (by simp)];simp
 |x::y::r,_=>simp[QaO,List.isPrefixOf]
theorem Qqd {e:Nat} (h:e<a.length):(a++c::b).getD e 0=a.getD e 0:=by
 rw[Vy,Vy,Vc h]
theorem QzH (hc:Wht c) {e:Nat} (h:e<a.length):Qbo (a++c::b) e=Qbo a e:=by
 unfold Qbo;rw[QoP (by omega),Qqd h,QEF hc (by intro h2; have:=Zt List.length h2; simp at this; omega)]
theorem QwN {tx:ZG} {k:Int} {p:Nat} (h:p<a.length):whE (a++c::b) k tx p=whE a k tx p:=by
 unfold whE;by_cases hp:p=0
 . subst hp; simp
 . rw[QhW (show p-1<a.length by omega)]
theorem QjS {k:Int} {p q:Nat} (h:p<a.length) (hq:q<=a.length):QN (a++c::b) p k q=QN a p k q:=by
 unfold QN;rw[QDe (by omega) hq,QwN h]
theorem Qum:∀ {a b:ZG},QbS (a++10::b)=QbS a
 |[],b=>rfl
 |x::r,b=>by
  simp only[Vv,QbS];split
  . rfl
  . rw[Qum]
theorem Qxl (hc:Wht c) {p:Nat} (h:p<a.length) (hn:c=10\/a.getD p 0≠35):Qw (a++c::b) p=Qw a p:=by
 have r1:=Qsv (b:=b) hc (cs:=[2,3]) (by decide) (show p<=a.length by omega);have r2:=Qsv (b:=b) hc (cs:=[3]) (by decide) (show p<=a.length by omega);have r3:=QzH (b:=b) hc h;unfold Qw;rw[QhW h,r1,r2,r3,Qqd h,QoP (by omega),QjS h (Qhg (by omega)),QjS h (Qhg (by omega)),QjS h (QlV h).2,QjS h (by omega)];rcases hn with rfl|hn
 . rw[Qum]
 . simp only[Zq hn]
def bad:List Ev->Bool
 |[]=>false
 |.tok _::r=>bad r
 |.flt _ _::_=>true
end
def QgF:List Ev->Int×Int
 |[]=>(0,0)
 |.tok _::r=>QgF r
 |.flt e p::_=>(e,p)
theorem QsB:∀ (es:List Ev) (i:Nat),i+(Q4 es).length<=5000->Qce i es=QgF es
 |[],i,_=>rfl
 |.tok t::r,i,h=>by
  simp only[Q4,Vh]at h;simp only[Qce,QgF];rw[Zq (by omega)];exact QsB r (i+1) (by omega)
 |.flt e p::_,i,_=>rfl
theorem Qtq:∀ {es:List Ev},bad es=false->QgF es=(0,0)
 |[],_=>rfl
 |.tok t::r,h=>Qtq (es:=r) h
 |.flt e p::_,h=>by simp[bad]at h
theorem QsO:∀ {es:List Ev},(∀ e p,Ev.flt e p∈es->e≠0)->bad es=true->(QgF es).1≠0
 |[],_,h=>by simp[bad]at h
 |.tok t::r,hm,h=>QsO (es:=r) (λe p h=>hm e p (VW _ h)) h
 |.flt e p::_,hm,_=>hm e p (by simp)
theorem QvA {l:ZG} (h:l.length<=20000) (hl:(Q4 (QaA l)).length<=5000):QB l=bif bad (QaA l)then([],QgF (QaA l))else(Q4 (QaA l),0,0):=by
 have hf:=QsB (QaA l) 0 (by omega);unfold QB;rw[Zq (by omega),hf]
 cases hb:bad (QaA l)with
 |true =>
  have hne:(QgF (QaA l)).1≠0:=QsO (λe p h=>QlD l.length 0 h) hb;rw[Zq hne]; rfl
 |false =>
  rw[Qtq hb]; rfl
section
variable {a b:ZG}
theorem QxG {c:UInt8} (hc:cls c.toNat=1) (m:Nat) (hm:b.length<=m):evs (a++c::b) (m+1) a.length=(QaA b).map (Ev.mv (a.length+1)):=by
 have h1:ao (a++c::b) a.length=1:=by
  have h:ao (a++c::b) (a.length+0)=ao (c::b) 0:=Qem;rw[Yb]at h;rw[h]; exact hc
 have hs:Qw (a++c::b) a.length=.skip (a.length+1):=by unfold Qw; rw[Zr h1]
 have e1:evs (a++c::b) (m+1) a.length=evs (a++c::b) m (a.length+1):=by simp only[evs]; rw[Zr (by simp),hs]
 have e2:=QmS (a:=a++[c]) (b:=b) m 0 (λ_=>.inr (by
  have:ao (a++[c]) ((a++[c]).length-1)=ao [c] 0:=by
   have h:ao (a++[c]) (a.length+0)=ao [c] 0:=Qem;rw[<-h]; simp
  rw[this];have h3:ao [c] 0=cls c.toNat:=rfl;rw[h3,hc]; decide))
 have e3:(a++[c])++b=a++c::b:=by simp
 have e4:(a++[c]).length+0=a.length+1:=by simp
 rw[e3,e4]at e2;rw[e1,e2,show(a++[c]).length=a.length+1 by simp];unfold QaA;rw[Ql9 m b.length 0 (by omega) (by omega)]
end
def QaN:Nat->Nat->ZG
 |0,n=>[UInt8.ofNat (48+n)]
 |k+1,n=>if 9<n then QaN k (n / 10)++[UInt8.ofNat (48+n % 10)]else [UInt8.ofNat (48+n)]
def Qa6 (n:Nat):ZG:=QaN 18 n
theorem QAW {k n:Nat} (h:n<=9):QaN k n=[UInt8.ofNat (48+n)]:=by
 cases k with
 |zero=>rfl
 |succ k=>rw[QaN,Zq (by omega)]
theorem Qup:∀ k n:Nat,(QaN k n).length<=k+1
 |0,n=>by simp[QaN]
 |k+1,n=>by
  rw[QaN];split
  . have:=Qup k (n / 10); simp; omega
  . simp
theorem Qn4 (n:Nat):(Qa6 n).length<=19:=Qup 18 n
def opN (op:Int):Int:=if op=1\/op=2 then 0 else if op=3\/op=4 then 1 else if op=20 then 3 else if 5<=op/\op<=19 then 2 else -1
def Ex.op:Ex->Int
 |.mk op _ _ _ _=>op
theorem Qng:∀ (k n:Nat),n<10 ^ (k+1)->∀ c∈QaN k n,48<=c.toNat/\c.toNat<=57
 |0,n,h,c,hc=>by
  rw[QaN,VX]at hc;subst hc;have:(UInt8.ofNat (48+n)).toNat=48+n:=by simp; omega
  omega
 |k+1,n,h,c,hc=>by
  rw[QaN]at hc;split at hc
  . rw[Vt,VX]at hc;rcases hc with hc|rfl
    . exact Qng k (n / 10) (by rw[Y8]at h; omega) c hc
    . have:(UInt8.ofNat (48+n % 10)).toNat=48+n % 10:=by simp; omega
      omega
  . rw[VX]at hc;subst hc;have:(UInt8.ofNat (48+n)).toNat=48+n:=by simp; omega
    omega
theorem Qit (k n:Nat):0<(QaN k n).length:=by
 cases k with
 |zero=>simp[QaN]
 |succ k=>rw[QaN]; split<;>simp
theorem QqI:∀ (k n:Nat),n<10 ^ (k+1)->0<n->(QaN k n).getD 0 0≠48
 |0,n,h,h0,hc=>by
  rw[QaN]at hc;have:UInt8.ofNat (48+n)=48:=by simpa using hc
  have h2:(UInt8.ofNat (48+n)).toNat=48+n:=by simp; omega
  rw[this]at h2;have:(48:UInt8).toNat=48:=rfl;omega
 |k+1,n,h,h0,hc=>by
  rw[QaN]at hc;split at hc
  . have hp:=Qit k (n / 10);have e:(QaN k (n / 10)++[UInt8.ofNat (48+n % 10)]).getD 0 0=(QaN k (n / 10)).getD 0 0:=by
     rw[Vy,Vy,Vc hp]
    rw[e]at hc;exact QqI k (n / 10) (by rw[Y8]at h; omega) (by omega) hc
  . have:UInt8.ofNat (48+n)=48:=by simpa using hc
    have h2:(UInt8.ofNat (48+n)).toNat=48+n:=by simp; omega
    rw[this]at h2;have:(48:UInt8).toNat=48:=rfl;omega
theorem Qq7:∀ (a b:ZG) (m:Int),(Qak a m).1=0->Qak (a++b) m=Qak b (Qak a m).2
 |[],b,m,_=>rfl
 |c::a,b,m,h=>by
  rw[Vv,Qak,Qak];rw[Qak]at h;split
  . rename_i h2; rw[Zr h2]at h; exact absurd h (show ¬ (2:Int)=0 by decide)
  . rename_i h2; rw[Zq h2]at h; exact Qq7 a b _ h
theorem Qs5:∀ (k n:Nat),n<10 ^ (k+1)->n<=1000000000->Qak (QaN k n) 0=(0,(n:Int))
 |0,n,h,hn=>by
  have h2:(UInt8.ofNat (48+n)).toNat=48+n:=by simp; omega
  rw[QaN,Qak,h2,Zq (by omega),Qak];congr 1; omega
 |k+1,n,h,hn=>by
  rw[QaN];split
  . have ih:=Qs5 k (n / 10) (by rw[Y8]at h; omega) (by omega);rw[Qq7 _ _ _ (by rw[ih]),ih];have h2:(UInt8.ofNat (48+n % 10)).toNat=48+n % 10:=by simp; omega
    simp only[Qak];rw[h2,Zq (by omega)];congr 1; omega
  . have h2:(UInt8.ofNat (48+n)).toNat=48+n:=by simp; omega
    rw[Qak,h2,Zq (by omega),Qak];congr 1; omega
inductive TK where
 |wd (s:ZG)
 |sg (s:ZG)
 |nm (n:Nat)
inductive Pc where
 |b (c:UInt8)
 |t (k:TK)
def TK.tx:TK->ZG
 |.wd s=>s
 |.sg s=>s
 |.nm n=>Qa6 n
def al:List Pc->ZG
 |[]=>[]
 |.b c::r=>c::al r
 |.t k::r=>k.tx++al r
def ak:List Pc->List TK
 |[]=>[]
 |.b _::r=>ak r
 |.t k::r=>k::ak r
theorem QaK:∀ a b:List Pc,al (a++b)=al a++al b
 |[],b=>rfl
 |.b c::a,b=>by simp[al,QaK a b]
 |.t k::a,b=>by simp[al,QaK a b]
theorem QaL:∀ a b:List Pc,ak (a++b)=ak a++ak b
 |[],b=>rfl
 |.b c::a,b=>by simp[ak,QaL a b]
 |.t k::a,b=>by simp[ak,QaL a b]
def QgR (t:Tok):TK->Prop
 |.wd s=>t.k=1/\t.tx=s
 |.sg s=>t.k=3/\t.tx=s
 |.nm n=>t.k=2/\t.n=n
inductive QbK:List Tok->List TK->Prop
 |nil:QbK [] []
 |cons {t:Tok} {k:TK} {ts:List Tok} {ks:List TK}:QgR t k->QbK ts ks->QbK (t::ts) (k::ks)
def QeH (s:ZG):Prop:=s≠[]/\ao s 0=2/\(∀ i,i<s.length->ao s i=2\/ao s i=3)/\s.length<=40
def Qk4 (s:ZG):Prop:=(∃ c∈Qgn,s=[c])\/s∈QaO
def TK.ok:TK->Prop
 |.wd s=>QeH s
 |.sg s=>Qk4 s
 |.nm n=>n<=1000000000
def TK.sep:TK->ZG->Prop
 |.sg s,r=>s.length=2\/(r.getD 0 0≠61/\r.getD 0 0≠46)
 |_,r=>ao r 0≠2/\ao r 0≠3
def Qa8:List Pc->Prop
 |[]=>True
 |.b c::r=>(c=32\/c=10)/\Qa8 r
 |.t k::r=>k.ok/\k.sep (al r)/\Qa8 r
theorem Qpp {s r:ZG} {cs:List Int} (hs:∀ i,i<s.length->ao s i∈cs) (hr:ao r 0∉cs):Q8 (s++r) cs 0=s.length:=by
 have key:∀ k,k<=s.length->Q8 (s++r) cs (s.length-k)=s.length:=by
  intro k
  induction k with
  |zero =>
   intro _;refine Qju λh=>hr ?_;have:=Qem (a:=s) (b:=r) (p:=0);rw[<-this]; exact h.2
  |succ k ih =>
   intro hk;rw[QnY (by simp; omega) (by rw[QhW (by omega)]; exact hs _ (by omega)),show s.length-(k+1)+1=s.length-k by omega];exact ih (by omega)
 have:=key s.length (Vb _)
 rwa [Nat.sub_self]at this
theorem Qo3 (s r:ZG):cut (s++r) 0 s.length=s:=by simp[cut]
theorem Qoi {s r:ZG} (h:s≠[]):ao (s++r) 0=ao s 0:=QhW (Yl.2 h)
theorem QqV {s r:ZG} (h:QeH s) (hr:ao r 0≠2/\ao r 0≠3):Qw (s++r) 0=.tok ⟨1,s,0,0⟩ s.length:=by
 obtain⟨h0,h1,h2,h3⟩:=h;have hru:=Qpp (cs:=[2,3]) (λi hi=>by simpa using h2 i hi) (by simpa using hr);unfold Qw;rw[Qoi h0,h1,Zq (by decide),Zr rfl,hru];unfold QN;rw[Qo3];have hw:whE (s++r) 1 s 0=(0,0):=by
  unfold whE;rw[Zq (by simp[h0]),Zq (by omega),Zr (by decide)]
 rw[hw,Zq (λh=>h rfl)]
theorem QA6 {c:UInt8} (h:48<=c.toNat/\c.toNat<=57):cls c.toNat=3 :=
 (QC2 c.toNat_lt).2.1.2 (by simp[Qet]; omega)
theorem Qq8 {s:ZG} (hs:∀ c∈s,48<=c.toNat/\c.toNat<=57) {i:Nat} (h:i<s.length):ao s i=3:=by
 unfold ao;rw[Vy,Ve h];exact QA6 (hs _ (Vp h))
theorem Qs1 {n:Nat} {r:ZG} (h:n<=1000000000) (hr:ao r 0≠3):Qw (Qa6 n++r) 0=.tok ⟨2,Qa6 n,n,0⟩ (Qa6 n).length:=by
 have hlt:n<10 ^ (18+1):=by omega
 have hd:=Qng 18 n hlt;have hp:=Qit 18 n;have hh:=λh0=>QqI 18 n hlt h0;have hn:=Qs5 18 n hlt h;have hz:n=0->QaN 18 n=[48]:=λh=>by subst h; rfl
 show Qw (QaN 18 n++r) 0=_;unfold Qa6;generalize QaN 18 n=s at *;have hne:s≠[]:=Yl.1 hp;have hru:=Qpp (cs:=[3]) (s:=s) (r:=r) (λi hi=>by simpa using Qq8 hd hi) (by simpa using hr);unfold Qw;rw[Qoi hne,Qq8 hd hp,Zq (by decide),Zq (by decide),Zr rfl,hru];unfold QN;rw[Qo3];have hw:whE (s++r) 2 s 0=(0,(n:Int)):=by
  unfold whE;rw[Zq (by simp[hne]),Zq (by simp),Zq (by decide),Zq ?_,hn];rintro⟨g1,g2⟩;by_cases h0:n=0
  . rw[hz h0]at g1; simp at g1
  . exact hh (by omega) g2
 rw[hw,Zq (λh=>h rfl)]
theorem QpZ {s r:ZG} (h:Qk4 s) (hr:s.length=2\/(r.getD 0 0≠61/\r.getD 0 0≠46)):Qw (s++r) 0=.tok ⟨3,s,0,0⟩ s.length:=by
 have h4:ao s 0=4/\s≠[]/\Qbo (s++r) 0=s.length:=by
  rcases h with ⟨c,hc,rfl⟩|hd
  . have hr:r.getD 0 0≠61/\r.getD 0 0≠46:=by
     rcases hr with hr|hr
     . simp at hr
     . exact hr
    refine⟨?_,by simp,?_⟩
    . simp only[Qgn,Vd,Vu,Zw]at hc;rcases hc with rfl|rfl|rfl|rfl|rfl|rfl|rfl|rfl|rfl|rfl|rfl|rfl|rfl|rfl|rfl<;>decide
    . have hnd:Qec (c::r)=false:=by
       cases r with
       |nil =>
        simp only[Qgn,Vd,Vu,Zw]at hc;rcases hc with rfl|rfl|rfl|rfl|rfl|rfl|rfl|rfl|rfl|rfl|rfl|rfl|rfl|rfl|rfl<;>decide
       |cons d r =>
        have hd1:d≠61:=by simpa using hr.1
        have hd2:d≠46:=by simpa using hr.2
        simp[Qec,QaO,List.isPrefixOf,Ne.symm hd1,Ne.symm hd2]
      have hc33:c≠33/\c≠46:=by
       simp only[Qgn,Vd,Vu,Zw]at hc;rcases hc with rfl|rfl|rfl|rfl|rfl|rfl|rfl|rfl|rfl|rfl|rfl|rfl|rfl|rfl|rfl<;>decide
      unfold Qbo;simp[hnd,hc33]
  . simp only[QaO,Vd,Vu,Zw]at hd;have hp:Qec (s++r)=true:=by
     rcases hd with rfl|rfl|rfl|rfl|rfl<;>simp[Qec,QaO,List.isPrefixOf]
    refine⟨?_,?_,?_⟩
    . rcases hd with rfl|rfl|rfl|rfl|rfl<;>decide
    . rcases hd with rfl|rfl|rfl|rfl|rfl<;>simp
    . unfold Qbo;simp only[Yr,hp,Zv];rcases hd with rfl|rfl|rfl|rfl|rfl<;>rfl
 obtain⟨h4,h0,hs⟩:=h4;unfold Qw;rw[Qoi h0,h4,Zq (by decide),Zq (by decide),Zq (by decide),Zr rfl,hs];unfold QN;rw[Qo3];have hw:whE (s++r) 3 s 0=(0,0):=by
  unfold whE;rw[Zq (by simp[h0]),Zq (by simp),Zr (by decide)]
 rw[hw,Zq (λh=>h rfl)]
theorem QAY {l l' tx:ZG} {k:Int} {p p':Nat} (h:k≠1):whE l k tx p=whE l' k tx p':=by
 unfold whE; simp[h]
theorem Qu3 {a b:ZG} (h:(a=[]\/ao a (a.length-1)≠3)\/ao b 0≠2):Qw (a++b) a.length=(Qw b 0).mv a.length:=by
 rcases h with h|h
 . exact QqB (p:=0) λ_=>h
 . have hm:∀ (k:Int) (q:Nat),k≠1->QN (a++b) (a.length+0) k (a.length+q)=(QN b 0 k q).mv a.length:=by
    intro k q hk;unfold QN;rw[Qs0,QAY (l':=b) (p':=0) hk];split<;>rfl
   show Qw (a++b) (a.length+0)=_;unfold Qw;rw[Qem,Qkd,Qkd,QpO,QnI,QlO,Zq h,Zq h,hm 2 _ (by decide),hm 3 _ (by decide),hm 0 0 (by decide)];split
   . rfl
   . split
     . rfl
     . split
       . rfl
       . split
         . first|rfl|(simp only[Stp.mv,Yb,Ye])
         . rfl
def TK.nV:TK->Int
 |.nm n=>n
 |_=>0
def Plc:Nat->List Pc->List Tok->Prop
 |_,[],ts=>ts=[]
 |n,.b _::r,ts=>Plc (n+1) r ts
 |n,.t k::r,t::ts=>t.p=n/\(t.tx=k.tx/\t.n=k.nV)/\Plc (n+k.tx.length) r ts
 |_,.t _::_,[]=>False
theorem QjM:∀ (ps:List Pc),Qa8 ps->∀ (a:ZG) (n:Nat),(al ps).length<=n->((a=[]\/ao a (a.length-1)≠3)\/ao (al ps) 0≠2) ->
 ∃ ts:List Tok,evs (a++al ps) n a.length=ts.map .tok/\QbK ts (ak ps)/\Plc a.length ps ts
 |[],_,a,n,_,_=>by
  refine⟨[],?_,.nil,rfl⟩
  cases n with
  |zero=>rfl
  |succ n=>simp[evs,al]
 |.b c::r,hg,a,n,hn,hc=>by
  obtain⟨h1,h2⟩:=hg;rw[al]at hn hc ⊢
  cases n with
  |zero=>simp at hn
  |succ n =>
   have Z:ao (c::al r) 0=1:=by rcases h1 with rfl|rfl<;>rfl
   have hst:Qw (a++c::al r) a.length=.skip (a.length+1):=by
    rw[Qu3 hc];unfold Qw;rw[Z,Zr rfl]; rfl
   have e:a++c::al r=(a++[c])++al r:=by simp
   have hl:(a++[c]).length=a.length+1:=by simp
   obtain⟨ts,g1,g2,g3⟩:=QjM r h2 (a++[c]) n (by simpa using hn) (.inl (.inr (by
    have:=Qem (a:=a) (b:=[c]) (p:=0);rw[hl,Nat.add_sub_cancel,<- Yb a.length,this];rcases h1 with rfl|rfl<;>decide)))
   refine⟨ts,?_,g2,by rw[hl]at g3; exact g3⟩;rw[evs,Zr (by simp),hst];simp only;rw[e,<- hl];exact g1
 |.t k::r,hg,a,n,hn,hc=>by
  obtain⟨h1,h2,h3⟩:=hg;rw[al]at hn hc ⊢;have hkt:∃ t:Tok,Qw (k.tx++al r) 0=.tok t k.tx.length/\(QgR t k/\t.p=0/\t.tx=k.tx/\t.n=k.nV)/\0<k.tx.length/\((ao k.tx (k.tx.length-1)≠3)\/ao (al r) 0≠2):=by
   cases k with
   |wd s=>exact⟨_,QqV h1 h2,⟨⟨rfl,rfl⟩,rfl,rfl,rfl⟩,Yl.2 h1.1,.inr h2.1⟩
   |nm n=>exact⟨_,Qs1 h1 h2.2,⟨⟨rfl,rfl⟩,rfl,rfl,rfl⟩,Qit 18 n,.inr h2.1⟩
   |sg s =>
    refine⟨_,QpZ h1 h2,⟨⟨rfl,rfl⟩,rfl,rfl,rfl⟩,?_,.inl ?_⟩
    . rcases h1 with ⟨c,_,rfl⟩|hd
      . exact Nat.one_pos
      . simp only[QaO,Vd,Vu,Zw]at hd;rcases hd with rfl|rfl|rfl|rfl|rfl<;>decide
    . rcases h1 with ⟨c,hcs,rfl⟩|hd
      . simp only[Qgn,Vd,Vu,Zw]at hcs;rcases hcs with rfl|rfl|rfl|rfl|rfl|rfl|rfl|rfl|rfl|rfl|rfl|rfl|rfl|rfl|rfl<;>decide
      . simp only[QaO,Vd,Vu,Zw]at hd;rcases hd with rfl|rfl|rfl|rfl|rfl<;>decide
  obtain⟨t,ht,⟨hf,hp0,htx⟩,hp,hl⟩:=hkt
  cases n with
  |zero=>rw[Vj]at hn; omega
  |succ n =>
   have hst:Qw (a++(k.tx++al r)) a.length=.tok (t.mv a.length) (a.length+k.tx.length):=by
    rw[Qu3 hc,ht]; rfl
   have e:a++(k.tx++al r)=(a++k.tx)++al r:=by simp
   have hal:(a++k.tx).length=a.length+k.tx.length:=by simp
   obtain⟨ts,g1,g2,g3⟩:=QjM r h3 (a++k.tx) n (by rw[Vj]at hn; omega) (by
    rcases hl with hl|hl
    . refine .inl (.inr ?_);have:=Qem (a:=a) (b:=k.tx) (p:=k.tx.length-1);rw[hal,show a.length+k.tx.length-1=a.length+(k.tx.length-1)by omega,this];exact hl
    . exact .inr hl)
   refine⟨t.mv a.length::ts,?_,.cons ?_ g2,by show a.length+t.p=_; omega,htx,by rw[hal]at g3; exact g3⟩
   . rw[evs,Zr (by simp; omega),hst];simp only[Vl];rw[e,<- hal,g1]
   . cases k<;>exact hf
theorem QuP:∀ ts:List Tok,Q4 (ts.map .tok)=ts
 |[]=>rfl
 |t::r=>by simp[Q4,QuP r]
theorem Qtl {ps:List Pc} (hg:Qa8 ps) (hf:(QB (al ps)).2.1=0):QbK (QB (al ps)).1 (ak ps):=by
 obtain⟨ts,g1,g2,_⟩:=QjM ps hg [] (al ps).length (Vb _) (.inl (.inl rfl));have g1:QaA (al ps)=ts.map .tok:=g1;unfold QB at hf ⊢;split at hf
 . exact absurd hf (by decide)
 . rename_i h1;split at hf
   . rename_i h2;rw[Zq h1,Zr h2,g1,QuP]; exact g2
   . rename_i h2; exact absurd hf h2
theorem QyP {s:ZG} {cs:List Int} {i:Nat} (hi:ao s i∉cs):∀ k,k<=i->Q8 s cs (i-k)<=i:=by
 intro k
 induction k with
 |zero=>intro _; rw[Nat.sub_zero,Qju (λh=>hi h.2)]; exact Vb _
 |succ k ih =>
  intro hk;by_cases h:i-(k+1)<s.length/\ao s (i-(k+1))∈cs
  . rw[QnY h.1 h.2,show i-(k+1)+1=i-k by omega]; exact ih (by omega)
  . rw[Qju h]; omega
theorem QAA {s:ZG} {cs:List Int} (h:Q8 s cs 0=s.length) {i:Nat} (hi:i<s.length):ao s i∈cs:=by
 by_cases hc:ao s i∈cs
 . exact hc
 . have:=QyP hc i (Vb _);rw[Nat.sub_self]at this;omega
theorem Qya {s:ZG} (h:Qbs 1 s 0=0):QeH s:=by
 unfold Qbs at h;split at h
 . exact absurd h (by decide)
 . rename_i h0;have hne:s≠[]:=λe=>h0 (.inl e);have c1:ao s 0≠1:=λe=>h0 (.inr (.inr (.inr (.inl e))));have c5:s.getD 0 0≠35:=λe=>h0 (.inr (.inr (.inr (.inr e))));split at h
   . rename_i t q hst;split at h
     . exact absurd h (by decide)
     . rename_i hq;have hq1:q=s.length:=by
        by_cases e:q=s.length
        . exact e
        . exact absurd (.inl e) hq
       have hk:t.k=1:=by
        by_cases e:t.k=1
        . exact e
        . exact absurd (.inr e) hq
       unfold Qw at hst;rw[Zq c1]at hst;have key:∀ k q',QN s 0 k q'=.tok t q->t.k=k/\q=q'/\(whE s k (cut s 0 q') 0).1=0:=by
        intro k q' hm;unfold QN at hm;split at hm
        . cases hm
        . rename_i hw;injection hm with a b;refine⟨?_,b.symm,?_⟩
          . rw[<-a]
          . by_cases e:(whE s k (cut s 0 q') 0).1=0
            . exact e
            . exact absurd e hw
       split at hst
       . rename_i c2;obtain⟨_,k2,k3⟩:=key _ _ hst;have hr:Q8 s [2,3] 0=s.length:=by omega
         refine⟨hne,c2,λi hi=>by simpa using QAA hr hi,?_⟩;rw[hr]at k3;have hcut:cut s 0 s.length=s:=by simp[cut]
         rw[hcut]at k3;unfold whE at k3;split at k3
         . exact absurd k3 (show ¬ (11:Int)=0 by decide)
         . split at k3
           . exact absurd k3 (show ¬ (4:Int)=0 by decide)
           . rename_i h40; omega
       . split at hst
         . obtain⟨k1,_⟩:=key _ _ hst; omega
         . split at hst
           . obtain⟨k1,_⟩:=key _ _ hst; omega
           . first
             | (obtain⟨k1,_⟩:=key _ _ hst; omega)
             | (rw[Zq c5]at hst; obtain⟨k1,_⟩:=key _ _ hst; omega)
   . exact absurd h (by decide)
def Rem (c:Cx) (a:Nat) (L:List TK):Prop:=QbK (c.ts.drop a) L
theorem Rem.lt {c:Cx} {a:Nat} {k:TK} {L:List TK} (h:Rem c a (k::L)):∃ h:a<c.ts.length,QgR c.ts[a] k:=by
 unfold Rem at h;by_cases ha:a<c.ts.length
 . rw[VN ha]at h
   cases h with
   |cons h1 h2=>exact⟨ha,h1⟩
 . rw[VZ (by omega)]at h; cases h
theorem Rem.next {c:Cx} {a:Nat} {k:TK} {L:List TK} (h:Rem c a (k::L)):Rem c (a+1) L:=by
 obtain⟨ha,_⟩:=h.lt;unfold Rem at h ⊢;rw[VN ha]at h
 cases h with
 |cons h1 h2=>exact h2
theorem Rem.end {c:Cx} {a:Nat} (h:Rem c a []):c.ts.length<=a:=by
 by_cases ha:a<c.ts.length
 . unfold Rem at h;rw[VN ha]at h
   cases h
 . omega
def pk (L:List TK) (s:ZG):Bool:=match L with
 |.wd w::_=>decide (w=s)
 |.sg w::_=>decide (w=s)
 |_=>false
def Qdy (L:List TK):Bool:=match L with
 |.wd w::_ => !decide (w∈QaB)
 |_=>false
def isn (L:List TK):Bool:=match L with
 |.nm _::_=>true
 |_=>false
structure Sta (c:Cx) (d:Nat) (r:Rd) (L:List TK):Prop where
 e:r.e=0
 rem:Rem c r.a L
 v:r.v+d=40
 d:d<=40
theorem Sta.peek {c:Cx} {d:Nat} {r:Rd} {L:List TK} (h:Sta c d r L) (s:ZG):Qd c s r=pk L s:=by
 unfold Qd QbE;rw[h.e]
 cases L with
 |nil =>
  have:=h.rem.end;rw[dif_neg (by omega)]; rfl
 |cons k L =>
  obtain⟨ha,hf⟩:=h.rem.lt;rw[ZD ha]
  cases k with
  |wd w=>simp[pk,hf.1,hf.2]
  |sg w=>simp[pk,hf.1,hf.2]
  |nm n=>simp[pk,hf.1]
theorem Sta.free {c:Cx} {d:Nat} {r:Rd} {L:List TK} (h:Sta c d r L):QV c r=Qdy L:=by
 unfold QV QbE;rw[h.e]
 cases L with
 |nil =>
  have:=h.rem.end;rw[dif_neg (by omega)]; rfl
 |cons k L =>
  obtain⟨ha,hf⟩:=h.rem.lt;rw[ZD ha]
  cases k with
  |wd w=>simp[hf.1,hf.2,Qdy]
  |sg w=>simp[hf.1,Qdy]
  |nm n=>simp[hf.1,Qdy]
theorem Sta.num {c:Cx} {d:Nat} {r:Rd} {L:List TK} (h:Sta c d r L):Qbb c r=isn L:=by
 unfold Qbb QbE;rw[h.e]
 cases L with
 |nil =>
  have:=h.rem.end;rw[dif_neg (by omega)]; rfl
 |cons k L =>
  obtain⟨ha,hf⟩:=h.rem.lt;rw[ZD ha]
  cases k with
  |wd w=>simp[hf.1,isn]
  |sg w=>simp[hf.1,isn]
  |nm n=>simp[hf.1,isn]
theorem Sta.next {c:Cx} {d:Nat} {r:Rd} {k:TK} {L:List TK} (h:Sta c d r (k::L)):Sta c d (Qa r) L:=⟨h.e,h.rem.next,h.v,h.d⟩
theorem Sta.take {c:Cx} {d:Nat} {r:Rd} {k:TK} {L:List TK} {s:ZG} (h:Sta c d r (k::L)) (hk:pk (k::L) s=true):(Qj c s r).2=Qa r/\Sta c d (Qj c s r).2 L:=by
 have e:(Qj c s r).2=Qa r:=by unfold Qj; rw[h.peek,Zr hk]
 exact⟨e,e ▸ h.next⟩
theorem Sta.word {c:Cx} {d:Nat} {r:Rd} {w:ZG} {L:List TK} (h:Sta c d r (.wd w::L)) (hw:w∉QaB):QX c r=(w,Qa r)/\Sta c d (Qa r) L:=by
 refine⟨?_,h.next⟩
 obtain⟨ha,hf⟩:=h.rem.lt;unfold QX;rw[Zr (by rw[h.free]; simpa[Qdy]using hw),Vy,Ve ha];simp[hf.2]
theorem Sta.numb {c:Cx} {d:Nat} {r:Rd} {n:Nat} {L:List TK} (h:Sta c d r (.nm n::L)):nmR c r=((n:Int),Qa r)/\Sta c d (Qa r) L:=by
 refine⟨?_,h.next⟩
 obtain⟨ha,hf⟩:=h.rem.lt;unfold nmR;rw[Zr (by rw[h.num]; rfl),Vy,Ve ha];simp[hf.2]
mutual
def Ex.er:Ex->Ex
 |.mk op n nm l _=>.mk op n nm (Ex.erL l) 0
def Ex.erL:List Ex->List Ex
 |[]=>[]
 |e::r=>e.er::Ex.erL r
end
theorem ne5 {x:Int} (h:x=5):x≠0:=by omega
def Qr (c:Cx) (d:Nat) (F:Rd->Ex×Rd) (l:List TK) (e:Ex) (st:List TK->Prop):Prop :=
 ∀ r L,Sta c d r (l++L)->st L->(F r).2.e=5\/(Sta c d (F r).2 L/\(F r).1.er=e.er)
def Qay (aa:List (ZG×Int)) (L:List TK):Prop:=∀ o∈aa,pk L o.1=false
theorem QzD {c:Cx} {aa:List (ZG×Int)} {r:Rd} (h:∀ o∈aa,Qd c o.1 r=false):QaH c aa r=none:=by
 unfold QaH;rw[Option.map_eq_none_iff,Y9];intro o ho; rw[h o ho]; decide
theorem Sta.none {c:Cx} {d:Nat} {r:Rd} {L:List TK} {aa:List (ZG×Int)} (h:Sta c d r L) (hn:Qay aa L):QaH c aa r=none:=QzD λo ho=>by rw[h.peek]; exact hn o ho
theorem Sta.some {c:Cx} {d:Nat} {r:Rd} {k:TK} {L:List TK} {aa:List (ZG×Int)} {s:ZG} {op:Int} (h:Sta c d r (k::L)) (hk:k=.sg s\/k=.wd s) (hf:(aa.find? λo=>decide (s=o.1)).map (·.2)=.some op):QaH c aa r=.some op:=by
 unfold QaH;have e:(λo:ZG×Int=>Qd c o.1 r)=λo=>decide (s=o.1):=by
  funext o;rw[h.peek];rcases hk with rfl|rfl<;>rfl
 rw[e]; exact hf
theorem QfO {c:Cx} {aa:List (ZG×Int)} {f:Rd->Ex×Rd} {e:Ex} {r:Rd} (h:QaH c aa r=.none) (n:Nat):Qa4 c aa f n e r=(e,r):=by
 cases n with
 |zero=>rfl
 |succ n=>rw[Qa4,h]
section
variable {c:Cx} {d:Nat} {F:Rd->Ex×Rd} {l la lb:List TK} {e a b:Ex} {st sa sb:List TK->Prop} {aa:List (ZG×Int)}
theorem Qr.pass (h:Qr c d F l e st):Qr c d (Q0 c aa F) l e (λL=>st L/\Qay aa L):=by
 intro r L hs ⟨h1,h2⟩;unfold Q0;rcases h r L hs h1 with hb|⟨hg,he⟩
 . rw[QfO (Qfz (ne5 hb) _)]; exact .inl hb
 . rw[QfO (hg.none h2)]; exact .inr ⟨hg,he⟩
theorem Qr.op {k:TK} {s:ZG} {op:Int} (hst:QJ F) (ha:Qr c d F la a sa) (hb:Qr c d F lb b sb) (hk:k=.sg s\/k=.wd s) (hf:(aa.find? λo=>decide (s=o.1)).map (·.2)=.some op) (hs:∀ L,sa (k::L)) :
 Qr c d (Q0 c aa F) (la++k::lb) (.mk op 0 [] [a,b] 0) (λL=>sb L/\Qay aa L):=by
 intro r L h ⟨h1,h2⟩;unfold Q0;rw[Vr]at h;rcases ha r _ h (hs _)with hb1|⟨hg,he⟩
 . rw[QfO (Qfz (ne5 hb1) _)]; exact .inl hb1
 . have hpos:0<c.ts.length:=by obtain⟨hh,_⟩:=hg.rem.lt; omega
   obtain⟨n,hn⟩:∃ n,c.ts.length=n+1:=⟨c.ts.length-1,by omega⟩;rw[hn,Qa4,hg.some hk hf];simp only;rcases hb _ L hg.next h1 with hb2|⟨hg2,ah⟩
   . rw[QfO (Qfz (ne5 hb2) _)]; exact .inl hb2
   . rw[QfO (hg2.none h2)];refine .inr ⟨hg2,?_⟩;simp only[Ex.er,Ex.erL,he,ah]
theorem Qr.cpass (h:Qr c d F l e st):Qr c d (Qaz c F) l e (λL=>st L/\Qay QaJ L):=by
 intro r L hs ⟨h1,h2⟩;unfold Qaz;rcases h r L hs h1 with hb|⟨hg,he⟩
 . rw[Qfz (ne5 hb) _]; exact .inl hb
 . rw[hg.none h2]; exact .inr ⟨hg,he⟩
theorem Qr.cop {k:TK} {s:ZG} {op:Int} (ha:Qr c d F la a sa) (hb:Qr c d F lb b sb) (hk:k=.sg s\/k=.wd s) (hf:(QaJ.find? λo=>decide (s=o.1)).map (·.2)=.some op) (hs:∀ L,sa (k::L)) :
 Qr c d (Qaz c F) (la++k::lb) (.mk op 0 [] [a,b] 0) sb:=by
 intro r L h h1;unfold Qaz;rw[Vr]at h;rcases ha r _ h (hs _)with hb1|⟨hg,he⟩
 . rw[Qfz (ne5 hb1) _]; exact .inl hb1
 . rw[hg.some hk hf];simp only;rcases hb _ L hg.next h1 with hb2|⟨hg2,ah⟩
   . exact .inl hb2
   . refine .inr ⟨hg2,?_⟩;simp only[Ex.er,Ex.erL,he,ah]
end
section
variable {c:Cx} {d:Nat}
theorem Qmd {r:Rd} {L:List TK} {k:TK} {s:ZG} (h:Sta c 0 r (k::L)) (hk:pk (k::L) s=true):(QA c s r).2.e=5:=by
 have hv:r.v=40:=by have:=h.v; omega
 unfold QA;rw[h.peek,Zr ⟨hk,hv⟩];have hb:(av (Qg c 5 r)).e=5:=by
  unfold Qg av;rw[Zr h.e]
 rw[Qe0 s _ (ne5 hb)]; exact hb
theorem QjR {r:Rd} {L:List TK} {k:TK} {s:ZG} (h:Sta c (d+1) r (k::L)) (hk:pk (k::L) s=true):Sta c d (QA c s r).2 L:=by
 have hv:=h.v;have hd:=h.d;unfold QA;rw[h.peek,Zq (by rintro⟨_,h2⟩; omega)];have hw:IntKind.i64.wrap (r.v+1)=r.v+1:=Qam (by omega) (by omega);have hu:Sta c d (av r) (k::L):=⟨h.e,h.rem,by show IntKind.i64.wrap (r.v+1)+(d:Int)=40; rw[hw]; omega,by omega⟩;exact(hu.take hk).2
theorem Qi7 {r:Rd} {L:List TK} (h:Sta c d r L) (hd:d+1<=40):Sta c (d+1) (dnR r) L:=by
 have hv:=h.v;have hw:IntKind.i64.wrap (r.v-1)=r.v-1:=Qam (by omega) (by omega);exact⟨h.e,h.rem,by show IntKind.i64.wrap (r.v-1)+((d+1:Nat):Int)=40; rw[hw]; omega,hd⟩
theorem QnD (r:Rd):(dnR r).e=r.e:=rfl
variable {cmp ntP orP facP:Rd->Ex×Rd} {l la:List TK} {e a:Ex} {st sa:List TK->Prop}
theorem Qr.npass (h:Qr c d cmp l e st) (hn:∀ L,pk (l++L) [110,111,116]=false):Qr c d (Qal c cmp ntP) l e st:=by
 intro r L hs h1;unfold Qal;rw[hs.peek,Zq (by rw[hn L]; decide)];exact h r L hs h1
theorem Qr.nop (ha:Qr c d ntP la a sa):Qr c (d+1) (Qal c cmp ntP) (.wd [110,111,116]::la) (.mk 4 0 [] [a] 0) sa:=by
 intro r L hs h1;have ho:=QjR (s:=[110,111,116]) hs rfl;unfold Qal;have hp:Qd c [110,111,116] r=true:=by rw[hs.peek]; rfl
 rw[Zr hp,Zq (λh=>h ho.e)];rcases ha _ L ho h1 with hb|⟨hg,he⟩
 . exact .inl hb
 . exact .inr ⟨Qi7 hg hs.d,by simp only[Ex.er,Ex.erL,he]⟩
theorem Qr.nop0 {sa:List TK->Prop}:Qr c 0 (Qal c cmp ntP) (.wd [110,111,116]::la) e sa:=by
 intro r L hs h1;have ho:=Qmd (s:=[110,111,116]) hs rfl;unfold Qal;have hp:Qd c [110,111,116] r=true:=by rw[hs.peek]; rfl
 rw[Zr hp,Zr (ne5 ho)];exact .inl ho
theorem Qr.name {w:ZG} (hw:w∉QaB):Qr c d (QC c orP facP) [.wd w] (.mk 2 0 w [] 0) (λ_=>True):=by
 intro r L hs _;have hs:Sta c d r (.wd w::L):=hs;unfold QC;rw[Zq (λh=>h hs.e),Zr (by rw[hs.free]; simpa[Qdy]using hw)];obtain⟨h1,h2⟩:=hs.word hw;rw[h1];exact .inr ⟨h2,by simp only[Ex.er,Ex.erL]⟩
theorem Qr.neg (ha:Qr c d facP la a sa):Qr c (d+1) (QC c orP facP) (.sg [45]::la) (.mk 3 0 [] [a] 0) sa:=by
 intro r L hs h1;have ho:=QjR (s:=[45]) hs rfl;unfold QC;have hp:Qd c [45] r=true:=by rw[hs.peek]; rfl
 have hf:QV c r=false:=by rw[hs.free]; rfl
 rw[Zq (λh=>h hs.e),Zq (by rw[hf]; decide),Zr hp,Zq (λh=>h ho.e)];rcases ha _ L ho h1 with hb|⟨hg,he⟩
 . exact .inl hb
 . exact .inr ⟨Qi7 hg hs.d,by simp only[Ex.er,Ex.erL,he]⟩
theorem Qr.neg0 {sa:List TK->Prop}:Qr c 0 (QC c orP facP) (.sg [45]::la) e sa:=by
 intro r L hs h1;have ho:=Qmd (s:=[45]) hs rfl;unfold QC;have hp:Qd c [45] r=true:=by rw[hs.peek]; rfl
 have hf:QV c r=false:=by rw[hs.free]; rfl
 rw[Zq (λh=>h hs.e),Zq (by rw[hf]; decide),Zr hp,Zr (ne5 ho)];exact .inl ho
theorem Qr.par (ha:Qr c d orP la a sa) (hs:∀ L,sa (.sg [41]::L)):Qr c (d+1) (QC c orP facP) (.sg [40]::(la++[.sg [41]])) a (λ_=>True):=by
 intro r L h _;have ho:=QjR (s:=[40]) h rfl;unfold QC;have hp:Qd c [45] r=false:=by rw[h.peek]; rfl
 have hp2:Qd c [40] r=true:=by rw[h.peek]; rfl
 have hf:QV c r=false:=by rw[h.free]; rfl
 rw[Zq (λh2=>h2 h.e),Zq (by rw[hf]; decide),Zq (by rw[hp]; decide),Zr hp2,Zq (λh2=>h2 ho.e)];have ho:Sta c d (QA c [40] r).2 (la++(.sg [41]::L)):=by have:=ho; rwa [show(la++[TK.sg [41]]).append L=la++(.sg [41]::L)from Vr ..]at this
 rcases ha _ _ ho (hs _)with hb|⟨hg,he⟩
 . refine .inl ?_;rw[Qe0 _ _ (ne5 hb),QnD]; exact hb
 . exact .inr ⟨Qi7 (hg.take rfl).2 h.d,he⟩
theorem Qr.par0:Qr c 0 (QC c orP facP) (.sg [40]::l) a st:=by
 intro r L h _;have ho:=Qmd (s:=[40]) h rfl;unfold QC;have hp:Qd c [45] r=false:=by rw[h.peek]; rfl
 have hp2:Qd c [40] r=true:=by rw[h.peek]; rfl
 have hf:QV c r=false:=by rw[h.free]; rfl
 rw[Zq (λh2=>h2 h.e),Zq (by rw[hf]; decide),Zq (by rw[hp]; decide),Zr hp2,Zr (ne5 ho)];exact .inl ho
theorem Qr.num {n:Nat}:Qr c d (QC c orP facP) [.nm n] (.mk 1 n [] [] 0) (λ_=>True):=by
 intro r L hs _;have hs:Sta c d r (.nm n::L):=hs;have hfd:Qan.find? (λw=>Qd c w.1 r)=none:=by
  rw[Y9];intro w _; rw[hs.peek]; exact Bool.false_ne_true
 unfold QC;have hp:Qd c [45] r=false:=by rw[hs.peek]; rfl
 have hp2:Qd c [40] r=false:=by rw[hs.peek]; rfl
 have hf:QV c r=false:=by rw[hs.free]; rfl
 rw[Zq (λh2=>h2 hs.e),Zq (by rw[hf]; decide),Zq (by rw[hp]; decide),Zq (by rw[hp2]; decide),hfd];obtain⟨h1,h2⟩:=hs.numb;rw[h1];exact .inr ⟨h2,by simp only[Ex.er,Ex.erL]⟩
def cms:List (List TK)->List TK
 |[]=>[]
 |x::r=>.sg [44]::(x++cms r)
theorem Qpf {m:Nat}:∀ {acc:List Ex} {r:Rd},r.e=5->(QP c orP m acc r).2.e=5:=by
 cases m with
 |zero=>intro acc r h; exact h
 |succ m =>
  intro acc r h;have ht:(Qj c [44] r).2.e=5:=by rw[Qe0 _ r (ne5 h)]; exact h
  rw[QP,Zr (ne5 ht)];exact ht
theorem Qr1 (hst:QJ orP):∀ (xs:List (List TK)) (es:List Ex),xs.length=es.length->(∀ i (h1:i<xs.length) (h2:i<es.length),Qr c d orP xs[i] es[i] sa)->(∀ L,sa (.sg [41]::L))->(∀ L,sa (.sg [44]::L)) ->
 ∀ (acc:List Ex) (r:Rd) (L:List TK),Sta c d r (cms xs++.sg [41]::L) ->
  (QP c orP xs.length acc r).2.e=5\/∃ l,(QP c orP xs.length acc r).1=some (acc++l)/\Sta c d (QP c orP xs.length acc r).2 (.sg [41]::L)/\Ex.erL l=Ex.erL es
 |[],[],_,_,_,_,acc,r,L,h=>by
  refine .inr ⟨[],?_,h,rfl⟩;simp[QP]
 |x::xs,e::es,hl,hr,h1,h2,acc,r,L,h=>by
  obtain⟨ht1,ht⟩:=Sta.take (k:=.sg [44]) (s:=[44]) (L:=x++(cms xs++.sg [41]::L)) (by simpa[cms]using h) rfl;rw[Vh,QP,Zq (λh=>h ht.e)];have hnx:∀ xs:List (List TK),∀ L,sa (cms xs++.sg [41]::L):=by
   intro xs L
   cases xs with
   |nil=>exact h1 _
   |cons y ys=>exact h2 _
  rcases hr 0 (by simp) (by simp) _ _ ht (hnx xs L)with hb|⟨hg,he⟩
  . exact .inl (Qpf hb)
  . rcases Qr1 hst xs es (by simpa using hl) (λi a b=>hr (i+1) (by simpa using a) (by simpa using b)) h1 h2 (acc++[(orP (Qj c [44] r).2).1]) _ L hg with hb|⟨l,g1,g2,g3⟩
    . exact .inl hb
    . refine .inr ⟨(orP (Qj c [44] r).2).1::l,?_,g2,?_⟩
      . rw[g1]; simp
      . simp only[Ex.erL,g3];rw[he]; rfl
theorem Qr.call {w:ZG} {op:Int} {x:List TK} {xs:List (List TK)} {es:List Ex} (hst:QJ orP) (hw:(w,op,xs.length)∈Qan) (ha:Qr c d orP x a sa) (hl:xs.length=es.length)
 (hr:∀ i (h1:i<xs.length) (h2:i<es.length),Qr c d orP xs[i] es[i] sa) (h1:∀ L,sa (.sg [41]::L)) (h2:∀ L,sa (.sg [44]::L)) :
 Qr c (d+1) (QC c orP facP) (.wd w::.sg [40]::(x++cms xs++[.sg [41]])) (.mk op 0 [] (a::es) 0) (λ_=>True):=by
 intro r L h _;have h:Sta c (d+1) r (.wd w::.sg [40]::(x++(cms xs++.sg [41]::L))):=by simpa using h
 have hwr:w∈QaB/\w≠[45]/\w≠[40]/\Qan.find? (λv=>decide (w=v.1))=some (w,op,xs.length):=by
  generalize xs.length=m at hw;simp only[Qan,Vd,Vu,Zw,Prod.mk.injEq]at hw;rcases hw with ⟨rfl,rfl,rfl⟩|⟨rfl,rfl,rfl⟩|⟨rfl,rfl,rfl⟩<;>decide
 obtain⟨k1,k2,k3,k4⟩:=hwr;have hfd:Qan.find? (λv=>Qd c v.1 r)=some (w,op,xs.length):=by
  have e:(λv:ZG×Int×Nat=>Qd c v.1 r)=λv=>decide (w=v.1):=by funext v; rw[h.peek]; rfl
  rw[e]; exact k4
 unfold QC;rw[Zq (λh2=>h2 h.e),Zq (by rw[h.free]; simpa[Qdy]using k1),h.peek,h.peek,Zq (by simp[pk,k2]),Zq (by simp[pk,k3]),hfd];simp only;unfold Qcm;simp only;have ht:=(h.take (s:=w) (by simp[pk])).2;have ho:=QjR (s:=[40]) ht rfl;rw[Zq (λh=>h ho.e)];generalize (QA c [40] (Qj c w r).2).2=r2 at ho ⊢;have hnx:sa (cms xs++.sg [41]::L):=by
  cases xs with
  |nil=>exact h1 _
  |cons y ys=>exact h2 _
 rcases ha r2 _ ho hnx with hb|⟨hg,he⟩
 . have hb2:=Qpf (c:=c) (orP:=orP) (m:=xs.length) (acc:=[(orP r2).1]) hb;split
   . rename_i r3 hq; rw[hq]at hb2; exact .inl hb2
   . rename_i l r3 hq;rw[hq]at hb2;refine .inl ?_;rw[Qe0 _ _ (ne5 hb2),QnD]; exact hb2
 . rcases Qr1 hst xs es hl hr h1 h2 [(orP r2).1] _ L hg with hb2|⟨l,g1,g2,g3⟩
   . split
     . rename_i r3 hq; rw[hq]at hb2; exact .inl hb2
     . rename_i l r3 hq;rw[hq]at hb2;refine .inl ?_;rw[Qe0 _ _ (ne5 hb2),QnD]; exact hb2
   . split
     . rename_i r3 hq; rw[hq]at g1; cases g1
     . rename_i l' r3 hq;rw[hq]at g1 g2;obtain rfl:=Option.some.inj g1;refine .inr ⟨Qi7 (g2.take rfl).2 h.d,?_⟩;simp only[Ex.er,Vv,VG,Ex.erL,he,g3]
theorem Qr.call0 {w:ZG} {op:Int} {m:Nat} {x:List TK} {sa:List TK->Prop} (hw:(w,op,m)∈Qan):Qr c 0 (QC c orP facP) (.wd w::.sg [40]::x) e sa:=by
 intro r L h _;have h:Sta c 0 r (.wd w::.sg [40]::(x++L)):=by simpa using h
 have hwr:w∈QaB/\w≠[45]/\w≠[40]/\Qan.find? (λv=>decide (w=v.1))=some (w,op,m):=by
  simp only[Qan,Vd,Vu,Zw,Prod.mk.injEq]at hw;rcases hw with ⟨rfl,rfl,rfl⟩|⟨rfl,rfl,rfl⟩|⟨rfl,rfl,rfl⟩<;>decide
 obtain⟨k1,k2,k3,k4⟩:=hwr;have hfd:Qan.find? (λv=>Qd c v.1 r)=some (w,op,m):=by
  have e:(λv:ZG×Int×Nat=>Qd c v.1 r)=λv=>decide (w=v.1):=by funext v; rw[h.peek]; rfl
  rw[e]; exact k4
 unfold QC;rw[Zq (λh2=>h2 h.e),Zq (by rw[h.free]; simpa[Qdy]using k1),h.peek,h.peek,Zq (by simp[pk,k2]),Zq (by simp[pk,k3]),hfd];simp only;unfold Qcm;simp only;have ht:=(h.take (s:=w) (by simp[pk])).2;have ho:=Qmd (s:=[40]) ht rfl;rw[Zr (ne5 ho)];exact .inl ho
end
def Qdx (op:Int):ZG:=if op=18 then [109,105,110]else if op=19 then [109,97,120]else [105,102]
def Qja:ZF:=[[42],[47],[37],[43],[45],[61,61],[33,61],[60],[60,61],[62],[62,61],[97,110,100],[111,114]]
def Qbt (op:Int):TK:=if op=16\/op=17 then .wd (Qja.getD (op-5).toNat [])else .sg (Qja.getD (op-5).toNat [])
def opP (x:Int×List Pc):List Pc:=if x.1=1\/x.1=2\/18<=x.1 then x.2 else .t (.sg [40])::(x.2++[.t (.sg [41])])
theorem Qg8 {k:Int} {x:List Pc} (h:k=1\/k=2\/18<=k):opP (k,x)=x:=Zr h
theorem Qi5 {k:Int} {x:List Pc} (h:¬ (k=1\/k=2\/18<=k)):opP (k,x)=.t (.sg [40])::(x++[.t (.sg [41])]):=Zq h
def lsP:List (Int×List Pc)->List Pc
 |[]=>[]
 |x::r=>x.2++r.flatMap λy=>.t (.sg [44])::.b 32::y.2
def ndP (l:List (Int×List Pc)) (i:Nat):List Pc:=match l[i]? with
 |some x=>opP x
 |none=>[]
def shK (op n:Int) (nm:ZG) (ts:List (Int×List Pc)):List Pc :=
 if op=1 then [.t (.nm n.toNat)]else if op=2 then [.t (.wd nm)]else if op=3 then .t (.sg [45])::.b 32::ndP ts 0 else if op=4 then .t (.wd [110,111,116])::.b 32::ndP ts 0
 else if 18<=op then .t (.wd (Qdx op))::.t (.sg [40])::(lsP ts++[.t (.sg [41])])else ndP ts 0++.b 32::.t (Qbt op)::.b 32::ndP ts 1
mutual
def aq:Ex->List Pc
 |.mk op n nm l _=>shK op n nm (shL l)
def shL:List Ex->List (Int×List Pc)
 |[]=>[]
 |e::r=>(e.op,aq e)::shL r
end
mutual
def QaG:Ex->Bool
 |.mk op n nm l _=>decide ((l.length:Int)=opN op)&&((decide (op=1)||decide (n=0))&&((decide (op=2)||decide (nm=[]))&&((!decide (op=2)||QaR nm)&&(decide (0<=n)&&(decide (n<=1000000000)&&Qai l)))))
def Qai:List Ex->Bool
 |[]=>true
 |e::r=>QaG e&&Qai r
end
theorem QcJ {op n p:Int} {nm:ZG} {l:List Ex}:QaG (.mk op n nm l p)=true↔(l.length:Int)=opN op/\(op=1\/n=0)/\(op=2\/nm=[])/\(op≠2\/QaR nm=true)/\0<=n/\n<=1000000000/\Qai l=true:=by
 rw[QaG];simp only[Va,V6,Zs,VL,ZB,ne_eq]
theorem Qic {s:ZG} (h:QaR s=true):QeH s/\s∉QaB:=by
 unfold QaR at h;simp only[Va,Zs,VL,ZB]at h;exact⟨Qya h.1,h.2⟩
theorem QgX {op:Int} {n:Nat} (h:(n:Int)=opN op):1<=op/\op<=20:=by
 unfold opN at h;split at h
 . omega
 . split at h
   . omega
   . split at h
     . omega
     . split at h<;>omega
def Qfx (L:List TK):Prop:=Qay QaV L/\Qay QaZ L/\Qay QaJ L/\Qay QaU L/\Qay orO L
section
variable {c:Cx}
theorem Qr.mono {d:Nat} {F:Rd->Ex×Rd} {l:List TK} {e:Ex} {st st':List TK->Prop} (h:Qr c d F l e st) (hs:∀ L,st' L->st L):Qr c d F l e st':=λr L h1 h2=>h r L h1 (hs L h2)
theorem Qr.as {d:Nat} {F:Rd->Ex×Rd} {l:List TK} {e e':Ex} {st:List TK->Prop} (h:Qr c d F l e st) (he:e.er=e'.er):Qr c d F l e' st:=λr L h1 h2=>by
 rw[<-he]; exact h r L h1 h2
def l1 (c:Cx) (d:Nat):Rd->Ex×Rd:=Q0 c QaV (lv c d).fac
def l2 (c:Cx) (d:Nat):Rd->Ex×Rd:=Q0 c QaZ (l1 c d)
def l3 (c:Cx) (d:Nat):Rd->Ex×Rd:=Qaz c (l2 c d)
def l5 (c:Cx) (d:Nat):Rd->Ex×Rd:=Q0 c QaU (lv c d).nt
theorem QrW (d:Nat):∃ N,(lv c d).nt=Qal c (l3 c d) N:=by
 cases d with
 |zero=>exact⟨_,rfl⟩
 |succ d=>exact⟨_,rfl⟩
theorem Qiy (d:Nat):QJ (lv c d).fac:=by
 cases d with
 |zero=>exact Qj3
 |succ d=>exact Qj3
theorem QoN (d:Nat):QJ (l1 c d):=Qe2 (Qiy d)
theorem QEu (d:Nat):QJ (l2 c d):=Qe2 (QoN d)
theorem Qsz (d:Nat):QJ (lv c d).nt:=by
 obtain⟨N,h⟩:=QrW (c:=c) d;rw[h]; exact Qno (Qn1 (QEu d))
theorem Qv1 (d:Nat):QJ (l5 c d):=Qe2 (Qsz d)
section
variable {d:Nat} {l:List TK} {e:Ex}
abbrev any (_:List TK):Prop:=True
theorem up1 (h:Qr c d (lv c d).fac l e any):Qr c d (l1 c d) l e (Qay QaV):=h.pass.mono λ_ h=>⟨trivial,h⟩
theorem up2 {st:List TK->Prop} (h:Qr c d (l1 c d) l e st):Qr c d (l2 c d) l e (λL=>st L/\Qay QaZ L):=h.pass
theorem up3 {st:List TK->Prop} (h:Qr c d (l2 c d) l e st):Qr c d (l3 c d) l e (λL=>st L/\Qay QaJ L):=h.cpass
theorem up4 {st:List TK->Prop} (h:Qr c d (l3 c d) l e st) (hn:∀ L,pk (l++L) [110,111,116]=false):Qr c d (lv c d).nt l e st:=by
 obtain⟨N,hN⟩:=QrW (c:=c) d;rw[hN]; exact h.npass hn
theorem up6 {st:List TK->Prop} (h:Qr c d (lv c d).nt l e st):Qr c d (QaT c (lv c d)) l e (λL=>(st L/\Qay QaU L)/\Qay orO L):=h.pass.pass
theorem topF (h:Qr c d (lv c d).fac l e any) (hn:∀ L,pk (l++L) [110,111,116]=false):Qr c d (QaT c (lv c d)) l e Qfx :=
 (up6 (up4 (up3 (up2 (up1 h))) hn)).mono λ_ ⟨h1,h2,h3,h4,h5⟩=>⟨⟨⟨⟨h1,h2⟩,h3⟩,h4⟩,h5⟩
end
theorem QaX {aa:List (ZG×Int)} {k:TK} {s:ZG} (hk:k=.sg s\/k=.wd s) (h:(aa.all λo=>decide (s≠o.1))=true) (L:List TK):Qay aa (k::L):=by
 intro o ho;have h2:=Vi.1 h o ho;simp only[ne_eq,decide_not,VL,ZB]at h2;rcases hk with rfl|rfl<;>simp[pk,h2]
theorem Qjc {e:Ex} (h:QaG e=true) (L:List TK):pk (ak (opP (e.op,aq e))++L) [110,111,116]=false:=by
 obtain⟨op,n,nm,l,p⟩:=e;obtain⟨h1,h2,h3,h4,h5,h6,h7⟩:=QcJ.1 h;have hr:=QgX h1;show pk (ak (opP (op,aq (.mk op n nm l p)))++L) [110,111,116]=false;by_cases ha:op=1\/op=2\/18<=op
 . rw[Qg8 ha];simp only[aq];by_cases e1:op=1
   . rw[shK,Zr e1]; rfl
   . by_cases e2:op=2
     . rw[shK,Zq e1,Zr e2];have hw:=(Qic (h4.resolve_left (λh=>h e2))).2;have:nm≠[110,111,116]:=λe=>hw (by rw[e]; decide);simp[ak,pk,this]
     . rw[shK,Zq e1,Zq e2,Zq (by omega),Zq (by omega),Zr (by omega)];have:Qdx op≠[110,111,116]:=by unfold Qdx; split<;>(try split)<;>decide
       simp[ak,pk,this]
 . rw[Qi5 ha]; rfl
theorem Qo8:∀ ts:List (Int×List Pc),ak (ts.flatMap λy=>.t (.sg [44])::.b 32::y.2)=cms (ts.map λy=>ak y.2)
 |[]=>rfl
 |x::r=>by simp[ak,QaL,cms,Qo8 r]
theorem Qku:∀ l:List Ex,(shL l).length=l.length
 |[]=>rfl
 |e::r=>by simp[shL,Qku r]
theorem Qs3:∀ {l:List Ex} {i:Nat} (h:i<l.length),(shL l)[i]? = some (l[i].op,aq l[i])
 |e::r,0,_=>by simp[shL]
 |e::r,i+1,h=>by
  simp only[shL,YD,List.getElem_cons_succ];exact Qs3 (by simpa using h)
def Qhy (c:Cx) (e:Ex):Prop:=∀ d,Qr c d (lv c d).fac (ak (opP (e.op,aq e))) e any/\Qr c d (QaT c (lv c d)) (ak (aq e)) e Qfx
theorem Qvw {e:Ex} (hf:QaG e=true) (ho:∀ d,Qr c d (QaT c (lv c d)) (ak (aq e)) e Qfx) (ha:e.op=1\/e.op=2\/18<=e.op->∀ d,Qr c d (lv c d).fac (ak (aq e)) e any) (d:Nat):Qr c d (lv c d).fac (ak (opP (e.op,aq e))) e any:=by
 by_cases h:e.op=1\/e.op=2\/18<=e.op
 . rw[Qg8 h]; exact ha h d
 . rw[Qi5 h];have e1:ak (.t (.sg [40])::(aq e++[.t (.sg [41])]))=.sg [40]::(ak (aq e)++[.sg [41]]):=by simp[ak,QaL]
   rw[e1]
   cases d with
   |zero=>exact Qr.par0
   |succ d=>exact Qr.par (ho d) λL=>⟨QaX (.inl rfl) (by decide) L,QaX (.inl rfl) (by decide) L,QaX (.inl rfl) (by decide) L,QaX (.inl rfl) (by decide) L,QaX (.inl rfl) (by decide) L⟩
theorem QAT {op:Int} {a b:Ex} (h1:5<=op) (h2:op<=17) (ha:Qhy c a) (hb:Qhy c b) (fa:QaG a=true) (fb:QaG b=true) (d:Nat) :
 Qr c d (QaT c (lv c d)) (ak (opP (a.op,aq a))++Qbt op::ak (opP (b.op,aq b))) (.mk op 0 [] [a,b] 0) Qfx:=by
 have na:∀ X L,pk (ak (opP (a.op,aq a))++X++L) [110,111,116]=false:=λX L=>by rw[Vr]; exact Qjc fa _
 have na0:=Qjc fa;have nb0:=Qjc fb;have A:=(ha d).1;have B:=(hb d).1;generalize ak (opP (a.op,aq a))=la at *;generalize ak (opP (b.op,aq b))=lb at *;have hc:op=5\/op=6\/op=7\/op=8\/op=9\/(10<=op/\op<=15)\/op=16\/op=17:=by omega
 have A1:=up1 A;have B1:=up1 B;have A2:=up2 A1;have B2:=up2 B1;have A4:=up4 (up3 A2) na0;have B4:=up4 (up3 B2) nb0;have fin:∀ {st:List TK->Prop} {e:Ex},Qr c d (l3 c d) (la++Qbt op::lb) e st->(∀ L,Qfx L->st L)->Qr c d (QaT c (lv c d)) (la++Qbt op::lb) e Qfx:=λh hs =>
  (up6 (up4 h (na _))).mono λL hL=>⟨⟨hs L hL,hL.2.2.2.1⟩,hL.2.2.2.2⟩
 rcases hc with rfl|rfl|rfl|rfl|rfl|⟨h3,h4⟩|rfl|rfl
 . exact fin (up3 (up2 (Qr.op (Qiy d) A B (k:=Qbt 5) (s:=[42]) (.inl rfl) (by decide) λ_=>trivial))) λL hL=>⟨⟨⟨trivial,hL.1⟩,hL.2.1⟩,hL.2.2.1⟩
 . exact fin (up3 (up2 (Qr.op (Qiy d) A B (k:=Qbt 6) (s:=[47]) (.inl rfl) (by decide) λ_=>trivial))) λL hL=>⟨⟨⟨trivial,hL.1⟩,hL.2.1⟩,hL.2.2.1⟩
 . exact fin (up3 (up2 (Qr.op (Qiy d) A B (k:=Qbt 7) (s:=[37]) (.inl rfl) (by decide) λ_=>trivial))) λL hL=>⟨⟨⟨trivial,hL.1⟩,hL.2.1⟩,hL.2.2.1⟩
 . exact fin (up3 (Qr.op (QoN d) A1 B1 (k:=Qbt 8) (s:=[43]) (.inl rfl) (by decide) λL=>QaX (s:=[43]) (.inl rfl) (by decide) L)) λL hL=>⟨⟨hL.1,hL.2.1⟩,hL.2.2.1⟩
 . exact fin (up3 (Qr.op (QoN d) A1 B1 (k:=Qbt 9) (s:=[45]) (.inl rfl) (by decide) λL=>QaX (s:=[45]) (.inl rfl) (by decide) L)) λL hL=>⟨⟨hL.1,hL.2.1⟩,hL.2.2.1⟩
 . have hk:∃ s,Qbt op=.sg s/\(QaJ.find? λo=>decide (s=o.1)).map (·.2)=some op/\(QaV.all λo=>decide (s≠o.1))=true/\(QaZ.all λo=>decide (s≠o.1))=true:=by
    have:op=10\/op=11\/op=12\/op=13\/op=14\/op=15:=by omega
    rcases this with rfl|rfl|rfl|rfl|rfl|rfl
    . exact⟨[61,61],rfl,by decide,by decide,by decide⟩
    . exact⟨[33,61],rfl,by decide,by decide,by decide⟩
    . exact⟨[60],rfl,by decide,by decide,by decide⟩
    . exact⟨[60,61],rfl,by decide,by decide,by decide⟩
    . exact⟨[62],rfl,by decide,by decide,by decide⟩
    . exact⟨[62,61],rfl,by decide,by decide,by decide⟩
   obtain⟨s,k1,k2,k3,k4⟩:=hk;refine fin (Qr.cop A2 B2 (k:=Qbt op) (s:=s) (.inl k1) k2 λL=>⟨QaX (.inl k1) k3 L,QaX (.inl k1) k4 L⟩) λL hL=>⟨hL.1,hL.2.1⟩
 . exact((Qr.op (aa:=QaU) (Qsz d) A4 B4 (k:=Qbt 16) (s:=[97,110,100]) (.inr rfl) (by decide) λL=>⟨⟨QaX (s:=[97,110,100]) (.inr rfl) (by decide) L,QaX (s:=[97,110,100]) (.inr rfl) (by decide) L⟩,QaX (s:=[97,110,100]) (.inr rfl) (by decide) L⟩).pass (aa:=orO)).mono λL hL=>⟨⟨⟨⟨hL.1,hL.2.1⟩,hL.2.2.1⟩,hL.2.2.2.1⟩,hL.2.2.2.2⟩
 . exact(Qr.op (aa:=orO) (Qv1 d) (A4.pass (aa:=QaU)) (B4.pass (aa:=QaU)) (k:=Qbt 17) (s:=[111,114]) (.inr rfl) (by decide) λL=>⟨⟨⟨QaX (s:=[111,114]) (.inr rfl) (by decide) L,QaX (s:=[111,114]) (.inr rfl) (by decide) L⟩,QaX (s:=[111,114]) (.inr rfl) (by decide) L⟩,QaX (s:=[111,114]) (.inr rfl) (by decide) L⟩).mono λL hL=>⟨⟨⟨⟨hL.1,hL.2.1⟩,hL.2.2.1⟩,hL.2.2.2.1⟩,hL.2.2.2.2⟩
theorem QAS {op n p:Int} {nm:ZG} {l:List Ex} (hf:QaG (.mk op n nm l p)=true) (hl:∀ e∈l,Qhy c e):Qhy c (.mk op n nm l p):=by
 obtain⟨h1,h2,h3,h4,h5,h6,h7⟩:=QcJ.1 hf;have hr:=QgX h1;have hfl:∀ e∈l,QaG e=true:=by
  clear h1 hl hf
  induction l with
  |nil=>intro e he; cases he
  |cons x r ih =>
   intro e he;rw[Qai,Va]at h7;rw[Vd]at he;rcases he with rfl|he
   . exact h7.1
   . exact ih h7.2 e he
 have hatom:(Ex.mk op n nm l p).op=1\/(Ex.mk op n nm l p).op=2\/18<=(Ex.mk op n nm l p).op->∀ d,Qr c d (lv c d).fac (ak (aq (.mk op n nm l p))) (.mk op n nm l p) any:=by
  intro ha d;have ha:op=1\/op=2\/18<=op:=ha;rw[aq];by_cases e1:op=1
  . subst e1;have hl0:l=[]:=by
     have:(l.length:Int)=0:=h1;exact Yh.1 (by omega)
    have hnm:nm=[]:=h3.resolve_left (by decide);subst hl0 hnm;rw[shK,Zr rfl];have hn:((n.toNat:Nat):Int)=n:=by omega
    have:=λO F=>Qr.num (c:=c) (d:=d) (orP:=O) (facP:=F) (n:=n.toNat);rw[hn]at this
    cases d with
    |zero=>exact this _ _
    |succ d=>exact this _ _
  . by_cases e2:op=2
    . subst e2;have hl0:l=[]:=by
       have:(l.length:Int)=0:=h1;exact Yh.1 (by omega)
      have hn:n=0:=h2.resolve_left (by decide);subst hl0 hn;rw[shK,Zq (by decide),Zr rfl];have hw:=(Qic (h4.resolve_left (λh=>h rfl))).2
      cases d with
      |zero=>exact Qr.name hw
      |succ d=>exact Qr.name hw
    . have h18:op=18\/op=19\/op=20:=by omega
      have hn:n=0:=h2.resolve_left e1;have hnm:nm=[]:=h3.resolve_left e2;subst hn hnm;rw[shK,Zq e1,Zq e2,Zq (by omega),Zq (by omega),Zr (by omega)];have hlen:l.length=2\/l.length=3:=by
       rcases h18 with rfl|rfl|rfl
       . have:(l.length:Int)=2:=h1;omega
       . have:(l.length:Int)=2:=h1;omega
       . have:(l.length:Int)=3:=h1;omega
      obtain⟨a,es,rfl⟩:∃ a es,l=a::es:=by
       cases l with
       |nil=>simp at hlen
       |cons a es=>exact⟨a,es,rfl⟩
      have hw:(Qdx op,op,((shL es).map λy=>ak y.2).length)∈Qan:=by
       rw[Yj,Qku];rcases h18 with rfl|rfl|rfl
       . have:((es.length+1:Nat):Int)=2:=h1;rw[show es.length=1 by omega]; decide
       . have:((es.length+1:Nat):Int)=2:=h1;rw[show es.length=1 by omega]; decide
       . have:((es.length+1:Nat):Int)=3:=h1;rw[show es.length=2 by omega]; decide
      have e1:ak (.t (.wd (Qdx op))::.t (.sg [40])::(lsP (shL (a::es))++[.t (.sg [41])]))=.wd (Qdx op)::.sg [40]::(ak (aq a)++cms ((shL es).map λy=>ak y.2)++[.sg [41]]):=by
       simp[ak,QaL,shL,lsP,Qo8]
      rw[e1]
      cases d with
      |zero=>exact Qr.call0 hw
      |succ d =>
       refine(Qr.call (c:=c) (d:=d) (orP:=QaT c (lv c d)) (facP:=(lv c d).fac) (sa:=Qfx) (QlY c d) hw (hl a (by simp) d).2 (es:=es) (by simp[Qku]) (λi g1 g2 => ?_) (λL => ?_) λL => ?_).as ?_
       . have g3:i<es.length:=g2;have:=Qs3 g3;rw[List.getElem_map];have e2:(shL es)[i]'(by simpa using g1)=(es[i].op,aq es[i]):=Option.some.inj ((Ve _).symm.trans this);rw[e2];exact(hl es[i] (by simp) d).2
       . exact⟨QaX (.inl rfl) (by decide) L,QaX (.inl rfl) (by decide) L,QaX (.inl rfl) (by decide) L,QaX (.inl rfl) (by decide) L,QaX (.inl rfl) (by decide) L⟩
       . exact⟨QaX (.inl rfl) (by decide) L,QaX (.inl rfl) (by decide) L,QaX (.inl rfl) (by decide) L,QaX (.inl rfl) (by decide) L,QaX (.inl rfl) (by decide) L⟩
       . simp only[Ex.er]
 have hor:∀ d,Qr c d (QaT c (lv c d)) (ak (aq (.mk op n nm l p))) (.mk op n nm l p) Qfx:=by
  intro d;by_cases ha:op=1\/op=2\/18<=op
  . refine topF (hatom ha d) λL => ?_;have:=Qjc hf L;have e1:opP ((Ex.mk op n nm l p).op,aq (.mk op n nm l p))=aq (.mk op n nm l p):=Qg8 ha;rw[e1]at this;exact this
  . have hn:n=0:=h2.resolve_left (by omega);have hnm:nm=[]:=h3.resolve_left (by omega);subst hn hnm;rw[aq,shK,Zq (by omega),Zq (by omega)];by_cases e3:op=3
    . subst e3;have hl1:(l.length:Int)=1:=h1;obtain⟨a,rfl⟩:∃ a,l=[a]:=by
       match l,hl1 with
       |[a],_=>exact⟨a,rfl⟩
       |[],h=>simp at h
       |a::b::r,h=>simp at h; omega
      rw[Zr rfl];have e1:ak (.t (.sg [45])::.b 32::ndP (shL [a]) 0)=.sg [45]::ak (opP (a.op,aq a)):=by simp[ak,ndP,shL]
      rw[e1];refine topF ?_ λL=>rfl
      cases d with
      |zero=>exact Qr.neg0
      |succ d=>exact(Qr.neg (hl a (by simp) d).1).as (by simp only[Ex.er])
    . rw[Zq e3];by_cases e4:op=4
      . subst e4;have hl1:(l.length:Int)=1:=h1;obtain⟨a,rfl⟩:∃ a,l=[a]:=by
         match l,hl1 with
         |[a],_=>exact⟨a,rfl⟩
         |[],h=>simp at h
         |a::b::r,h=>simp at h; omega
        rw[Zr rfl];have e1:ak (.t (.wd [110,111,116])::.b 32::ndP (shL [a]) 0)=.wd [110,111,116]::ak (opP (a.op,aq a)):=by simp[ak,ndP,shL]
        rw[e1]
        cases d with
        |zero=>exact(up6 (c:=c) (d:=0) (st:=any) Qr.nop0).mono λL hL=>⟨⟨trivial,hL.2.2.2.1⟩,hL.2.2.2.2⟩
        |succ d =>
         have A4:=up4 (up3 (up2 (up1 (hl a (by simp) d).1))) (Qjc (hfl a (by simp)));exact((up6 (c:=c) (d:=d+1) (Qr.nop A4)).mono λL hL=>⟨⟨⟨⟨hL.1,hL.2.1⟩,hL.2.2.1⟩,hL.2.2.2.1⟩,hL.2.2.2.2⟩).as (by simp only[Ex.er])
      . rw[Zq e4,Zq (by omega)];have hl2:(l.length:Int)=2:=by
         rw[h1]; unfold opN;rw[Zq (by omega),Zq (by omega),Zq (by omega),Zr (by omega)]
        obtain⟨a,b,rfl⟩:∃ a b,l=[a,b]:=by
         match l,hl2 with
         |[a,b],_=>exact⟨a,b,rfl⟩
         |[],h=>simp at h
         |[a],h=>simp at h
         |a::b::e::r,h=>simp at h; omega
        have e1:ak (ndP (shL [a,b]) 0++.b 32::.t (Qbt op)::.b 32::ndP (shL [a,b]) 1)=ak (opP (a.op,aq a))++Qbt op::ak (opP (b.op,aq b)):=by simp[ak,QaL,ndP,shL]
        rw[e1];exact(QAT (by omega) (by omega) (hl a (by simp)) (hl b (by simp)) (hfl a (by simp)) (hfl b (by simp)) d).as (by simp only[Ex.er])
 exact λd=>⟨Qvw hf hor hatom d,hor d⟩
mutual
theorem Qtj:∀ e:Ex,QaG e=true->Qhy c e
 |.mk op n nm l p,h=>QAS h (Qt3 l (QcJ.1 h).2.2.2.2.2.2)
theorem Qt3:∀ l:List Ex,Qai l=true->∀ e∈l,Qhy c e
 |[],_,e,he=>by cases he
 |x::r,h,e,he=>by
  rw[Qai,Va]at h;by_cases hx:e=x
  . rw[hx]; exact Qtj x h.1
  . exact Qt3 r h.2 e (by simpa[hx]using he)
end
end
def kwG:ZG:=[103,97,109,101]
def Qd4:ZG:=[112,108,97,121,101,114,115]
def kwV:ZG:=[118,97,114]
def kwD:ZG:=[100,101,97,108]
def kwI:ZG:=[105,110]
def kwW:ZG:=[119,101,105,103,104,116]
def kwS:ZG:=[115,101,101,110]
def kwB:ZG:=[98,121]
def kwA:ZG:=[97,108,108]
def kwT:ZG:=[116,117,114,110]
def QeM:ZG:=[97,99,116,105,111,110]
def Qev:ZG:=[119,104,101,110]
def kwH:ZG:=[104,105,100,100,101,110]
def Qgw:ZG:=[103,111,116,111]
def kwE:ZG:=[101,110,100]
def kwP:ZG:=[112,97,121]
def Ql.er (s:Ql):Ql:=⟨s.nm,s.e.er,0⟩
def Qh.er (a:Qh):Qh:=⟨a.nm,Ex.erL a.wh,a.hid,a.sets.map Ql.er,a.go,0⟩
def Qc.er (x:Qc):Qc:=⟨x.k,x.lb,x.nm,x.lo,x.hi,Ex.erL x.wt,x.all,x.seen,Ex.erL x.who,x.acts.map Qh.er,Ex.erL x.pays,0⟩
def Qn.er (v:Qn):Qn:=⟨v.nm,v.n,0⟩
def Qy.er (r:Qy):Qy:=⟨r.nm,r.pl,r.vars.map Qn.er,r.stages.map Qc.er⟩
def Qhz (s:Ql):List Pc:=.b 32::.t (.wd s.nm)::.b 32::.t (.sg [61])::.b 32::(aq s.e++[.t (.sg [59])])
def Qek (w:ZG) (l:List Ex):List Pc:=match l with
 |[]=>[]
 |e::_=>.b 32::.t (.wd w)::.b 32::aq e
def Qc7 (w:ZG) (b:Bool):List Pc:=if b=true then [.b 32,.t (.wd w)]else []
def QiY (s:ZG):List Pc:=if s=[]then []else [.b 32,.t (.wd Qgw),.b 32,.t (.wd s),.t (.sg [59])]
def Qd9 (a:Qh):List Pc:=.b 32::.b 32::.t (.wd QeM)::.b 32::.t (.wd a.nm)::(Qek Qev a.wh++(Qc7 kwH a.hid++(.b 32::.t (.sg [123])::(a.sets.flatMap Qhz++(.b 32::.t (.sg [125])::(QiY a.go++[.b 10]))))))
def QiL (s:Ql):Bool:=QaR s.nm&&QaG s.e
def Qiw (a:Qh):Bool:=QaR a.nm&&(decide (a.wh.length<=1)&&(Qai a.wh&&((decide (a.go=[])||QaR a.go)&&a.sets.all QiL)))
section
variable {c:Cx}
theorem QAI {α:Type} {F:Rd->α×Rd} {r:Rd} (hs:QJ F) (h:(F r).2.e=0):r.e=0:=by
 by_cases he:r.e=0
 . exact he
 . rw[hs r he]at h; exact absurd h he
theorem Qhl {e:Int} (he:e≠0) (r:Rd):(Qg c e r).e≠0:=by
 unfold Qg;split
 . exact he
 . rename_i h; exact h
theorem Sta.t2 {d:Nat} {r:Rd} {k:TK} {L:List TK} {s:ZG} (h:Sta c d r (k::L)) (hk:pk (k::L) s=true):Sta c d (t2 c s r) L:=(h.take hk).2
theorem QAP:QJ (au c):=QlY c 40
theorem Sta.len {d:Nat} {r:Rd} {L:List TK} (h:Sta c d r L):L.length<=c.ts.length:=by
 have key:∀ {ts:List Tok} {ks:List TK},QbK ts ks->ts.length=ks.length:=by
  intro ts ks h
  induction h with
  |nil=>rfl
  |cons _ _ ih=>simp[ih]
 have:=key h.rem;rw[Yq]at this;omega
end
def Qkh (l:List Int):List Pc:=match l with
 |[]=>[]
 |n::r=>.b 32::.t (.wd kwS)::.b 32::.t (.wd kwB)::.b 32::.t (.nm n.toNat)::r.flatMap λm=>[.t (.sg [44]),.b 32,.t (.nm m.toNat)]
def Qj7 (b:Bool):List Pc:=if b=true then [.b 32,.t (.wd kwS),.b 32,.t (.wd kwB),.b 32,.t (.wd kwA)]else []
def QeS (s:ZG):List Pc:=if s=[]then []else [.t (.wd s),.t (.sg [58]),.b 32]
def Qn8 (x:Qc):List Pc:=.t (.wd kwD)::.b 32::.t (.wd x.nm)::.b 32::.t (.wd kwI)::.b 32::.t (.nm x.lo.toNat)::.b 32::.t (.sg [46,46])::.b 32::.t (.nm x.hi.toNat)::(Qek kwW x.wt++(Qj7 x.all++(Qkh x.seen++[.t (.sg [59]),.b 10])))
def Qn0 (l:List Ex):List Pc:=match l with
 |[]=>[]
 |e::_=>aq e
def Qjm (x:Qc):List Pc:=.t (.wd kwT)::.b 32::(Qn0 x.who++(.b 32::.t (.sg [123])::.b 10::(x.acts.flatMap Qd9++[.t (.sg [125]),.b 10])))
def QmR (x:Qc):List Pc:=.t (.wd kwE)::.b 32::.t (.sg [123])::.b 32::.t (.wd kwP)::.b 32::(lsP (shL x.pays)++[.t (.sg [59]),.b 32,.t (.sg [125]),.b 10])
def QdF (x:Qc):List Pc:=QeS x.lb++if x.k=1 then Qn8 x else if x.k=2 then Qjm x else QmR x
def inB (n:Int):Bool:=decide (0<=n)&&decide (n<=1000000000)
def Qli (x:Qc):Bool:=decide (x.nm=[])&&(decide (x.lo=0)&&(decide (x.hi=0)&&(decide (x.wt=[])&&(!x.all&&decide (x.seen=[])))))
def QlC (x:Qc):Bool:=decide (x.who.length=0)&&decide (x.acts.length=0)
def QhE (x:Qc):Bool:=(decide (x.lb=[])||QaR x.lb)&&(Qai x.wt&&(Qai x.who&&(Qai x.pays&&(
 if x.k=1 then x.seen.all inB&&(QlC x&&(decide (x.pays.length=0)&&(QaR x.nm&&(inB x.lo&&(inB x.hi&&(decide (x.wt.length<=1)&&(!x.all||decide (x.seen.length=0))))))))
 else if x.k=2 then x.acts.all Qiw&&(Qli x&&(decide (x.pays.length=0)&&(decide (x.who.length=1)&&decide (x.acts.length≠0))))
 else if x.k=3 then Qli x&&(QlC x&&decide (x.pays.length≠0))else false))))
def saf (r:ZG):Prop:=ao r 0≠2/\ao r 0≠3
def sg2 (r:ZG):Prop:=r.getD 0 0≠61/\r.getD 0 0≠46
theorem Qf2 {c:UInt8} (h:decide (cls c.toNat≠2/\cls c.toNat≠3)=true) (t:ZG):saf (c::t):=by
 have h:=Zy h;exact h
theorem Qcv {c:UInt8} (h:decide (c≠61/\c≠46)=true) (t:ZG):sg2 (c::t):=by
 have h:=Zy h;exact h
theorem Qok {s t:ZG} (h0:s≠[]) (h:sg2 s):sg2 (s++t):=by
 cases s with
 |nil=>exact absurd rfl h0
 |cons c s=>exact h
theorem Qjw {c:UInt8} (hc:decide (c=32\/c=10)=true) {b:List Pc} (h:Qa8 b):Qa8 (.b c::b):=⟨Zy hc,h⟩
theorem Qil {s:ZG} {b:List Pc} (hs:QeH s) (h:Qa8 b) (hf:saf (al b)):Qa8 (.t (.wd s)::b):=⟨hs,hf,h⟩
theorem QD4 {n:Nat} {b:List Pc} (hn:n<=1000000000) (h:Qa8 b) (hf:saf (al b)):Qa8 (.t (.nm n)::b):=⟨hn,hf,h⟩
theorem Qb7 {s:ZG} {b:List Pc} (hs:Qk4 s) (h:Qa8 b) (hf:s.length=2\/sg2 (al b)):Qa8 (.t (.sg s)::b):=⟨hs,hf,h⟩
theorem QdB {c:UInt8} (h:(Qgn.contains c)=true):Qk4 [c]:=.inl ⟨c,by simpa using h,rfl⟩
theorem Qkn {s:ZG} (h:QeH s):sg2 s/\s≠[]:=by
 refine⟨?_,h.1⟩;have h2:=h.2.1;unfold ao at h2;constructor
 . intro e; rw[e]at h2; exact absurd h2 (by decide)
 . intro e; rw[e]at h2; exact absurd h2 (by decide)
theorem Qqp {n:Nat} (hn:n<=1000000000):sg2 (Qa6 n)/\Qa6 n≠[]:=by
 have hp:=Qit 18 n;have hd:=Qng 18 n (by omega);refine⟨?_,Yl.1 hp⟩;unfold Qa6;generalize QaN 18 n=s at *
 cases s with
 |nil=>simp at hp
 |cons c s =>
  have:=hd c (by simp);refine⟨λe => ?_,λe => ?_⟩
  . have e:c=61:=e;subst e;have:(61:UInt8).toNat=61:=rfl;omega
  . have e:c=46:=e;subst e;have:(46:UInt8).toNat=46:=rfl;omega
def GdE (ps:List Pc):Prop:=∀ b,Qa8 b->saf (al b)->sg2 (al b)->Qa8 (ps++b)/\sg2 (al (ps++b))
theorem QDt {k:Int} {x:List Pc} (h:GdE x):GdE (opP (k,x)):=by
 by_cases hk:k=1\/k=2\/18<=k
 . rw[Qg8 hk]; exact h
 . rw[Qi5 hk];intro b hb h1 h2;have hc:Qa8 (.t (.sg [41])::b):=Qb7 (QdB (by decide)) hb (.inr h2);obtain⟨g1,g2⟩:=h _ hc (Qf2 (c:=41) (by decide) _) (Qcv (c:=41) (by decide) _);have e:.t (.sg [40])::(x++[.t (.sg [41])])++b=.t (.sg [40])::(x++.t (.sg [41])::b):=by simp
   rw[e];exact⟨Qb7 (QdB (by decide)) g1 (.inr g2),Qcv (c:=40) (by decide) _⟩
theorem QkY {w:ZG} (h:(decide (w≠[])&&(decide (ao w 0=2)&&((List.range w.length).all (λi=>decide (ao w i=2))&&decide (w.length<=40))))=true):QeH w:=by
 simp only[Va,Zs,Vi,V3]at h;exact⟨h.1,h.2.1,λi hi=>.inl (h.2.2.1 i hi),h.2.2.2⟩
theorem QtQ:∀ {l:List (Int×List Pc)},(∀ y∈l,GdE y.2)->∀ b,Qa8 b->saf (al b)->sg2 (al b)->Qa8 ((l.flatMap λy=>.t (.sg [44])::.b 32::y.2)++b)/\saf (al ((l.flatMap λy=>.t (.sg [44])::.b 32::y.2)++b))/\sg2 (al ((l.flatMap λy=>.t (.sg [44])::.b 32::y.2)++b))
 |[],_,b,hb,h1,h2=>⟨hb,h1,h2⟩
 |y::l,h,b,hb,h1,h2=>by
  obtain⟨g1,g2,g3⟩:=QtQ (l:=l) (λz hz=>h z (by simp[hz])) b hb h1 h2;obtain⟨g4,g5⟩:=h y (by simp) _ g1 g2 g3;have e:((y::l).flatMap λy=>.t (.sg [44])::.b 32::y.2)++b=.t (.sg [44])::.b 32::(y.2++((l.flatMap λy=>.t (.sg [44])::.b 32::y.2)++b)):=by simp
  rw[e];exact⟨Qb7 (QdB (by decide)) (Qjw (by decide) g4) (.inr (Qcv (c:=32) (by decide) _)),Qf2 (c:=44) (by decide) _,Qcv (c:=44) (by decide) _⟩
theorem QwX {l:List (Int×List Pc)} (hl:l≠[]) (h:∀ y∈l,GdE y.2):GdE (lsP l):=by
 cases l with
 |nil=>exact absurd rfl hl
 |cons x r =>
  intro b hb h1 h2;obtain⟨g1,g2,g3⟩:=QtQ (l:=r) (λz hz=>h z (by simp[hz])) b hb h1 h2;obtain⟨g4,g5⟩:=h x (by simp) _ g1 g2 g3;have e:lsP (x::r)++b=x.2++((r.flatMap λy=>.t (.sg [44])::.b 32::y.2)++b):=by simp[lsP]
  rw[e];exact⟨g4,g5⟩
theorem Qmk {l:List (Int×List Pc)} {i:Nat} (hi:i<l.length) (h:∀ y∈l,GdE y.2):GdE (ndP l i):=by
 unfold ndP;rw[Ve hi];have:=h l[i] (Vp hi);exact QDt (k:=l[i].1) this
theorem QD7 {op n p:Int} {nm:ZG} {l:List Ex} (hf:QaG (.mk op n nm l p)=true) (h:∀ y∈shL l,GdE y.2):GdE (shK op n nm (shL l)):=by
 obtain⟨h1,h2,h3,h4,h5,h6,h7⟩:=QcJ.1 hf;have hr:=QgX h1;have hlen:=Qku l;intro b hb s1 s2;by_cases e1:op=1
 . rw[shK,Zr e1];have hn:n.toNat<=1000000000:=by omega
   exact⟨QD4 hn hb s1,Qok (Qqp hn).2 (Qqp hn).1⟩
 by_cases e2:op=2
 . rw[shK,Zq e1,Zr e2];have hw:=(Qic (h4.resolve_left (λh=>h e2))).1;exact⟨Qil hw hb s1,Qok (Qkn hw).2 (Qkn hw).1⟩
 by_cases e3:op=3
 . rw[shK,Zq e1,Zq e2,Zr e3];have hl:0<(shL l).length:=by rw[hlen]; subst e3; have:(l.length:Int)=1:=h1; omega
   have g:=(Qmk hl h) b hb s1 s2;exact⟨Qb7 (QdB (by decide)) (Qjw (by decide) g.1) (.inr (Qcv (c:=32) (by decide) _)),Qcv (c:=45) (by decide) _⟩
 by_cases e4:op=4
 . rw[shK,Zq e1,Zq e2,Zq e3,Zr e4];have hl:0<(shL l).length:=by rw[hlen]; subst e4; have:(l.length:Int)=1:=h1; omega
   have g:=(Qmk hl h) b hb s1 s2;exact⟨Qil (QkY (by decide)) (Qjw (by decide) g.1) (Qf2 (c:=32) (by decide) _),Qcv (c:=110) (by decide) _⟩
 by_cases e18:18<=op
 . rw[shK,Zq e1,Zq e2,Zq e3,Zq e4,Zr e18];have hl:shL l≠[]:=by
    intro e;rw[e]at hlen;have h0:(l.length:Int)=0:=by rw[<-hlen]; rfl
    have:op=18\/op=19\/op=20:=by omega
    rcases this with rfl|rfl|rfl
    . have:(l.length:Int)=2:=h1;omega
    . have:(l.length:Int)=2:=h1;omega
    . have:(l.length:Int)=3:=h1;omega
   have hw:QeH (Qdx op):=by unfold Qdx; split<;>(try split)<;>exact QkY (by decide)
   have hc:Qa8 (.t (.sg [41])::b):=Qb7 (QdB (by decide)) hb (.inr s2);have g:=(QwX hl h) _ hc (Qf2 (c:=41) (by decide) _) (Qcv (c:=41) (by decide) _);have e:.t (.wd (Qdx op))::.t (.sg [40])::(lsP (shL l)++[.t (.sg [41])])++b=.t (.wd (Qdx op))::.t (.sg [40])::(lsP (shL l)++.t (.sg [41])::b):=by simp
   rw[e];exact⟨Qil hw (Qb7 (QdB (by decide)) g.1 (.inr g.2)) (Qf2 (c:=40) (by decide) _),Qok (Qkn hw).2 (Qkn hw).1⟩
 . rw[shK,Zq e1,Zq e2,Zq e3,Zq e4,Zq e18];have hl2:(l.length:Int)=2:=by
    rw[h1]; unfold opN;rw[Zq (by omega),Zq (by omega),Zq (by omega),Zr (by omega)]
   have g:=(Qmk (i:=1) (by rw[hlen]; omega) h) b hb s1 s2;have hk:Qa8 (.t (Qbt op)::.b 32::(ndP (shL l) 1++b)):=by
    have hb2:=Qjw (c:=32) (by decide) g.1;have:op=5\/op=6\/op=7\/op=8\/op=9\/op=10\/op=11\/op=12\/op=13\/op=14\/op=15\/op=16\/op=17:=by omega
    rcases this with rfl|rfl|rfl|rfl|rfl|rfl|rfl|rfl|rfl|rfl|rfl|rfl|rfl
    . exact Qb7 (s:=[42]) (QdB (by decide)) hb2 (.inr (Qcv (c:=32) (by decide) _))
    . exact Qb7 (s:=[47]) (QdB (by decide)) hb2 (.inr (Qcv (c:=32) (by decide) _))
    . exact Qb7 (s:=[37]) (QdB (by decide)) hb2 (.inr (Qcv (c:=32) (by decide) _))
    . exact Qb7 (s:=[43]) (QdB (by decide)) hb2 (.inr (Qcv (c:=32) (by decide) _))
    . exact Qb7 (s:=[45]) (QdB (by decide)) hb2 (.inr (Qcv (c:=32) (by decide) _))
    . exact Qb7 (s:=[61,61]) (.inr (by decide)) hb2 (.inl rfl)
    . exact Qb7 (s:=[33,61]) (.inr (by decide)) hb2 (.inl rfl)
    . exact Qb7 (s:=[60]) (QdB (by decide)) hb2 (.inr (Qcv (c:=32) (by decide) _))
    . exact Qb7 (s:=[60,61]) (.inr (by decide)) hb2 (.inl rfl)
    . exact Qb7 (s:=[62]) (QdB (by decide)) hb2 (.inr (Qcv (c:=32) (by decide) _))
    . exact Qb7 (s:=[62,61]) (.inr (by decide)) hb2 (.inl rfl)
    . exact Qil (s:=[97,110,100]) (QkY (by decide)) hb2 (Qf2 (c:=32) (by decide) _)
    . exact Qil (s:=[111,114]) (QkY (by decide)) hb2 (Qf2 (c:=32) (by decide) _)
   have g0:=(Qmk (i:=0) (by rw[hlen]; omega) h) _ (Qjw (c:=32) (by decide) hk) (Qf2 (c:=32) (by decide) _) (Qcv (c:=32) (by decide) _);have e:ndP (shL l) 0++.b 32::.t (Qbt op)::.b 32::ndP (shL l) 1++b=ndP (shL l) 0++(.b 32::.t (Qbt op)::.b 32::(ndP (shL l) 1++b)):=by simp
   rw[e];exact g0
mutual
theorem Quj:∀ e:Ex,QaG e=true->GdE (aq e)
 |.mk op n nm l p,h=>by
  rw[aq];exact QD7 h (QuD l (QcJ.1 h).2.2.2.2.2.2)
theorem QuD:∀ l:List Ex,Qai l=true->∀ y∈shL l,GdE y.2
 |[],_,y,hy=>by simp[shL]at hy
 |x::r,h,y,hy=>by
  rw[Qai,Va]at h;rw[shL,Vd]at hy;rcases hy with rfl|hy
  . exact Quj x h.1
  . exact QuD r h.2 y hy
end
def QjK (n:Int):List Pc:=if n<0 then [.t (.sg [45]),.b 32,.t (.nm n.natAbs)]else [.t (.nm n.natAbs)]
def Qib (v:Qn):List Pc:=.t (.wd kwV)::.b 32::.t (.wd v.nm)::.b 32::.t (.sg [61])::.b 32::(QjK v.n++[.t (.sg [59]),.b 10])
def QgD (r:Qy):List Pc:=.t (.wd kwG)::.b 32::.t (.wd r.nm)::.t (.sg [59])::.b 10::.t (.wd Qd4)::.b 32::.t (.nm r.pl.toNat)::.t (.sg [59])::.b 10::(r.vars.flatMap Qib++r.stages.flatMap QdF)
def Qj2 (v:Qn):Bool:=QaR v.nm&&(decide (-1000000000<=v.n)&&decide (v.n<=1000000000))
def QlR (r:Qy):Bool:=QaR r.nm&&(inB r.pl&&(decide (r.stages.length≠0)&&(r.vars.all Qj2&&r.stages.all QhE)))
theorem Qy8 {d:Nat} (h:d<=9):Utf8.encode ((48:Int)+(d:Int))=B [UInt8.ofNat (48+d)]:=by
 have:d=0\/d=1\/d=2\/d=3\/d=4\/d=5\/d=6\/d=7\/d=8\/d=9:=by omega
 rcases this with rfl|rfl|rfl|rfl|rfl|rfl|rfl|rfl|rfl|rfl<;>decide
section
variable {H:ZI}
theorem QAK {x n:Int} (hn:1<=n):(if x.tmod n<0 then x.tmod n+n else x.tmod n)=x % n:=by
 rw[Int.tmod_eq_emod];have h1:=Int.emod_nonneg x (show n≠0 by omega);have h2:=Int.emod_lt_of_pos x (show 0<n by omega);have h3:n ∣ x->x % n=0:=Int.emod_eq_zero_of_dvd;split
 . split
   . omega
   . simp
 . rename_i h;have h4:(n.natAbs:Int)=n:=by omega
   split
   . omega
   . rename_i h5;have:¬ n ∣ x:=λhd=>h (.inr hd);have:x % n≠0:=λe=>this (Int.dvd_of_emod_eq_zero e);omega
theorem Qzj {x n:Int} (hn:1<=n) : -n<x.tmod n/\x.tmod n<n:=by
 have h1:=Int.tmod_lt_of_pos x (show 0<n by omega);have h2 : -(x.tmod n)<n:=by rw[<-Int.neg_tmod]; exact Int.tmod_lt_of_pos _ (by omega)
 omega
theorem ok27 (x n:Int) (h1:1<=n) (h2:n<=9223372036854775807):Ok Tryz.prog 27 [V x,V n] H (.ret (V (x % n))) H:=by
 refine Qt hm Tryz.func27 c27 (by simp) λZ => ?_;have hb:=Qzj (x:=x) h1;have hf:=QAK (x:=x) h1;simp -implicitDefEqProofs[i27,r27,show ¬ n=0 by omega];split
 . rename_i h;rw[Zr h]at hf;rw[Qam (by omega) (by omega),hf]; exact Qi
 . rename_i h;rw[Zq h]at hf;rw[hf]; exact Qi
def drO (l:List Int) (a:Nat):AO:=⟨[.slc (QE l) l.length,V a],102,0,true⟩
def af (l:List Int) (a n:Nat):Nat×Nat:=if l.length<=a\/n<1 then(0,a)else((l.getD a 0 % (n:Int)).toNat,a+1)
theorem QS {l:List Int} {a n:Nat} (h:a<=l.length):(af l a n).2<=l.length:=by unfold af; split<;>simp<;>omega
theorem Qac {l:List Int} {a n:Nat} (h:1<=n):(af l a n).1<n:=by
 unfold af;split
 . simp; omega
 . have h1:=Int.emod_nonneg (l.getD a 0) (show(n:Int)≠0 by omega);have h2:=Int.emod_lt_of_pos (l.getD a 0) (show 0<(n:Int)by omega);simp only; omega
theorem ok64 {j:Nat} {l:List Int} {a:Nat} (ho:H[j]? = some (drO l a)) (ha:a<=l.length) (hl:l.length<4611686018427387904) (n:Nat) (hn:n<=9223372036854775807) :
 Ok Tryz.prog 64 [rp j,V n] H (.ret (V ((af l a n).1:Nat))) (H.set j (drO l (af l a n).2)):=by
 have e1:Qo H j 0=[.slc (QE l) l.length,V a]:=Q7 (o:=drO l a) ho rfl;have e2:∀ f:AO->AO,Ab.setObj H j f=H.set j (f (drO l a)):=λf=>Qcn ho f;have e3:∀ o:AO,o.live=true->o.ver=0->Qo (H.set j o) j 0=o.cells:=by
  intro o h1 h2;have:=Q7 (H:=H.set j o) (i:=j) (o:=o) (by rw[Vq (Qk ho)]) h1;rw[h2]at this; exact this
 have e4:H.set j (drO l a)=H:=by
  apply Ya;intro i;by_cases h:j=i
  . subst h; rw[Vq (Qk ho),ho]
  . rw[Vg h]
 refine Qt hm Tryz.func64 c64 (by simp) λZ => ?_;by_cases h1:l.length<=a
 . simp -implicitDefEqProofs[QjZ,r64,e1,h1,show(l.length:Int)<=a by omega,af,e4,rp];exact Qi
 . by_cases h2:n<1
   . simp -implicitDefEqProofs[QjZ,r64,e1,h1,show ¬ (l.length:Int)<=a by omega,af,e4,show n=0 by omega,rp];exact Qi
   . have hlt:a<l.length:=by omega
     have e5:IntKind.i64.wrap ((a:Int)+1)=(a:Int)+1:=Qaj (by omega);have e6:IntKind.i64.wrap (a:Int)=(a:Int):=QfM (by omega);have hp:¬ n=0:=by omega
     have hp2:¬ (n:Int)<1:=by omega
     simp -implicitDefEqProofs[QjZ,r64,e1,h1,show ¬ (l.length:Int)<=a by omega,af,e2,hp,hp2,drO,e3,e5,e6,hlt,rp];refine⟨by omega,?_⟩;refine Qfn (λ_=>ok27 l[a] n (by omega) (by omega)) ?_;have:=Int.emod_nonneg l[a] (show(n:Int)≠0 by omega);simp -implicitDefEqProofs[show max (l[a] % (n:Int)) 0=l[a] % (n:Int)by omega];exact Qi
def dg (n:Nat):ZG:=[UInt8.ofNat (48+n)]
theorem QeE {n:Nat} (h:n<=9):Ok Tryz.prog 65 [V n] H (.ret (st (B (dg n)))) H:=by
 refine Qt hm Tryz.func65 c65 (by simp) λZ => ?_;have he:Utf8.encode ((48:Int)+(n:Int))=B (dg n):=Qy8 h;have hd:(dg n).length=1:=rfl;have hz:n=0->dg n=[48]:=λh=>by subst h; rfl
 generalize dg n=t at he hd hz ⊢;have hr:∀ {N:Nat} {U:Env} {K:ZH} {tx:ZG},U.get 4=V 0->U.get 3=st (B tx)->(∀ U,U.get 3=st (B tx)->U.get 0=V n->K (.exit 0) U H)->U.get 0=V n->LI Tryz.prog N Qf QjQ U H K:=by
  intro N U K tx h4 h3 hk h0;refine Qp hm QjQ.eq_1 ?_;simp -implicitDefEqProofs[h4];refine hk _ ?_ ?_
  . simp[h3]
  . simp[h0]
 by_cases h0:n=0
 . subst h0;simp -implicitDefEqProofs[i65,r65];refine hr (tx:=[]) rfl rfl (λU h3 h0 => ?_) (by simp);rw[hz rfl];simp -implicitDefEqProofs[h0];exact Qi
 . have g1:¬ (n:Int)=0:=by omega
   simp -implicitDefEqProofs[i65,r65];refine Qp hm QjQ.eq_1 ?_;have t1:(n:Int).tmod 10=n:=by rw[Int.tmod_eq_emod_of_nonneg (by omega)]; omega
   have t2:(n:Int).tdiv 10=0:=by rw[Int.tdiv_eq_ediv_of_nonneg (by omega)]; omega
   have w2:IntKind.i64.wrap (-(n:Int)) = -n:=Qam (by omega) (by omega);have w3:IntKind.i64.wrap (48+(n:Int))=48+(n:Int):=Qam (by omega) (by omega);have w4:IntKind.i32.wrap (48+(n:Int))=48+(n:Int):=by unfold IntKind.wrap; simp[IntKind.bits,IntKind.signed]; omega
   have w6:max (n:Int) (-n)=n:=by omega
   simp -implicitDefEqProofs[h0,t1,t2,w2,w3,w4,w6,he,QU];refine⟨⟨rfl,by show(B t).size<=_; rw[QU,hd]; decide⟩,?_⟩;have e0:(SV.val (Value.string (B t))).str++{ data := #[] }=B t:=by
    show B t++ByteArray.empty=B t;apply ByteArray.ext; simp
   refine hr (tx:=t) ?_ ?_ (λU h3 h00 => ?_) ?_
   . simp -implicitDefEqProofs[show IntKind.i64.wrap 0=0 from rfl]
   . simp -implicitDefEqProofs[e0]
   . simp -implicitDefEqProofs[h3,h00,h0];exact Qi
   . simp
end
def vN (x:Nat):ZG:=[118]++dg x
structure GX where
 k:Nat
 x:Nat
 y:Nat
def gx (l:List Int) (v n a:Nat):GX×Nat :=
 (⟨(af l (af l (af l a v).2 v).2 n).1,(af l a v).1,(af l (af l a v).2 v).1⟩,(af l (af l (af l a v).2 v).2 n).2)
def exT (k:Nat) (x y:ZG):ZG :=
 if k=0 then x++[32,43,32]++y
 else if k=1 then x++[32,45,32,50,32,42,32]++y
 else if k=2 then [109,97,120,40]++x++[44,32]++y++[41]
 else if k=3 then [105,102,40]++x++[32,60,32]++y++[44,32,49,44,32,45,49,41]
 else if k=4 then [109,105,110,40]++x++[44,32,51,41,32,43,32,49]
 else if k=5 then [45]++x
 else if k=6 then [40]++x++[32,43,32,55,41,32,37,32,51]
 else x
def cdT (k:Nat) (x y:ZG):ZG :=
 if k=0 then x++[32,60,32,49]
 else if k=1 then x++[32,62,61,32]++y++[32,97,110,100,32,110,111,116,32]++y++[32,61,61,32,50]
 else if k=2 then x++[32,33,61,32,48,32,111,114,32]++y++[32,62,32,49]
 else [110,111,116,32]++x++[32,60,61,32,48]
def exB (g:GX):ZG:=exT g.k (vN g.x) (vN g.y)
def cdB (g:GX):ZG:=cdT g.k (vN g.x) (vN g.y)
theorem QmV (g:GX):(exB g).length<=40:=by
 unfold exB exT;repeat' split
 all_goals simp[vN,dg]
theorem Qjg (g:GX):(cdB g).length<=40:=by
 unfold cdB cdT;repeat' split
 all_goals simp[vN,dg]
theorem QfL {l:List Int} {v n a:Nat} (h:a<=l.length):(gx l v n a).2<=l.length:=QS (QS (QS h))
section
variable {H:ZI} {j:Nat} {l:List Int} {a:Nat}
theorem QAo {o o':AO} (ho:H[j]? = some o):(H.set j o')[j]? = some o':=Vq (Qk ho)
abbrev mvD (H:ZI) (j:Nat) (l:List Int) (a:Nat):ZI:=H.set j (drO l a)
theorem QqD (b:Nat):mvD (mvD H j l b) j l a=mvD H j l a:=VF ..
theorem Qj1 (ho:H[j]? = some (drO l a)) (b:Nat):(mvD H j l b)[j]? = some (drO l b):=QAo ho
theorem QvU (L:ZI) (ho:H[j]? = some (drO l a)):(H++L)[j]? = some (drO l a):=by rw[Vc (Qk ho)]; exact ho
def Dr (H:ZI) (j:Nat) (l:List Int):Prop:=∃ a,H[j]? = some (drO l a)
theorem Dr.app (h:Dr H j l) (L:ZI):Dr (H++L) j l:=by obtain⟨a,h⟩:=h; exact⟨a,QvU L h⟩
theorem Dr.lt (h:Dr H j l):j<H.length:=by obtain⟨a,h⟩:=h; exact Qk h
theorem Dr.at (h:Dr H j l) (b:Nat) (L:ZI):(mvD H j l b++L)[j]? = some (drO l b):=by
 rw[Vc (by rw[Yf]; exact h.lt)];exact Vq h.lt
theorem Dr.mv (h:Dr H j l) (b c:Nat) (L:ZI):mvD (mvD H j l b++L) j l c=mvD H j l c++L:=by
 unfold mvD;rw[Vn _ _ (by rw[Yf]; exact h.lt),VF]
theorem QAy (ho:H[j]? = some (drO l a)):mvD H j l a=H:=by
 apply Ya;intro i;by_cases h:j=i
 . subst h; rw[Vq (Qk ho),ho]
 . rw[Vg h]
variable (ho:H[j]? = some (drO l a)) (ha:a<=l.length) (hl:l.length<4611686018427387904)
include ho ha hl
theorem QiC (n:Nat) (hn:n<=9223372036854775807):Ok Tryz.prog 64 [rp j,V n] H (.ret (V ((af l a n).1:Nat))) (mvD H j l (af l a n).2):=ok64 ho ha hl n hn
theorem Qi0 {v:Nat} (hv:1<=v) (h3:v<=3):Ok Tryz.prog 121 [rp j,V v] H (.ret (st (B (vN (af l a v).1)))) (mvD H j l (af l a v).2):=by
 refine Qt hm Tryz.func121 c121 (by simp[rp]) λZ => ?_;have hx:=Qac (l:=l) (a:=a) hv;simp[i121,r121];refine Qb (QiC ho ha hl v (by omega)) ?_;simp;refine Qb (QeE (by omega)) ?_;simp[vN,QU,dg];exact Qi
theorem ok69 {v:Nat} (hv:1<=v) (h3:v<=3):Ok Tryz.prog 69 [rp j,V v] H (.ret (st (B (exB (gx l v 8 a).1)))) (mvD H j l (gx l v 8 a).2):=by
 refine Qt hm Tryz.func69 c69 (by simp[rp]) λZ => ?_;have h1:=Qi0 ho ha hl hv h3;have h2:=Qi0 (Qj1 ho _) (QS ha) hl hv h3 (a:=(af l a v).2);have h37:=QiC (Qj1 ho _) (QS (QS ha)) hl 8 (by omega) (a:=(af l (af l a v).2 v).2);have hk:=Qac (l:=l) (a:=(af l (af l a v).2 v).2) (n:=8) (by omega);simp only[QqD]at h2 h37;unfold exB gx;generalize af l (af l (af l a v).2 v).2 8=kk at *;generalize af l (af l a v).2 v=yy at *;generalize af l a v=xx at *;obtain⟨k,a3⟩:=kk;obtain⟨y,a2⟩:=yy;obtain⟨x,a1⟩:=xx;simp only at *;have lx:(vN x).length=2:=rfl;have ly:(vN y).length=2:=rfl;generalize vN x=tx at *;generalize vN y=ty at *;simp[i69,r69];refine Qb h1 ?_;simp;refine Qb h2 ?_;simp;refine Qb h37 ?_;have hk8:k=0\/k=1\/k=2\/k=3\/k=4\/k=5\/k=6\/k=7:=by omega
 rcases hk8 with rfl|rfl|rfl|rfl|rfl|rfl|rfl|rfl
 all_goals
  simp[exT,QU,lx,ly];exact Qi
theorem QAN {v:Nat} (hv:1<=v) (h3:v<=3):Ok Tryz.prog 122 [rp j,V v] H (.ret (st (B (cdB (gx l v 4 a).1)))) (mvD H j l (gx l v 4 a).2):=by
 refine Qt hm Tryz.func122 c122 (by simp[rp]) λZ => ?_;have h1:=Qi0 ho ha hl hv h3;have h2:=Qi0 (Qj1 ho _) (QS ha) hl hv h3 (a:=(af l a v).2);have h37:=QiC (Qj1 ho _) (QS (QS ha)) hl 4 (by omega) (a:=(af l (af l a v).2 v).2);have hk:=Qac (l:=l) (a:=(af l (af l a v).2 v).2) (n:=4) (by omega);simp only[QqD]at h2 h37;unfold cdB gx;generalize af l (af l (af l a v).2 v).2 4=kk at *;generalize af l (af l a v).2 v=yy at *;generalize af l a v=xx at *;obtain⟨k,a3⟩:=kk;obtain⟨y,a2⟩:=yy;obtain⟨x,a1⟩:=xx;simp only at *;have lx:(vN x).length=2:=rfl;have ly:(vN y).length=2:=rfl;generalize vN x=tx at *;generalize vN y=ty at *;simp[i122,r122];refine Qb h1 ?_;simp;refine Qb h2 ?_;simp;refine Qb h37 ?_;have hk4:k=0\/k=1\/k=2\/k=3:=by omega
 rcases hk4 with rfl|rfl|rfl|rfl
 all_goals
  simp[cdT,QU,lx,ly];exact Qi
end
section
variable {H:ZI} {j:Nat} {l:List Int} {a:Nat}
variable (hd:Dr H j l) (ha:a<=l.length) (hl:l.length<4611686018427387904) (L:ZI)
include hd ha hl
theorem Qb9 (n:Nat) (hn:n<=9223372036854775807):Ok Tryz.prog 64 [rp j,V n] (mvD H j l a++L) (.ret (V ((af l a n).1:Nat))) (mvD H j l (af l a n).2++L):=by
 have:=QiC (hd.at a L) ha hl n hn; rwa [hd.mv]at this
theorem go71 {v:Nat} (hv:1<=v) (h3:v<=3):Ok Tryz.prog 121 [rp j,V v] (mvD H j l a++L) (.ret (st (B (vN (af l a v).1)))) (mvD H j l (af l a v).2++L):=by
 have:=Qi0 (hd.at a L) ha hl hv h3; rwa [hd.mv]at this
theorem go42 {v:Nat} (hv:1<=v) (h3:v<=3):Ok Tryz.prog 69 [rp j,V v] (mvD H j l a++L) (.ret (st (B (exB (gx l v 8 a).1)))) (mvD H j l (gx l v 8 a).2++L):=by
 have:=ok69 (hd.at a L) ha hl hv h3; rwa [hd.mv]at this
theorem Qnz {v:Nat} (hv:1<=v) (h3:v<=3):Ok Tryz.prog 122 [rp j,V v] (mvD H j l a++L) (.ret (st (B (cdB (gx l v 4 a).1)))) (mvD H j l (gx l v 4 a).2++L):=by
 have:=QAN (hd.at a L) ha hl hv h3; rwa [hd.mv]at this
end
section
variable {c:Cx} {d:Nat}
def Red (c:Cx) (d:Nat) (F:Rd->Ex×Rd) (l:List TK) (e:Ex) (st:List TK->Prop):Prop :=
 ∀ r L,Sta c d r (l++L)->st L->Sta c d (F r).2 L/\(F r).1.er=e.er
variable {F:Rd->Ex×Rd} {l la lb:List TK} {e a b:Ex} {st sa sb:List TK->Prop} {aa:List (ZG×Int)}
theorem Red.mono {st':List TK->Prop} (h:Red c d F l e st) (hs:∀ L,st' L->st L):Red c d F l e st':=λr L h1 h2=>h r L h1 (hs L h2)
theorem Red.pass (h:Red c d F l e st):Red c d (Q0 c aa F) l e (λL=>st L/\Qay aa L):=by
 intro r L hs ⟨h1,h2⟩;obtain⟨hg,he⟩:=h r L hs h1;unfold Q0;rw[QfO (hg.none h2)]; exact⟨hg,he⟩
theorem Red.op {k:TK} {s:ZG} {op:Int} (ha:Red c d F la a sa) (hb:Red c d F lb b sb) (hk:k=.sg s\/k=.wd s) (hf:(aa.find? λo=>decide (s=o.1)).map (·.2)=.some op) (hs:∀ L,sa (k::L)) :
 Red c d (Q0 c aa F) (la++k::lb) (.mk op 0 [] [a,b] 0) (λL=>sb L/\Qay aa L):=by
 intro r L h ⟨h1,h2⟩;unfold Q0;rw[Vr]at h;obtain⟨hg,he⟩:=ha r _ h (hs _);have hpos:0<c.ts.length:=by obtain⟨hh,_⟩:=hg.rem.lt; omega
 obtain⟨n,hn⟩:∃ n,c.ts.length=n+1:=⟨c.ts.length-1,by omega⟩;rw[hn,Qa4,hg.some hk hf];simp only;obtain⟨hg2,ah⟩:=hb _ L hg.next h1
 rw[QfO (hg2.none h2)];refine⟨hg2,?_⟩;simp only[Ex.er,Ex.erL,he,ah]
theorem Red.cpass (h:Red c d F l e st):Red c d (Qaz c F) l e (λL=>st L/\Qay QaJ L):=by
 intro r L hs ⟨h1,h2⟩;obtain⟨hg,he⟩:=h r L hs h1;unfold Qaz;rw[hg.none h2]; exact⟨hg,he⟩
theorem Red.cop {k:TK} {s:ZG} {op:Int} (ha:Red c d F la a sa) (hb:Red c d F lb b sb) (hk:k=.sg s\/k=.wd s) (hf:(QaJ.find? λo=>decide (s=o.1)).map (·.2)=.some op) (hs:∀ L,sa (k::L)) :
 Red c d (Qaz c F) (la++k::lb) (.mk op 0 [] [a,b] 0) sb:=by
 intro r L h h1;unfold Qaz;rw[Vr]at h;obtain⟨hg,he⟩:=ha r _ h (hs _);rw[hg.some hk hf];simp only;obtain⟨hg2,ah⟩:=hb _ L hg.next h1
 refine⟨hg2,?_⟩;simp only[Ex.er,Ex.erL,he,ah]
theorem Qls {r:Rd} {L:List TK} {k:TK} {s:ZG} (h:Sta c (d+1) r (k::L)) (hk:pk (k::L) s=true):Sta c d (QA c s r).2 L:=by
 have hv:=h.v;have hd:=h.d;unfold QA;rw[h.peek,Zq (by rintro⟨_,h2⟩; omega)];have hw:IntKind.i64.wrap (r.v+1)=r.v+1:=Qam (by omega) (by omega);have hu:Sta c d (av r) (k::L):=⟨h.e,h.rem,by show IntKind.i64.wrap (r.v+1)+(d:Int)=40; rw[hw]; omega,by omega⟩;exact(hu.take hk).2
theorem dnS {r:Rd} {L:List TK} (h:Sta c d r L) (hd:d+1<=40):Sta c (d+1) (dnR r) L:=by
 have hv:=h.v;have hw:IntKind.i64.wrap (r.v-1)=r.v-1:=Qam (by omega) (by omega);exact⟨h.e,h.rem,by show IntKind.i64.wrap (r.v-1)+((d+1:Nat):Int)=40; rw[hw]; omega,hd⟩
variable {cmp ntP orP facP:Rd->Ex×Rd}
theorem Red.npass (h:Red c d cmp l e st) (hn:∀ L,pk (l++L) [110,111,116]=false):Red c d (Qal c cmp ntP) l e st:=by
 intro r L hs h1;unfold Qal;rw[hs.peek,Zq (by rw[hn L]; decide)];exact h r L hs h1
theorem Red.nop (ha:Red c d ntP la a sa):Red c (d+1) (Qal c cmp ntP) (.wd [110,111,116]::la) (.mk 4 0 [] [a] 0) sa:=by
 intro r L hs h1;have ho:=Qls (s:=[110,111,116]) hs rfl;unfold Qal;have hp:Qd c [110,111,116] r=true:=by rw[hs.peek]; rfl
 rw[Zr hp,Zq (λh=>h ho.e)];obtain⟨hg,he⟩:=ha _ L ho h1;exact⟨dnS hg hs.d,by simp only[Ex.er,Ex.erL,he]⟩
theorem Red.name {w:ZG} (hw:w∉QaB):Red c d (QC c orP facP) [.wd w] (.mk 2 0 w [] 0) (λ_=>True):=by
 intro r L hs _;have hs:Sta c d r (.wd w::L):=hs;unfold QC;rw[Zq (λh=>h hs.e),Zr (by rw[hs.free]; simpa[Qdy]using hw)];obtain⟨h1,h2⟩:=hs.word hw;rw[h1];exact⟨h2,by simp only[Ex.er,Ex.erL]⟩
theorem Red.neg (ha:Red c d facP la a sa):Red c (d+1) (QC c orP facP) (.sg [45]::la) (.mk 3 0 [] [a] 0) sa:=by
 intro r L hs h1;have ho:=Qls (s:=[45]) hs rfl;unfold QC;have hp:Qd c [45] r=true:=by rw[hs.peek]; rfl
 have hf:QV c r=false:=by rw[hs.free]; rfl
 rw[Zq (λh=>h hs.e),Zq (by rw[hf]; decide),Zr hp,Zq (λh=>h ho.e)];obtain⟨hg,he⟩:=ha _ L ho h1;exact⟨dnS hg hs.d,by simp only[Ex.er,Ex.erL,he]⟩
theorem Red.par (ha:Red c d orP la a sa) (hs:∀ L,sa (.sg [41]::L)):Red c (d+1) (QC c orP facP) (.sg [40]::(la++[.sg [41]])) a (λ_=>True):=by
 intro r L h _;have ho:=Qls (s:=[40]) h rfl;unfold QC;have hp:Qd c [45] r=false:=by rw[h.peek]; rfl
 have hp2:Qd c [40] r=true:=by rw[h.peek]; rfl
 have hf:QV c r=false:=by rw[h.free]; rfl
 rw[Zq (λh2=>h2 h.e),Zq (by rw[hf]; decide),Zq (by rw[hp]; decide),Zr hp2,Zq (λh2=>h2 ho.e)];have ho:Sta c d (QA c [40] r).2 (la++(.sg [41]::L)):=by have:=ho; rwa [show(la++[TK.sg [41]]).append L=la++(.sg [41]::L)from Vr ..]at this
 obtain⟨hg,he⟩:=ha _ _ ho (hs _);exact⟨dnS (hg.take rfl).2 h.d,he⟩
theorem Red.num {n:Nat}:Red c d (QC c orP facP) [.nm n] (.mk 1 n [] [] 0) (λ_=>True):=by
 intro r L hs _;have hs:Sta c d r (.nm n::L):=hs;have hfd:Qan.find? (λw=>Qd c w.1 r)=none:=by
  rw[Y9];intro w _; rw[hs.peek]; exact Bool.false_ne_true
 unfold QC;have hp:Qd c [45] r=false:=by rw[hs.peek]; rfl
 have hp2:Qd c [40] r=false:=by rw[hs.peek]; rfl
 have hf:QV c r=false:=by rw[hs.free]; rfl
 rw[Zq (λh2=>h2 hs.e),Zq (by rw[hf]; decide),Zq (by rw[hp]; decide),Zq (by rw[hp2]; decide),hfd];obtain⟨h1,h2⟩:=hs.numb;rw[h1];exact⟨h2,by simp only[Ex.er,Ex.erL]⟩
def cmm:List (List TK)->List TK
 |[]=>[]
 |x::r=>.sg [44]::(x++cmm r)
inductive Qh1 (c:Cx) (d:Nat) (F:Rd->Ex×Rd) (sa:List TK->Prop):List (List TK)->List Ex->Prop
 |nil:Qh1 c d F sa [] []
 |cons {x:List TK} {e:Ex} {xs:List (List TK)} {es:List Ex}:Red c d F x e sa->Qh1 c d F sa xs es->Qh1 c d F sa (x::xs) (e::es)
theorem Qzn {xs:List (List TK)} {es:List Ex} (hr:Qh1 c d orP sa xs es) (h1:∀ L,sa (.sg [41]::L)) (h2:∀ L,sa (.sg [44]::L)) :
 ∀ (acc:List Ex) (r:Rd) (L:List TK),Sta c d r (cmm xs++.sg [41]::L) ->
  ∃ l,(QP c orP xs.length acc r).1=some (acc++l)/\Sta c d (QP c orP xs.length acc r).2 (.sg [41]::L)/\Ex.erL l=Ex.erL es:=by
 induction hr with
 |nil=>intro acc r L h; exact⟨[],by simp[QP],h,rfl⟩
 |@cons x e xs es hx hxs ih =>
  intro acc r L h;obtain⟨ht1,ht⟩:=Sta.take (k:=.sg [44]) (s:=[44]) (L:=x++(cmm xs++.sg [41]::L)) (by simpa[cmm]using h) rfl;rw[Vh,QP,Zq (λh=>h ht.e)];have hnx:sa (cmm xs++.sg [41]::L):=by
   cases xs with
   |nil=>exact h1 _
   |cons y ys=>exact h2 _
  obtain⟨hg,he⟩:=hx _ _ ht hnx;obtain⟨l,g1,g2,g3⟩:=ih (acc++[(orP (Qj c [44] r).2).1]) _ L hg;refine⟨(orP (Qj c [44] r).2).1::l,?_,g2,?_⟩
  . rw[g1]; simp
  . simp only[Ex.erL,g3];rw[he]
theorem Red.call {w:ZG} {op:Int} {x:List TK} {xs:List (List TK)} {es:List Ex} (hw:(w,op,xs.length)∈Qan) (ha:Red c d orP x a sa)
 (hr:Qh1 c d orP sa xs es) (h1:∀ L,sa (.sg [41]::L)) (h2:∀ L,sa (.sg [44]::L)) :
 Red c (d+1) (QC c orP facP) (.wd w::.sg [40]::(x++cmm xs++[.sg [41]])) (.mk op 0 [] (a::es) 0) (λ_=>True):=by
 intro r L h _;have h:Sta c (d+1) r (.wd w::.sg [40]::(x++(cmm xs++.sg [41]::L))):=by simpa using h
 have hwr:w∈QaB/\w≠[45]/\w≠[40]/\Qan.find? (λv=>decide (w=v.1))=some (w,op,xs.length):=by
  generalize xs.length=m at hw;simp only[Qan,Vd,Vu,Zw,Prod.mk.injEq]at hw;rcases hw with ⟨rfl,rfl,rfl⟩|⟨rfl,rfl,rfl⟩|⟨rfl,rfl,rfl⟩<;>decide
 obtain⟨k1,k2,k3,k4⟩:=hwr;have hfd:Qan.find? (λv=>Qd c v.1 r)=some (w,op,xs.length):=by
  have e:(λv:ZG×Int×Nat=>Qd c v.1 r)=λv=>decide (w=v.1):=by funext v; rw[h.peek]; rfl
  rw[e]; exact k4
 unfold QC;rw[Zq (λh2=>h2 h.e),Zq (by rw[h.free]; simpa[Qdy]using k1),h.peek,h.peek,Zq (by simp[pk,k2]),Zq (by simp[pk,k3]),hfd];simp only;unfold Qcm;simp only;have ht:=(h.take (s:=w) (by simp[pk])).2;have ho:=Qls (s:=[40]) ht rfl;rw[Zq (λh=>h ho.e)];generalize (QA c [40] (Qj c w r).2).2=r2 at ho ⊢;have hnx:sa (cmm xs++.sg [41]::L):=by
  cases xs with
  |nil=>exact h1 _
  |cons y ys=>exact h2 _
 obtain⟨hg,he⟩:=ha r2 _ ho hnx;obtain⟨l,g1,g2,g3⟩:=Qzn hr h1 h2 [(orP r2).1] _ L hg;split
 . rename_i r3 hq; rw[hq]at g1; cases g1
 . rename_i l' r3 hq;rw[hq]at g1 g2;obtain rfl:=Option.some.inj g1;refine⟨dnS (g2.take rfl).2 h.d,?_⟩;simp only[Ex.er,Vv,VG,Ex.erL,he,g3]
def q1 (c:Cx) (d:Nat):Rd->Ex×Rd:=Q0 c QaV (lv c d).fac
def q2 (c:Cx) (d:Nat):Rd->Ex×Rd:=Q0 c QaZ (q1 c d)
def q3 (c:Cx) (d:Nat):Rd->Ex×Rd:=Qaz c (q2 c d)
def q5 (c:Cx) (d:Nat):Rd->Ex×Rd:=Q0 c QaU (lv c d).nt
theorem ntq (d:Nat):∃ N,(lv c d).nt=Qal c (q3 c d) N:=by
 cases d with
 |zero=>exact⟨_,rfl⟩
 |succ d=>exact⟨_,rfl⟩
def Qfr (L:List TK):Prop:=Qay QaV L/\Qay QaZ L/\Qay QaJ L/\Qay QaU L/\Qay orO L
theorem noq {aa:List (ZG×Int)} {k:TK} {s:ZG} (hk:k=.sg s\/k=.wd s) (h:(aa.all λo=>decide (s≠o.1))=true) (L:List TK):Qay aa (k::L):=by
 intro o ho;have h2:=Vi.1 h o ho;simp only[ne_eq,decide_not,VL,ZB]at h2;rcases hk with rfl|rfl<;>simp[pk,h2]
theorem QcR {s:ZG} (h:([QaV,QaZ,QaJ,QaU,orO].all λl=>l.all λo=>decide (s≠o.1))=true) {k:TK} (hk:k=.sg s\/k=.wd s) (L:List TK):Qfr (k::L):=by
 have h2:=Vi.1 h;exact⟨noq hk (h2 QaV (by simp)) L,noq hk (h2 QaZ (by simp)) L,noq hk (h2 QaJ (by simp)) L,noq hk (h2 QaU (by simp)) L,noq hk (h2 orO (by simp)) L⟩
abbrev s1 (L:List TK):Prop:=True/\Qay QaV L
abbrev s2 (L:List TK):Prop:=s1 L/\Qay QaZ L
abbrev s3 (L:List TK):Prop:=s2 L/\Qay QaJ L
theorem rq1 (h:Red c d (lv c d).fac l e (λ_=>True)):Red c d (q1 c d) l e s1:=h.pass
theorem rq2 (h:Red c d (q1 c d) l e s1):Red c d (q2 c d) l e s2:=h.pass
theorem rq3 (h:Red c d (q2 c d) l e s2):Red c d (q3 c d) l e s3:=h.cpass
theorem rq4 {st:List TK->Prop} (h:Red c d (q3 c d) l e st) (hn:∀ L,pk (l++L) [110,111,116]=false):Red c d (lv c d).nt l e st:=by
 obtain⟨N,hN⟩:=ntq (c:=c) d;rw[hN]; exact h.npass hn
theorem rq6 {st:List TK->Prop} (h:Red c d (lv c d).nt l e st):Red c d (QaT c (lv c d)) l e (λL=>(st L/\Qay QaU L)/\Qay orO L):=h.pass.pass
def Whole (c:Cx) (d:Nat) (l:List TK) (e:Ex):Prop:=Red c d (QaT c (lv c d)) l e Qfr
theorem wh3 {st:List TK->Prop} (h:Red c d (q3 c d) l e st) (hs:∀ L,Qfr L->st L) (hn:∀ L,pk (l++L) [110,111,116]=false):Whole c d l e :=
 (rq6 (rq4 h hn)).mono λL hL=>⟨⟨hs L hL,hL.2.2.2.1⟩,hL.2.2.2.2⟩
theorem wh2 (h:Red c d (q2 c d) l e s2) (hn:∀ L,pk (l++L) [110,111,116]=false):Whole c d l e:=wh3 (rq3 h) (λ_ hL=>⟨⟨⟨trivial,hL.1⟩,hL.2.1⟩,hL.2.2.1⟩) hn
theorem wh0 (h:Red c d (lv c d).fac l e (λ_=>True)) (hn:∀ L,pk (l++L) [110,111,116]=false):Whole c d l e:=wh2 (rq2 (rq1 h)) hn
theorem QEf {w:ZG} (hw:w∉QaB):Red c d (lv c d).fac [.wd w] (.mk 2 0 w [] 0) (λ_=>True):=by
 cases d with
 |zero=>exact Red.name hw
 |succ d=>exact Red.name hw
theorem QbV {n:Nat}:Red c d (lv c d).fac [.nm n] (.mk 1 n [] [] 0) (λ_=>True):=by
 cases d with
 |zero=>exact Red.num
 |succ d=>exact Red.num
end
def Qgg:ZG:=[109,97,120]
def QmT:ZG:=[109,105,110]
def wIf:ZG:=[105,102]
def QhC:ZG:=[110,111,116]
def QiF:ZG:=[97,110,100]
def wOr:ZG:=[111,114]
abbrev pw (s:ZG):Pc:=.t (.wd s)
abbrev ps (s:ZG):Pc:=.t (.sg s)
abbrev pnU (n:Nat):Pc:=.t (.nm n)
abbrev pb:Pc:=.b 32
def Qfk (g:GX):List Pc :=
 if g.k=0 then [pw (vN g.x),pb,ps [43],pb,pw (vN g.y)]
 else if g.k=1 then [pw (vN g.x),pb,ps [45],pb,pnU 2,pb,ps [42],pb,pw (vN g.y)]
 else if g.k=2 then [pw Qgg,ps [40],pw (vN g.x),ps [44],pb,pw (vN g.y),ps [41]]
 else if g.k=3 then [pw wIf,ps [40],pw (vN g.x),pb,ps [60],pb,pw (vN g.y),ps [44],pb,pnU 1,ps [44],pb,ps [45],pnU 1,ps [41]]
 else if g.k=4 then [pw QmT,ps [40],pw (vN g.x),ps [44],pb,pnU 3,ps [41],pb,ps [43],pb,pnU 1]
 else if g.k=5 then [ps [45],pw (vN g.x)]
 else if g.k=6 then [ps [40],pw (vN g.x),pb,ps [43],pb,pnU 7,ps [41],pb,ps [37],pb,pnU 3]
 else [pw (vN g.x)]
def Qgz (g:GX):List Pc :=
 if g.k=0 then [pw (vN g.x),pb,ps [60],pb,pnU 1]
 else if g.k=1 then [pw (vN g.x),pb,ps [62,61],pb,pw (vN g.y),pb,pw QiF,pb,pw QhC,pb,pw (vN g.y),pb,ps [61,61],pb,pnU 2]
 else if g.k=2 then [pw (vN g.x),pb,ps [33,61],pb,pnU 0,pb,pw wOr,pb,pw (vN g.y),pb,ps [62],pb,pnU 1]
 else [pw QhC,pb,pw (vN g.x),pb,ps [60,61],pb,pnU 0]
theorem QBa (g:GX):al (Qfk g)=exB g:=by
 unfold Qfk exB exT;repeat' split
 all_goals rfl
theorem QCY (g:GX):al (Qgz g)=cdB g:=by
 unfold Qgz cdB cdT;repeat' split
 all_goals rfl
abbrev eNm (x:Nat):Ex:=.mk 2 0 (vN x) [] 0
abbrev eIn (n:Nat):Ex:=.mk 1 n [] [] 0
abbrev eOp (op:Int) (l:List Ex):Ex:=.mk op 0 [] l 0
def exE (g:GX):Ex :=
 if g.k=0 then eOp 8 [eNm g.x,eNm g.y]
 else if g.k=1 then eOp 9 [eNm g.x,eOp 5 [eIn 2,eNm g.y]]
 else if g.k=2 then eOp 19 [eNm g.x,eNm g.y]
 else if g.k=3 then eOp 20 [eOp 12 [eNm g.x,eNm g.y],eIn 1,eOp 3 [eIn 1]]
 else if g.k=4 then eOp 8 [eOp 18 [eNm g.x,eIn 3],eIn 1]
 else if g.k=5 then eOp 3 [eNm g.x]
 else if g.k=6 then eOp 7 [eOp 8 [eNm g.x,eIn 7],eIn 3]
 else eNm g.x
def cdE (g:GX):Ex :=
 if g.k=0 then eOp 12 [eNm g.x,eIn 1]
 else if g.k=1 then eOp 16 [eOp 15 [eNm g.x,eNm g.y],eOp 4 [eOp 10 [eNm g.y,eIn 2]]]
 else if g.k=2 then eOp 17 [eOp 11 [eNm g.x,eIn 0],eOp 14 [eNm g.y,eIn 1]]
 else eOp 4 [eOp 13 [eNm g.x,eIn 0]]
theorem QEx:∀ w∈QaB,∀ x,w≠vN x:=by
 intro w hw x;have h1:w.headD 0=118->w.length=2->False:=by
  have:∀ w∈QaB,¬ (w.headD 0=118/\w.length=2):=by decide
  exact λa b=>this w hw ⟨a,b⟩
 intro e;subst e;exact h1 rfl rfl
theorem QiX (x:Nat):vN x∉QaB:=λh=>QEx _ h x rfl
section
variable {c:Cx} {d:Nat}
theorem nm1 (x:Nat):Red c d (lv c d).fac [.wd (vN x)] (eNm x) (λ_=>True):=QEf (QiX x)
theorem QbT (x:Nat) (L:List TK):pk (.wd (vN x)::L) [110,111,116]=false:=by
 have:vN x≠[110,111,116]:=λe=>QiX x (by rw[e]; decide);simp[pk,this]
theorem Qiq (x:Nat):Whole c d [.wd (vN x)] (eNm x):=wh0 (nm1 x) (QbT x)
theorem QfJ (n:Nat):Whole c d [.nm n] (eIn n):=wh0 QbV λ_=>rfl
theorem QgL (s:ZG) (op:Int) {la lb:List TK} {a b:Ex} (ha:Red c d (q1 c d) la a s1) (hb:Red c d (q1 c d) lb b s1) (hf:(QaZ.find? λo=>decide (s=o.1)).map (·.2)=some op) (hm:(QaV.all λo=>decide (s≠o.1))=true) (hn:∀ L,pk (la++L) [110,111,116]=false):Whole c d (la++.sg s::lb) (.mk op 0 [] [a,b] 0) :=
 wh2 (Red.op ha hb (.inl rfl) hf λL=>⟨trivial,noq (.inl rfl) hm L⟩) λL=>by rw[Vr]; exact hn _
theorem QgW {w:ZG} {op:Int} {x:List TK} {a:Ex} {xs:List (List TK)} {es:List Ex} (hw:(w,op,xs.length)∈Qan) (ha:Whole c d x a) (hr:Qh1 c d (QaT c (lv c d)) Qfr xs es) :
 Red c (d+1) (lv c (d+1)).fac (.wd w::.sg [40]::(x++cmm xs++[.sg [41]])) (.mk op 0 [] (a::es) 0) (λ_=>True) :=
 Red.call hw ha hr (λL=>QcR (s:=[41]) (by decide) (.inl rfl) L) (λL=>QcR (s:=[44]) (by decide) (.inl rfl) L)
theorem Qhx (s:ZG) (op:Int) {la lb:List TK} {a b:Ex} (ha:Red c d (lv c d).fac la a (λ_=>True)) (hb:Red c d (lv c d).fac lb b (λ_=>True)) (hf:(QaJ.find? λo=>decide (s=o.1)).map (·.2)=some op) (hm:(QaV.all λo=>decide (s≠o.1))=true) (hs:(QaZ.all λo=>decide (s≠o.1))=true) :
 Red c d (q3 c d) (la++.sg s::lb) (.mk op 0 [] [a,b] 0) s2 :=
 Red.cop (rq2 (rq1 ha)) (rq2 (rq1 hb)) (.inl rfl) hf λL=>⟨⟨trivial,noq (.inl rfl) hm L⟩,noq (.inl rfl) hs L⟩
theorem Qkf {L:List TK} (h:Qfr L):s2 L:=⟨⟨trivial,h.1⟩,h.2.1⟩
theorem Qe6 (s:ZG) (op:Int) {la lb:List TK} {a b:Ex} (ha:Red c d (lv c d).fac la a (λ_=>True)) (hb:Red c d (lv c d).fac lb b (λ_=>True)) (hf:(QaJ.find? λo=>decide (s=o.1)).map (·.2)=some op) (hm:(QaV.all λo=>decide (s≠o.1))=true) (hs:(QaZ.all λo=>decide (s≠o.1))=true) (hn:∀ L,pk (la++L) [110,111,116]=false) :
 Whole c d (la++.sg s::lb) (.mk op 0 [] [a,b] 0) :=
 wh3 (Qhx s op ha hb hf hm hs) (λ_=>Qkf) λL=>by rw[Vr]; exact hn _
theorem QpJ (g:GX):Whole c 40 (ak (Qfk g)) (exE g):=by
 unfold Qfk exE;by_cases k0:g.k=0
 . rw[Zr k0,Zr k0];exact QgL [43] 8 (la:=[.wd (vN g.x)]) (rq1 (nm1 _)) (rq1 (nm1 _)) (by decide) (by decide) (QbT _)
 rw[Zq k0,Zq k0];by_cases k1:g.k=1
 . rw[Zr k1,Zr k1];refine QgL [45] 9 (la:=[.wd (vN g.x)]) (lb:=[.nm 2]++.sg [42]::[.wd (vN g.y)]) (rq1 (nm1 _)) ?_ (by decide) (by decide) (QbT _);exact Red.op (s:=[42]) (QbV (n:=2)) (nm1 g.y) (.inl rfl) (by decide) λ_=>trivial
 rw[Zq k1,Zq k1];by_cases k2:g.k=2
 . rw[Zr k2,Zr k2];exact wh0 (QgW (d:=39) (w:=Qgg) (x:=[.wd (vN g.x)]) (xs:=[[.wd (vN g.y)]]) (show(Qgg,(19:Int),1)∈Qan by decide) (Qiq _) (.cons (Qiq _) .nil)) λ_=>rfl
 rw[Zq k2,Zq k2];by_cases k3:g.k=3
 . rw[Zr k3,Zr k3];refine wh0 (QgW (d:=39) (w:=wIf) (x:=[.wd (vN g.x)]++.sg [60]::[.wd (vN g.y)]) (xs:=[[.nm 1],.sg [45]::[.nm 1]]) (show(wIf,(20:Int),2)∈Qan by decide) (Qe6 [60] 12 (nm1 _) (nm1 _) (by decide) (by decide) (by decide) λL=>QbT _ _) (.cons (QfJ 1) (.cons ?_ .nil))) λ_=>rfl;exact wh0 (Red.neg (d:=38) (QbV (n:=1))) λ_=>rfl
 rw[Zq k3,Zq k3];by_cases k4:g.k=4
 . rw[Zr k4,Zr k4];exact QgL [43] 8 (la:=.wd QmT::.sg [40]::([.wd (vN g.x)]++cmm [[.nm 3]]++[.sg [41]])) (rq1 (QgW (op:=18) (d:=39) (show(QmT,(18:Int),1)∈Qan by decide) (Qiq _) (.cons (QfJ 3) .nil))) (rq1 (QbV (n:=1))) (by decide) (by decide) (λ_=>rfl)
 rw[Zq k4,Zq k4];by_cases k5:g.k=5
 . rw[Zr k5,Zr k5];exact wh0 (Red.neg (d:=39) (nm1 g.x)) λ_=>rfl
 rw[Zq k5,Zq k5];by_cases k6:g.k=6
 . rw[Zr k6,Zr k6];have h1:Red c 40 (lv c 40).fac (.sg [40]::(([.wd (vN g.x)]++.sg [43]::[.nm 7])++[.sg [41]])) (eOp 8 [eNm g.x,eIn 7]) (λ_=>True) :=
    Red.par (d:=39) (QgL [43] 8 (la:=[.wd (vN g.x)]) (rq1 (nm1 _)) (rq1 (QbV (n:=7))) (by decide) (by decide) (QbT _)) λL=>QcR (s:=[41]) (by decide) (.inl rfl) L
   exact wh2 (rq2 (Red.op (s:=[37]) h1 (QbV (n:=3)) (.inl rfl) (by decide) λ_=>trivial)) λ_=>rfl
 rw[Zq k6,Zq k6];exact Qiq _
theorem QyQ (g:GX):Whole c (d+1) (ak (Qgz g)) (cdE g):=by
 unfold Qgz cdE;by_cases k0:g.k=0
 . rw[Zr k0,Zr k0];exact Qe6 [60] 12 (la:=[.wd (vN g.x)]) (nm1 _) (QbV (n:=1)) (by decide) (by decide) (by decide) (QbT _)
 rw[Zq k0,Zq k0];by_cases k1:g.k=1
 . rw[Zr k1,Zr k1];have a1:=rq4 (Qhx (c:=c) (d:=d+1) [62,61] 15 (la:=[.wd (vN g.x)]) (nm1 _) (nm1 g.y) (by decide) (by decide) (by decide)) λL=>QbT _ _;have a2:=rq4 (Qhx (c:=c) (d:=d) [61,61] 10 (la:=[.wd (vN g.y)]) (nm1 _) (QbV (n:=2)) (by decide) (by decide) (by decide)) λL=>QbT _ _;have a3:Red c (d+1) (lv c (d+1)).nt (.wd QhC::([.wd (vN g.y)]++.sg [61,61]::[.nm 2])) (eOp 4 [eOp 10 [eNm g.y,eIn 2]]) s2:=Red.nop a2;exact((Red.op (aa:=QaU) (s:=QiF) a1 a3 (.inr rfl) (by decide) λL=>⟨⟨trivial,noq (s:=QiF) (.inr rfl) (by decide) L⟩,noq (s:=QiF) (.inr rfl) (by decide) L⟩).pass (aa:=orO)).mono λL hL=>⟨⟨Qkf hL,hL.2.2.2.1⟩,hL.2.2.2.2⟩
 rw[Zq k1,Zq k1];by_cases k2:g.k=2
 . rw[Zr k2,Zr k2];have a1:=(rq4 (Qhx (c:=c) (d:=d+1) [33,61] 11 (la:=[.wd (vN g.x)]) (nm1 _) (QbV (n:=0)) (by decide) (by decide) (by decide)) λL=>QbT _ _).pass (aa:=QaU);have a2:=(rq4 (Qhx (c:=c) (d:=d+1) [62] 14 (la:=[.wd (vN g.y)]) (nm1 _) (QbV (n:=1)) (by decide) (by decide) (by decide)) λL=>QbT _ _).pass (aa:=QaU);exact(Red.op (aa:=orO) (s:=wOr) a1 a2 (.inr rfl) (by decide) λL=>⟨⟨⟨trivial,noq (s:=wOr) (.inr rfl) (by decide) L⟩,noq (s:=wOr) (.inr rfl) (by decide) L⟩,noq (s:=wOr) (.inr rfl) (by decide) L⟩).mono λL hL=>⟨⟨Qkf hL,hL.2.2.2.1⟩,hL.2.2.2.2⟩
 rw[Zq k2,Zq k2];have a2:=rq4 (Qhx (c:=c) (d:=d) [60,61] 13 (la:=[.wd (vN g.x)]) (nm1 _) (QbV (n:=0)) (by decide) (by decide) (by decide)) λL=>QbT _ _;have a3:Red c (d+1) (lv c (d+1)).nt (.wd QhC::([.wd (vN g.x)]++.sg [60,61]::[.nm 0])) (eOp 4 [eOp 13 [eNm g.x,eIn 0]]) s2:=Red.nop a2;exact(rq6 a3).mono λL hL=>⟨⟨Qkf hL,hL.2.2.2.1⟩,hL.2.2.2.2⟩
end
structure GA where
 wh:Option GX
 hid:Bool
 sets:List (Nat×GX)
 go:Option Nat
inductive GS where
 |deal (x r w s p:Nat)
 |turn (who:Option GX) (p:Nat) (acts:List GA)
structure GR where
 pl:Nat
 v:Nat
 nm:Nat
 ini:List Nat
 stages:List GS
 pays:List GX
section
variable (l:List Int)
def Qbv (v:Nat):Nat->Nat->List (Nat×GX)×Nat
 |0,a=>([],a)
 |m+1,a=>(((af l a v).1,(gx l v 8 (af l a v).2).1)::(Qbv v m (gx l v 8 (af l a v).2).2).1,(Qbv v m (gx l v 8 (af l a v).2).2).2)
def whC (v k a:Nat):Option GX×Nat :=
 if k=0 then(none,a)else if(af l a 3).1=0 then(some (gx l v 4 (af l a 3).2).1,(gx l v 4 (af l a 3).2).2)else(none,(af l a 3).2)
def goC (i n a:Nat):Option Nat×Nat :=
 if(af l a 3).1=0 then(some (i+1+(af l (af l a 3).2 (n-i)).1),(af l (af l a 3).2 (n-i)).2)else(none,(af l a 3).2)
def QbZ (v i n k a:Nat):GA×Nat :=
 let w:=whC l v k a
 let h:=af l w.2 3
 let m:=af l h.2 3
 let s:=Qbv l v m.1 m.2
 let g:=goC l i n s.2
 (⟨w.1,decide (h.1=0),s.1,g.1⟩,g.2)
def Qcj (v i n:Nat):Nat->Nat->Nat->List GA×Nat
 |0,_,a=>([],a)
 |m+1,k,a=>((QbZ l v i n k a).1::(Qcj v i n m (k+1) (QbZ l v i n k a).2).1,(Qcj v i n m (k+1) (QbZ l v i n k a).2).2)
def Qdq (pl v a:Nat):(Option GX×Nat)×Nat :=
 if(af l a 4).1=0 then((some (gx l v 4 (af l a 4).2).1,pl-1),(gx l v 4 (af l a 4).2).2)else((none,(af l (af l a 4).2 pl).1),(af l (af l a 4).2 pl).2)
def Qdv (pl v i n a:Nat):GS×Nat :=
 let w:=Qdq l pl v a
 let m:=af l w.2 3
 let s:=Qcj l v i n (1+m.1) 0 m.2
 (.turn w.1.1 w.1.2 s.1,s.2)
def Qfy (pl a:Nat):(Nat×Nat)×Nat:=if(af l a 3).1=1 then((1,(af l (af l a 3).2 pl).1),(af l (af l a 3).2 pl).2)else(((af l a 3).1,0),(af l a 3).2)
def Qep (pl v a:Nat):GS×Nat :=
 let x:=af l a v
 let r:=af l x.2 4
 let w:=af l r.2 4
 let s:=Qfy l pl w.2
 (.deal x.1 r.1 w.1 s.1.1 s.1.2,s.2)
def stC (pl v i n a:Nat):GS×Nat:=if(af l a 3).1=0 then Qep l pl v (af l a 3).2 else Qdv l pl v i n (af l a 3).2
def QbO (pl v n:Nat):Nat->Nat->Nat->List GS×Nat
 |0,_,a=>([],a)
 |m+1,i,a=>((stC l pl v i n a).1::(QbO pl v n m (i+1) (stC l pl v i n a).2).1,(QbO pl v n m (i+1) (stC l pl v i n a).2).2)
def Qch (v:Nat):Nat->Nat->List GX×Nat
 |0,a=>([],a)
 |m+1,a=>((gx l v 8 a).1::(Qch v m (gx l v 8 a).2).1,(Qch v m (gx l v 8 a).2).2)
def QbL:Nat->Nat->List Nat×Nat
 |0,a=>([],a)
 |m+1,a=>((af l a 4).1::(QbL m (af l a 4).2).1,(QbL m (af l a 4).2).2)
def Qav:GR :=
 let p:=af l 0 3
 let v:=af l p.2 3
 let n:=af l v.2 4
 let m:=af l n.2 9
 let i:=QbL l (1+v.1) m.2
 let s:=QbO l (1+p.1) (1+v.1) (1+n.1) (1+n.1) 0 i.2
 let y:=Qch l (1+v.1) (1+p.1) s.2
 ⟨1+p.1,1+v.1,m.1,i.1,s.1,y.1⟩
variable {l}
theorem QnO {v:Nat}:∀ {m a:Nat},a<=l.length->(Qbv l v m a).2<=l.length
 |0,_,h=>h
 |m+1,_,h=>QnO (m:=m) (QfL (QS h))
theorem Qv5 {v k a:Nat} (h:a<=l.length):(whC l v k a).2<=l.length:=by
 unfold whC;repeat' split
 . exact h
 . exact QfL (QS h)
 . exact QS h
theorem Qw0 {i n a:Nat} (h:a<=l.length):(goC l i n a).2<=l.length:=by
 unfold goC;split
 . exact QS (QS h)
 . exact QS h
theorem Quw {v i n k a:Nat} (h:a<=l.length):(QbZ l v i n k a).2<=l.length:=Qw0 (QnO (QS (QS (Qv5 h))))
theorem Qta {v i n:Nat}:∀ {m k a:Nat},a<=l.length->(Qcj l v i n m k a).2<=l.length
 |0,_,_,h=>h
 |m+1,_,_,h=>Qta (m:=m) (Quw h)
theorem QCb {pl v a:Nat} (h:a<=l.length):(Qdq l pl v a).2<=l.length:=by
 unfold Qdq;split
 . exact QfL (QS h)
 . exact QS (QS h)
theorem Qv0 {pl v i n a:Nat} (h:a<=l.length):(Qdv l pl v i n a).2<=l.length:=Qta (QS (QCb h))
theorem QCy {pl a:Nat} (h:a<=l.length):(Qfy l pl a).2<=l.length:=by
 unfold Qfy;split
 . exact QS (QS h)
 . exact QS h
theorem QCq {pl v a:Nat} (h:a<=l.length):(Qep l pl v a).2<=l.length:=QCy (QS (QS (QS h)))
theorem QpP {pl v i n a:Nat} (h:a<=l.length):(stC l pl v i n a).2<=l.length:=by
 unfold stC;split
 . exact QCq (QS h)
 . exact Qv0 (QS h)
theorem Qs7 {pl v n:Nat}:∀ {m i a:Nat},a<=l.length->(QbO l pl v n m i a).2<=l.length
 |0,_,_,h=>h
 |m+1,_,_,h=>Qs7 (m:=m) (QpP h)
theorem Qro:∀ {m a:Nat},a<=l.length->(QbL l m a).2<=l.length
 |0,_,h=>h
 |m+1,_,h=>Qro (m:=m) (QS h)
theorem QiP {v:Nat}:∀ {m a:Nat},(Qbv l v m a).1.length=m
 |0,_=>rfl
 |m+1,_=>Zt (· + 1) (QiP (m:=m))
theorem Qij {v i n:Nat}:∀ {m k a:Nat},(Qcj l v i n m k a).1.length=m
 |0,_,_=>rfl
 |m+1,_,_=>Zt (· + 1) (Qij (m:=m))
end
def QfV (s:Nat×GX):ZG:=[32]++vN s.1++[32,61,32]++exB s.2++[59]
def Qed (l:List (Nat×GX)):ZG:=l.flatMap QfV
def whB (w:Option GX):ZG:=match w with
 |none=>[]
 |some g=>[32,119,104,101,110,32]++cdB g
def QgE (b:Bool):ZG:=if b=true then [32,104,105,100,100,101,110]else []
def goB (g:Option Nat):ZG:=match g with
 |none=>[]
 |some t=>[32,103,111,116,111,32,115]++dg t++[59]
def aN (k:Nat):ZG:=[UInt8.ofNat (97+k)]
def QeZ (k:Nat) (g:GA):ZG:=[32,32,97,99,116,105,111,110,32]++aN k++whB g.wh++QgE g.hid++[32,123]++Qed g.sets++[32,125]++goB g.go++[10]
def QeJ:Nat->List GA->ZG
 |_,[]=>[]
 |k,g::r=>QeZ k g++QeJ (k+1) r
def Qey (w:Option GX) (p:Nat):ZG:=match w with
 |none=>dg p
 |some g=>[105,102,40]++cdB g++[44,32,48,44,32]++dg p++[41]
def Qk3 (w:Option GX) (p:Nat) (acts:List GA):ZG:=[116,117,114,110,32]++Qey w p++[32,123,10]++QeJ 0 acts++[125,10]
def Qer:ZF:=[[48,32,46,46,32,49],[49,32,46,46,32,50],[48,32,46,46,32,50],[51,32,46,46,32,51]]
def wgB (w:Nat) (x:ZG):ZG :=
 if w=0 then [32,119,101,105,103,104,116,32,49,32,43,32]++x
 else if w=1 then [32,119,101,105,103,104,116,32,105,102,40]++x++[32,61,61,32,49,44,32,50,44,32,49,41]
 else if w=2 then [32,119,101,105,103,104,116,32,109,97,120,40]++x++[44,32,48,41,32,43,32,105,102,40]++x++[32,61,61,32,50,44,32,48,44,32,49,41]
 else []
def Qfu (s p:Nat):ZG:=if s=0 then [32,115,101,101,110,32,98,121,32,97,108,108]else if s=1 then [32,115,101,101,110,32,98,121,32]++dg p else []
def Qji (x r w s p:Nat):ZG:=[100,101,97,108,32]++vN x++[32,105,110,32]++Qer.getD r []++wgB w (vN x)++Qfu s p++[59,10]
def stB:GS->ZG
 |.deal x r w s p=>Qji x r w s p
 |.turn w p acts=>Qk3 w p acts
def lbB (i:Nat):ZG:=[115]++dg i++[58,32]
def QdU:Nat->List GS->ZG
 |_,[]=>[]
 |i,g::r=>lbB i++stB g++QdU (i+1) r
def Qfc:ZF:=[[48],[49],[45,49],[50]]
def Qds:Nat->List Nat->ZG
 |_,[]=>[]
 |i,c::r=>[118,97,114,32,118]++dg i++[32,61,32]++Qfc.getD c []++[59,10]++Qds (i+1) r
def QdV:Bool->List GX->ZG
 |_,[]=>[]
 |b,g::r=>(if b then [44,32]else [])++exB g++QdV true r
def QdQ (g:GR):ZG:=[103,97,109,101,32,103]++dg g.nm++[59,10,112,108,97,121,101,114,115,32]++dg g.pl++[59,10]++Qds 0 g.ini++QdU 0 g.stages++[115]++dg g.stages.length++[58,32,101,110,100,32,123,32,112,97,121,32]++QdV false g.pays++[59,32,125,10]
theorem Qra (s:Nat×GX):(QfV s).length<=60:=by
 have:=QmV s.2;simp[QfV,vN,dg]; omega
theorem QmM:∀ l:List (Nat×GX),(Qed l).length<=60*l.length
 |[]=>by simp[Qed]
 |s::r=>by
  have h1:=QmM r;have h2:=Qra s;unfold Qed at h1 ⊢;rw[VO,Vj,Vh]; omega
theorem Qsw (w:Option GX):(whB w).length<=60:=by
 cases w with
 |none=>simp[whB]
 |some g=>have:=Qjg g; simp[whB]; omega
theorem QEA (g:Option Nat):(goB g).length<=60:=by
 cases g with
 |none=>simp[goB]
 |some g=>simp[goB,dg]
theorem QyS (b:Bool):(QgE b).length<=60:=by cases b<;>simp[QgE]
theorem QuN (w:Option GX) (p:Nat):(Qey w p).length<=60:=by
 cases w with
 |none=>simp[Qey,dg]
 |some g=>have:=Qjg g; simp[Qey,dg]; omega
theorem Qx2 (w:Nat) (x:Nat):(wgB w (vN x)).length<=60:=by
 unfold wgB;repeat' split
 all_goals simp[vN,dg]
theorem Qvu (s p:Nat):(Qfu s p).length<=60:=by
 unfold Qfu;repeat' split
 all_goals simp[dg]
def GX.Wf (v n:Nat) (g:GX):Prop:=g.k<n/\g.x<v/\g.y<v
structure GA.Wf (v i n:Nat) (g:GA):Prop where
 wh:∀ c,g.wh=some c->c.Wf v 4
 sets:∀ s∈g.sets,s.1<v/\s.2.Wf v 8
 len:g.sets.length<=2
 go:∀ t,g.go=some t->i<t/\t<=n
def GS.Wf (pl v n i:Nat):GS->Prop
 |.deal x r w s p=>x<v/\r<4/\w<4/\s<3/\p<pl
 |.turn w p acts=>(∀ c,w=some c->c.Wf v 4)/\p<pl/\1<=acts.length/\acts.length<=3/\∀ a∈acts,a.Wf v i n
def Qf0 (pl v n:Nat):Nat->List GS->Prop
 |_,[]=>True
 |i,g::r=>g.Wf pl v n i/\Qf0 pl v n (i+1) r
structure GR.Wf (g:GR):Prop where
 pl1:1<=g.pl
 pl3:g.pl<=3
 v1:1<=g.v
 v3:g.v<=3
 nm:g.nm<9
 ini:∀ c∈g.ini,c<4
 inl:g.ini.length=g.v
 st1:1<=g.stages.length
 st4:g.stages.length<=4
 sts:Qf0 g.pl g.v g.stages.length 0 g.stages
 pays:∀ x∈g.pays,x.Wf g.v 8
 payl:g.pays.length=g.pl
section
variable {l:List Int} {v pl n:Nat} (hv:1<=v)
include hv
theorem QkL {m a:Nat} (hm:1<=m):(gx l v m a).1.Wf v m:=⟨Qac hm,Qac hv,Qac hv⟩
theorem Qsn:∀ (m a:Nat),∀ s∈(Qbv l v m a).1,s.1<v/\s.2.Wf v 8
 |0,_,s,h=>by cases h
 |m+1,a,s,h=>by
  rw[Qbv,Vd]at h;rcases h with rfl|h
  . exact⟨Qac hv,QkL hv (by decide)⟩
  . exact Qsn m _ s h
theorem QyA {i k a:Nat} (hi:i<n):(QbZ l v i n k a).1.Wf v i n:=by
 dsimp only[QbZ];refine⟨λc h => ?_,Qsn hv _ _,?_,λt h => ?_⟩
 . dsimp only at h;unfold whC at h;split at h
   . cases h
   . split at h
     . simp only[Option.some.injEq]at h;rw[<-h]; exact QkL hv (by decide)
     . cases h
 . rw[QiP];have:=Qac (l:=l) (a:=(af l (whC l v k a).2 3).2) (n:=3) (by decide);omega
 . dsimp only at h;unfold goC at h;split at h
   . simp only[Option.some.injEq]at h;have:=Qac (l:=l) (a:=(af l (Qbv l v (af l (af l (whC l v k a).2 3).2 3).1 (af l (af l (whC l v k a).2 3).2 3).2).2 3).2) (n:=n-i) (by omega);omega
   . cases h
theorem QpQ {i:Nat} (hi:i<n):∀ (m k a:Nat),∀ g∈(Qcj l v i n m k a).1,g.Wf v i n
 |0,_,_,g,h=>by cases h
 |m+1,k,a,g,h=>by
  rw[Qcj,Vd]at h;rcases h with rfl|h
  . exact QyA hv hi
  . exact QpQ hi m _ _ g h
theorem QAH {i a:Nat} (hp:1<=pl) (hi:i<n):(stC l pl v i n a).1.Wf pl v n i:=by
 unfold stC;split
 . dsimp only[Qep];refine⟨Qac hv,Qac (by decide),Qac (by decide),?_,?_⟩
   . unfold Qfy;split
     . show 1<3; decide
     . exact Qac (by decide)
   . unfold Qfy;split
     . exact Qac hp
     . exact hp
 . dsimp only[Qdv];refine⟨λc h => ?_,?_,?_,?_,QpQ hv hi _ _ _⟩
   . unfold Qdq at h;split at h
     . simp only[Option.some.injEq]at h;rw[<-h]; exact QkL hv (by decide)
     . cases h
   . unfold Qdq;split
     . show pl-1<pl; omega
     . exact Qac hp
   . rw[Qij]; omega
   . rw[Qij];have:=Qac (l:=l) (a:=(Qdq l pl v (af l a 3).2).2) (n:=3) (by decide);omega
theorem Qrc (hp:1<=pl):∀ (m i a:Nat),i+m<=n->Qf0 pl v n i (QbO l pl v n m i a).1
 |0,_,_,_=>trivial
 |m+1,i,a,h=>⟨QAH hv hp (by omega),Qrc hp m (i+1) _ (by omega)⟩
theorem Qsa:∀ (m a:Nat),∀ x∈(Qch l v m a).1,x.Wf v 8
 |0,_,g,h=>by cases h
 |m+1,a,g,h=>by
  rw[Qch,Vd]at h;rcases h with rfl|h
  . exact QkL hv (by decide)
  . exact Qsa m _ g h
end
theorem QqT {l:List Int}:∀ (m a:Nat),∀ c∈(QbL l m a).1,c<4
 |0,_,g,h=>by cases h
 |m+1,a,g,h=>by
  rw[QbL,Vd]at h;rcases h with rfl|h
  . exact Qac (by decide)
  . exact QqT m _ g h
theorem Qqy {l:List Int}:∀ {m a:Nat},(QbL l m a).1.length=m
 |0,_=>rfl
 |m+1,_=>Zt (· + 1) (Qqy (m:=m))
theorem Qly {l:List Int} {pl v n:Nat}:∀ {m i a:Nat},(QbO l pl v n m i a).1.length=m
 |0,_,_=>rfl
 |m+1,_,_=>Zt (· + 1) (Qly (m:=m))
theorem Qql {l:List Int} {v:Nat}:∀ {m a:Nat},(Qch l v m a).1.length=m
 |0,_=>rfl
 |m+1,_=>Zt (· + 1) (Qql (m:=m))
theorem Qjt (l:List Int):(Qav l).Wf:=by
 dsimp only[Qav];have b1:=Qac (l:=l) (a:=0) (n:=3) (by decide);have b2:=Qac (l:=l) (a:=(af l 0 3).2) (n:=3) (by decide);have b3:=Qac (l:=l) (a:=(af l (af l 0 3).2 3).2) (n:=4) (by decide);have b4:=Qac (l:=l) (a:=(af l (af l (af l 0 3).2 3).2 4).2) (n:=9) (by decide);refine⟨?_,?_,?_,?_,b4,QqT _ _,Qqy,?_,?_,?_,?_,Qql⟩
 . dsimp only; omega
 . dsimp only; omega
 . dsimp only; omega
 . dsimp only; omega
 . dsimp only; rw[Qly]; omega
 . dsimp only; rw[Qly]; omega
 . dsimp only; rw[Qly];exact Qrc (by omega) (by omega) _ _ _ (by omega)
 . exact Qsa (by omega) _ _
def exQ (bb:Bool) (g:GX):List Pc:=if bb=true then aq (exE g)else Qfk g
def cdQ (bb:Bool) (g:GX):List Pc:=if bb=true then aq (cdE g)else Qgz g
section
variable {c:Cx} {d:Nat} {bb:Bool}
theorem Qqw {l:List TK} {e:Ex} (h:Whole c d l e):Red c (d+1) (lv c (d+1)).fac (.sg [40]::(l++[.sg [41]])) e (λ_=>True):=Red.par h λL=>QcR (s:=[41]) (by decide) (.inl rfl) L
theorem QhH {l:List TK} {e:Ex} (h:Whole c d l e):Red c (d+1) (lv c (d+1)).nt (.sg [40]::(l++[.sg [41]])) e s3:=rq4 (rq3 (rq2 (rq1 (Qqw h)))) λ_=>rfl
theorem Qrm {w:ZG} (h1:(QaV.all λo=>decide (w≠o.1))=true) (h2:(QaZ.all λo=>decide (w≠o.1))=true) (h3:(QaJ.all λo=>decide (w≠o.1))=true) (L:List TK):s3 (.wd w::L) :=
 ⟨⟨⟨trivial,noq (.inr rfl) h1 L⟩,noq (.inr rfl) h2 L⟩,noq (.inr rfl) h3 L⟩
theorem Qsd {l:List TK} {e:Ex} (h:Red c d (lv c d).nt l e s3):Whole c d l e:=(rq6 h).mono λL hL=>⟨⟨⟨⟨⟨trivial,hL.1⟩,hL.2.1⟩,hL.2.2.1⟩,hL.2.2.2.1⟩,hL.2.2.2.2⟩
theorem QoH (g:GX):Whole c 40 (ak (exQ bb g)) (exE g):=by
 cases bb
 . exact QpJ g
 show Whole c 40 (ak (aq (exE g))) (exE g);by_cases k1:g.k=1
 . rw[show exE g=eOp 9 [eNm g.x,eOp 5 [eIn 2,eNm g.y]]by unfold exE; rw[Zq (by omega),Zr k1]];exact QgL [45] 9 (la:=[.wd (vN g.x)]) (lb:=.sg [40]::(([.nm 2]++.sg [42]::[.wd (vN g.y)])++[.sg [41]])) (rq1 (nm1 _))
    (rq1 (Qqw (d:=39) (wh2 (rq2 (Red.op (s:=[42]) (op:=5) (QbV (n:=2)) (nm1 g.y) (.inl rfl) (by decide) λ_=>trivial)) λ_=>rfl))) (by decide) (by decide) (QbT _)
 . have h:ak (aq (exE g))=ak (Qfk g):=by
    unfold exE Qfk;rw[Zq k1,Zq k1];by_cases k0:g.k=0
    . rw[Zr k0,Zr k0]; rfl
    rw[Zq k0,Zq k0];by_cases k2:g.k=2
    . rw[Zr k2,Zr k2]; rfl
    rw[Zq k2,Zq k2];by_cases k3:g.k=3
    . rw[Zr k3,Zr k3]; rfl
    rw[Zq k3,Zq k3];by_cases k4:g.k=4
    . rw[Zr k4,Zr k4]; rfl
    rw[Zq k4,Zq k4];by_cases k5:g.k=5
    . rw[Zr k5,Zr k5]; rfl
    rw[Zq k5,Zq k5];by_cases k6:g.k=6
    . rw[Zr k6,Zr k6]; rfl
    rw[Zq k6,Zq k6]; rfl
   rw[h]; exact QpJ g
theorem QrS (g:GX):Whole c (d+3) (ak (cdQ bb g)) (cdE g):=by
 cases bb
 . exact QyQ g
 show Whole c (d+3) (ak (aq (cdE g))) (cdE g);unfold cdE;by_cases k0:g.k=0
 . rw[Zr k0];exact Qe6 [60] 12 (la:=[.wd (vN g.x)]) (nm1 _) (QbV (n:=1)) (by decide) (by decide) (by decide) (QbT _)
 rw[Zq k0];by_cases k1:g.k=1
 . rw[Zr k1];have a1:=QhH (Qe6 (c:=c) (d:=d+2) [62,61] 15 (la:=[.wd (vN g.x)]) (nm1 _) (nm1 g.y) (by decide) (by decide) (by decide) λL=>QbT _ _);have a2:=QhH (Qe6 (c:=c) (d:=d) [61,61] 10 (la:=[.wd (vN g.y)]) (nm1 _) (QbV (n:=2)) (by decide) (by decide) (by decide) λL=>QbT _ _);have a3:Red c (d+2) (lv c (d+2)).nt (.wd QhC::(.sg [40]::(([.wd (vN g.y)]++.sg [61,61]::[.nm 2])++[.sg [41]]))) (eOp 4 [eOp 10 [eNm g.y,eIn 2]]) s3:=Red.nop a2;exact((Red.op (aa:=QaU) (s:=QiF) a1 (QhH (Qsd a3)) (.inr rfl) (by decide) λL=>Qrm (by decide) (by decide) (by decide) L).pass (aa:=orO)).mono λL hL=>⟨⟨⟨⟨⟨trivial,hL.1⟩,hL.2.1⟩,hL.2.2.1⟩,hL.2.2.2.1⟩,hL.2.2.2.2⟩
 rw[Zq k1];by_cases k2:g.k=2
 . rw[Zr k2];have a1:=(QhH (Qe6 (c:=c) (d:=d+2) [33,61] 11 (la:=[.wd (vN g.x)]) (nm1 _) (QbV (n:=0)) (by decide) (by decide) (by decide) λL=>QbT _ _)).pass (aa:=QaU);have a2:=(QhH (Qe6 (c:=c) (d:=d+2) [62] 14 (la:=[.wd (vN g.y)]) (nm1 _) (QbV (n:=1)) (by decide) (by decide) (by decide) λL=>QbT _ _)).pass (aa:=QaU);exact(Red.op (aa:=orO) (s:=wOr) a1 a2 (.inr rfl) (by decide) λL=>⟨Qrm (by decide) (by decide) (by decide) L,noq (s:=wOr) (.inr rfl) (by decide) L⟩).mono λL hL=>⟨⟨⟨⟨⟨trivial,hL.1⟩,hL.2.1⟩,hL.2.2.1⟩,hL.2.2.2.1⟩,hL.2.2.2.2⟩
 rw[Zq k2];have a2:=QhH (Qe6 (c:=c) (d:=d+1) [60,61] 13 (la:=[.wd (vN g.x)]) (nm1 _) (QbV (n:=0)) (by decide) (by decide) (by decide) λL=>QbT _ _);have a3:Red c (d+3) (lv c (d+3)).nt (.wd QhC::(.sg [40]::(([.wd (vN g.x)]++.sg [60,61]::[.nm 0])++[.sg [41]]))) (eOp 4 [eOp 13 [eNm g.x,eIn 0]]) s3:=Red.nop a2;exact Qsd a3
end
def sN (i:Nat):ZG:=[115]++dg i
def gN (i:Nat):ZG:=[103]++dg i
def pnl:Pc:=.b 10
def Qbc (bb:Bool) (s:Nat×GX):List Pc:=[pb,pw (vN s.1),pb,ps [61],pb]++(exQ bb) s.2++[ps [59]]
def QfX (bb:Bool) (w:Option GX):List Pc:=match w with
 |none=>[]
 |some g=>[pb,pw Qev,pb]++(cdQ bb) g
def Qc1 (g:Option Nat):List Pc:=match g with
 |none=>[]
 |some t=>[pb,pw Qgw,pb,pw (sN t),ps [59]]
def QdE (bb:Bool) (k:Nat) (g:GA):List Pc:=[pb,pb,pw QeM,pb,pw (aN k)]++(QfX bb) g.wh++Qc7 kwH g.hid++[pb,ps [123]]++g.sets.flatMap (Qbc bb)++[pb,ps [125]]++Qc1 g.go++[pnl]
def QcD (bb:Bool):Nat->List GA->List Pc
 |_,[]=>[]
 |k,g::r=>(QdE bb) k g++(QcD bb) (k+1) r
def QdG (bb:Bool) (w:Option GX) (p:Nat):List Pc:=match w with
 |none=>[pnU p]
 |some g=>[pw wIf,ps [40]]++(cdQ bb) g++[ps [44],pb,pnU 0,ps [44],pb,pnU p,ps [41]]
def Qgj (bb:Bool) (w:Option GX) (p:Nat) (acts:List GA):List Pc:=[pw kwT,pb]++(QdG bb) w p++[pb,ps [123],pnl]++(QcD bb) 0 acts++[ps [125],pnl]
def loV (r:Nat):Nat:=if r=1 then 1 else if r=3 then 3 else 0
def hiV (r:Nat):Nat:=if r=0 then 1 else if r=3 then 3 else 2
def wgX (w x:Nat):List Pc :=
 if w=0 then [pnU 1,pb,ps [43],pb,pw (vN x)]
 else if w=1 then [pw wIf,ps [40],pw (vN x),pb,ps [61,61],pb,pnU 1,ps [44],pb,pnU 2,ps [44],pb,pnU 1,ps [41]]
 else [pw Qgg,ps [40],pw (vN x),ps [44],pb,pnU 0,ps [41],pb,ps [43],pb,pw wIf,ps [40],pw (vN x),pb,ps [61,61],pb,pnU 2,ps [44],pb,pnU 0,ps [44],pb,pnU 1,ps [41]]
def Qcl (w x:Nat):List Pc:=if w<3 then [pb,pw kwW,pb]++wgX w x else []
def Qbn (s p:Nat):List Pc:=if s=0 then [pb,pw kwS,pb,pw kwB,pb,pw kwA]else if s=1 then [pb,pw kwS,pb,pw kwB,pb,pnU p]else []
def Qfa (x r w s p:Nat):List Pc:=[pw kwD,pb,pw (vN x),pb,pw kwI,pb,pnU (loV r),pb,ps [46,46],pb,pnU (hiV r)]++Qcl w x++Qbn s p++[ps [59],pnl]
def Qen (bb:Bool):GS->List Pc
 |.deal x r w s p=>Qfa x r w s p
 |.turn w p acts=>(Qgj bb) w p acts
def Qcc (bb:Bool):Nat->List GS->List Pc
 |_,[]=>[]
 |i,g::r=>[pw (sN i),ps [58],pb]++(Qen bb) g++(Qcc bb) (i+1) r
def Qd7 (bb:Bool) (c:Nat):List Pc:=if c=0 then [pnU 0]else if c=1 then [pnU 1]else if c=2 then ps [45]::((if bb=true then [pb]else [])++[pnU 1])else [pnU 2]
def Qcz (bb:Bool):Nat->List Nat->List Pc
 |_,[]=>[]
 |i,c::r=>[pw kwV,pb,pw (vN i),pb,ps [61],pb]++(Qd7 bb) c++[ps [59],pnl]++(Qcz bb) (i+1) r
def Qax (bb:Bool):Bool->List GX->List Pc
 |_,[]=>[]
 |b,g::r=>(if b then [ps [44],pb]else [])++(exQ bb) g++(Qax bb) true r
def Qa9 (bb:Bool) (g:GR):List Pc:=[pw kwG,pb,pw (gN g.nm),ps [59],pnl,pw Qd4,pb,pnU g.pl,ps [59],pnl]++(Qcz bb) 0 g.ini++(Qcc bb) 0 g.stages++[pw (sN g.stages.length),ps [58],pb,pw kwE,pb,ps [123],pb,pw kwP,pb]++(Qax bb) false g.pays++[ps [59],pb,ps [125],pnl]
theorem Qo7 {n:Nat} (h:n<=9):Qa6 n=dg n:=QAW h
theorem QsA (g:GX):al (exQ false g)=exB g:=QBa g
theorem QtL (g:GX):al (cdQ false g)=cdB g:=QCY g
theorem QAf (s:Nat×GX):al ((Qbc false) s)=QfV s:=by simp[Qbc,QfV,al,QaK,TK.tx,QsA]
theorem QEl (b:Bool):al (Qc7 kwH b)=QgE b:=by cases b<;>rfl
theorem QwM (w:Option GX):al ((QfX false) w)=whB w:=by cases w<;>simp[QfX,whB,al,TK.tx,QtL,Qev]
theorem Qyn (w:Option Nat):al (Qc1 w)=goB w:=by cases w<;>simp[Qc1,goB,al,TK.tx,Qgw,sN]
theorem Qp4:∀ l:List (Nat×GX),al (l.flatMap (Qbc false))=Qed l
 |[]=>rfl
 |s::r=>by
  have h:=Qp4 r;unfold Qed at h ⊢;rw[VO,VO,QaK,h,QAf]
theorem Qxs (k:Nat) (g:GA):al ((QdE false) k g)=QeZ k g:=by
 simp[QdE,QeZ,al,QaK,TK.tx,QwM,QEl,Qp4,Qyn,QeM,pnl]
theorem QqE:∀ (l:List GA) (k:Nat),al ((QcD false) k l)=QeJ k l
 |[],_=>rfl
 |g::r,k=>by rw[QcD,QeJ,QaK,Qxs,QqE r]
theorem QA5 (w:Option GX) {p:Nat} (h:p<=9):al ((QdG false) w p)=Qey w p:=by
 cases w<;>simp[QdG,Qey,al,QaK,TK.tx,QtL,Qo7 h,wIf,show Qa6 0=[48]from rfl]
theorem QB7 {w x:Nat}:al (Qcl w x)=wgB w (vN x):=by
 unfold Qcl wgB wgX;by_cases h0:w=0
 . subst h0; simp[al,TK.tx,kwW,show Qa6 1=[49]from rfl]
 by_cases h1:w=1
 . subst h1; simp[al,TK.tx,kwW,wIf,show Qa6 1=[49]from rfl,show Qa6 2=[50]from rfl]
 by_cases h2:w=2
 . subst h2; simp[al,TK.tx,kwW,wIf,Qgg,show Qa6 1=[49]from rfl,show Qa6 2=[50]from rfl,show Qa6 0=[48]from rfl]
 rw[Zq (by omega),Zq h0,Zq h1,Zq h2]; rfl
theorem QwS {s p:Nat} (h:p<=9):al (Qbn s p)=Qfu s p:=by
 unfold Qbn Qfu;repeat' split
 all_goals simp[al,TK.tx,kwS,kwB,kwA,Qo7 h]
theorem QCK {x r w s p:Nat} (hr:r<4) (h:p<=9):al (Qfa x r w s p)=Qji x r w s p:=by
 have hq:Qa6 (loV r)++[32,46,46,32]++Qa6 (hiV r)=Qer.getD r []:=by
  match r,hr with
  |0,_=>rfl
  |1,_=>rfl
  |2,_=>rfl
  |3,_=>rfl
 unfold Qfa Qji;rw[<-hq];simp[al,QaK,TK.tx,QB7,QwS h,kwD,kwI,pnl]
theorem QwR {pl v n i:Nat} {g:GS} (h:g.Wf pl v n i) (hp:pl<=3):al ((Qen false) g)=stB g:=by
 cases g with
 |deal x r w s p=>exact QCK h.2.1 (by have:=h.2.2.2.2; omega)
 |turn w p acts =>
  have hp9:p<=9:=by have:=h.2.1; omega
  simp[Qen,stB,Qgj,Qk3,al,QaK,TK.tx,QA5 w hp9,QqE,kwT,pnl]
theorem Qsm {pl v n:Nat} (hp:pl<=3):∀ (l:List GS) (i:Nat),Qf0 pl v n i l->al ((Qcc false) i l)=QdU i l
 |[],_,_=>rfl
 |g::r,i,h=>by
  rw[Qcc,QdU,QaK,QaK,QwR h.1 hp,Qsm hp r _ h.2];simp[al,TK.tx,sN,lbB]
theorem Qri:∀ (l:List Nat) (i:Nat),(∀ c∈l,c<4)->al ((Qcz false) i l)=Qds i l
 |[],_,_=>rfl
 |c::r,i,h=>by
  have hq:al ((Qd7 false) c)=Qfc.getD c []:=by
   match c,h c (by simp)with
   |0,_=>rfl
   |1,_=>rfl
   |2,_=>rfl
   |3,_=>rfl
  rw[Qcz,Qds,<- hq];simp only[QaK,Qri r (i+1) λc hc=>h c (by simp[hc])];simp[al,TK.tx,kwV,vN,pnl]
theorem QrE:∀ (l:List GX) (b:Bool),al ((Qax false) b l)=QdV b l
 |[],_=>rfl
 |g::r,b=>by
  rw[Qax,QdV,QaK,QaK,QsA,QrE r]
  cases b<;>rfl
theorem QDy {g:GR} (h:g.Wf):al ((Qa9 false) g)=QdQ g:=by
 have h1:=h.pl3;have h2:=h.st4;unfold Qa9 QdQ;simp only[QaK,Qri _ _ h.ini,Qsm h.pl3 _ _ h.sts,QrE];simp[al,TK.tx,kwG,Qd4,kwE,kwP,gN,sN,pnl,Qo7 (show g.pl<=9 by omega)]
end Go.Proofs.YtmkdpmfhlfhjkaaGreatDoor
