/- Steps of the proof. -/
import Derived.Test.YtogjmpkehjfecaaGreatDoorPart3
import Derived.Test.YtogjmpkehjfecaaGreatDoorCore5
set_option linter.all false
namespace Go.Proofs.YtogjmpkehjfecaaGreatDoor.Rc
open Go.Ab Go.Ab.Shr
section
variable {H:Ws} {g:Gm}
theorem zero_le (e:Int):SV.le (.tup [.agg [i64 0,i64 0,nl,nl],i64 e]) (.tup [.agg Tin.zero.cells,i64 e]) :=
 Qic (leL.cons (Qgh (leL.cons (SV.le.refl _) (leL.cons (SV.le.refl _) (leL.cons QdP (leL.cons QdP leL.nil))))) (leL.refl _))
theorem Qek (hcl:closed H) (e:Int) (L:Ws):Cv H.length (.tup [.agg [i64 0,i64 0,nl,nl],i64 e]) (H++L) (.tup [.agg Tin.zero.cells,i64 e]) H :=
 Cv.le (Qi (r:=.tup [.agg [i64 0,i64 0,nl,nl],i64 e]) 3 hcl rfl (QaA rfl)) (zero_le e)
theorem QqW {t:Tin} {n:Int} (hcl:closed H) {s:TS} (he:Qai g t n=(QQ g s,0)) {G:Ws} {env:Env} (h:TW g (hb8 H g t) (cTC g) s G) (h6:env.get 6=rpt (H.length+2)) (h7:env.get 7=rpt (H.length+3)) :
 Qhk Tryz.prog H.length r11 (λo h=>o=.ret (.tup [.agg (Qai g t n).1.cells,i64 (Qai g t n).2])/\h=H) 32 [rpt (H.length+2),rpt (H.length+3)] .ret env
  ((G.set (H.length+2) ⟨[i64 s.rnd,i64 s.seed,.own (pAo (hb8 H g t) g) 0 g.is.length 1 0,.own (pPo (hb8 H g t) g) 0 g.is.length 1 0],30,0,true⟩).set (H.length+3) (eT 0)):=by
 have g2:G[H.length+2]? = some ⟨[i64 0,i64 0,nl,nl],30,0,true⟩:=by rw[h.low _ (by simp),QdC]; rfl
 have g3:G[H.length+3]? = some ⟨[i64 0],31,0,true⟩:=by rw[h.low _ (by simp),QdC]; rfl
 have l2:=Qg g2;have l3:=Qg g3;refine⟨_,Qt4 (by simpa using l2) (by simpa using l3),?_⟩;rintro H4 rfl;generalize hG2:(G.set (H.length+2) ⟨[i64 s.rnd,i64 s.seed,.own (pAo (hb8 H g t) g) 0 g.is.length 1 0,.own (pPo (hb8 H g t) g) 0 g.is.length 1 0],30,0,true⟩).set (H.length+3) (eT 0)=G2;have e2:Qf G2 (H.length+2) 0=[i64 s.rnd,i64 s.seed,.own (pAo (hb8 H g t) g) 0 g.is.length 1 0,.own (pPo (hb8 H g t) g) 0 g.is.length 1 0]:=oc0 (T:=30) (by rw[<-hG2,Vd (by omega),Vg l2]);have e3:Qf G2 (H.length+3) 0=[i64 0]:=oc0 (T:=31) (by rw[<-hG2,Vg (by simpa using l3)]; rfl);have up:∀ i,H.length+4<=i->G2[i]? = G[i]? := λi hi=>by rw[<-hG2,Vd (by omega),Vd (by omega)]
 have hL:G2=H++G2.drop H.length:=by
  apply Vv;intro i;by_cases hi:i<H.length
  . rw[Ve hi,<- hG2,Vd (by omega),Vd (by omega),h.low i (by simp; omega),Qks hi]
  . rw[Vh (by omega),Vs];congr 1; omega
 refine⟨?_,_,H,⟨rfl,rfl⟩,?_⟩
 . intro s hs;simp only[r11,Vi,VP,Wi]at hs;rcases hs with rfl|rfl
   . simp[RS.side,h6,rpt,e2]
   . simp[RS.side,h7,rpt,e3]
 . have hr:Qa7 env G2 r11=.tup [.agg [i64 s.rnd,i64 s.seed,.own (pAo (hb8 H g t) g) 0 g.is.length 1 0,.own (pPo (hb8 H g t) g) 0 g.is.length 1 0],i64 0]:=by
    simp[Qa7,r11,RS.ev,h6,h7,rpt,e2,e3]
   rw[hr,he];have hA:=QoR (H:=H) (G:=G2) (g:=g) (p:=pAo (hb8 H g t) g) (by unfold pAo; simp) (A:=s.A) (by rw[up _ (by unfold pAo; simp)]; exact h.ao) (λi hi=>⟨by unfold pA; simp; omega,by rw[up _ (by unfold pA; simp; omega)]; exact h.a i hi,h.l.A i hi⟩) 1;have hP:=QoR (H:=H) (G:=G2) (g:=g) (p:=pPo (hb8 H g t) g) (by unfold pPo; simp; omega) (A:=s.P) (by rw[up _ (by unfold pPo; simp; omega)]; exact h.po) (λi hi=>⟨by unfold pP; simp; omega,by rw[up _ (by unfold pP; simp; omega)]; exact h.p i hi,h.l.P i hi⟩) 1;have hfz:SV.fz H.length [] (G2.drop H.length) 6 (.tup [.agg [i64 s.rnd,i64 s.seed,.own (pAo (hb8 H g t) g) 0 g.is.length 1 0,.own (pPo (hb8 H g t) g) 0 g.is.length 1 0],i64 0])=.tup [.agg (QQ g s).cells,i64 0]:=by
    rw[Qd8];simp only[Vn,VF,Qdd];rw[Qe9];simp only[Vn,VF,Qdd];rw[hA,hP];simp[QQ,Tin.cells]
   have:=Qi (n0:=H.length) (H:=H) (L:=G2.drop H.length) 6 hcl rfl hfz;rw[<-hL]at this;exact this
theorem ok11 (t:Tin) (n:Int) (hn : -9223372036854775808<=n/\n<=9223372036854775807):Ok Tryz.prog 11 [.agg g.cells,.agg t.cells,i64 n] H (.ret (.tup [.agg (Qai g t n).1.cells,i64 (Qai g t n).2])) H:=by
 refine OkP.toOk (Qqf hm Tryz.func11 c11 (by rfl) λhcl => ?_);have h16:=λH=>Qfz (H:=H) (g:=g) (t:=t);simp only[Gm.cells,Tin.cells]at h16;simp -implicitDefEqProofs[XL,i11p,QmC,QnB,Qnw,Gm.cells,Tin.cells];refine Qh (h16 _) ?_;by_cases hc:QP g t=0
 . obtain⟨hW,r1,r2,r3,r4⟩:=QcO hc;by_cases hb:n<0\/20000<n\/1000000<t.rnd+n
   . have e:Qai g t n=(.zero,2):=by unfold Qai; rw[Wa (by simpa using hc),Wb hb]
     have fin:Qb7 H.length (λo h=>o=.ret (.tup [.agg (Qai g t n).1.cells,i64 (Qai g t n).2])/\h=H) (.tup [.agg [i64 0,i64 0,nl,nl],i64 2]) (H++[⟨[i64 g.pl,.slc (nds g.ns) g.ns.length,.slc (Qu g.is) g.is.length],26,0,true⟩,⟨[i64 t.rnd,i64 t.seed,.slc (sls t.A) t.A.length,.slc (sls t.P) t.P.length],30,0,true⟩,⟨[i64 0,i64 0,nl,nl],30,0,true⟩,⟨[i64 2],31,0,true⟩]):=by
      rw[e];exact⟨_,_,⟨rfl,rfl⟩,Qek hcl _ _⟩
     by_cases b1:n<0
     . simp -implicitDefEqProofs[hc,XL,Qeo,r11,b1];exact⟨rfl,fin⟩
     . by_cases b2:20000<n
       . simp -implicitDefEqProofs[hc,XL,Qeo,r11,b1,b2];exact⟨rfl,fin⟩
       . have b3:1000000<t.rnd+n:=by omega
         have w1:IntKind.i64.wrap (t.rnd+n)=t.rnd+n:=Qp (by omega) (by omega);simp -implicitDefEqProofs[hc,XL,Qeo,r11,b1,b2,w1,b3];exact⟨rfl,fin⟩
   . have b1:¬ n<0:=by omega
     have b2:¬ 20000<n:=by omega
     have b3:¬ 1000000<t.rnd+n:=by omega
     have w1:IntKind.i64.wrap (t.rnd+n)=t.rnd+n:=Qp (by omega) (by omega);obtain⟨a1,a2⟩:=QbI hW r3;obtain⟨p1,p2⟩:=QbI hW r4;have hil:=hW.gd.i;have rw_ok:∀ (L:List (List Int)),L.length=g.is.length->(∀ i,i<g.is.length->Qag L i=g.acts i)->∀ l∈L,l≠[]/\l.length<=1000000:=λL hL hl l hm=>by
      obtain⟨k,hk,rfl⟩:=VH hm;have h1:=hl k (by omega);rw[Qd3 hk]at h1;have h2:=QaV hW (show k<g.is.length by omega);exact⟨λe=>by rw[e]at h1; simp at h1; omega,by omega⟩
     have hA:=rw_ok t.A a1 λi hi=>(a2 i hi).1;have hP:=rw_ok t.P p1 λi hi=>(p2 i hi).1;simp -implicitDefEqProofs[hc,XL,Qeo,r11,b1,b2,w1,b3,i11s,i11f,i11];refine⟨32,_,⟨rfl,rfl⟩,Qh (ok34 hA (by omega)) ?_⟩;simp -implicitDefEqProofs;refine Qh (ok34 hP (by omega)) ?_;simp -implicitDefEqProofs[a1,p1];have h28:=ok33 (H:=hb8 H g t) (rnd:=t.rnd) (seed:=t.seed) hW (Qt0 hcl) a1 p1 (λi hi=>(a2 i hi).1) (λi hi=>(p2 i hi).1);have q1:H.length+(g.is.length+1+1+1+1+1)=(hb8 H g t).length+1+g.is.length:=by simp; omega
     have q2:(λi=>H.length+(g.is.length+1+1+1+1+1+1)+i)=λi=>(hb8 H g t).length+1+t.A.length+1+i:=by funext i; simp; omega
     have q3:(λi=>H.length+5+i)=λi=>(hb8 H g t).length+1+i:=by funext i; simp
     have q4:H.length+4=(hb8 H g t).length:=by simp
     have hHeap:(H ++
     ⟨[i64 g.pl,.slc (nds g.ns) g.ns.length,.slc (Qu g.is) g.is.length],26,0,true⟩ ::
      ⟨[i64 t.rnd,i64 t.seed,.slc (sls t.A) g.is.length,.slc (sls t.P) g.is.length],30,0,true⟩ ::
       ⟨[i64 0,i64 0,.val (.slice none 0 0),.val (.slice none 0 0)],30,0,true⟩ ::
        ⟨[i64 0],31,0,true⟩ ::
         ⟨Qx g.is.length (λi=>H.length+5+i) (Qag t.A) 1,45,0,true⟩ ::
          (List.map (Q0 1) t.A ++
           ⟨Qx g.is.length (λi=>H.length+(g.is.length+1+1+1+1+1+1)+i) (Qag t.P) 1,45,0,true⟩ ::
            List.map (Q0 1) t.P))=Qbh (hb8 H g t) t.A t.P:=by
      rw[q2,q3];unfold Qbh;rw[a1,p1];simp only[hb8,Qd,zT,eT,Tin.cells,VQ,V6,VW,a1,p1]
     rw[hHeap,q1,q4];simp only[Gm.cells]at h28;refine QbL h28 λout G1 hP => ?_;obtain⟨rfl,h⟩:=hP;have hgb:Qf G1 H.length 0=[i64 g.pl,.slc (nds g.ns) g.ns.length,.slc (Qu g.is) g.is.length]:=oc0 (T:=26) (by rw[h.low _ (by simp)]; have:=QdC (H:=H) (g:=g) (t:=t) 0; rw[Yc]at this; rw[this]; rfl);have htb:Qf G1 (H.length+1) 0=t.cells:=oc0 (T:=30) (by rw[h.low _ (by simp),QdC]; rfl);simp only[Tin.cells]at htb;have hrun:∀ o,QbT g n.toNat (s0T g t.rnd t.seed t.A t.P)=o->Qai g t n=(match o with|none=>(.zero,5)|some s=>(QQ g s,0)):=λo ho=>by
      unfold Qai;rw[Wa (by simpa using hc),Wa hb,ho];all_goals (cases o<;>rfl)
     simp -implicitDefEqProofs[hgb,htb];have hnn:((n.toNat:Nat):Int)=n:=by omega
     refine QrP (nn:=n.toNat) hW (x6:=rpt (H.length+2)) (x7:=rpt (H.length+3)) (by omega) (λhr env G s hG g6 g7 => ?_) (λs hr env G hG g6 g7 g9 => ?_) n.toNat 0 _ _ _ (by omega) (Qmf hc) rfl h (by simp) (by simp) (by simp) (by simp[hnn]) (by simp)
     . exact QpV hcl (hrun _ hr) hG g6 g7
     . have hwc:=hG.cw0;have k2:G[H.length+2]? = some ⟨[i64 0,i64 0,nl,nl],30,0,true⟩:=by rw[hG.low _ (by simp),QdC]; rfl
       have k3:G[H.length+3]? = some ⟨[i64 0],31,0,true⟩:=by rw[hG.low _ (by simp),QdC]; rfl
       have o2:=oc0 k2;have s2:=QY k2;have k4:(G.set (H.length+2) ⟨[i64 s.rnd,i64 s.seed,.own (pAo (hb8 H g t) g) 0 g.is.length 1 0,.own (pPo (hb8 H g t) g) 0 g.is.length 1 0],30,0,true⟩)[H.length+3]? = some ⟨[i64 0],31,0,true⟩:=by rw[Vd (by omega)]; exact k3
       have o3:=oc0 k4;have s3:=QY k4;simp -implicitDefEqProofs[g6,g7,g9,hwc,QA,o2,s2,o3,s3];exact QqW hcl (hrun _ hr) hG (by simp[g6]) (by simp[g7])
 . have e:Qai g t n=(.zero,QP g t):=by unfold Qai; rw[Wb hc]
   simp -implicitDefEqProofs[hc,XL,Qeo,r11];rw[e];exact⟨rfl,_,_,⟨rfl,rfl⟩,Qek hcl _ _⟩
end
section
variable {H:Ws}
theorem QrF {l:List Int} (hl:l.length<=1000000) {N:Nat} {K:Wr} (hexit:∀ env,env.get 3=i64 (QaM l)->K (.exit 0) env H) :
 ∀ (m i:Nat) (env:Env),i+m=l.length->env.get 0=sl l->env.get 3=i64 (wsK l i)->env.get 4=i64 i->LI Tryz.prog N Qb Qhe env H K:=by
 intro m
 induction m with
 |zero =>
  intro i env hi h0 h3 h4;refine Qc hm Qhe.eq_1 ?_;have e:i=l.length:=by omega
  subst e;simp -implicitDefEqProofs[h0,h4,sl];exact hexit _ (by simp[h3,QaM])
 |succ m ih =>
  intro i env hi h0 h3 h4;refine Qc hm Qhe.eq_1 ?_;have hil:i<l.length:=by omega
  have w1:=Qw (show i<9223372036854775807 by omega);have e1:IntKind.i64.wrap (wsK l i+l[i])=wsK l (i+1):=by simp[wsK,hil]
  simp -implicitDefEqProofs[h0,h3,h4,sl,hil,e1];refine⟨by omega,ih (i+1) _ (by omega) ?_ ?_ ?_⟩
  . simp[sl]
  . simp
  . simp[w1]
theorem Qod {l:List Int} (hl:l.length<=1000000):Ok Tryz.prog 100 [sl l] H (.ret (i64 (QaM l))) H:=by
 refine Ql hm Tryz.func100 c100 (by simp[sl]) λhcl => ?_;simp -implicitDefEqProofs[i100,r100];refine QrF hl (λenv h3 => ?_) l.length 0 _ (by omega) (by simp) (by simp[wsK]) (by simp);simp -implicitDefEqProofs[h3];exact Qo
def S74 (H:Ws) (o r:List Int):Ws:=H++[⟨Qa o,3,1,true⟩,⟨Qa r,3,1,true⟩]
theorem Qp5 {l:List Int} (hl:l.length<=10) (hr:∀ v∈l,v<=70368744177664) {N:Nat} {K:Wr} (hexit:∀ env,env.get 0=sl l->env.get 3=i64 l.length->env.get 4=i64 (Qk l)->K (.exit 0) env H) :
 ∀ (m i:Nat) (env:Env),i+m=l.length->env.get 0=sl l->env.get 3=i64 l.length->env.get 4=i64 (Qcd l i)->env.get 5=i64 i->LI Tryz.prog N Qb QiT env H K:=by
 intro m
 induction m with
 |zero =>
  intro i env hi h0 h3 h4 h5;refine Qc hm QiT.eq_1 ?_;have e:i=l.length:=by omega
  subst e;simp -implicitDefEqProofs[h3,h5];exact hexit _ (by simp[h0]) (by simp[h3]) (by simp[h4,Qk])
 |succ m ih =>
  intro i env hi h0 h3 h4 h5;refine Qc hm QiT.eq_1 ?_;have hil:i<l.length:=by omega
  have w1:=Qw (show i<9223372036854775807 by omega);have b1:=Qju hl hr i (by omega);have b2:=Qj7 l i;have hv:=hr _ (Vf hil);have e1:IntKind.i64.wrap (Qcd l i+max 0 l[i])=Qcd l (i+1):=by rw[ZV,QpC hil]; exact Qp (by omega) (by omega)
  simp -implicitDefEqProofs[h0,h3,h4,h5,sl,hil,e1];refine⟨by omega,ih (i+1) _ (by omega) ?_ ?_ ?_ ?_⟩
  . simp[sl]
  . simp
  . simp
  . simp[w1]
def Qby (l:List Int) (i:Nat):Int:=if Qk l=0 then 1 else Qbe l (Qk l) i
set_option maxRecDepth 10000 in
theorem QtQ {l:List Int} (hl:l.length<=10) (h0':0<l.length) (hr:∀ v∈l,-70368744177664<=v/\v<=70368744177664) {N:Nat} {K:Wr}
 (hexit:∀ env,env.get 3=i64 l.length->env.get 6=.own H.length 0 l.length 1 1->env.get 7=.own (H.length+1) 0 l.length 1 1->env.get 8=i64 (QX l)->K (.exit 2) env (S74 H (Qe l.length (QB l (Qk l))) (Qe l.length (Qby l)))) :
 ∀ (m i:Nat) (f r:Nat->Int) (env:Env),i+m=l.length->(∀ j,j<i->f j=QB l (Qk l) j)->(∀ j,j<i->r j=Qby l j) ->
  env.get 0=sl l->env.get 3=i64 l.length->env.get 4=i64 (Qk l)->env.get 6=.own H.length 0 l.length 1 1->env.get 7=.own (H.length+1) 0 l.length 1 1->env.get 8=i64 (Qbg l i)->env.get 9=i64 i ->
  LI Tryz.prog N Qb Qgr env (S74 H (Qe l.length f) (Qe l.length r)) K:=by
 intro m
 induction m with
 |zero =>
  intro i f r env hi hf hr2 h0 h3 h4 h6 h7 h8 h9;refine Qc hm Qgr.eq_1 ?_;have e:i=l.length:=by omega
  subst e;have e1:Qe l.length f=Qe l.length (QB l (Qk l)):=Vt λj hj=>hf j (by simpa using hj);have e2:Qe l.length r=Qe l.length (Qby l):=Vt λj hj=>hr2 j (by simpa using hj);rw[e1,e2];simp -implicitDefEqProofs[h3,h9];exact hexit _ (by simp[h3]) (by simp[h6]) (by simp[h7]) (by simp[h8,QX])
 |succ m ih =>
  intro i f r env hi hf hr2 h0 h3 h4 h6 h7 h8 h9;refine Qc hm Qgr.eq_1 ?_;have hil:i<l.length:=by omega
  have w1:=Qw (show i<9223372036854775807 by omega);have hv:=hr _ (Vf hil);have hfn:=QdB l i;have hlk:=QmZ l i;have htn:=QeZ l;have hb:=Qnj h0' i hil;have w3:IntKind.i64.wrap (Qbg l i-QB l (Qk l) i)=Qbg l (i+1):=by rw[hlk]; exact Qp (by omega) (by omega)
  have key:=λenv=>ih (i+1) (put f i (QB l (Qk l) i)) (put r i (Qby l i)) env (by omega) (λj hj=>by unfold put; split; rename_i e; rw[e]; exact hf j (by omega)) (λj hj=>by unfold put; split; rename_i e; rw[e]; exact hr2 j (by omega));have e3:∀ (f:Nat->Int) (y:Int),List.take i (Qa (Qe l.length f))++i64 y::List.drop (i+1) (Qa (Qe l.length f))=Qa (Qe l.length (put f i y)):=λf y=>by rw[Qar (by simpa using hil),Qco]
  have e4:∀ f:Nat->Int,(Qa (Qe l.length f))[i]?.getD .any=i64 (f i):=λf=>by rw[Qbz (by simpa using hil),Qb9 hil]
  have e5:∀ (f:Nat->Int) (y:Int),(put f i y) i=y:=λf y=>by simp[put]
  by_cases ht:Qk l=0
  . have hF:QB l (Qk l) i=65536 / (l.length:Int):=by rw[QjL hil,Wb ht]
    have hR:Qby l i=1:=by unfold Qby; rw[Wb ht]
    have w4:IntKind.i64.wrap (Int.tdiv 65536 (l.length:Int))=QB l (Qk l) i:=by
     have:65536 / (l.length:Int)<=65536:=Y5 _ (by omega);rw[hF,Zn (by omega)];exact Qp (by omega) (by omega)
    have hne:¬ l=[]:=λe=>by rw[e]at h0'; simp at h0'
    have hd:(Qk l=0)=True:=eq_true ht;rw[hR]at key;generalize Qk l=t at *;simp -implicitDefEqProofs[S74,h0,h3,h4,h6,h7,h8,h9,sl,hil,hd,hne,w4,w3,e3,e4,e5,Qa2 hil];repeat (refine⟨by omega,?_⟩)
    refine key _ ?_ ?_ ?_ ?_ ?_ ?_ ?_
    . simp[sl]
    . simp
    . simp
    . simp
    . simp
    . simp
    . simp[w1]
  . have hd:(Qk l=0)=False:=eq_false ht;have hF:QB l (Qk l) i=(65536*max 0 l[i]) / Qk l:=by rw[Qgx ht]; simp[Qa3,hil,ZV]
    have hR:Qby l i=(65536*max 0 l[i]) % Qk l:=by unfold Qby Qbe; rw[Wa ht]; simp[Qa3,hil,ZV]
    have htp:0<Qk l:=by omega
    have htl:=Qju hl (λv hv=>(hr v hv).2) l.length (Vc _);have hx0:0<=65536*max 0 l[i]:=by omega
    have w5:IntKind.i64.wrap (65536*max 0 l[i])=65536*max 0 l[i]:=Qp (by omega) (by omega);have b5:(65536*max 0 l[i]) / Qk l<=65536*max 0 l[i]:=Y5 _ hx0;have b6:(65536*max 0 l[i]) % Qk l<Qk l:=ZS _ htp;have b7:0<=(65536*max 0 l[i]) % Qk l:=ZR _ (by omega);have w4:IntKind.i64.wrap (Int.tdiv (65536*max 0 l[i]) (Qk l))=QB l (Qk l) i:=by
     rw[Zn hx0,hF];exact Qp (by omega) (by omega)
    have w6:Int.tmod (65536*max 0 l[i]) (Qk l)=Qby l i:=by
     rw[Int.tmod_eq_emod_of_nonneg hx0,hR]
    unfold Qk at htl;generalize Qk l=t at *;simp -implicitDefEqProofs[S74,h0,h3,h4,h6,h7,h8,h9,sl,hil,hd,w4,w5,w6,w3,e3,e4,e5,Qa2 hil];repeat (refine⟨by omega,?_⟩)
    refine key _ ?_ ?_ ?_ ?_ ?_ ?_ ?_
    . simp[sl]
    . simp
    . simp
    . simp
    . simp
    . simp
    . simp[w1]
set_option maxRecDepth 10000 in
theorem Qrv {n:Nat} (hn:n<=10) {o:List Int} {r:Nat->Int} {x8:SV} {N:Nat} {K:Wr}
 (hexit:∀ env,env.get 3=i64 n->env.get 6=.own H.length 0 n 1 1->env.get 7=.own (H.length+1) 0 n 1 1->env.get 8=x8->env.get 11=i64 (top r n)->K (.exit 6) env (S74 H o (Qe n r))) :
 ∀ (m i:Nat) (env:Env),i+m=n->0<i->env.get 3=i64 n->env.get 6=.own H.length 0 n 1 1->env.get 7=.own (H.length+1) 0 n 1 1->env.get 8=x8->env.get 11=i64 (top r i)->env.get 12=i64 i->LI Tryz.prog N Qb Qjr env (S74 H o (Qe n r)) K:=by
 intro m
 induction m with
 |zero =>
  intro i env hi h0 h3 h6 h7 h8 h11 h12;refine Qc hm Qjr.eq_1 ?_;have e:i=n:=by omega
  subst e;simp -implicitDefEqProofs[h3,h12];exact hexit _ (by simp[h3]) (by simp[h6]) (by simp[h7]) (by simp[h8]) (by simp[h11])
 |succ m ih =>
  intro i env hi h0 h3 h6 h7 h8 h11 h12;refine Qc hm Qjr.eq_1 ?_;have hin:i<n:=by omega
  have w1:=Qw (show i<9223372036854775807 by omega);have ht:=(Qig (r:=r) h0).1;have htn:top r i<n:=by omega
  have e1:(Qa (Qe n r))[i]?.getD .any=i64 (r i):=by rw[Qbz (by simpa using hin),Qb9 hin]
  have e2:(Qa (Qe n r))[top r i]?.getD .any=i64 (r (top r i)):=by rw[Qbz (by simpa using htn),Qb9 htn]
  have et:top r (i+1)=if r (top r i)<r i then i else top r i:=by
   show(if i=0 then 0 else if r (top r i)<r i then i else top r i)=_;rw[Wa (by omega)]
  generalize hT:top r i=T at *;by_cases c1:r T<r i
  . rw[Wb c1]at et;simp -implicitDefEqProofs[S74,h3,h6,h7,h8,h11,h12,hin,htn,e1,e2,Qa2 hin,Qa2 htn,c1];repeat (refine⟨by omega,?_⟩)
    refine ih (i+1) _ (by omega) (by omega) ?_ ?_ ?_ ?_ ?_ ?_
    . simp
    . simp[h6]
    . simp
    . simp[h8]
    . simp[et]
    . simp[w1]
  . rw[Wa c1]at et;simp -implicitDefEqProofs[S74,h3,h6,h7,h8,h11,h12,hin,htn,e1,e2,Qa2 hin,Qa2 htn,c1];repeat (refine⟨by omega,?_⟩)
    refine ih (i+1) _ (by omega) (by omega) ?_ ?_ ?_ ?_ ?_ ?_
    . simp
    . simp[h6]
    . simp
    . simp[h8]
    . simp[et]
    . simp[w1]
set_option maxRecDepth 10000 in
theorem Qwm {n:Nat} (hn:n<=10) (h0n:0<n) {F:Nat->Int} {N:Nat} {K:Wr}
 (hexit:∀ env r,env.get 6=.own H.length 0 n 1 1->K (.exit 4) env (S74 H (Qe n F) (Qe n r))) :
 ∀ (m:Nat) (f r:Nat->Int) (env:Env),m<=100->(∀ i,i<n->0<=f i/\f i<=9223372036854775000-m)->(QcX n m (f,r)).1=F->env.get 3=i64 n->env.get 6=.own H.length 0 n 1 1->env.get 7=.own (H.length+1) 0 n 1 1->env.get 8=i64 m ->
  LI Tryz.prog N Qb Qjd env (S74 H (Qe n f) (Qe n r)) K:=by
 intro m
 induction m with
 |zero =>
  intro f r env hm1 hf hF h3 h6 h7 h8;refine Qc hm Qjd.eq_1 ?_;simp only[QcX]at hF;subst hF;simp only[Int.natCast_zero]at h8;simp -implicitDefEqProofs[h8];exact hexit _ _ (by simp[h6])
 |succ m ih =>
  intro f r env hm1 hf hF h3 h6 h7 h8;refine Qc hm Qjd.eq_1 ?_;simp only[QcX]at hF;have ht:=(Qig (r:=r) h0n).1;have w1:IntKind.i64.wrap (((m+1:Nat):Int)-1)=(m:Int):=by rw[Qp (by omega) (by omega)]; omega
  have hp:(0:Int)<((m+1:Nat):Int):=by omega
  generalize hm2:((m+1:Nat):Int)=mm at *;simp -implicitDefEqProofs[h3,h6,h7,h8,hp];refine Qrv (r:=r) (x8:=i64 mm) hn (λenv g3 g6 g7 g8 g11 => ?_) (n-1) 1 _ (by omega) (by omega) (by simp[h3]) (by simp[h6]) (by simp[h7]) (by simp[h8]) (by simp[top]) (by simp);generalize top r n=T at *;have e2:∀ f:Nat->Int,(Qa (Qe n f))[T]?.getD .any=i64 (f T):=λf=>by rw[Qbz (by simpa using ht),Qb9 ht]
  have e3:∀ (f:Nat->Int) (y:Int),List.take T (Qa (Qe n f))++i64 y::List.drop (T+1) (Qa (Qe n f))=Qa (Qe n (put f T y)):=λf y=>by rw[Qar (by simpa using ht),Qco]
  have hb:=hf T ht;have w2:IntKind.i64.wrap (f T+1)=f T+1:=Qp (by omega) (by omega);simp -implicitDefEqProofs[S74,g3,g6,g7,g8,g11,e2,e3,ht,w2,Qa2 ht,w1];repeat (refine⟨by omega,?_⟩)
  refine ih _ _ _ (by omega) (λi hi => ?_) hF ?_ ?_ ?_ ?_
  . have:=hf i hi;unfold put;split<;>omega
  . simp[g3]
  . simp[g6]
  . simp[g7]
  . simp
end
theorem QoF {r:Nat->Int} {x:Nat} (h:∀ y,r y=r x):∀ l:List Nat,Qa8 r x l=l++[x]
 |[]=>rfl
 |y::l=>by simp only[Qa8,h y,QoF h l]; simp
theorem Qpe {r:Nat->Int} (h:∀ x y,r y=r x):∀ n:Nat,QaB r n=List.range n
 |0=>rfl
 |n+1=>by simp only[QaB]; rw[Qpe h n,QoF (λy=>h n y),Zh]
theorem Qsy {l:List Int} (hn:0<l.length):Qe l.length (QcX l.length (QX l).toNat (QB l (Qk l),Qby l)).1=QG l:=by
 obtain⟨a1,a2⟩:=Qfv hn;have h0:=QeZ l;have e:(QcX l.length (QX l).toNat (QB l (Qk l),Qby l)).1=Qb0 (QB l (Qk l)) ((QaB (Qby l) l.length).take (QX l).toNat) :=
  QmT _ _ _ _ (by rw[Qgi]; omega) (Qlv _) (λx hx=>QeS.1 hx) (λy hy h=>absurd (QeS.2 hy) h) (λx _=>by
   unfold Qby; split
   . omega
   . unfold Qbe; exact ZR _ (by assumption))
 rw[e];unfold Qe QG QZ;by_cases ht:Qk l=0
 . rw[Wa (by omega),Qpe (λx y=>by unfold Qby; rw[Wb ht,Wb ht])]
 . have er:Qby l=Qbe l (Qk l):=by funext i; unfold Qby; rw[Wa ht]
   by_cases hl:0<QX l
   . rw[Wb ⟨by omega,hl⟩,er]
   . rw[Wa (λh=>hl h.2)];have:(QX l).toNat=0:=by omega
     rw[this]; simp
section
variable {H:Ws}
theorem Qwg {l:List Int} (hl:l.length<=10) (h0:0<l.length) (hr:∀ v∈l,-70368744177664<=v/\v<=70368744177664) (i:Nat) (hi:i<l.length):0<=QB l (Qk l) i/\QB l (Qk l) i<=65536*70368744177664:=by
 refine⟨QdB l i,?_⟩;by_cases ht:Qk l=0
 . rw[QjL hi,Wb ht];have:65536 / (l.length:Int)<=65536:=Y5 _ (by omega);omega
 . have hv:=hr _ (Vf hi);rw[Qgx ht];have hx:Qa3 (l.getD i 0)=max 0 l[i]:=by simp[Qa3,hi,ZV]
   rw[hx];have:65536*max 0 l[i] / Qk l<=65536*max 0 l[i]:=Y5 _ (by omega);omega
set_option maxRecDepth 10000 in
theorem ok69 {l:List Int} (hl:l.length<=10) (h0:0<l.length) (hr:∀ v∈l,-70368744177664<=v/\v<=70368744177664):Ok Tryz.prog 69 [sl l] H (.ret (sl (QG l))) H:=by
 refine Ql hm Tryz.func69 c69 (by simp[sl]) λhcl => ?_;simp -implicitDefEqProofs[i69,r69,sl];refine Qp5 hl (λv hv=>(hr v hv).2) (λenv g0 g3 g4 => ?_) l.length 0 _ (by omega) (by simp[sl]) (by simp) (by simp[Qcd,QN]) (by simp);have hz:List.replicate l.length (i64 0)=Qa (Qe l.length λ_=>0):=by simp[Qa,Qe,Y8]
 simp -implicitDefEqProofs[g0,g3,g4,hz];repeat (refine⟨by omega,?_⟩)
 have hb:=Qfv h0;refine QtQ hl h0 hr (λenv g3 g6 g7 g8 => ?_) l.length 0 (λ_=>0) (λ_=>0) _ (by omega) (λj hj=>absurd hj (by omega)) (λj hj=>absurd hj (by omega)) (by simp[g0]) (by simp[g3]) (by simp[g4]) (by simp) (by simp) (by simp[Qbg,QN]) (by simp);simp -implicitDefEqProofs;have he:((QX l).toNat:Int)=QX l:=by omega
 refine Qwm hl h0 (F:=(QcX l.length (QX l).toNat (QB l (Qk l),Qby l)).1) (λenv r g6 => ?_) (QX l).toNat _ _ _ (by omega) (λi hi => ?_) rfl (by simp[g3]) (by simp[g6]) (by simp[g7]) (by simp[g8,he])
 . simp -implicitDefEqProofs[g6];rw[Qsy h0];refine Qi 2 hcl rfl ?_;have:=Qfy l;simp[sl,<- this]
 . have:=Qwg hl h0 hr i hi;omega
end
section
variable {H:Ws}
def ShO (l:List Int):Prop:=l.length<=10/\0<l.length/\∀ v∈l,-70368744177664<=v/\v<=70368744177664
def tB (t:Tin):AO:=⟨t.cells,30,0,true⟩
theorem Qot {M:List (List Int)} {i:Nat} {x:List Int} (h:i<M.length) (hx:M[i]=x):sls (M.take i)++[.slc (Qa x) x.length]=sls (M.take (i+1)):=by
 subst hx;have e:M.take (i+1)=M.take i++[M[i]]:=by rw[List.take_append_getElem h]
 rw[e];simp only[sls,V8,Vn,VF];rfl
set_option maxRecDepth 10000 in
theorem Qtb {t:Tin} (hA:∀ l∈t.A,ShO l) (hl:t.A.length<=1000000) {N:Nat} {K:Wr}
 (hexit:∀ env G,env.get 3=.own (H.length+1) 0 t.A.length 1 t.A.length->K (.exit 0) env (H++tB t::⟨sls (t.A.map QG),45,t.A.length,true⟩::G)) :
 ∀ (m i:Nat) (G:Ws) (env:Env),i+m=t.A.length->env.get 1=.ptr (.own H.length 0 0 0 0) 0->env.get 3=.own (H.length+1) 0 i 1 i->env.get 4=i64 i ->
  LI Tryz.prog N Qb Qhd env (H++tB t::⟨sls ((t.A.map QG).take i),45,i,true⟩::G) K:=by
 intro m
 induction m with
 |zero =>
  intro i G env hi h1 h3 h4;refine Qc hm Qhd.eq_1 ?_;have e:i=t.A.length:=by omega
  subst e;simp -implicitDefEqProofs[h1,h3,h4,tB,Tin.cells];have:=hexit [(9,bl false),(8,i64 t.A.length),(7,.slc (sls t.A) t.A.length),(6,(SV.own H.length 0 0 0 0).ptr 2),(5,i64 t.A.length),(1,(SV.own H.length 0 0 0 0).ptr 0),(3,.own (H.length+1) 0 t.A.length 1 t.A.length),(4,i64 t.A.length)] G (by simp);rw[VA (by simp)];exact this
 |succ m ih =>
  intro i G env hi h1 h3 h4;refine Qc hm Qhd.eq_1 ?_;have hii:i<t.A.length:=by omega
  have w1:=Qw (show i<9223372036854775807 by omega);obtain⟨a1,a2,a3⟩:=hA _ (Vf hii);simp -implicitDefEqProofs[h1,h3,h4,tB,Tin.cells,hii,QaE hii];refine⟨by omega,Qh (ok69 a1 a2 a3) ?_⟩;have es:=Qot (M:=t.A.map QG) (i:=i) (x:=QG t.A[i]) (by simpa using hii) (by simp);have ih2:=ih (i+1);generalize QG t.A[i]=q at *;simp -implicitDefEqProofs[h1,h3,h4,sl,w1];refine⟨by omega,by omega,by omega,?_⟩;rw[es];exact ih2 _ _ (by omega) (by simp) (by simp) (by simp)
theorem Qrg (n:Nat) (ks:List Nat) (L:Ws) (d:Nat) (M:List (List Int)):(sls M).map (SV.fz n ks L (d+1))=sls M:=by
 have:∀ x∈sls M,SV.fz n ks L (d+1) x=x:=λx hx=>QaA ((SV.underL_iff _ _).1 (Q3 n M) x hx);calc (sls M).map (SV.fz n ks L (d+1))=(sls M).map id:=Vt this
  _=sls M:=by simp
theorem ok44 {t:Tin} (hA:∀ l∈t.A,ShO l) (hl:t.A.length<=1000000):Ok Tryz.prog 44 [.agg t.cells] H (.ret (.slc (sls (t.A.map QG)) t.A.length)) H:=by
 refine Ql hm Tryz.func44 c44 (by simp[Tin.cells,Q3]) λhcl => ?_;simp -implicitDefEqProofs[i44,r44,Tin.cells];refine Qtb hA hl (λenv G g3 => ?_) t.A.length 0 [] _ (by omega) (by simp) (by simp) (by simp);simp -implicitDefEqProofs[g3];refine Qi 3 hcl rfl ?_;simp;rw[Qrg];exact VA (by simp)
end
def QaS (h:Nat) (g:Gm):Nat->Ws
 |0=>[]
 |k+1=>QaS h g k++[Q0 0 (Qv (g.acts k)),⟨[.own (h+2+2*k) 0 (g.acts k) 1 0],45,0,true⟩]
theorem QdO (h:Nat) (g:Gm):∀ k,(QaS h g k).length=2*k
 |0=>rfl
 |k+1=>by simp[QaS,QdO h g k]; omega
def pZ (h i:Nat):Nat:=h+2+2*i
theorem QfI (h:Nat) (g:Gm):∀ (k i:Nat),i<k->(QaS h g k)[2*i]? = some (Q0 0 (Qv (g.acts i)))
 |0,i,hi=>absurd hi (by omega)
 |k+1,i,hi=>by
  have hl:=QdO h g k;by_cases e:i=k
  . subst e;simp only[QaS];rw[Vh (by omega),hl];simp
  . simp only[QaS];rw[Ve (by omega)];exact QfI h g k i (by omega)
theorem Qu5 (i:Nat) (p n:Nat->Nat) (v:Nat):Qx i p n v++[.own (p i) 0 (n i) 1 v]=Qx (i+1) p n v:=by
 simp[Qx,Zh]
section
variable {H:Ws} {g:Gm}
set_option maxRecDepth 10000 in
theorem Qwv (hW:Wg g) {N:Nat} {K:Wr}
 (hexit:∀ env,env.get 3=.own (H.length+1) 0 g.is.length 1 g.is.length->K (.exit 0) env (H++Qd g::⟨Qx g.is.length (pZ H.length) g.acts 0,45,g.is.length,true⟩::QaS H.length g g.is.length)) :
 ∀ (m i:Nat) (env:Env),i+m=g.is.length->env.get 1=.ptr (.own H.length 0 0 0 0) 0->env.get 3=.own (H.length+1) 0 i 1 i->env.get 4=i64 i ->
  LI Tryz.prog N Qb Qhj env (H++Qd g::⟨Qx i (pZ H.length) g.acts 0,45,i,true⟩::QaS H.length g i) K:=by
 have hil:=hW.gd.i;intro m
 induction m with
 |zero =>
  intro i env hi h1 h3 h4;refine Qc hm Qhj.eq_1 ?_;have e:i=g.is.length:=by omega
  subst e;have he:=λe h=>hexit e h;simp only[Qd,Gm.cells]at he;simp -implicitDefEqProofs[h1,h3,h4,Qd,Gm.cells];exact he _ (by simp)
 |succ m ih =>
  intro i env hi h1 h3 h4;refine Qc hm Qhj.eq_1 ?_;have hii:i<g.is.length:=by omega
  obtain⟨n1,n2⟩:=QaV hW hii;have hg:g.is.getD i (0,0)=g.is[i]:=by simp[hii]
  have ha:(g.acts i:Int)=g.is[i].2:=by unfold Gm.acts; rw[hg]; unfold Gm.acts at n1; rw[hg]at n1; omega
  have w1:=Qw (show i<9223372036854775807 by omega);have hMl:=QdO H.length g i;have eb:QaS H.length g (i+1)=QaS H.length g i++[Q0 0 (Qv (g.acts i)),⟨[.own (H.length+2+2*i) 0 (g.acts i) 1 0],45,0,true⟩]:=rfl;have ih2:=ih (i+1);rw[eb,<- Qu5]at ih2;simp only[Qd,Gm.cells]at ih2;generalize QaS H.length g i=M at *;have i2:(Qu g.is)[i*2+1]?.getD .any=i64 g.is[i].2:=by
   rw[<-Vs,QaL hii]; rfl
  have i3:(Qu g.is).length=2*g.is.length:=Qa0 _;simp -implicitDefEqProofs[h1,h3,h4,Qd,Gm.cells,hii,i2,i3,<- ha,w1];repeat (refine⟨by omega,?_⟩)
  have e1:H.length+(M.length+2)=pZ H.length i:=by unfold pZ; omega
  have e2:List.replicate (g.acts i) (i64 0)=Qa (Qv (g.acts i)):=by simp[Qa,Qv]
  rw[e1,e2];refine ih2 _ (by omega) ?_ ?_ ?_
  . simp
  . simp
  . simp
theorem ok43 (hW:Wg g):Ok Tryz.prog 43 [.agg g.cells] H (.ret (.own (H.length+1) 0 g.is.length 1 g.is.length)) (H++Qd g::⟨Qx g.is.length (pZ H.length) g.acts 0,45,g.is.length,true⟩::QaS H.length g g.is.length):=by
 refine Ql hm Tryz.func43 c43 (by simp[Gm.cells,Q5,Q6]) λhcl => ?_;simp -implicitDefEqProofs[i43,r43,Gm.cells];refine Qwv hW (λenv g3 => ?_) g.is.length 0 _ (by omega) (by simp) (by simp) (by simp);simp -implicitDefEqProofs[g3];exact Qo
end
def Qb1 (g:Gm) (V:List Int) (j:Nat):List Int:=Qe g.pl.toNat λp=>V.getD (j*4+p) 0
@[simp] theorem QBR (g:Gm) (V:List Int) (j:Nat):(Qb1 g V j).length=g.pl.toNat:=by simp[Qb1]
def qV (h n j:Nat):Nat:=h+3+2*(n-1-j)
def QaI (h n i m:Nat):Wt:=(List.range n).map λj=>if j<i then .val (.slice none 0 0)else .own (qV h n j) 0 m 1 0
@[simp] theorem QBs (h n i m:Nat):(QaI h n i m).length=n:=by simp[QaI]
theorem Qpk {h n i m j:Nat} (hj:j<n) (hi:i<=j):(QaI h n i m)[j]?.getD .any=.own (qV h n j) 0 m 1 0:=by
 simp[QaI,hj,show ¬ j<i by omega]
theorem Qlq {h n i m j:Nat} (hj:j<n) (hi:i<=j):(QaI h n i m)[j]'(by simpa using hj)=.own (qV h n j) 0 m 1 0:=by
 simp[QaI,show ¬ j<i by omega]
theorem Qqu {h n i m:Nat} (hi:i<n):List.take i (QaI h n (i+1) m)++SV.own (qV h n i) 0 m 1 0::List.drop (i+1) (QaI h n (i+1) m)=QaI h n i m:=by
 have hl:i<(QaI h n (i+1) m).length:=by simp[hi]
 have:=YA (l:=QaI h n (i+1) m) (i:=i) (a:=SV.own (qV h n i) 0 m 1 0);rw[Wb hl]at this;rw[<-this];apply Vv;intro j;by_cases e:i=j
 . subst e; rw[Vg hl]; simp[QaI,hi]
 . rw[Vd e];by_cases hj:j<n
   . have:(j<i+1)=(j<i):=by simp; omega
     simp[QaI,hj,this]
   . rw[Vl (by simp; omega),Vl (by simp; omega)]
structure VN (g:Gm) (H:Ws) (V:List Int) (i:Nat) (f:Nat->Int) (X:Ws):Prop where
 b:X[H.length]? = some (Qd g)
 o:X[H.length+1]? = some ⟨QaI H.length g.ns.length i g.pl.toNat,45,0,true⟩
 n:∀ h:i<g.ns.length,X[H.length+2+2*(g.ns.length-1-i)]? = some ⟨g.ns[i].cells,57,0,true⟩
 r0:i<g.ns.length->X[qV H.length g.ns.length i]? = some (Q0 0 (Qe g.pl.toNat f))
 r:∀ j,i<j->j<g.ns.length->X[qV H.length g.ns.length j]? = some (Q0 0 (Qb1 g V j))
 len:X.length=H.length+2+2*(g.ns.length-i)
 low:∀ j,j<H.length->X[j]? = H[j]?
structure Qfa (g:Gm) (M:List Int) (S:Nat->List Int) (V:List Int):Prop where
 eq:∀ i q:Nat,i<g.ns.length->(q:Int)<g.pl->V.getD (i*4+q) 0=QbD g M S V i q
 m:∀ i (h:i<g.ns.length),g.ns[i].k=1->M.getD i 0=QaM g.ns[i].ws/\0<M.getD i 0
section
variable {H X:Ws} {g:Gm} {V M:List Int} {S:List (List Int)}
theorem Qey {L:List (List Int)} {i:Nat} (h:i<L.length):(sls L)[i]?.getD .any=sl L[i]:=by simp[sls,h]
set_option maxRecDepth 10000 in
theorem QmB (hW:Wg g) {i p:Nat} {f:Nat->Int} (h:VN g H V i f X) (hi:i<g.ns.length) (hp:(p:Int)<g.pl) (hS:S.length=g.is.length) (hSl:∀ j (h:j<S.length),S[j].length=g.acts j) (h3:g.ns[i].k≠3) {x10:SV} {N:Nat} {K:Wr}
 (hexit:∀ env,env.get 1=.slc (sls S) S.length->env.get 2=.ptr (.own H.length 0 0 0 0) 0->env.get 5=.own (H.length+1) 0 g.ns.length 1 0->env.get 6=i64 i->env.get 7=.ptr (.own (H.length+2+2*(g.ns.length-1-i)) 0 0 0 0) 0->env.get 8=i64 p ->
  env.get 9=i64 (QT g (λj=>S.getD j []) V g.ns[i].nx i p g.ns[i].nx.length)->env.get 10=x10->K (.exit 4) env X) :
 ∀ (m k:Nat) (env:Env),k+m=g.ns[i].nx.length->env.get 1=.slc (sls S) S.length->env.get 2=.ptr (.own H.length 0 0 0 0) 0->env.get 5=.own (H.length+1) 0 g.ns.length 1 0->env.get 6=i64 i->env.get 7=.ptr (.own (H.length+2+2*(g.ns.length-1-i)) 0 0 0 0) 0->env.get 8=i64 p ->
  env.get 9=i64 (QT g (λj=>S.getD j []) V g.ns[i].nx i p k)->env.get 10=x10->env.get 11=i64 k->LI Tryz.prog N Qb Qg7 env X K:=by
 have hnx60:g.ns[i].nx.length<=60:=Qc7 (hW.gd.e _ (Vf hi));have hx:g.ns[i]? = some g.ns[i]:=Vb hi;have hn:=hW.gd.n;have hN:∀ L,Qf (X++L) (H.length+2+2*(g.ns.length-1-i)) 0=g.ns[i].cells:=λL=>QC (h.n hi) L;have hO:∀ L,Qf (X++L) (H.length+1) 0=QaI H.length g.ns.length i g.pl.toNat:=λL=>QC h.o L;have hN0:=hN [];have hO0:=hO [];rw[Vr]at hN0 hO0;intro m
 induction m with
 |zero =>
  intro k env hk h1 h2 h5 h6 h7 h8 h9 h10 h11;refine Qc hm Qg7.eq_1 ?_;have e:k=g.ns[i].nx.length:=by omega
  subst e;simp -implicitDefEqProofs[h7,h11,hN0,Nd.cells,sl];exact hexit _ (by simp[h1]) (by simp[h2]) (by simp[h5]) (by simp[h6]) (by simp[h7]) (by simp[h8]) (by simp[h9]) (by simp[h10])
 |succ m ih =>
  intro k env hk h1 h2 h5 h6 h7 h8 h9 h10 h11;refine Qc hm Qg7.eq_1 ?_;have hkl:k<g.ns[i].nx.length:=by omega
  have hch:=(hW.wf.nf i hi).ch _ (Vf hkl);have w1:=Qw (show k<9223372036854775807 by omega);have hcn:((g.ns[i].nx[k].toNat:Nat):Int)=g.ns[i].nx[k]:=by omega
  generalize hcc:g.ns[i].nx[k].toNat=ch at *;have hcl:ch<g.ns.length:=by omega
  have hci:i<ch:=by omega
  have hR:=QC (h.r ch hci hcl) [];rw[Vr]at hR;have hpp:p<g.pl.toNat:=by omega
  have eR:(Qa (Qb1 g V ch))[p]?.getD .any=i64 (V.getD (ch*4+p) 0):=by rw[Qbz (by simpa[Qb1]using hpp),Qb1,Qb9 hpp]
  have eO:=Qpk (h:=H.length) (i:=i) (m:=g.pl.toNat) hcl (by omega);have eA:QT g (λj=>S.getD j []) V g.ns[i].nx i p (k+1)=IntKind.i64.wrap (QT g (λj=>S.getD j []) V g.ns[i].nx i p k+IntKind.i64.wrap (V.getD (ch*4+p) 0*brP g (λj=>S.getD j []) i k)):=by
   have:(g.ns[i].nx.getD k 0).toNat=ch:=by simp[hkl,hcc]
   simp only[QT,this]
  have ih2:=ih (k+1);rw[eA]at ih2;generalize QT g (λj=>S.getD j []) V g.ns[i].nx i p k=acc at *;generalize V.getD (ch*4+p) 0=vc at *;rcases QdR hW hi with hk1|hk2|hk3
  . obtain⟨a1,a2,a3,a4⟩:=Qd0 hW hi hk1;have hkw:k<g.ns[i].ws.length:=by omega
    have eB:brP g (λj=>S.getD j []) i k=g.ns[i].ws[k]:=by simp[brP,hx,hk1,hkw]
    rw[eB]at ih2;simp -implicitDefEqProofs[h1,h2,h5,h6,h7,h8,h9,h10,h11,hN0,hO0,Nd.cells,sl,hk1,hkl,hkw,hR,eR,eO,w1,<- hcn];repeat (refine⟨by omega,?_⟩)
    refine ih2 _ (by omega) ?_ ?_ ?_ ?_ ?_ ?_ ?_ ?_ ?_
    . simp
    . simp
    . simp
    . simp
    . simp
    . simp
    . simp
    . simp
    . simp
  . obtain⟨b1,b2,b3,b4,b5⟩:=QbE hW hi hk2;have hjS:g.ns[i].i.toNat<S.length:=by omega
    have hkS:k<S[g.ns[i].i.toNat].length:=by rw[hSl _ hjS]; omega
    have eB:brP g (λj=>S.getD j []) i k=S[g.ns[i].i.toNat][k]:=by simp[brP,hx,hk2,hjS,hkS]
    rw[eB]at ih2;generalize g.ns[i].i.toNat=js at *;simp -implicitDefEqProofs[h1,h2,h5,h6,h7,h8,h9,h10,h11,hN0,hO0,Nd.cells,sl,hk2,hkl,hkS,hjS,hR,eR,eO,QaE hjS,w1,<- hcn,<- b2];repeat (refine⟨by omega,?_⟩)
    refine ih2 _ (by omega) ?_ ?_ ?_ ?_ ?_ ?_ ?_ ?_ ?_
    . simp
    . simp
    . simp
    . simp
    . simp
    . simp
    . simp
    . simp
    . simp
  . exact absurd hk3 h3
end
section
variable {H X:Ws} {g:Gm} {V M:List Int} {S:List (List Int)} {i:Nat} {f f':Nat->Int}
theorem VN.setF (h:VN g H V i f X) (hi:i<g.ns.length) (f':Nat->Int):VN g H V i f' (X.set (qV H.length g.ns.length i) (Q0 0 (Qe g.pl.toNat f'))):=by
 have hl:=h.len;refine⟨?_,?_,λh1 => ?_,λ_ => ?_,λj hj hj2 => ?_,by simp[hl],λj hj => ?_⟩
 . rw[Vd (by unfold qV; omega)]; exact h.b
 . rw[Vd (by unfold qV; omega)]; exact h.o
 . rw[Vd (by unfold qV; omega)]; exact h.n h1
 . rw[Vg (by rw[hl]; unfold qV; omega)]
 . rw[Vd (by unfold qV; omega)]; exact h.r j hj hj2
 . rw[Vd (by unfold qV; omega)]; exact h.low j hj
set_option maxRecDepth 10000 in
theorem QpY (hW:Wg g) (hV:Qfa g M (λj=>S.getD j []) V) (hi:i<g.ns.length) (hS:S.length=g.is.length) (hSl:∀ j (h:j<S.length),S[j].length=g.acts j) {N:Nat} {K:Wr}
 (hexit:∀ env X,VN g H V i (λp=>V.getD (i*4+p) 0) X->env.get 1=.slc (sls S) S.length->env.get 2=.ptr (.own H.length 0 0 0 0) 0->env.get 5=.own (H.length+1) 0 g.ns.length 1 0->env.get 6=i64 i->K (.exit 2) env X) :
 ∀ (m p:Nat) (f:Nat->Int) (X:Ws) (env:Env),VN g H V i f X->(∀ q,q<p->f q=V.getD (i*4+q) 0)->((p+m:Nat):Int)=g.pl->env.get 1=.slc (sls S) S.length->env.get 2=.ptr (.own H.length 0 0 0 0) 0->env.get 5=.own (H.length+1) 0 g.ns.length 1 0->env.get 6=i64 i->env.get 7=.ptr (.own (H.length+2+2*(g.ns.length-1-i)) 0 0 0 0) 0->env.get 8=i64 p ->
  LI Tryz.prog N Qb Qiu env X K:=by
 have hx:g.ns[i]? = some g.ns[i]:=Vb hi;have hn:=hW.gd.n;have hp4:=hW.gd.p4;intro m
 induction m with
 |zero =>
  intro p f X env h hf hp h1 h2 h5 h6 h7 h8;refine Qc hm Qiu.eq_1 ?_;have hB0:=QC h.b [];rw[Vr]at hB0;simp -implicitDefEqProofs[h2,h8,hB0,Qd,Gm.cells,show ¬ (p:Int)<g.pl by omega];refine hexit _ X ?_ (by simp[h1]) (by simp[h2]) (by simp[h5]) (by simp[h6]);have e:Qe g.pl.toNat f=Qe g.pl.toNat λp=>V.getD (i*4+p) 0:=Vt λj hj=>hf j (by simp only[VE]at hj; omega);exact⟨h.b,h.o,h.n,λh1=>by rw[<-e]; exact h.r0 h1,h.r,h.len,h.low⟩
 |succ m ih =>
  intro p f X env h hf hp h1 h2 h5 h6 h7 h8;refine Qc hm Qiu.eq_1 ?_;have hB0:=QC h.b [];rw[Vr]at hB0;have hN0:=QC (h.n hi) [];have hO0:=QC h.o [];have hR0:=QC (h.r0 hi) [];rw[Vr]at hN0 hO0 hR0;have hpp:(p:Int)<g.pl:=by omega
  have hp':p<g.pl.toNat:=by omega
  have w1:=Qw (show p<9223372036854775807 by omega);have eO:=Qpk (h:=H.length) (i:=i) (m:=g.pl.toNat) hi (Vc i);have e5:∀ (y:Int),List.take p (Qa (Qe g.pl.toNat f))++i64 y::List.drop (p+1) (Qa (Qe g.pl.toNat f))=Qa (Qe g.pl.toNat (put f p y)):=λy=>by rw[Qar (by simpa using hp'),Qco]
  have hSet:=λy=>h.setF hi (put f p y);have hf':∀ q,q<p+1->put f p (V.getD (i*4+p) 0) q=V.getD (i*4+q) 0:=λq hq=>by
   unfold put;split
   . rename_i e; rw[e]
   . exact hf q (by omega)
  have ih2:=λenv=>ih (p+1) (put f p (V.getD (i*4+p) 0)) _ env (hSet _) hf' (by omega);have hV2:=hV.eq i p hi hpp;have hSO:=λy=>Qcj (h.r0 hi) [] y;simp only[Vr]at hSO;by_cases hk3:g.ns[i].k=3
  . obtain⟨b1,b2,b3⟩:=QeC hW hi hk3;have hps:p<g.ns[i].ps.length:=by omega
    have eV:V.getD (i*4+p) 0=IntKind.i64.wrap (g.ns[i].ps[p]*1024):=by rw[hV2]; simp[QbD,hx,hk3,hps]
    rw[eV]at ih2;simp -implicitDefEqProofs[h1,h2,h5,h6,h7,h8,hB0,hN0,hO0,hR0,hSO,Qd,Gm.cells,Nd.cells,sl,hk3,hpp,hi,eO,Qlq hi (Vc i),hps,Q0,e5,w1];repeat (refine⟨by omega,?_⟩)
    refine ih2 _ ?_ ?_ ?_ ?_ ?_ ?_
    . simp
    . simp
    . simp
    . simp
    . simp
    . simp
  . have hkk:=QdR hW hi;have hnx60:g.ns[i].nx.length<=60:=Qc7 (hW.gd.e _ (Vf hi));have eV:V.getD (i*4+p) 0=IntKind.i64.wrap ((QT g (λj=>S.getD j []) V g.ns[i].nx i p g.ns[i].nx.length).tdiv (brW g M i)):=by rw[hV2]; simp[QbD,hx,hk3]
    rw[eV]at ih2;rcases hkk with hk1|hk2|hk4
    . obtain⟨a1,a2,a3,a4⟩:=Qd0 hW hi hk1;obtain⟨m1,m2⟩:=hV.m i hi hk1;have eB:brW g M i=QaM g.ns[i].ws:=by simp only[brW,hx,hk1]; exact m1
      have hB1:0<QaM g.ns[i].ws:=by omega
      rw[eB]at ih2;simp -implicitDefEqProofs[h1,h2,h5,h6,h7,h8,hB0,hN0,Qd,Gm.cells,Nd.cells,sl,hk1,hpp,hi];refine Qh (Qod (l:=g.ns[i].ws) (by omega)) ?_;simp -implicitDefEqProofs;refine QmB hW h hi hpp hS hSl hk3 (x10:=i64 (QaM g.ns[i].ws)) (λenv g1 g2 g5 g6 g7 g8 g9 g10 => ?_) g.ns[i].nx.length 0 _ (by omega) (by simp[h1]) (by simp[h2]) (by simp[h5]) (by simp[h6]) (by simp[h7]) (by simp[h8]) (by simp[QT]) (by simp) (by simp);generalize QT g (λj=>S.getD j []) V g.ns[i].nx i p g.ns[i].nx.length=acc at *;generalize QaM g.ns[i].ws=ws at *;simp -implicitDefEqProofs[g1,g2,g5,g6,g7,g8,g9,g10,hO0,hR0,hSO,hpp,hi,Qlq hi (Vc i),Q0,e5,w1];repeat (refine⟨by omega,?_⟩)
      refine ih2 _ ?_ ?_ ?_ ?_ ?_ ?_
      . simp[g1]
      . simp[g2]
      . simp[g5]
      . simp[g6]
      . simp[g7]
      . simp
    . have eB:brW g M i=65536:=by simp[brW,hx,hk2]
      rw[eB]at ih2;simp -implicitDefEqProofs[h1,h2,h5,h6,h7,h8,hB0,hN0,Qd,Gm.cells,Nd.cells,sl,hk2,hpp,hi];refine QmB hW h hi hpp hS hSl hk3 (x10:=i64 65536) (λenv g1 g2 g5 g6 g7 g8 g9 g10 => ?_) g.ns[i].nx.length 0 _ (by omega) (by simp[h1]) (by simp[h2]) (by simp[h5]) (by simp[h6]) (by simp[h7]) (by simp[h8]) (by simp[QT]) (by simp) (by simp);generalize QT g (λj=>S.getD j []) V g.ns[i].nx i p g.ns[i].nx.length=acc at *;simp -implicitDefEqProofs[g1,g2,g5,g6,g7,g8,g9,g10,hO0,hR0,hSO,hpp,hi,Qlq hi (Vc i),Q0,e5,w1];repeat (refine⟨by omega,?_⟩)
      refine ih2 _ ?_ ?_ ?_ ?_ ?_ ?_
      . simp[g1]
      . simp[g2]
      . simp[g5]
      . simp[g6]
      . simp[g7]
      . simp
    . exact absurd hk4 hk3
structure VM (g:Gm) (H:Ws) (V:List Int) (i:Nat) (X:Ws):Prop where
 b:X[H.length]? = some (Qd g)
 o:X[H.length+1]? = some ⟨QaI H.length g.ns.length i g.pl.toNat,45,0,true⟩
 r:∀ j,i<=j->j<g.ns.length->X[qV H.length g.ns.length j]? = some (Q0 0 (Qb1 g V j))
 len:X.length=H.length+2+2*(g.ns.length-i)
 low:∀ j,j<H.length->X[j]? = H[j]?
theorem VM.next (h:VM g H V (i+1) X) (hi:i<g.ns.length) (f:Nat->Int):VN g H V i f (X.set (H.length+1) ⟨QaI H.length g.ns.length i g.pl.toNat,45,0,true⟩++[⟨g.ns[i].cells,57,0,true⟩,Q0 0 (Qe g.pl.toNat f)]):=by
 have hl:=h.len;refine⟨?_,?_,λh1 => ?_,λ_ => ?_,λj hj hj2 => ?_,by simp[hl]; omega,λj hj => ?_⟩
 . rw[Ve (by simp; omega),Vd (by omega)]; exact h.b
 . rw[Ve (by simp; omega),Vg (by omega)]
 . rw[Vh (by simp; omega)];rw[show H.length+2+2*(g.ns.length-1-i)-(X.set (H.length+1) _).length=0 by simp; omega]; rfl
 . rw[Vh (by simp; unfold qV; omega)];rw[show qV H.length g.ns.length i-(X.set (H.length+1) _).length=1 by simp; unfold qV; omega]; rfl
 . rw[Ve (by simp; unfold qV; omega),Vd (by unfold qV; omega)]; exact h.r j (by omega) hj2
 . rw[Ve (by simp; omega),Vd (by omega)]; exact h.low j hj
theorem VN.done (h:VN g H V i (λp=>V.getD (i*4+p) 0) X):VM g H V i X :=
 ⟨h.b,h.o,λj hj hj2=>by
  by_cases e:i=j
  . subst e; exact h.r0 hj2
  . exact h.r j (by omega) hj2,h.len,h.low⟩
set_option maxRecDepth 10000 in
theorem Qqb (hW:Wg g) (hV:Qfa g M (λj=>S.getD j []) V) (hS:S.length=g.is.length) (hSl:∀ j (h:j<S.length),S[j].length=g.acts j) {N:Nat} {K:Wr}
 (hexit:∀ env X,VM g H V 0 X->env.get 5=.own (H.length+1) 0 g.ns.length 1 0->K (.exit 0) env X) :
 ∀ (i:Nat) (X:Ws) (env:Env),VM g H V i X->i<=g.ns.length->env.get 1=.slc (sls S) S.length->env.get 2=.ptr (.own H.length 0 0 0 0) 0->env.get 5=.own (H.length+1) 0 g.ns.length 1 0->env.get 6=i64 ((i:Int)-1) ->
  LI Tryz.prog N Qb Qhq env X K:=by
 have hn:=hW.gd.n;have hp1:=hW.gd.p1;have hp4:=hW.gd.p4;intro i
 induction i with
 |zero =>
  intro X env h hi h1 h2 h5 h6;refine Qc hm Qhq.eq_1 ?_;simp -implicitDefEqProofs[h6];exact hexit _ X h (by simp[h5])
 |succ i ih =>
  intro X env h hi h1 h2 h5 h6;refine Qc hm Qhq.eq_1 ?_;have hB:=QC h.b;have hB0:=QC h.b [];rw[Vr]at hB0;have hii:i<g.ns.length:=by omega
  have h6':env.get 6=i64 i:=by rw[h6]; congr 1; omega
  have hl:=h.len;have hO:=QC h.o;have hSO:=Qcj h.o;have eO:List.take i (QaI H.length g.ns.length (i+1) g.pl.toNat)++SV.own (X.length+1) 0 g.pl.toNat 1 0::List.drop (i+1) (QaI H.length g.ns.length (i+1) g.pl.toNat)=QaI H.length g.ns.length i g.pl.toNat:=by
   rw[<-Qqu hii];congr 3;unfold qV; omega
  have hz:List.replicate g.pl.toNat (i64 0)=Qa (Qe g.pl.toNat λ_=>0):=by simp[Qa,Qe,Y8]
  have hVN:=h.next hii λ_=>0
  simp only[Nd.cells,sl,Q0,<- hz]at hVN;simp -implicitDefEqProofs[h1,h2,h5,h6',hB,hB0,hO,hSO,eO,Qd,Gm.cells,hii,QaC hii,QaR hii,QaN hii,sl];repeat (refine⟨by omega,?_⟩)
  refine QpY hW hV hii hS hSl (λenv X2 h2 g1 g2 g5 g6 => ?_) g.pl.toNat 0 (λ_=>0) _ _ hVN (λq hq=>absurd hq (by omega)) (by omega) (by simp[h1]) (by simp[h2]) (by simp[h5]) (by simp[h6']) ?_ (by simp)
  . simp -implicitDefEqProofs[g6];refine ih X2 _ h2.done (by omega) (by simp[g1]) (by simp[g2]) (by simp[g5]) ?_;simp;rw[Qp (by omega) (by omega)]
  . simp;omega
end
section
variable {H X G:Ws} {g:Gm} {V M:List Int} {S:List (List Int)}
theorem QcM {I:Nat} {p:Nat} (hp:H.length<=p) {q:Nat->Nat} {n:Nat->Nat} {A:Nat->List Int} {v w:Nat} {T:Ww} (h:G[p]? = some ⟨Qx I q n v,T,w,true⟩)
 (hq:∀ i,i<I->H.length<=q i/\G[q i]? = some ⟨Qa (A i),3,v,true⟩/\(A i).length=n i) (d:Nat) :
 SV.fz H.length [] (G.drop H.length) (d+3) (.own p 0 I 1 w)=.slc (sls ((List.range I).map A)) I:=by
 have hg:(G.drop H.length)[p-H.length]? = some ⟨Qx I q n v,T,w,true⟩:=by rw[Vs,show H.length+(p-H.length)=p by omega]; exact h
 unfold SV.fz;rw[Wa (by simp[SV.under]; omega)];simp only[hg,Qah];simp only[Qn5,Yw,V0,Vc,and_self,We,YR];congr 1;have e:List.take I (Qx I q n v)=Qx I q n v:=VA (by simp);rw[e];simp only[Qx,sls,YY];apply Vt;intro i hi;simp only[VE]at hi;obtain⟨q1,q2,q3⟩:=hq i hi;simp only[Function.comp_apply];rw[<-q3];exact Ql3 q1 q2 d
theorem QdN (hlow:∀ j,j<H.length->X[j]? = H[j]?):X=H++X.drop H.length:=by
 apply Vv;intro i;by_cases hi:i<H.length
 . rw[Ve hi,hlow i hi]
 . rw[Vh (by omega),Vs];congr 1; omega
theorem Qus (h n m:Nat):QaI h n 0 m=Qx n (qV h n) (λ_=>m) 0:=by simp[QaI,Qx]
def QcQ (g:Gm) (V:List Int):List (List Int):=(List.range g.ns.length).map (Qb1 g V)
theorem ok72 (hW:Wg g) (hV:Qfa g M (λj=>S.getD j []) V) (hS:S.length=g.is.length) (hSl:∀ j (h:j<S.length),S[j].length=g.acts j) :
 Ok Tryz.prog 72 [.agg g.cells,.slc (sls S) S.length] H (.ret (.slc (sls (QcQ g V)) g.ns.length)) H:=by
 have hn:=hW.gd.n;refine Ql hm Tryz.func72 c72 (by simp[Gm.cells,Q5,Q6,Q3]) λhcl => ?_;have hz:List.replicate g.ns.length (SV.val (Value.slice none 0 0))=QaI H.length g.ns.length g.ns.length g.pl.toNat:=by
  apply Vv;intro j;by_cases hj:j<g.ns.length
  . simp[QaI,hj]
  . rw[Vl (by simp; omega),Vl (by simp; omega)]
 have h0:VM g H V g.ns.length (H++[Qd g,⟨QaI H.length g.ns.length g.ns.length g.pl.toNat,45,0,true⟩]):=by
  refine⟨?_,?_,λj h1 h2=>absurd h2 (by omega),by simp,λj hj=>by rw[Ve hj]⟩
  . rw[Vh (Vc _)]; simp
  . rw[Vh (by omega)]; simp
 simp only[Qd,Gm.cells]at h0;simp -implicitDefEqProofs[i72,r72,Gm.cells,hz];repeat (refine⟨by omega,?_⟩)
 refine Qqb hW hV hS hSl (λenv X h g5 => ?_) g.ns.length _ _ h0 (Vc _) (by simp) (by simp) (by simp) ?_
 . simp -implicitDefEqProofs[g5];have ho:=h.o;rw[Qus]at ho;have hfz:=QcM (H:=H) (A:=Qb1 g V) (by omega) ho (λj hj=>⟨by unfold qV; omega,h.r j (by omega) hj,by simp⟩) 1;have:=Qi (n0:=H.length) (H:=H) (L:=X.drop H.length) 4 hcl rfl hfz;rw[<-QdN h.low]at this;exact this
 . simp;rw[Qp (by omega) (by omega)]
end
end Go.Proofs.YtogjmpkehjfecaaGreatDoor.Rc
namespace Go.Proofs.YtogjmpkehjfecaaGreatDoor.Rc
open Go.Ab Go.Ab.Lm
section
variable {H:Ws} {a b:Nat}
theorem QjO (hb:0<b) (ha:(lim a).length<10000) (hbn:(lim b).length<10000):Ok Tryz.prog 99 [nS a,nS b] H (.ret (.tup [nS (a / b),nS (a % b)])) H:=by
 have hB:B=1000000000:=rfl;refine Ql hm' Tryz.func99 c99 (by simp[nS,QbW]) λhcl => ?_;by_cases hab:a<b
 . have h44:=λH=>QiH (H:=H) (a:=a) (b:=b) (by omega) (by omega);have e:QaJ a b<0:=by unfold QaJ; rw[Wb hab]; decide
   have q1:a / b=0:=YG hab;have q2:a % b=a:=YP hab;have n0:nS 0=.slc [] 0:=by rw[nS,QaZ]; rfl
   rw[q1,q2,n0];simp only[nS]at h44;simp -implicitDefEqProofs[i99,r99,nS];refine Qh (h44 _) ?_;simp -implicitDefEqProofs[e];refine Cv.le (r:=.tup [nl,nS a]) (Qi 2 hcl rfl (QaA (by simp[nS,SV.under,SV.underL,QbW]))) ?_;exact Qic (leL.cons QdP (leL.refl _))
 . have hba:b<=a:=by omega
   have hlb:=Qdu hba;have h44:=λH=>QiH (H:=H) (a:=a) (b:=b) (by omega) (by omega);have e:QaJ a b≥0:=by unfold QaJ; rw[Wa hab]; split<;>simp
   simp -implicitDefEqProofs[i99,r99];refine Qh (h44 _) ?_;have hbl:(lim b).length≠0:=λh=>by
    have:=Qdw.1 (Vx h);omega
   have hkl:(lim b).length-1<(lim b).length:=by omega
   obtain⟨t1,t2,t3⟩:=QnK (n:=b) (by omega) hkl;obtain⟨tb,htb⟩:∃ tb,tb=(lim b)[(lim b).length-1]:=⟨_,rfl⟩;obtain⟨kb,hkb⟩:∃ kb,(lim b).length=kb+1:=⟨(lim b).length-1,by omega⟩;have wkb:IntKind.i64.wrap ((kb:Int))=kb:=QcI (by omega);have gb:(us (lim b))[kb]?.getD .any=.val (.int .u32 tb):=by
    rw[QbM (by omega),htb]; simp only[hkb,ZN]; rfl
   have gb':∀ h,(us (lim b))[kb]'h=.val (.int .u32 tb):=λh=>by
    have:=gb;rw[Vb h]at this;simpa using this
   have htbB:tb<B:=by rw[htb]; exact Qbn b _ (Vf _)
   obtain⟨f,hf⟩:∃ f,f=1000000000 / (tb+1):=⟨_,rfl⟩;have hf0:0<f:=by rw[hf]; exact Nat.div_pos (by omega) (by omega)
   have hfB:f<B:=by
    rw[hf,hB];apply Zj (by omega);rw[<-htb]at t1;omega
   have w1:=Q9 (n:=tb) (by omega);have w2:IntKind.u64.wrap ((tb:Int)+1)=((tb+1:Nat):Int):=by rw[show(tb:Int)+1=((tb+1:Nat):Int)by omega,Q9 (by omega)]
   have td:(1000000000:Int).tdiv ((tb+1:Nat):Int)=(f:Int):=by rw[hf]; rfl
   have w3:=Q9 (n:=f) (by omega);have w4:=Qcl (n:=f) (by omega);have hne:¬ (tb:Int)+1=0:=by omega
   obtain⟨tb1,htb1⟩:∃ tb1,tb1=tb+1:=⟨_,rfl⟩;rw[<-htb1]at w2 td;have hne1:¬ tb1=0:=by omega
   simp -implicitDefEqProofs[i99,r99,e,show ¬ QaJ a b<0 by omega,nS,hkb,wkb,gb,gb',Qab,w1,w2,td,w3,w4,hne1];refine⟨by omega,Qh (Qi1 hfB) ?_⟩;have hfl:(lim f).length<=1:=Qcr (by simpa using hfB);have h42a:=λH=>Qgc (H:=H) (a:=a) (b:=f) (by omega);have h42b:=λH=>Qgc (H:=H) (a:=b) (b:=f) (by omega);simp -implicitDefEqProofs;refine Qh (h42a _) ?_;simp -implicitDefEqProofs;refine Qh (h42b _) ?_;have hb':0<b*f:=Nat.mul_pos hb hf0;have hab':b*f<=a*f:=YD f hba;have hla:(lim (a*f)).length<=(lim a).length+1:=Qcr (by
    rw[V3];exact Nat.mul_lt_mul'' (Qde a) hfB)
   have hQ:a*f / (b*f)=a / b:=Nat.mul_div_mul_right a b hf0;have hRm:a*f % (b*f) / f=a % b:=by
    rw[Nat.mul_mod_mul_right,Nat.mul_div_cancel _ hf0]
   generalize a*f=a' at *;generalize b*f=b' at *;have hlb':=Qdu hab';have hbl':(lim b').length≠0:=λh=>by
    have:=Qdw.1 (Vx h);omega
   obtain⟨u1,u2,u3⟩:=QnK (n:=b') (by omega) (by omega);obtain⟨n,hn⟩:∃ n,(lim b').length=n+1:=⟨(lim b').length-1,by omega⟩;obtain⟨gq,hgq⟩:∃ gq,(lim a').length=n+1+gq:=⟨(lim a').length-(n+1),by omega⟩;obtain⟨top,htop⟩:∃ top,top=b' / B ^ n:=⟨_,rfl⟩;have wn:IntKind.i64.wrap ((n:Int))=n:=QcI (by omega);have gt:(us (lim b'))[n]?.getD .any=.val (.int .u32 top):=by
    rw[QbM (by omega),htop,<- (by simpa[hn]using u1:(lim b')[n]=b' / B ^ n)]; rfl
   have gt':∀ h,(us (lim b'))[n]'h=.val (.int .u32 top):=λh=>by
    have:=gt;rw[Vb h]at this;simpa using this
   have htopB:top<B:=by rw[htop]; simpa[hn]using u3
   have htop0:0<top:=by rw[htop]; simpa[hn]using u2
   have w5:=Q9 (n:=top) (by omega);have w6:IntKind.i64.wrap ((n:Int)+1+gq-(n+1))=gq:=by rw[Qp (by omega) (by omega)]; omega
   have w7:IntKind.i64.wrap ((gq:Int)+1)=((gq+1:Nat):Int):=QaF (by omega);simp -implicitDefEqProofs[nS,hn,hgq,wn,gt,gt',Qab,w5,w6,w7];repeat (refine⟨by omega,?_⟩)
   have en:n+1+gq-(gq+1)=n:=by omega
   rw[en];have hal:=Qde a';rw[hgq]at hal;have hap:a' / B ^ (gq+1)<B ^ n:=by
    apply Y7;rw[<-Nat.pow_add,show gq+1+n=n+1+gq by omega];exact hal
   have hbp:B ^ n<=b':=by
    have:=QkS (n:=b') (by omega);rw[hn]at this;simpa using this
   have ed:List.take n (List.drop (gq+1) (us (lim a')))=us (lim (a' / B ^ (gq+1))):=by
    unfold us;rw[<-List.map_drop,QfP,<- ZP,VA];rw[<-QfP];simp[hgq]; omega
   have edl:(lim (a' / B ^ (gq+1))).length=n:=by rw[<-QfP]; simp[hgq]; omega
   have ett:List.take n (us (lim (a' / B ^ (gq+1))))=us (lim (a' / B ^ (gq+1))):=VA (by rw[Qab]; omega);rw[ed,ett];have hcu:∀ l:List Nat,QH (us l):=λl y hy=>by
    obtain⟨z,_,rfl⟩:=Vj.1 hy;rfl
   refine⟨hcu _,by omega,by omega,?_⟩;have erp:List.replicate (gq+1) (SV.val (.int .u32 0))=us (List.replicate (gq+1) 0):=by simp[us,u32]
   rw[erp];have hz1:a' / B ^ (gq+1) / b'=0:=YG (by omega);have hz2:a' / B ^ (gq+1) % b'=a' / B ^ (gq+1):=YP (by omega);have hDV:DV H gq (gq+1) a' b' H.length 1 (H++[⟨us (lim (a' / B ^ (gq+1))),114,1,true⟩,⟨us (List.replicate (gq+1) 0),114,1,true⟩]):=by
    refine⟨λi hi=>by rw[Ve hi],⟨List.replicate (gq+1) 0,?_,by simp,λz hz=>by simp[Zz]at hz; rw[hz]; decide,?_⟩,⟨[],?_⟩,by omega,by omega⟩
    . rw[Vh (by omega),show H.length+1-H.length=1 by omega]; rfl
    . rw[hz1]; simp[val]
    . rw[hz2,Vr]; simp
   refine Qsl (H:=H) (A:=a') (bb:=b') (gq:=gq) (n:=n) (top:=top) (x6:=nS f) hb' hn hgq (by omega) htop htop0 htopB (λenv X k v hD k4 k5 k6 => ?_) (gq+1) _ _ H.length 1 (Vc _) hDV ?_ ?_ ?_ ?_ ?_ ?_ ?_
   . obtain⟨s,hs⟩:=hD.hr;obtain⟨qs,hq1,hq2,hq3,hq4⟩:=hD.hq;obtain⟨hk1,hk2⟩:=hD.hk;have hlow:=hD.low;simp only[Nat.pow_zero,Nat.div_one,YR]at hs hq4;rw[hQ]at hq4;have hRb:a' % b'<b':=Yo _ hb';have hRlen:=Qdu (YU hRb);generalize a' % b'=R at *;have wR:IntKind.i64.wrap (((lim R).length:Int)-1)=((lim R).length:Int)-1:=Qp (by omega) (by omega);simp -implicitDefEqProofs[k4,k5,k6,wR];have hz0:R / B ^ (lim R).length=0:=YG (Qde R);refine Qrt (R:=R) (f:=f) (k:=k) (v:=v) (A:=X) (x4:=.own (H.length+1) 0 (gq+1) 1 1) (n:=0) hf0 hfB (by omega) (λenv X2 l hX2 ho hXl hm g4 g5 => ?_) (lim R).length _ X (lim R++s) s (lim R) (Vc _) hs (λ_ _=>rfl) rfl rfl rfl rfl (Qbn R) (by rw[hz0]; simp[val]) ?_ ?_ ?_ ?_ ?_
     . obtain⟨s2,m2,e1,e2,e3,e4⟩:=hm;rw[hRm]at e4;have tr1:=Qev e3;rw[e4]at tr1;have tq1:=Qev hq3;rw[hq4]at tq1;have hq1':X2[H.length+1]? = some ⟨us qs,114,1,true⟩:=by rw[ho _ (λe=>hk2 e.symm)]; exact hq1
       have h69q:=QpD (X:=X2) (l:=qs) (m:=qs) (s:=[]) hq1' (by simp) (by omega);have h69r:=QpD (X:=X2) (l:=l) (m:=m2) (s:=s2) hX2 e1 (by omega);rw[hq2,tq1]at h69q;rw[e2,tr1]at h69r;simp -implicitDefEqProofs[g4,g5];refine QbL h69q ?_;rintro o G' ⟨rfl,hG⟩;rw[hG];simp -implicitDefEqProofs[g4,g5];refine QbL h69r ?_;rintro o G'' ⟨rfl,hG2⟩;rw[hG2];simp -implicitDefEqProofs[g4,g5];have hlow2:∀ j,j<H.length->X2[j]? = H[j]? := λj hj=>by rw[ho j (by omega)]; exact hlow j hj
       have ht:=QdN hlow2;have hdr:∀ k,(X2.drop H.length)[k]? = X2[H.length+k]? := λk=>by rw[Vs]
       have f1:=QpF (n:=H.length) (L:=X2.drop H.length) (l:=qs) (m:=qs) (s:=[]) (k:=1) (d:=1) (v:=1) (by simp) (by rw[hdr]; exact hq1');have f2:=QpF (n:=H.length) (L:=X2.drop H.length) (l:=l) (m:=m2) (s:=s2) (k:=k-H.length) (d:=1) (v:=v) e1 (by rw[hdr,show H.length+(k-H.length)=k by omega]; exact hX2);rw[tq1]at f1;rw[tr1,show H.length+(k-H.length)=k by omega]at f2;rw[ht];refine Qi 4 hcl rfl ?_;rw[Qd8];simp only[Vn,VF,f1,f2];rfl
     . simp[k4]
     . simp[k5]
     . simp[k6]
     . simp[hz0]
     . simp
   all_goals simp[nS,hgq,hn,edl,hz2]
end
section
variable {H:Ws} {a b:Nat}
set_option maxRecDepth 10000 in
theorem Qu0 {g:Nat} {N:Nat} {K:Wr} (hexit:∀ env,env.get 0=nS g->K (.exit 0) env H) :
 ∀ (m x y:Nat) (env:Env),y<=m->(lim x).length<10000->(lim y).length<10000->Nat.gcd x y=g->env.get 0=nS x->env.get 1=nS y->LI Tryz.prog N Qb Qgt env H K:=by
 intro m
 induction m with
 |zero =>
  intro x y env hm hx hy hg h0 h1;refine Qc hm' Qgt.eq_1 ?_;have:y=0:=by omega
  subst this;simp only[nS,QaZ,us,VF,YQ]at h1;simp -implicitDefEqProofs[h0,h1];refine hexit _ ?_;rw[Nat.gcd_zero_right]at hg;rw[<-hg]; simp[h0]
 |succ m ih =>
  intro x y env hm hx hy hg h0 h1;by_cases hz:y=0
  . exact ih x y env (by omega) hx hy hg h0 h1
  refine Qc hm' Qgt.eq_1 ?_;have hl:0<(lim y).length:=by
   rcases Yh (lim y).length with e|e
   . exact absurd (Qdw.1 (Vx e)) hz
   . exact e
  have h68:=λH=>QjO (H:=H) (a:=x) (b:=y) (by omega) hx hy;have hlt:x % y<y:=Yo _ (by omega);have hml:=Qdu (YU hlt);have hih:=ih y (x % y);simp only[nS]at h0 h1 h68 hih;simp -implicitDefEqProofs[h0,h1,hl];refine Qh (h68 _) ?_;simp -implicitDefEqProofs[h0,h1,hl];refine hih _ (by omega) hy (by omega) ?_ ?_ ?_
  . rw[<-hg,Yu x y,Nat.gcd_rec y x];exact Yu _ _
  . simp
  . simp
theorem ok98 (ha:(lim a).length<10000) (hb:(lim b).length<10000):Ok Tryz.prog 98 [nS a,nS b] H (.ret (nS (Nat.gcd a b))) H:=by
 refine Ql hm' Tryz.func98 c98 (by simp[nS,QbW]) λhcl => ?_;simp -implicitDefEqProofs[i98,r98];refine Qu0 (g:=Nat.gcd a b) (λenv h0 => ?_) b a b _ (Vc _) ha hb rfl (by simp) (by simp);simp -implicitDefEqProofs[h0];exact Qo
structure Qr where
 neg:Bool
 n:Nat
 d:Nat
def Qr.sv (q:Qr):SV:=.agg [bl q.neg,nS q.n,nS q.d]
def low (neg:Bool) (n d:Nat):Qr:=⟨neg&&decide (n≠0),n / Nat.gcd n d,d / Nat.gcd n d⟩
def qSv (neg:Bool) (n d:Nat):SV:=(⟨neg,n,d⟩:Qr).sv
def QdW (neg:Bool) (n d:Nat):SV:=(low neg n d).sv
theorem QbX (k n:Nat):(nS n).under k=true:=by simp[nS,SV.under,QbW]
theorem ok70 (neg:Bool) (hb:0<b) (ha:(lim a).length<10000) (hbl:(lim b).length<10000):Ok Tryz.prog 70 [bl neg,nS a,nS b] H (.ret (QdW neg a b)) H:=by
 refine Ql hm' Tryz.func70 c70 (by simp[QbX]) λhcl => ?_;by_cases h0:a=0
 . subst h0;have e1:lim 1=[1]:=by rw[Qcx (by decide),show 1 % B=1 by decide,show 1 / B=0 by decide,QaZ]
   have e2:QdW neg 0 b=.agg [bl false,.slc [] 0,.slc [.val (.int .u32 1)] 1]:=by
    have hd:b / b=1:=Nat.div_self hb;simp only[QdW,low,Qr.sv,Nat.gcd_zero_left,Nat.zero_div,hd,nS,QaZ,e1];simp[us,u32]
   rw[e2];simp -implicitDefEqProofs[i70,r70,nS,QaZ,us];refine⟨⟨rfl,rfl,rfl⟩,rfl,rfl,?_⟩;refine Cv.le (r:=.agg [bl false,nl,.slc [.val (.int .u32 1)] 1]) (Qi 3 hcl rfl ?_) (Qgh (leL.cons (SV.le.refl _) (leL.cons QdP (leL.refl _))));rw[Qe9];simp[Qah]
 . have hl:¬ (lim a).length=0:=λe=>h0 (Qdw.1 (Vx e));have hg:0<Nat.gcd a b:=Nat.gcd_pos_of_pos_right _ hb;have hgl:=Qdu (Nat.gcd_le_right a hb);have h67:=λH=>ok98 (H:=H) (a:=a) (b:=b) ha hbl;have h68:=λH=>QjO (H:=H) (a:=a) (b:=Nat.gcd a b) hg ha (by omega);have h68b:=λH=>QjO (H:=H) (a:=b) (b:=Nat.gcd a b) hg hbl (by omega);have hge:(QdW neg a b)=qSv neg (a / Nat.gcd a b) (b / Nat.gcd a b):=by simp[QdW,qSv,low,h0]
   rw[hge];generalize Nat.gcd a b=g at *;simp only[nS]at h67 h68 h68b;simp -implicitDefEqProofs[i70,r70,nS,hl];refine Qh (h67 _) ?_;simp -implicitDefEqProofs;refine Qh (h68 _) ?_;simp -implicitDefEqProofs;refine Qh (h68b _) ?_;simp -implicitDefEqProofs;exact Qi 3 hcl rfl (QaA (by simp[SV.under,SV.underL,QbW]))
def QeD (x y:Int):SV:=QdW (decide (x<0) != decide (y<0)) x.natAbs y.natAbs
theorem Qn1 {n:Int} (hn : -9223372036854775808<=n/\n<=9223372036854775807):(lim n.natAbs).length<=3:=Qcr (by
 have:B ^ 3=1000000000000000000000000000:=by decide
 omega)
theorem ok45 {x y:Int} (hx : -9223372036854775808<=x/\x<=9223372036854775807) (hy : -9223372036854775808<=y/\y<=9223372036854775807) (h0:y≠0):Ok Tryz.prog 45 [i64 x,i64 y] H (.ret (QeD x y)) H:=by
 refine Ql hm' Tryz.func45 c45 (by simp) λhcl => ?_;have h41x:=λH=>ok71 (H:=H) x hx;have h41y:=λH=>ok71 (H:=H) y hy;have lx:=Qn1 hx;have ly:=Qn1 hy;have h40:=λH=>ok70 (H:=H) (a:=x.natAbs) (b:=y.natAbs) (decide (x<0) != decide (y<0)) (by omega) (by omega) (by omega);simp -implicitDefEqProofs[i45,r45];refine Qh (h41x _) ?_;simp -implicitDefEqProofs;refine Qh (h41y _) ?_;simp -implicitDefEqProofs;refine Qh (h40 _) ?_;simp -implicitDefEqProofs[QdW,low,Qr.sv];refine⟨⟨rfl,rfl⟩,?_⟩;have e:QeD x y=.agg [bl ((decide (x<0) != decide (y<0)) && !decide (x=0)),nS (x.natAbs / x.natAbs.gcd y.natAbs),nS (y.natAbs / x.natAbs.gcd y.natAbs)]:=by
  simp[QeD,QdW,low,Qr.sv]
 rw[e];exact Qi 3 hcl rfl (QaA (by simp[SV.under,SV.underL,QbX]))
theorem Qr.under (q:Qr) (k:Nat):q.sv.under k=true:=by simp[Qr.sv,SV.under,SV.underL,QbX]
def Qr.mi (q:Qr):Qr:=⟨!q.neg&&decide (0<q.n),q.n,q.d⟩
def Qr.sz (q:Qr):Qr:=⟨false,q.n,q.d⟩
theorem Qr6 {n:Nat}:(lim n).length=0↔n=0:=⟨λh=>Qdw.1 (Vx h),λh=>by rw[h,QaZ]; rfl⟩
def Qr.few (q:Qr):Prop:=(lim q.n).length<=1000/\(lim q.d).length<=1000/\0<q.d
def Qr.times (p q:Qr):Qr:=low (p.neg != q.neg) (p.n*q.n) (p.d*q.d)
def Qr.plus (p q:Qr):Qr:=if p.neg=q.neg then low p.neg (p.n*q.d+q.n*p.d) (p.d*q.d)else if q.n*p.d<=p.n*q.d then low p.neg (p.n*q.d-q.n*p.d) (p.d*q.d)else low q.neg (q.n*p.d-p.n*q.d) (p.d*q.d)
def Qr.ord (p q:Qr):Int:=if(p.plus q.mi).n=0 then 0 else if(p.plus q.mi).neg=true then -1 else 1
end
theorem Qv5 {k m n:Nat} (hm:m % 2=1) (hn:n=2 ^ k*m) (h:n<18446744073709551616):n &&& (18446744073709551616-n)=2 ^ k:=by
 have h0:0<n:=by
  rw[hn];exact Nat.mul_pos (YI (by decide)) (by omega)
 obtain⟨x,hx⟩:∃ x,n=x+1:=⟨n-1,by omega⟩;have e64:(18446744073709551616:Nat)=2 ^ 64:=by decide
 apply Nat.eq_of_testBit_eq;intro i;rw[Nat.testBit_and,Nat.testBit_two_pow];have hb:(18446744073709551616-n).testBit i=(decide (i<64) && !x.testBit i):=by
  rw[e64,hx];exact Nat.testBit_two_pow_sub_succ (by omega) i
 rw[hb];have hk64:k<64:=by
  apply Zm;intro hk;have h1:2 ^ 64<=2 ^ k:=Y3 (by decide) hk;have h2:2 ^ k*1<=2 ^ k*m:=YH _ (by omega);omega
 have hxe:x=2 ^ k*(m-1)+(2 ^ k-1):=by
  have hp:0<2 ^ k:=YI (by decide);have:2 ^ k*m=2 ^ k*(m-1)+2 ^ k:=by
   conv=>lhs; rw[show m=(m-1)+1 by omega]
   rw[Ys,Yw]
  omega
 have hp1:2 ^ k-1<2 ^ k:=by have:0<2 ^ k:=YI (by decide); omega
 have bx:x.testBit i=if i<k then true else(m-1).testBit (i-k):=by
  rw[hxe,Nat.testBit_two_pow_mul_add _ hp1];by_cases hik:i<k
  . rw[Wb hik,Wb hik,Nat.testBit_two_pow_sub_one]; simpa using hik
  . rw[Wa hik,Wa hik]
 have bn:n.testBit i=(decide (k<=i)&&m.testBit (i-k)):=by
  rw[hn,Nat.testBit_two_pow_mul]
 rw[bx,bn];by_cases hik:i<k
 . rw[Wb hik]; simp; omega
 . rw[Wa hik];by_cases e:k=i
   . subst e;have b0:m.testBit 0=true:=by rw[Zp,hm]; rfl
     have b1:(m-1).testBit 0=false:=by rw[Zp]; simp; omega
     simp[b0,b1,hk64]
   . have e2:m.testBit (i-k)=(m-1).testBit (i-k):=by
      obtain⟨j,hj⟩:∃ j,i-k=j+1:=⟨i-k-1,by omega⟩;rw[hj,Nat.testBit_succ,Nat.testBit_succ];congr 1; omega
     rw[e2]
     cases (m-1).testBit (i-k)<;>simp[e]
theorem ofN {a:Nat} (ha:a<18446744073709551616):(BitVec.ofInt 64 (a:Int)).toNat=a:=by
 rw[BitVec.ofInt_natCast,BitVec.toNat_ofNat];exact YP ha
theorem andN {a b:Nat} (ha:a<18446744073709551616) (hb:b<18446744073709551616):Qcz .and .u64 (a:Int) (b:Int)=((a &&& b:Nat):Int):=by
 show IntKind.u64.wrap (((BitVec.ofInt 64 (a:Int)) &&& (BitVec.ofInt 64 (b:Int))).toNat:Int)=_;rw[BitVec.toNat_and,ofN ha,ofN hb];exact Q9 (Z5 Nat.and_le_left ha)
theorem orN {a b:Nat} (ha:a<18446744073709551616) (hb:b<18446744073709551616):Qcz .or .u64 (a:Int) (b:Int)=((a ||| b:Nat):Int):=by
 show IntKind.u64.wrap (((BitVec.ofInt 64 (a:Int)) ||| (BitVec.ofInt 64 (b:Int))).toNat:Int)=_;rw[BitVec.toNat_or,ofN ha,ofN hb];exact Q9 (Nat.or_lt_two_pow (n:=64) ha hb)
def Qe8 (k:Nat):Int:=(IntKind.u64.wrap (((2 ^ k:Nat):Int)*285870213051353865)).fdiv (2 ^ min 58 IntKind.u64.bits)
theorem Qr0:((List.range 64).all λk=>decide (0<=Qe8 k)&&(decide (Qe8 k<64)&&(Qgf[(Qe8 k).toNat]? == some (k:Int))))=true:=by kernel_rfl
section
variable {H:Ws}
theorem Qk7 {k m n:Nat} (hm:m % 2=1) (hn:n=2 ^ k*m) (h:n<18446744073709551616):Ok Tryz.prog 143 [.val (.int .u64 (n:Nat))] H (.ret (i64 k)) H:=by
 refine Ql hm' Tryz.func143 c143 (by simp[SV.under]) λhcl => ?_;have h0:¬ n=0:=by
  intro e;rw[hn]at e;rcases Nat.mul_eq_zero.1 e with e|e
  . have:=YI (n:=k) (show 0<2 by decide); omega
  . omega
 have hk64:k<64:=by
  apply Zm;intro hk;have h1:2 ^ 64<=2 ^ k:=Y3 (by decide) hk;have h2:2 ^ k*1<=2 ^ k*m:=YH _ (by omega);omega
 have wn:IntKind.u64.wrap (-(n:Int))=((18446744073709551616-n:Nat):Int):=by
  show(-(n:Int)) % 18446744073709551616=_;omega
 have hlb:Qcz BinOp.and IntKind.u64 (n:Int) ((18446744073709551616-n:Nat):Int)=((2 ^ k:Nat):Int):=by
  have h2:=andN (a:=n) (b:=18446744073709551616-n) h (by omega);have h3:=Qv5 hm hn h;generalize 18446744073709551616-n=c at h2 h3 ⊢;rw[h3]at h2;exact h2
 have hbr:=Vz.1 Qr0 k (VE.2 hk64);simp only[Va,Wd,Wc]at hbr;obtain⟨b1,b2,b3⟩:=hbr;have eb:(IntKind.u64.wrap (((2 ^ k:Nat):Int)*285870213051353865)).fdiv (2 ^ min 58 IntKind.u64.bits)=Qe8 k:=rfl;have hg:gv0[(Qe8 k).toNat]?.getD .any=.val (.int .u8 (k:Int)):=by
  unfold gv0;rw[Vo,b3]; rfl
 have hgl:gv0.length=64:=rfl;have wk:IntKind.i64.wrap (k:Int)=k:=QcI (by omega);obtain⟨P,hP⟩:∃ P,P=2 ^ k:=⟨_,rfl⟩;rw[<-hP]at hlb eb;generalize Qe8 k=j at *;simp -implicitDefEqProofs[i143,r143,h0,wn,hlb,eb,hg,hgl,wk];have hj:1<=64-j.toNat:=by
  clear eb hlb wn hn hP;omega
 exact⟨⟨b1,b2⟩,hj,Qo⟩
end
theorem Qkq:∀ n:Nat,0<n->∃ k m,n=2 ^ k*m/\m % 2=1:=by
 intro n
 induction n using Nat.strongRecOn with
 |ind n ih =>
  intro h;by_cases hm:n % 2=1
  . exact⟨0,n,by simp,hm⟩
  . obtain⟨k,m,h1,h2⟩:=ih (n / 2) (by omega) (by omega);refine⟨k+1,m,?_,h2⟩;rw[V3,VB (2 ^ k) 2,Yg,<- h1];omega
theorem Qij {k m x:Nat} (hx:x % 2=1):Nat.gcd (2 ^ k*m) x=Nat.gcd m x:=by
 have h2:Nat.Coprime 2 x:=by
  unfold Nat.Coprime;rw[Nat.gcd_rec,hx]; rfl
 exact Nat.Coprime.gcd_mul_left_cancel m (h2.pow_left k)
theorem Qnb (s u v:Nat):(2 ^ s*u) ||| (2 ^ s*v)=2 ^ s*(u ||| v):=by
 rw[VB (2 ^ s) u,VB (2 ^ s) v,VB (2 ^ s) (u ||| v),<- Nat.shiftLeft_eq,<- Nat.shiftLeft_eq,<- Nat.shiftLeft_eq,Nat.shiftLeft_or_distrib]
theorem Qn3 {u v:Nat} (h:u % 2=1\/v % 2=1):(u ||| v) % 2=1:=by
 have hb:(u ||| v).testBit 0=true:=by
  rw[Nat.testBit_or,Zp,Zp];rcases h with h|h<;>simp[h]
 rw[Zp]at hb;simpa using hb
theorem Qp7 {i j m n:Nat} (hm:m % 2=1) (hn:n % 2=1):Nat.gcd (2 ^ i*m) (2 ^ j*n)=2 ^ min i j*Nat.gcd m n/\∃ w,(2 ^ i*m) ||| (2 ^ j*n)=2 ^ min i j*w/\w % 2=1:=by
 rcases Nat.le_total i j with h|h
 . rw[ZI h];obtain⟨d,rfl⟩:∃ d,j=i+d:=⟨j-i,by omega⟩;rw[Nat.pow_add,Yg,Nat.gcd_mul_left,Yu m,Qij hm,Yu n];exact⟨rfl,_,Qnb i m _,Qn3 (.inl hm)⟩
 . rw[Nat.min_eq_right h];obtain⟨d,rfl⟩:∃ d,i=j+d:=⟨i-j,by omega⟩;rw[Nat.pow_add,Yg,Nat.gcd_mul_left,Qij hn];exact⟨rfl,_,Qnb j _ n,Qn3 (.inr hn)⟩
theorem QkQ {k m n:Nat} (hm:m % 2=1) (hn:n=2 ^ k*m) (h:n<18446744073709551616):k<64:=by
 apply Zm;intro hk;have h1:2 ^ 64<=2 ^ k:=Y3 (by decide) hk;have h2:2 ^ k*1<=2 ^ k*m:=YH _ (by omega);omega
theorem Qol {k m b:Nat} (hb:b=2 ^ k*m) (hk:k<64):((b:Nat):Int).fdiv (2 ^ min k IntKind.u64.bits)=(m:Int):=by
 have e:min k IntKind.u64.bits=k:=ZI (show k<=64 by omega);have e2:(2:Int) ^ k=((2 ^ k:Nat):Int):=by simp
 rw[e,e2,Int.fdiv_eq_ediv_of_nonneg _ (Z4 _),<- Int.natCast_ediv,hb,Nat.mul_div_cancel_left _ (YI (by decide))]
def u64 (n:Nat):SV:=.val (.int .u64 n)
section
variable {H:Ws}
set_option maxRecDepth 10000 in
theorem Qsp {G:Nat} {x5:SV} {N:Nat} {K:Wr} (hexit:∀ env,env.get 0=u64 G->env.get 5=x5->K (.exit 0) env H) :
 ∀ (f a b:Nat) (env:Env),a+b<=f->a % 2=1->a<18446744073709551616->b<18446744073709551616->Nat.gcd b a=G->env.get 0=u64 a->env.get 1=u64 b->env.get 5=x5->LI Tryz.prog N Qb Ql0 env H K:=by
 intro f
 induction f with
 |zero=>intro a b env h ha; omega
 |succ f ih =>
  intro a b env hf ha hal hbl hG h0 h1 h5;refine Qc hm' Ql0.eq_1 ?_;by_cases hb:b=0
  . subst hb;rw[Nat.gcd_zero_left]at hG;subst hG;simp -implicitDefEqProofs[h0,h1,h5,u64];exact hexit _ (by simp[h0,u64]) (by simp[h5])
  . obtain⟨k,m,hk,hm⟩:=Qkq b (by omega);have h143:=λH=>Qk7 (H:=H) (k:=k) (m:=m) (n:=b) hm hk hbl;simp only[u64]at h0 h1;simp -implicitDefEqProofs[h0,h1,h5,hb];refine Qh (h143 _) ?_;simp -implicitDefEqProofs[h0,h1,h5,hb];have hk64:=QkQ hm hk hbl;rw[Qol hk hk64];have hmb:m<=b:=by
     rw[hk];exact Nat.le_mul_of_pos_left m (YI (by decide))
    have hGm:Nat.gcd m a=G:=by rw[<-hG,hk,Qij ha]
    clear hk h143;by_cases hlt:m<a
    . have w:IntKind.u64.wrap ((a:Int)-(m:Int))=((a-m:Nat):Int):=by rw[show(a:Int)-(m:Int)=((a-m:Nat):Int)by omega,Q9 (by omega)]
      rw[Wb (show(m:Int)<(a:Int)by omega),w];refine ih m (a-m) _ (by omega) hm (by omega) (by omega) ?_ ?_ ?_ ?_
      . rw[<-hGm,Yu (a-m) m,Yu m a,Yu a m];exact Nat.gcd_sub_self_right (by omega)
      . simp[u64]
      . simp[u64]
      . simp
    . have w:IntKind.u64.wrap ((m:Int)-(a:Int))=((m-a:Nat):Int):=by rw[show(m:Int)-(a:Int)=((m-a:Nat):Int)by omega,Q9 (by omega)]
      rw[Wa (show ¬ (m:Int)<(a:Int)by omega),w];refine ih a (m-a) _ (by omega) ha (by omega) (by omega) ?_ ?_ ?_ ?_
      . rw[<-hGm,Yu (m-a) a,Yu m a];exact Nat.gcd_sub_self_right (by omega)
      . simp[u64]
      . simp[u64]
      . simp
theorem QqK {a b:Nat} (ha:0<a) (hb:0<b) (hal:a<18446744073709551616) (hbl:b<18446744073709551616):Ok Tryz.prog 120 [u64 a,u64 b] H (.ret (u64 (Nat.gcd a b))) H:=by
 refine Ql hm' Tryz.func120 c120 (by simp[SV.under,u64]) λhcl => ?_;obtain⟨i,m,hi,hm⟩:=Qkq a ha;obtain⟨j,n,hj,hn⟩:=Qkq b hb;obtain⟨hg,w,hw,hwo⟩:=Qp7 (i:=i) (j:=j) hm hn;rw[<-hi,<- hj]at hg hw;have hor:a ||| b<18446744073709551616:=Nat.or_lt_two_pow (n:=64) hal hbl;have hob:=orN hal hbl;have h143o:=λH=>Qk7 (H:=H) (k:=min i j) (m:=w) (n:=a ||| b) hwo hw hor;have h143a:=λH=>Qk7 (H:=H) (k:=i) (m:=m) (n:=a) hm hi hal;have hsh:=Qol hi (QkQ hm hi hal);have hml:m<=a:=by
  rw[hi];exact Nat.le_mul_of_pos_left m (YI (by decide))
 have hgm:Nat.gcd b m=Nat.gcd m n:=by rw[hj,Qij hm,Yu]
 have hgl:Nat.gcd a b<18446744073709551616:=Z5 (Nat.gcd_le_left b ha) hal;have hij:min i j<64:=QkQ hwo hw hor;have ha0:¬ a=0:=by omega
 have hb0:¬ b=0:=by omega
 generalize min i j=s at *;generalize a ||| b=o at *;clear hi hj hw;simp -implicitDefEqProofs[i120,r120,u64,ha0,hb0,hob];refine Qh (h143o _) ?_;simp -implicitDefEqProofs;refine Qh (h143a _) ?_;simp -implicitDefEqProofs[hsh];refine Qsp (G:=Nat.gcd m n) (x5:=i64 s) (λenv g0 g5 => ?_) (m+b) m b _ (Vc _) hm (by omega) hbl hgm ?_ ?_ ?_
 . simp only[u64]at g0;simp -implicitDefEqProofs[g0,g5];have e:min s IntKind.u64.bits=s:=ZI (show s<=64 by omega);have e3:((Nat.gcd m n:Nat):Int)*2 ^ min s IntKind.u64.bits=((Nat.gcd a b:Nat):Int):=by
    rw[e,hg,Int.natCast_mul,ZT];simp
   rw[e3,Q9 hgl];exact Qo
 . simp[u64]
 . simp[u64]
 . simp
end
section
variable {H:Ws}
set_option maxRecDepth 10000 in
theorem Qtj {z:List Nat} (hz:z.length<1000000) {N:Nat} {K:Wr}
 (hexit:∀ env G,env.get 3=.own H.length 0 z.length 1 z.length->K (.exit 0) env (H++⟨us z,114,z.length,true⟩::G)) :
 ∀ (m n:Nat) (p:List Nat) (env:Env) (G:Ws),p.length+m=z.length->n<18446744073709551616->p++lim n=z->env.get 0=u64 n->env.get 3=.own H.length 0 p.length 1 p.length ->
  LI Tryz.prog N Qb QgR env (H++⟨us p,114,p.length,true⟩::G) K:=by
 have hB:B=1000000000:=rfl;intro m
 induction m with
 |zero =>
  intro n p env G hm hn hp h0 h3;refine Qc hm' QgR.eq_1 ?_;have hl:=Wn List.length hp;simp only[VG]at hl;have h1:lim n=[]:=Vx (by omega);have h2:=Qdw.1 h1;subst h2;rw[h1,Vr]at hp;subst hp;simp only[u64]at h0;simp -implicitDefEqProofs[h0,h3];exact hexit _ G (by simp[h3])
 |succ m ih =>
  intro n p env G hm hn hp h0 h3;refine Qc hm' QgR.eq_1 ?_;have hl:=Wn List.length hp;simp only[VG]at hl;have hne:n≠0:=by
   intro e;rw[e,QaZ]at hl;simp at hl;omega
  rw[Qcx hne]at hp;obtain⟨q,hq⟩:∃ q,q=n / B:=⟨_,rfl⟩;obtain⟨r,hr⟩:∃ r,r=n % B:=⟨_,rfl⟩;have td:((n:Nat):Int).tdiv 1000000000=(q:Int):=by rw[hq,hB]; rfl
  have tm:((n:Nat):Int).tmod 1000000000=(r:Int):=by rw[hr,hB]; rfl
  have hrB:r<B:=by rw[hr]; exact Yo _ Qd2
  have hqn:q<=n:=by rw[hq]; exact YS _ _
  have wq:=Q9 (n:=q) (by omega);have wr:=Qcl (n:=r) (by omega);have e:us p++[.val (.int .u32 (r:Int))]=us (p++[r]):=by simp[us,u32]
  have hih:=ih q (p++[r]);have hpl:(p++[r]).length=p.length+1:=by simp
  rw[hpl,<- e]at hih;rw[<-hq,<- hr]at hp;have hn0:0<n:=by omega
  simp only[u64]at h0;simp -implicitDefEqProofs[h0,h3,hn0,hne,td,tm,wq,wr,Qab];refine⟨⟨rfl,rfl,rfl⟩,rfl,?_⟩;repeat (refine⟨by omega,?_⟩)
  refine hih _ _ (by omega) (by omega) ?_ ?_ ?_
  . rw[VQ,ZC];exact hp
  . simp[u64]
  . simp
theorem QiX {n:Nat} (hn:n<18446744073709551616):Ok Tryz.prog 62 [u64 n] H (.ret (nS n)) H:=by
 refine Ql hm' Tryz.func62 c62 (by simp[u64,SV.under]) λhcl => ?_;have hz:(lim n).length<=3:=Qcr (by
  have:B ^ 3=1000000000000000000000000000:=by decide
  omega)
 simp -implicitDefEqProofs[i62,r62];refine Qtj (H:=H) (z:=lim n) (by omega) (λenv G h3 => ?_) (lim n).length n [] _ [] (by simp) hn (by simp) (by simp) (by simp);simp -implicitDefEqProofs[h3];refine Qi 2 hcl rfl ?_;simp[nS,Qab,Qd9,QbW];exact VA (by rw[Qab]; omega)
theorem ok63 {n:Int} (hn : -9223372036854775808<=n/\n<=9223372036854775807):Ok Tryz.prog 63 [i64 n] H (.ret (u64 n.natAbs)) H:=by
 refine Ql hm' Tryz.func63 c63 (by simp) λhcl => ?_;by_cases h:n<0
 . have w1:IntKind.u64.wrap n=((18446744073709551616-n.natAbs:Nat):Int):=by
    show n % 18446744073709551616=_;omega
   have w2:IntKind.u64.wrap (-((18446744073709551616-n.natAbs:Nat):Int))=((n.natAbs:Nat):Int):=by
    show(-((18446744073709551616-n.natAbs:Nat):Int)) % 18446744073709551616=_;omega
   generalize (18446744073709551616-n.natAbs:Nat)=c at *;simp -implicitDefEqProofs[i63,r63,h,w1,w2,u64];exact Qo
 . have w1:IntKind.u64.wrap n=((n.natAbs:Nat):Int):=by
    show n % 18446744073709551616=_;omega
   simp -implicitDefEqProofs[i63,r63,h,w1,u64];exact Qo
set_option maxRecDepth 10000 in
theorem QrM {n:Nat} (hn:n<18446744073709551616) (hl:(lim n).length<1000) {N:Nat} {K:Wr} (hexit:∀ env,env.get 3=u64 n->K (.exit 0) env H) :
 ∀ (k:Nat) (env:Env),k<=(lim n).length->env.get 0=nS n->env.get 3=u64 (n / B ^ k)->env.get 4=i64 ((k:Int)-1)->LI Tryz.prog N Qb QgL env H K:=by
 have hB:B=1000000000:=rfl;intro k
 induction k with
 |zero =>
  intro env hk h0 h3 h4;refine Qc hm' QgL.eq_1 ?_;simp only[Nat.pow_zero,Nat.div_one]at h3;simp -implicitDefEqProofs[h0,h3,h4];exact hexit _ (by simp[h3])
 |succ k ih =>
  intro env hk h0 h3 h4;refine Qc hm' QgL.eq_1 ?_;have hkl:k<(lim n).length:=by omega
  have ej:((k+1:Nat):Int)-1=k:=by omega
  rw[ej]at h4;have w1:IntKind.i64.wrap ((k:Int)-1)=(k:Int)-1:=Qp (by omega) (by omega);have g:(us (lim n))[k]?.getD .any=.val (.int .u32 (lim n)[k]):=QbM hkl;have g':∀ h,(us (lim n))[k]'h=.val (.int .u32 (lim n)[k]):=λh=>Qcv hkl h;have dj:=Qbn n _ (Vf hkl);have hs:n / B ^ k=(n / B ^ (k+1))*B+(lim n)[k]:=by
   rw[Qfw hkl,V3,<- Y6];have:=Zo (n / B ^ k) B;rw[VB]at this;exact this.symm
  have hle:n / B ^ k<=n:=YS _ _;obtain⟨u,hu⟩:∃ u,u=n / B ^ (k+1):=⟨_,rfl⟩;obtain⟨t,ht⟩:∃ t,t=n / B ^ k:=⟨_,rfl⟩;obtain⟨p,hp⟩:∃ p,p=u*B:=⟨_,rfl⟩;rw[<-hu,<- ht,<- hp]at hs;rw[<-hu]at h3;have wp:IntKind.u64.wrap ((u:Int)*1000000000)=(p:Int):=by
   rw[show(u:Int)*1000000000=((p:Nat):Int)by rw[hp,hB]; simp,Q9 (by omega)]
  have wr:=Q9 (n:=(lim n)[k]) (by omega);have wt:IntKind.u64.wrap ((p:Int)+((lim n)[k]:Nat))=(t:Int):=by
   rw[show(p:Int)+((lim n)[k]:Nat)=((t:Nat):Int)by omega,Q9 (by omega)]
  have hih:=ih;rw[<-ht]at hih;simp only[nS,u64]at h0 h3 hih;simp -implicitDefEqProofs[h0,h3,h4,hkl,Qab,g,g',wp,wr,wt];repeat (refine⟨by omega,?_⟩)
  refine hih _ (by omega) ?_ ?_ ?_
  . simp
  . simp
  . simp[w1]
theorem ok92 {n:Nat} (hn:n<18446744073709551616):Ok Tryz.prog 92 [nS n] H (.ret (u64 n)) H:=by
 refine Ql hm' Tryz.func92 c92 (by simp[QbX]) λhcl => ?_;have hz:(lim n).length<=3:=Qcr (by
  have:B ^ 3=1000000000000000000000000000:=by decide
  omega)
 have w1:IntKind.i64.wrap (((lim n).length:Int)-1)=((lim n).length:Int)-1:=Qp (by omega) (by omega);have hz0:n / B ^ (lim n).length=0:=YG (Qde n);simp -implicitDefEqProofs[i92,r92,nS,w1];refine QrM (n:=n) hn (by omega) (λenv h3 => ?_) (lim n).length _ (Vc _) (by simp[nS]) (by rw[hz0]; simp[u64]) (by simp);simp -implicitDefEqProofs[h3];exact Qo
end
section
variable {H:Ws}
theorem Qv1:lim 1=[1]:=by rw[Qcx (by decide),show 1 % B=1 by decide,show 1 / B=0 by decide,QaZ]
theorem QjJ:nS 1=.slc [.val (.int .u32 1)] 1:=by rw[nS,Qv1]; rfl
theorem Qls:nS 0=.slc [] 0:=by rw[nS,QaZ]; rfl
theorem QqX:Ok Tryz.prog 119 [] H (.ret (nS 1)) H:=by
 refine Ql hm' Tryz.func119 c119 (by simp) λhcl => ?_;simp -implicitDefEqProofs[i119,r119];refine⟨⟨rfl,rfl,rfl⟩,rfl,?_⟩;refine Qi 2 hcl rfl ?_;rw[QjJ];simp[Qah]
theorem ok90:Ok Tryz.prog 90 [] H (.ret (⟨false,0,1⟩:Qr).sv) H:=by
 refine Ql hm' Tryz.func90 c90 (by simp) λhcl => ?_;have h119:=λH=>QqX (H:=H);simp only[QjJ]at h119;simp -implicitDefEqProofs[i90,r90];refine Qh (h119 _) ?_;simp -implicitDefEqProofs;refine⟨rfl,?_⟩;refine Cv.le (r:=.agg [bl false,nl,.slc [.val (.int .u32 1)] 1]) (Qi 3 hcl rfl (QaA (by simp[SV.under,SV.underL]))) ?_;simp only[Qr.sv,Qls,QjJ];exact Qgh (leL.cons (SV.le.refl _) (leL.cons QdP (leL.refl _)))
theorem ok91 {neg:Bool} {x y:Nat} (hx:0<x) (hy:0<y) (hxl:x<18446744073709551616) (hyl:y<18446744073709551616):Ok Tryz.prog 91 [bl neg,u64 x,u64 y] H (.ret (low neg x y).sv) H:=by
 refine Ql hm' Tryz.func91 c91 (by simp[u64,SV.under]) λhcl => ?_;have h120:=λH=>QqK (H:=H) hx hy hxl hyl;have hg:0<Nat.gcd x y:=Nat.gcd_pos_of_pos_left _ hx;have e:low neg x y=⟨neg,x / Nat.gcd x y,y / Nat.gcd x y⟩:=by
  have:x≠0:=by omega
  simp[low,this]
 rw[e];have hxq:x / Nat.gcd x y<=x:=YS _ _;have hyq:y / Nat.gcd x y<=y:=YS _ _;obtain⟨p,hp⟩:∃ p,p=x / Nat.gcd x y:=⟨_,rfl⟩;obtain⟨q,hq⟩:∃ q,q=y / Nat.gcd x y:=⟨_,rfl⟩;have t1:((x:Nat):Int).tdiv ((Nat.gcd x y:Nat):Int)=(p:Int):=by rw[hp]; rfl
 have t2:((y:Nat):Int).tdiv ((Nat.gcd x y:Nat):Int)=(q:Int):=by rw[hq]; rfl
 rw[<-hp]at hxq ⊢;rw[<-hq]at hyq ⊢;have wp:=Q9 (n:=p) (by omega);have wq:=Q9 (n:=q) (by omega);have h62p:=λH=>QiX (H:=H) (n:=p) (by omega);have h62q:=λH=>QiX (H:=H) (n:=q) (by omega);generalize Nat.gcd x y=g at *;have hgz:¬ g=0:=by omega
 simp only[u64,nS]at h120 h62p h62q;simp -implicitDefEqProofs[i91,r91,u64];refine Qh (h120 _) ?_;simp -implicitDefEqProofs[t1,t2,wp,wq,hgz];refine Qa9 (λ_=>h62p _) ?_;simp -implicitDefEqProofs[t1,t2,wp,wq,hgz];refine Qa9 (λ_=>h62q _) ?_;simp -implicitDefEqProofs[t1,t2,wp,wq,hgz];exact Qi 3 hcl rfl (QaA (by simp[SV.under,SV.underL,QbW]))
theorem QmW {n:Nat} (h:n<1000000000000000000):(lim n).length<=2:=Qcr (by
 have:B ^ 2=1000000000000000000:=by decide
 omega)
theorem ok61 {neg:Bool} {x y:Nat} (hy:0<y) (hxl:x<1000000000000000000) (hyl:y<1000000000000000000):Ok Tryz.prog 61 [bl neg,nS x,nS y] H (.ret (low neg x y).sv) H:=by
 refine Ql hm' Tryz.func61 c61 (by simp[QbX]) λhcl => ?_;have lx:=QmW hxl;have ly:=QmW hyl;by_cases h0:x=0
 . subst h0;have e:low neg 0 y=⟨false,0,1⟩:=by
    have hd:y / y=1:=Nat.div_self hy;simp[low,hd]
   rw[e];have h90:=λH=>ok90 (H:=H);simp only[Qr.sv]at h90 ⊢;simp -implicitDefEqProofs[i61,r61,Qls];refine Qh (h90 _) ?_;simp -implicitDefEqProofs;refine⟨⟨rfl,rfl⟩,?_⟩;rw[<-Qls];exact Qi 3 hcl rfl (QaA (by simp[SV.under,SV.underL,QbX]))
 . have hl:¬ (lim x).length=0:=λe=>h0 (Qr6.1 e);have h92x:=λH=>ok92 (H:=H) (n:=x) (by omega);have h92y:=λH=>ok92 (H:=H) (n:=y) (by omega);have h91:=λH=>ok91 (H:=H) (neg:=neg) (x:=x) (y:=y) (by omega) hy (by omega) (by omega);generalize low neg x y=q at *;simp only[nS]at h92x h92y;simp only[Qr.sv]at h91 ⊢;simp -implicitDefEqProofs[i61,r61,nS,hl,show((lim x).length:Int)<=2 by omega,show((lim y).length:Int)<=2 by omega];refine Qh (h92x _) ?_;simp -implicitDefEqProofs;refine Qh (h92y _) ?_;simp -implicitDefEqProofs;refine Qh (h91 _) ?_;simp -implicitDefEqProofs;refine⟨⟨rfl,rfl⟩,?_⟩;exact Qi 3 hcl rfl (QaA (by simp[SV.under,SV.underL,QbX]))
theorem ok36 {x y:Int} (hy:y≠0) (hxl:x.natAbs<1000000000000000000) (hyl:y.natAbs<1000000000000000000):Ok Tryz.prog 36 [i64 x,i64 y] H (.ret (.tup [QeD x y,i64 0])) H:=by
 refine Ql hm' Tryz.func36 c36 (by simp) λhcl => ?_;have h63x:=λH=>ok63 (H:=H) (n:=x) (by omega);have h63y:=λH=>ok63 (H:=H) (n:=y) (by omega);have h62x:=λH=>QiX (H:=H) (n:=x.natAbs) (by omega);have h62y:=λH=>QiX (H:=H) (n:=y.natAbs) (by omega);have h61:=λH=>ok61 (H:=H) (neg:=decide (x<0) != decide (y<0)) (x:=x.natAbs) (y:=y.natAbs) (by omega) hxl hyl;have e:QeD x y=(low (decide (x<0) != decide (y<0)) x.natAbs y.natAbs).sv:=rfl;rw[e];generalize low (decide (x<0) != decide (y<0)) x.natAbs y.natAbs=q at *;simp only[Qr.sv]at h61 ⊢;simp -implicitDefEqProofs[i36,r36,hy];refine Qh (h63x _) ?_;simp -implicitDefEqProofs;refine Qh (h62x _) ?_;simp -implicitDefEqProofs;refine Qh (h63y _) ?_;simp -implicitDefEqProofs;refine Qh (h62y _) ?_;simp -implicitDefEqProofs;refine Qh (h61 _) ?_;simp -implicitDefEqProofs;refine⟨⟨rfl,rfl⟩,?_⟩;exact Qi 4 hcl rfl (QaA (by simp[SV.under,SV.underL,QbX]))
end
end Go.Proofs.YtogjmpkehjfecaaGreatDoor.Rc
namespace Go.Proofs.YtogjmpkehjfecaaGreatDoor.Rc
open Go.Ab Go.Ab.Shr
structure QcN (g:Gm) (own:Bool) (M:List Int) (S:Nat->List Int) (R:List Int):Prop where
 z:∀ q:Nat,(q:Int)<g.pl->R.getD q 0=1073741824
 eq:∀ i k q:Nat,∀ h:i<g.ns.length,k<g.ns[i].nx.length->(q:Int)<g.pl->R.getD ((g.ns[i].nx.getD k 0).toNat*4+q) 0=QS g own S M R i k q
 m:∀ i (h:i<g.ns.length),g.ns[i].k=1->M.getD i 0=QaM g.ns[i].ws/\0<M.getD i 0
def XR (g:Gm) (H:Ws) (f:Nat->Int) (G:Ws):Ws:=H++Qd g::⟨Qa (Qe g.ns.length f),3,0,true⟩::G
def Dn (g:Gm) (R:List Int) (p i:Nat) (f:Nat->Int):Prop:=∀ j,j<g.ns.length->gi g.wk.2.P j<i->f j=R.getD (j*4+p) 0
theorem Dn.put {g:Gm} {R:List Int} {p i:Nat} {f:Nat->Int} (h:Dn g R p i f) (c:Nat):Dn g R p i (put f c (R.getD (c*4+p) 0)):=λj hj hp=>by
 unfold Shr.put;split
 . rename_i e; rw[e]
 . exact h j hj hp
theorem Dn.at {g:Gm} {R:List Int} {p i:Nat} {f:Nat->Int} (hW:Wg g) (h:Dn g R p i f) (hi:i<g.ns.length):f i=R.getD (i*4+p) 0:=by
 refine h i hi ?_;by_cases e:i=0
 . subst e; rw[hW.wf.p0]; omega
 . obtain⟨q,_,h1,h2,_⟩:=hW.wf.pf i (by omega) hi;omega
theorem Dn.suc {g:Gm} {R:List Int} {p i:Nat} {f:Nat->Int} (hW:Wg g) (h:Dn g R p i f) (hi:i<g.ns.length) (hk:∀ t (ht:t<g.ns[i].nx.length),f g.ns[i].nx[t].toNat=R.getD (g.ns[i].nx[t].toNat*4+p) 0):Dn g R p (i+1) f:=by
 intro j hj hp;by_cases e:gi g.wk.2.P j<i
 . exact h j hj e
 . have hj0:0<j:=by
    rcases Yh j with e0|e0
    . subst e0; rw[hW.wf.p0]at e; omega
    . exact e0
   obtain⟨q,hq,h1,h2,h3⟩:=hW.wf.pf j hj0 hj;have:q=i:=by omega
   subst this;obtain⟨t,ht,h4⟩:=VH h3;have:=hk t ht;rw[h4]at this;exact this
section
variable {H G:Ws} {g:Gm} {R M:List Int} {S:List (List Int)} {f:Nat->Int}
theorem QpM:(XR g H f G).length=H.length+2+G.length:=by simp[XR]; omega
theorem XR_o (v:Nat) (hv:v=0):Qf (XR g H f G) (H.length+1) v=Qa (Qe g.ns.length f):=by
 subst hv;refine Qak (o:=⟨Qa (Qe g.ns.length f),3,0,true⟩) ?_ rfl;unfold XR;rw[Vh (by omega)]; simp
theorem XR_b:Qf (XR g H f G) H.length 0=g.cells:=by
 refine Qak (o:=Qd g) ?_ rfl;unfold XR;rw[Vh (by omega)]; simp
theorem XR_n {o:AO} (ho:o.live=true):Qf (XR g H f (G++[o])) (H.length+2+G.length) o.ver=o.cells:=by
 refine Qak (o:=o) ?_ ho;unfold XR;rw[Vh (by omega),show H.length+2+G.length-H.length=G.length+2 by omega]; simp
theorem Qtl (fn:AO->AO):Ab.setObj (XR g H f G) (H.length+1) fn=H++Qd g::fn ⟨Qa (Qe g.ns.length f),3,0,true⟩::G:=by
 have h1:(XR g H f G)[H.length+1]? = some ⟨Qa (Qe g.ns.length f),3,0,true⟩:=by
  unfold XR;rw[Vh (by omega)]; simp
 rw[QY h1];unfold XR;rw[Yr _ _ (by omega)]; simp
theorem QuU (o:AO):XR g H f G++[o]=XR g H f (G++[o]):=by simp[XR]
set_option maxRecDepth 10000 in
theorem Qrp {own:Bool} {p i:Nat} (hW:Wg g) (hR:QcN g own M (λj=>S.getD j []) R) (hi:i<g.ns.length) (hp:(p:Int)<g.pl) (hS:S.length=g.is.length) (hSl:∀ j (h:j<S.length),S[j].length=g.acts j) {N:Nat} {K:Wr}
 (hexit:∀ env f,Dn g R p (i+1) f->env.get 1=.slc (sls S) S.length->env.get 2=i64 p->env.get 3=bl own->env.get 4=.ptr (.own H.length 0 0 0 0) 0->env.get 9=.own (H.length+1) 0 g.ns.length 1 0->env.get 10=i64 i->K (.exit 2) env (XR g H f (G++[⟨g.ns[i].cells,57,0,true⟩]))) :
 ∀ (m k:Nat) (f:Nat->Int) (env:Env),k+m=g.ns[i].nx.length->Dn g R p i f->(∀ t (ht:t<g.ns[i].nx.length),t<k->f g.ns[i].nx[t].toNat=R.getD (g.ns[i].nx[t].toNat*4+p) 0)->env.get 1=.slc (sls S) S.length->env.get 2=i64 p->env.get 3=bl own->env.get 4=.ptr (.own H.length 0 0 0 0) 0->env.get 9=.own (H.length+1) 0 g.ns.length 1 0->env.get 10=i64 i ->
  env.get 11=.ptr (.own (H.length+2+G.length) 0 0 0 0) 0->env.get 12=bl (Qdv g i p)->env.get 13=i64 k->LI Tryz.prog N Qb Qie env (XR g H f (G++[⟨g.ns[i].cells,57,0,true⟩])) K:=by
 have hnx60:g.ns[i].nx.length<=60:=Qc7 (hW.gd.e _ (Vf hi));have hx:g.ns[i]? = some g.ns[i]:=Vb hi;have hn:=hW.gd.n;have hN:∀ f,Qf (XR g H f (G++[⟨g.ns[i].cells,57,0,true⟩])) (H.length+2+G.length) 0=g.ns[i].cells:=λf=>XR_n (H:=H) (G:=G) (g:=g) (f:=f) (o:=⟨g.ns[i].cells,57,0,true⟩) rfl;have hO:=λf=>XR_o (H:=H) (G:=G++[⟨g.ns[i].cells,57,0,true⟩]) (g:=g) (f:=f) 0 rfl;have hSO:=λf fn=>Qtl (H:=H) (G:=G++[⟨g.ns[i].cells,57,0,true⟩]) (g:=g) (f:=f) fn;have hXl:=λf=>QpM (H:=H) (G:=G++[⟨g.ns[i].cells,57,0,true⟩]) (g:=g) (f:=f);generalize (⟨g.ns[i].cells,57,0,true⟩:AO)=o at *;intro m
 induction m with
 |zero =>
  intro k f env hk hD hT h1 h2 h3 h4 h9 h10 h11 h12 h13;refine Qc hm Qie.eq_1 ?_;have e:k=g.ns[i].nx.length:=by omega
  subst e;have hX:=λenv=>hexit env f (hD.suc hW hi λt ht=>hT t ht ht);have hN2:=hN f;simp only[Nd.cells,sl]at hN2;simp -implicitDefEqProofs[h11,h13,hN2];exact hX _ (by simp[h1]) (by simp[h2]) (by simp[h3]) (by simp[h4]) (by simp[h9]) (by simp[h10])
 |succ m ih =>
  intro k f env hk hD hT h1 h2 h3 h4 h9 h10 h11 h12 h13;refine Qc hm Qie.eq_1 ?_;have hkl:k<g.ns[i].nx.length:=by omega
  have hch:=(hW.wf.nf i hi).ch _ (Vf hkl);have w1:=Qw (show k<9223372036854775807 by omega);have hcn:((g.ns[i].nx[k].toNat:Nat):Int)=g.ns[i].nx[k]:=by omega
  have hRq:=hR.eq i k p hi hkl hp;have hcg:(g.ns[i].nx.getD k 0).toNat=g.ns[i].nx[k].toNat:=by simp[hkl]
  rw[hcg]at hRq;generalize hcc:g.ns[i].nx[k].toNat=ch at *;have hcl:ch<g.ns.length:=by omega
  have hci:i<ch:=by omega
  have eF:∀ f:Nat->Int,(Qa (Qe g.ns.length f))[i]?.getD .any=i64 (f i):=λf=>by rw[Qbz (by simpa using hi),Qb9 hi]
  have e5:∀ (f:Nat->Int) (y:Int),List.take ch (Qa (Qe g.ns.length f))++i64 y::List.drop (ch+1) (Qa (Qe g.ns.length f))=Qa (Qe g.ns.length (put f ch y)):=λf y=>by rw[Qar (by simpa using hcl),Qco]
  have hf:=hD.at hW hi;have key:=λenv=>ih (k+1) (put f ch (R.getD (ch*4+p) 0)) env (by omega) (hD.put ch) (λt ht htk=>by
   unfold put;split
   . rename_i e; rw[e]
   . by_cases e:t=k
     . subst e; rename_i e2; exact absurd hcc e2
     . exact hT t ht (by omega))
  simp only[Nd.cells,sl]at hN;by_cases hh:Qdv g i p=own
  . have e1:R.getD (ch*4+p) 0=qoF (R.getD (i*4+p) 0) (brP g (λj=>S.getD j []) i k) (brW g M i):=by rw[hRq]; unfold QS; rw[Wb hh]
    rcases QdR hW hi with hk1|hk2|hk3
    . obtain⟨a1,a2,a3,a4⟩:=Qd0 hW hi hk1;have hkw:k<g.ns[i].ws.length:=by omega
      obtain⟨m1,m2⟩:=hR.m i hi hk1;have eB:brW g M i=QaM g.ns[i].ws:=by simp only[brW,hx,hk1]; exact m1
      have eP:brP g (λj=>S.getD j []) i k=g.ns[i].ws[k]:=by simp[brP,hx,hk1,hkw]
      have hB1:0<QaM g.ns[i].ws:=by omega
      rw[e1,eB,eP]at key;unfold qoF at key;generalize R.getD (i*4+p) 0=ri at *;simp -implicitDefEqProofs[h1,h2,h3,h4,h9,h10,h11,h12,h13,hN,hO,hSO,hkl,hh,hi,hcl,<- hcn,eF,e5,w1,hf,Qa2 hi,hk1,hkw];repeat (refine⟨by omega,?_⟩)
      have h75:=Qod (H:=XR g H f (G++[o])) (l:=g.ns[i].ws) (by omega);refine Qa9 (r:=i64 (QaM g.ns[i].ws)) (λ_=>h75) ?_;generalize QaM g.ns[i].ws=ws at *;simp -implicitDefEqProofs[h1,h2,h3,h4,h9,h10,h11,h12,h13,hN,hO,hSO,hkl,hh,hi,hcl,<- hcn,eF,e5,w1,hf,Qa2 hi,hk1,hkw];repeat (refine⟨by omega,?_⟩)
      refine key _ ?_ ?_ ?_ ?_ ?_ ?_ ?_ ?_ ?_
      . simp
      . simp
      . simp
      . simp
      . simp
      . simp
      . simp
      . simp[hh]
      . simp
    . obtain⟨b1,b2,b3,b4,b5⟩:=QbE hW hi hk2;have hjS:g.ns[i].i.toNat<S.length:=by omega
      have hkS:k<S[g.ns[i].i.toNat].length:=by rw[hSl _ hjS]; omega
      have eP:brP g (λj=>S.getD j []) i k=S[g.ns[i].i.toNat][k]:=by simp[brP,hx,hk2,hjS,hkS]
      have eB:brW g M i=65536:=by simp[brW,hx,hk2]
      rw[e1,eB,eP]at key;unfold qoF at key;generalize R.getD (i*4+p) 0=ri at *;generalize g.ns[i].i.toNat=js at *;simp -implicitDefEqProofs[h1,h2,h3,h4,h9,h10,h11,h12,h13,hN,hO,hSO,hkl,hh,hi,hcl,<- hcn,eF,e5,w1,hf,Qa2 hi,hk2,hkS,hjS,QaE hjS,sl,<- b2];repeat (refine⟨by omega,?_⟩)
      refine key _ ?_ ?_ ?_ ?_ ?_ ?_ ?_ ?_ ?_
      . simp
      . simp
      . simp
      . simp
      . simp
      . simp
      . simp
      . simp[hh]
      . simp
    . have:=(QeC hW hi hk3).1;rw[this]at hkl; simp at hkl
  . have e1:R.getD (ch*4+p) 0=R.getD (i*4+p) 0:=by rw[hRq]; unfold QS; rw[Wa hh]
    rw[e1]at key;generalize R.getD (i*4+p) 0=ri at *;simp -implicitDefEqProofs[h1,h2,h3,h4,h9,h10,h11,h12,h13,hN,hO,hSO,hkl,hh,hi,hcl,<- hcn,eF,e5,w1,hf,Qa2 hi];repeat (refine⟨by omega,?_⟩)
    refine key _ ?_ ?_ ?_ ?_ ?_ ?_ ?_ ?_ ?_
    . simp
    . simp
    . simp
    . simp
    . simp
    . simp
    . simp
    . simp
    . simp
end
section
variable {H G:Ws} {g:Gm} {R M:List Int} {S:List (List Int)} {f:Nat->Int}
set_option maxRecDepth 10000 in
theorem Qtt {own:Bool} {p:Nat} (hW:Wg g) (hR:QcN g own M (λj=>S.getD j []) R) (hp:(p:Int)<g.pl) (hS:S.length=g.is.length) (hSl:∀ j (h:j<S.length),S[j].length=g.acts j) {N:Nat} {K:Wr}
 (hexit:∀ env f G,Dn g R p g.ns.length f->env.get 9=.own (H.length+1) 0 g.ns.length 1 0->K (.exit 0) env (XR g H f G)) :
 ∀ (m i:Nat) (f:Nat->Int) (G:Ws) (env:Env),i+m=g.ns.length->Dn g R p i f->env.get 1=.slc (sls S) S.length->env.get 2=i64 p->env.get 3=bl own->env.get 4=.ptr (.own H.length 0 0 0 0) 0->env.get 9=.own (H.length+1) 0 g.ns.length 1 0->env.get 10=i64 i ->
  LI Tryz.prog N Qb Qhf env (XR g H f G) K:=by
 have hn:=hW.gd.n;intro m
 induction m with
 |zero =>
  intro i f G env hi hD h1 h2 h3 h4 h9 h10;refine Qc hm Qhf.eq_1 ?_;have e:i=g.ns.length:=by omega
  subst e;have hB:=XR_b (H:=H) (G:=G) (g:=g) (f:=f);have hX:=λenv=>hexit env f G hD;simp only[Gm.cells]at hB;simp -implicitDefEqProofs[h4,h10,hB];exact hX _ (by simp[h9])
 |succ m ih =>
  intro i f G env hi hD h1 h2 h3 h4 h9 h10;refine Qc hm Qhf.eq_1 ?_;have hii:i<g.ns.length:=by omega
  have w1:=Qw (show i<9223372036854775807 by omega);have hx:g.ns[i]? = some g.ns[i]:=Vb hii;have hB:=XR_b (H:=H) (G:=G) (g:=g) (f:=f);have hXl:=QpM (H:=H) (G:=G) (g:=g) (f:=f);have hA:∀ o:AO,XR g H f G++[o]=XR g H f (G++[o]):=QuU;have hNo:Qf (XR g H f (G++[⟨g.ns[i].cells,57,0,true⟩])) (H.length+2+G.length) 0=g.ns[i].cells:=XR_n (H:=H) (G:=G) (g:=g) (f:=f) (o:=⟨g.ns[i].cells,57,0,true⟩) rfl;have l1:=λK he=>Qrp (H:=H) (G:=G) hW hR hii hp hS hSl (N:=N) (K:=K) he g.ns[i].nx.length 0 f;have hhis:Qdv g i p=decide (g.ns[i].k=2/\g.ns[i].p=p):=by simp[Qdv,hx]
  simp only[Gm.cells]at hB;simp only[Nd.cells,sl]at hNo l1;simp -implicitDefEqProofs[h1,h2,h3,h4,h9,h10,hB,hii,QaC hii,QaR hii,QaN hii,sl];have hl:(XR g H f G).length=H.length+2+G.length:=hXl;rw[hA];refine l1 _ (λenv f hD g1 g2 g3 g4 g9 g10 => ?_) _ (by omega) hD (λt ht h=>absurd h (by omega)) (by simp[h1]) (by simp[h2]) (by simp[h3]) (by simp[h4]) (by simp[h9]) (by simp[h10]) (by simp[hl]) ?_ (by simp)
  . simp -implicitDefEqProofs[g10];exact ih (i+1) f _ _ (by omega) hD (by simp[g1]) (by simp[g2]) (by simp[g3]) (by simp[g4]) (by simp[g9]) (by simp[w1])
  . simp[hhis]
def QbJ (g:Gm) (R:List Int) (p:Nat):List Int:=Qe g.ns.length λi=>R.getD (i*4+p) 0
theorem ok73 {own:Bool} {p:Nat} (hW:Wg g) (hR:QcN g own M (λj=>S.getD j []) R) (hp:(p:Int)<g.pl) (hS:S.length=g.is.length) (hSl:∀ j (h:j<S.length),S[j].length=g.acts j) :
 Ok Tryz.prog 73 [.agg g.cells,.slc (sls S) S.length,i64 p,bl own] H (.ret (sl (QbJ g R p))) H:=by
 have hn:=hW.gd.n;have hn1:=hW.gd.n1;refine Ql hm Tryz.func73 c73 (by simp[Gm.cells,Q5,Q6,Q3]) λhcl => ?_;have hz:List.replicate g.ns.length (i64 0)=Qa (Qe g.ns.length λ_=>0):=by simp[Qa,Qe,Y8]
 have e5:∀ (f:Nat->Int) (y:Int),i64 y::(Qa (Qe g.ns.length f)).tail=Qa (Qe g.ns.length (put f 0 y)):=λf y=>by
  have:=Qar (l:=Qe g.ns.length f) (k:=0) (by simp; omega) y;rw[Qco]at this;simpa using this
 have hD0:Dn g R p 0 (put (λ_=>0) 0 1073741824):=by
  intro j hj hpj;have hj0:j=0:=by
   rcases Yh j with e0|e0
   . exact e0
   . obtain⟨q,hq,h1,h2,h3⟩:=hW.wf.pf j e0 hj;omega
  subst hj0;have:=hR.z p hp;simp only[Yb,V0];rw[this]; rfl
 have l0:=λN K he=>Qtt (H:=H) hW hR hp hS hSl (N:=N) (K:=K) he g.ns.length 0 (put (λ_=>0) 0 1073741824) [];simp only[XR,Qd,Gm.cells]at l0;simp -implicitDefEqProofs[i73,r73,Gm.cells,hz,e5];repeat (refine⟨by omega,?_⟩)
 refine l0 _ _ (λenv f G hD g9 => ?_) _ (by omega) hD0 (by simp) (by simp) (by simp) (by simp) (by simp) (by simp);have hf:Qe g.ns.length f=QbJ g R p:=Vt λj hj=>by
  simp only[VE]at hj;refine hD j hj ?_;rcases Yh j with e0|e0
  . subst e0; rw[hW.wf.p0]; omega
  . obtain⟨q,hq,h1,h2,h3⟩:=hW.wf.pf j e0 hj;omega
 simp -implicitDefEqProofs[g9];refine Qi 2 hcl rfl ?_;rw[hf];have hl:(QbJ g R p).length=g.ns.length:=by simp[QbJ]
 simp[sl,<- hl]
end
def qSo (h:Nat):Nat:=h+5
def qS (h i:Nat):Nat:=h+6+2*i
def qPo (h n:Nat):Nat:=h+7+2*n
def qP (h n i:Nat):Nat:=h+8+2*n+2*i
def qE (h n:Nat):Nat:=h+8+4*n
def nxO (g:Gm) (h:Nat) (r s:Int):AO:=⟨[i64 r,i64 s,.own (qSo h) 0 g.is.length 1 g.is.length,.own (qPo h g.is.length) 0 g.is.length 1 g.is.length],30,1,true⟩
structure PW (g:Gm) (H:Ws) (t:Tin) (rr:Int) (A P:Nat->List Int) (X:Ws):Prop where
 b:X[H.length]? = some (Qd g)
 tb:X[H.length+1]? = some (tB t)
 rb:X[H.length+2]? = some ⟨[i64 0,i64 0,nl,nl],30,0,true⟩
 nx:X[H.length+3]? = some (nxO g H.length rr t.seed)
 so:X[qSo H.length]? = some ⟨Qx g.is.length (qS H.length) g.acts 0,45,g.is.length,true⟩
 po:X[qPo H.length g.is.length]? = some ⟨Qx g.is.length (qP H.length g.is.length) g.acts 0,45,g.is.length,true⟩
 s:∀ i,i<g.is.length->X[qS H.length i]? = some ⟨Qa (A i),3,0,true⟩
 p:∀ i,i<g.is.length->X[qP H.length g.is.length i]? = some ⟨Qa (P i),3,0,true⟩
 ls:∀ i,i<g.is.length->(A i).length=g.acts i
 lp:∀ i,i<g.is.length->(P i).length=g.acts i
 low:∀ j,j<H.length->X[j]? = H[j]?
 len:qE H.length g.is.length<=X.length
section
variable {g:Gm} {H X:Ws} {t:Tin} {rr:Int} {A P:Nat->List Int}
theorem PW.app (h:PW g H t rr A P X) (L:Ws):PW g H t rr A P (X++L):=by
 have up:∀ {i:Nat} {o:AO},X[i]? = some o->(X++L)[i]? = some o:=λh=>by rw[Ve (Qg h)]; exact h
 have hl:=h.len;exact⟨up h.b,up h.tb,up h.rb,up h.nx,up h.so,up h.po,λi hi=>up (h.s i hi),λi hi=>up (h.p i hi),h.ls,h.lp,λj hj=>by rw[Ve (by unfold qE at hl; omega)]; exact h.low j hj,by simp; omega⟩
theorem PW.setS (h:PW g H t rr A P X) {j:Nat} (hj:j<g.is.length) {l:List Int} (hl:l.length=g.acts j):PW g H t rr (upA A j l) P (X.set (qS H.length j) ⟨Qa l,3,0,true⟩):=by
 have ne:∀ {i:Nat} {o:AO},X[i]? = some o->i≠qS H.length j->(X.set (qS H.length j) ⟨Qa l,3,0,true⟩)[i]? = some o:=λh h2=>by rw[Vd (by omega)]; exact h
 have hlt:=Qg (h.s j hj);refine⟨ne h.b (by unfold qS; omega),ne h.tb (by unfold qS; omega),ne h.rb (by unfold qS; omega),ne h.nx (by unfold qS; omega),ne h.so (by unfold qS qSo; omega),ne h.po (by unfold qS qPo; omega),λi hi => ?_,λi hi=>ne (h.p i hi) (by unfold qS qP; omega),λi hi => ?_,h.lp,λi hi=>by rw[Vd (by unfold qS; omega)]; exact h.low i hi,by simp; exact h.len⟩
 . by_cases e:i=j
   . subst e; rw[Vg hlt]; simp[upA]
   . rw[Vd (by unfold qS; omega),h.s i hi]; simp[upA,e]
 . unfold upA; split
   . rename_i e; rw[e]; exact hl
   . exact h.ls i hi
theorem PW.setP (h:PW g H t rr A P X) {j:Nat} (hj:j<g.is.length) {l:List Int} (hl:l.length=g.acts j):PW g H t rr A (upA P j l) (X.set (qP H.length g.is.length j) ⟨Qa l,3,0,true⟩):=by
 have ne:∀ {i:Nat} {o:AO},X[i]? = some o->i≠qP H.length g.is.length j->(X.set (qP H.length g.is.length j) ⟨Qa l,3,0,true⟩)[i]? = some o:=λh h2=>by rw[Vd (by omega)]; exact h
 have hlt:=Qg (h.p j hj);refine⟨ne h.b (by unfold qP; omega),ne h.tb (by unfold qP; omega),ne h.rb (by unfold qP; omega),ne h.nx (by unfold qP; omega),ne h.so (by unfold qP qSo; omega),ne h.po (by unfold qP qPo; omega),λi hi=>ne (h.s i hi) (by unfold qS qP; omega),λi hi => ?_,h.ls,λi hi => ?_,λi hi=>by rw[Vd (by unfold qP; omega)]; exact h.low i hi,by simp; exact h.len⟩
 . by_cases e:i=j
   . subst e; rw[Vg hlt]; simp[upA]
   . rw[Vd (by unfold qP; omega),h.p i hi]; simp[upA,e]
 . unfold upA; split
   . rename_i e; rw[e]; exact hl
   . exact h.lp i hi
def Qad (g:Gm) (i:Nat):List Int:=Qv (g.acts i)
def QeP (g:Gm) (H:Ws) (t:Tin) (rr:Int):Ws :=
 H++(Qd g::tB t::⟨[i64 0,i64 0,nl,nl],30,0,true⟩::nxO g H.length rr t.seed::Qd g::⟨Qx g.is.length (qS H.length) g.acts 0,45,g.is.length,true⟩::(QaS (H.length+4) g g.is.length++(Qd g::⟨Qx g.is.length (qP H.length g.is.length) g.acts 0,45,g.is.length,true⟩::QaS (H.length+6+2*g.is.length) g g.is.length)))
theorem PW.init:PW g H t rr (Qad g) (Qad g) (QeP g H t rr):=by
 have hb1:=QdO (H.length+4) g g.is.length;have hb2:=QdO (H.length+6+2*g.is.length) g g.is.length;have hz1:=λi hi=>QfI (H.length+4) g g.is.length i hi;have hz2:=λi hi=>QfI (H.length+6+2*g.is.length) g g.is.length i hi;have at':∀ k,(QeP g H t rr)[H.length+k]? = (Qd g::tB t::⟨[i64 0,i64 0,nl,nl],30,0,true⟩::nxO g H.length rr t.seed::Qd g::⟨Qx g.is.length (qS H.length) g.acts 0,45,g.is.length,true⟩::(QaS (H.length+4) g g.is.length++(Qd g::⟨Qx g.is.length (qP H.length g.is.length) g.acts 0,45,g.is.length,true⟩::QaS (H.length+6+2*g.is.length) g g.is.length)))[k]? := λk=>by
  unfold QeP;rw[Vh (by omega)];congr 1; omega
 refine⟨at' 0,at' 1,at' 2,at' 3,?_,?_,λi hi => ?_,λi hi => ?_,λi _=>by simp[Qad,Qv],λi _=>by simp[Qad,Qv],λj hj=>by unfold QeP; rw[Ve hj],?_⟩
 . exact at' 5
 . have:=at' (7+2*g.is.length);rw[show qPo H.length g.is.length=H.length+(7+2*g.is.length)by unfold qPo; omega,this];rw[show 7+2*g.is.length=(1+2*g.is.length)+6 by omega];simp only[V7];rw[Vh (by omega),hb1,show 1+2*g.is.length-2*g.is.length=1 by omega];rfl
 . rw[show qS H.length i=H.length+(2*i+6)by unfold qS; omega,at'];simp only[V7];rw[Ve (by omega),hz1 i hi]; rfl
 . rw[show qP H.length g.is.length i=H.length+((2*g.is.length+(2*i+2))+6)by unfold qP; omega,at'];simp only[V7];rw[Vh (by omega),hb1,show 2*g.is.length+(2*i+2)-2*g.is.length=2*i+2 by omega];simp only[V7];rw[hz2 i hi]; rfl
 . unfold QeP qE;simp[hb1,hb2]; omega
end
def cpA (g:Gm) (L:List (List Int)):Nat->Nat->List Int
 |0=>Qad g
 |i+1=>upA (cpA g L i) i (L.getD i [])
section
variable {g:Gm} {H X:Ws} {t:Tin} {rr:Int} {A P:Nat->List Int}
structure QeT (g:Gm) (t:Tin):Prop where
 la:t.A.length=g.is.length
 lp:t.P.length=g.is.length
 a:∀ i (h:i<t.A.length),t.A[i].length=g.acts i
 p:∀ i (h:i<t.P.length),t.P[i].length=g.acts i
set_option maxRecDepth 10000 in
theorem Quw (hW:Wg g) (hT:QeT g t) {x4 x6:SV} {N:Nat} {K:Wr}
 (hexit:∀ env X,PW g H t rr (cpA g t.A g.is.length) (cpA g t.P g.is.length) X->env.get 2=.ptr (.own H.length 0 0 0 0) 0->env.get 4=x4->env.get 6=x6->env.get 7=.ptr (.own (H.length+3) 0 0 0 1) 0->K (.exit 0) env X) :
 ∀ (m i:Nat) (X:Ws) (env:Env),i+m=g.is.length->PW g H t rr (cpA g t.A i) (cpA g t.P i) X->env.get 2=.ptr (.own H.length 0 0 0 0) 0->env.get 3=.ptr (.own (H.length+1) 0 0 0 0) 0->env.get 4=x4->env.get 6=x6->env.get 7=.ptr (.own (H.length+3) 0 0 0 1) 0->env.get 8=i64 i ->
  LI Tryz.prog N Qb QhI env X K:=by
 have hil:=hW.gd.i;intro m
 induction m with
 |zero =>
  intro i X env hi h h2 h3 h4 h6 h7 h8;refine Qc hm QhI.eq_1 ?_;have e:i=g.is.length:=by omega
  subst e;have hB:=QC h.b [];rw[Vr]at hB;simp -implicitDefEqProofs[h2,h8,hB,Qd,Gm.cells];exact hexit _ X h (by simp[h2]) (by simp[h4]) (by simp[h6]) (by simp[h7])
 |succ m ih =>
  intro i X env hi h h2 h3 h4 h6 h7 h8;refine Qc hm QhI.eq_1 ?_;have hii:i<g.is.length:=by omega
  obtain⟨n1,n2⟩:=QaV hW hii;have w1:=Qw (show i<9223372036854775807 by omega);have hiA:i<t.A.length:=by rw[hT.la]; exact hii
  have hiP:i<t.P.length:=by rw[hT.lp]; exact hii
  have lA:=hT.a i hiA;have lP:=hT.p i hiP;have h':=h.setS hii (l:=t.A[i]) lA;have h'':=h'.setP hii (l:=t.P[i]) lP;have eA:upA (cpA g t.A i) i t.A[i]=cpA g t.A (i+1):=by simp[cpA,hiA]
  have eP:upA (cpA g t.P i) i t.P[i]=cpA g t.P (i+1):=by simp[cpA,hiP]
  rw[eA,eP]at h'';have hB:=QC h.b [];have hTb:=QC h.tb [];have hNx:=QC h.nx [];have hSo:=QC h.so [];have hSr:=QC (h.s i hii) [];have hSs:=Qcj (h.s i hii) [];have hTb2:=QC h'.tb [];have hNx2:=QC h'.nx [];have hPo2:=QC h'.po [];have hPr2:=QC (h'.p i hii) [];have hPs2:=Qcj (h'.p i hii) [];have ls:=h.ls i hii;have lp:=h'.lp i hii;simp only[Vr]at hB hTb hNx hSo hSr hSs hTb2 hNx2 hPo2 hPr2 hPs2;generalize cpA g t.A i=Ai at *;generalize cpA g t.P i=Pi at *;have eD:List.drop (g.acts i) (Qa (Ai i))=[]:=YJ (by simp[ls]);have eDp:List.drop (g.acts i) (Qa (Pi i))=[]:=YJ (by simp[lp]);have hTA:(sls t.A)[i]? = some (sl t.A[i]):=by simp[sls,hiA]
  simp -implicitDefEqProofs[eD,eDp,h2,h3,h7,h8,hB,hTb,hNx,hSo,hSr,hSs,hTb2,hNx2,hPo2,hPr2,hPs2,Qd,nxO,tB,Tin.cells,Gm.cells,hii,hiA,hiP,QaE hiA,QaE hiP,sl,lA,lP,ls,lp,w1];repeat (refine⟨by omega,?_⟩)
  exact ih (i+1) _ _ (by omega) h'' (by simp) (by simp) (by simp[h4]) (by simp[h6]) (by simp) (by simp)
end
def bls (n:Nat) (s:Nat->Bool):Wt:=(List.range n).map λj=>bl (s j)
@[simp] theorem QwH (n:Nat) (s:Nat->Bool):(bls n s).length=n:=by simp[bls]
structure PX (g:Gm) (H:Ws) (t:Tin) (rr:Int) (A P:Nat->List Int) (ps:Nat) (sn:Nat->Bool) (pn i:Nat) (X:Ws):Prop where
 w:PW g H t rr A P X
 eps:qE H.length g.is.length<=ps
 epn:ps<pn
 sn:X[ps]? = some ⟨bls g.is.length sn,4,0,true⟩
 n:∀ h:i<g.ns.length,X[pn]? = some ⟨g.ns[i].cells,57,0,true⟩
section
variable {g:Gm} {H X:Ws} {t:Tin} {rr:Int} {A P:Nat->List Int} {ps pn i:Nat} {sn:Nat->Bool}
theorem PX.setS (h:PX g H t rr A P ps sn pn i X) {j:Nat} (hj:j<g.is.length) {l:List Int} (hl:l.length=g.acts j):PX g H t rr (upA A j l) P ps sn pn i (X.set (qS H.length j) ⟨Qa l,3,0,true⟩):=by
 have h1:=h.eps; have h2:=h.epn;refine⟨h.w.setS hj hl,h1,h2,?_,λhi => ?_⟩
 . rw[Vd (by unfold qE at h1; unfold qS; omega)]; exact h.sn
 . rw[Vd (by unfold qE at h1; unfold qS; omega)]; exact h.n hi
theorem PX.setP (h:PX g H t rr A P ps sn pn i X) {j:Nat} (hj:j<g.is.length) {l:List Int} (hl:l.length=g.acts j):PX g H t rr A (upA P j l) ps sn pn i (X.set (qP H.length g.is.length j) ⟨Qa l,3,0,true⟩):=by
 have h1:=h.eps; have h2:=h.epn;refine⟨h.w.setP hj hl,h1,h2,?_,λhi => ?_⟩
 . rw[Vd (by unfold qE at h1; unfold qP; omega)]; exact h.sn
 . rw[Vd (by unfold qE at h1; unfold qP; omega)]; exact h.n hi
def Q7 (l:List Int) (f:Nat->Int) (k:Nat):List Int:=Qe l.length λa=>if a<k then f a else l.getD a 0
theorem QcV (l:List Int) (f:Nat->Int) (k:Nat):(Q7 l f k).length=l.length:=by simp[Q7]
theorem Qo1 (l:List Int) (f:Nat->Int):Q7 l f 0=l:=by
 simp only[Q7,Nat.not_lt_zero,Wj];exact QkE l
theorem Qh2 {l:List Int} {f:Nat->Int} {k:Nat} (hk:k<l.length):(Q7 l f k)[k]'(by rw[QcV]; exact hk)=l.getD k 0:=by simp[Q7,Qe]
theorem QuL (l:List Int) (f:Nat->Int):Q7 l f l.length=Qe l.length f:=by
 apply Vt;intro a ha;simp only[VE]at ha;rw[Wb ha]
theorem QgJ {l:List Int} {f:Nat->Int} {k:Nat} (hk:k<l.length):(Q7 l f k).set k (f k)=Q7 l f (k+1):=by
 apply Vv;intro a;by_cases e:k=a
 . subst e; rw[Vg (by rw[QcV]; exact hk)]; simp[Q7,Qe,hk]
 . rw[Vd e];by_cases ha:a<l.length
   . have:(a<k)↔(a<k+1):=by omega
     simp[Q7,Qe,ha,this]
   . rw[Vl (by rw[QcV]; omega),Vl (by rw[QcV]; omega)]
end
theorem QuI {n:Nat} {s:Nat->Bool} {j:Nat} (h:j<n):(bls n s)[j]'(by simpa using h)=bl (s j):=by simp[bls]
theorem QhN {g:Gm} {V:List Int} {i:Nat} (h:i<g.ns.length):(sls (QcQ g V))[i]'(by simpa[QcQ]using h)=.slc (Qa (Qb1 g V i)) g.pl.toNat:=by simp[sls,QcQ,sl]
@[simp] theorem Qze (g:Gm) (V:List Int):(QcQ g V).length=g.ns.length:=by simp[QcQ]
theorem Qmz {g:Gm} {V:List Int} {i p:Nat} (h:p<g.pl.toNat):(Qb1 g V i)[p]'(by simpa using h)=V.getD (i*4+p) 0:=by simp[Qb1,Qe]
@[simp] theorem QBh (g:Gm) (R:List Int) (p:Nat):(QbJ g R p).length=g.ns.length:=by simp[QbJ]
theorem QmK {g:Gm} {R:List Int} {i p:Nat} (h:i<g.ns.length):(QbJ g R p)[i]'(by simpa using h)=R.getD (i*4+p) 0:=by simp[QbJ,Qe]
section
variable {g:Gm} {H X:Ws} {t:Tin} {rr:Int} {A P:Nat->List Int} {ps pn i p j:Nat} {sn:Nat->Bool} {V R O:List Int} {S:List (List Int)}
def lrF (g:Gm) (V R:List Int) (A:List Int) (i a:Nat):Int:=IntKind.i64.wrap (A.getD a 0+Qbr g V R i a)
def plK (sn:Nat->Bool) (P:Nat->List Int) (S:List (List Int)) (o:Int) (j k:Nat):Nat->List Int:=if sn j=true then P else upA P j (Q7 (P j) (QaQ o (P j) (S.getD j [])) k)
theorem Qnn (A:Nat->List Int) (j:Nat) (l:List Int):upA A j l j=l:=by simp[upA]
theorem Qmt (A:Nat->List Int) (j:Nat) (l m:List Int):upA (upA A j l) j m=upA A j m:=by
 funext k; unfold upA; split<;>rfl
set_option maxRecDepth 10000 in
theorem QuE (hW:Wg g) (hi:i<g.ns.length) (hk2:g.ns[i].k=2) (hj:g.ns[i].i.toNat=j) (hxp:g.ns[i].p=p) (hp:(p:Int)<g.pl) (hS:S.length=g.is.length) (hSl:∀ j (h:j<S.length),S[j].length=g.acts j)
 (hA:(A j).length=g.acts j) (hP:(P j).length=g.acts j) {N:Nat} {K:Wr}
 (hexit:∀ env X,PX g H t rr (upA A j (Q7 (A j) (lrF g V R (A j) i) g.ns[i].nx.length)) (plK sn P S (O.getD (i*4+p) 0) j g.ns[i].nx.length) ps sn pn i X->env.get 2=.ptr (.own H.length 0 0 0 0) 0->env.get 4=.ptr (.own (H.length+2) 0 0 0 0) 0->env.get 6=.slc (sls S) S.length->env.get 7=.ptr (.own (H.length+3) 0 0 0 1) 0->env.get 9=.slc (sls (QcQ g V)) g.ns.length->env.get 10=i64 p ->
  env.get 11=sl (QbJ g R p)->env.get 12=sl (QbJ g O p)->env.get 13=.own ps 0 g.is.length 1 0->env.get 14=i64 i->env.get 15=.ptr (.own pn 0 0 0 0) 0->K (.exit 6) env X) :
 ∀ (m k:Nat) (X:Ws) (env:Env),k+m=g.ns[i].nx.length->PX g H t rr (upA A j (Q7 (A j) (lrF g V R (A j) i) k)) (plK sn P S (O.getD (i*4+p) 0) j k) ps sn pn i X->env.get 2=.ptr (.own H.length 0 0 0 0) 0->env.get 4=.ptr (.own (H.length+2) 0 0 0 0) 0->env.get 6=.slc (sls S) S.length->env.get 7=.ptr (.own (H.length+3) 0 0 0 1) 0->env.get 9=.slc (sls (QcQ g V)) g.ns.length->env.get 10=i64 p ->
  env.get 11=sl (QbJ g R p)->env.get 12=sl (QbJ g O p)->env.get 13=.own ps 0 g.is.length 1 0->env.get 14=i64 i->env.get 15=.ptr (.own pn 0 0 0 0) 0->env.get 16=i64 k->LI Tryz.prog N Qb QjA env X K:=by
 have hn:=hW.gd.n;have hx:g.ns[i]? = some g.ns[i]:=Vb hi;obtain⟨b1,b2,b3,b4,b5⟩:=QbE hW hi hk2;rw[hj]at b1 b2 b3;have hpp:p<g.pl.toNat:=by omega
 have hjS:j<S.length:=by omega
 intro m
 induction m with
 |zero =>
  intro k X env hk h h2 h4 h6 h7 h9 h10 h11 h12 h13 h14 h15 h16;refine Qc hm QjA.eq_1 ?_;have e:k=g.ns[i].nx.length:=by omega
  subst e;have hN:=QC (h.n hi) [];simp only[Vr]at hN;simp -implicitDefEqProofs[h15,h16,hN,Nd.cells,sl];exact hexit _ X h (by simp[h2]) (by simp[h4]) (by simp[h6]) (by simp[h7]) (by simp[h9]) (by simp[h10]) (by simp[h11]) (by simp[h12]) (by simp[h13]) (by simp[h14]) (by simp[h15])
 |succ m ih =>
  intro k X env hk h h2 h4 h6 h7 h9 h10 h11 h12 h13 h14 h15 h16;refine Qc hm QjA.eq_1 ?_;have hkl:k<g.ns[i].nx.length:=by omega
  have hch:=(hW.wf.nf i hi).ch _ (Vf hkl);have w1:=Qw (show k<9223372036854775807 by omega);have hkA:k<(A j).length:=by omega
  have hkP:k<(P j).length:=by omega
  have hkS:k<S[j].length:=by rw[hSl _ hjS]; omega
  have hcn:((g.ns[i].nx[k].toNat:Nat):Int)=g.ns[i].nx[k]:=by omega
  have hcg:(g.ns[i].nx.getD k 0).toNat=g.ns[i].nx[k].toNat:=by simp[hkl]
  have eD:Qbr g V R i k=IntKind.i64.wrap ((IntKind.i64.wrap (R.getD (i*4+p) 0*IntKind.i64.wrap (V.getD (g.ns[i].nx[k].toNat*4+p) 0-V.getD (i*4+p) 0))).tdiv 1073741824):=by
   have hp2:g.ns[i].p.toNat=p:=by omega
   simp only[Qbr,hx,hp2,hcg]
  generalize hcc:g.ns[i].nx[k].toNat=ch at *;have hcl:ch<g.ns.length:=by omega
  have hN:=QC (h.n hi) [];have hB:=QC h.w.b [];have hNx:=QC h.w.nx [];have hSo:=QC h.w.so [];have hSr:=QC (h.w.s j b1) [];have hSs:=Qcj (h.w.s j b1) [];have hlU:(Q7 (A j) (lrF g V R (A j) i) k).length=g.acts j:=by rw[QcV,hA]
  have eU:(Qa (Q7 (A j) (lrF g V R (A j) i) k))[k]?.getD .any=i64 ((A j).getD k 0):=by
   rw[Qbz (by omega)]; congr 1;have:=Qh2 (f:=lrF g V R (A j) i) hkA;rw[<-this]; simp[QcV,hkA]
  have eUs:∀ y,List.take k (Qa (Q7 (A j) (lrF g V R (A j) i) k))++i64 y::List.drop (k+1) (Qa (Q7 (A j) (lrF g V R (A j) i) k))=Qa ((Q7 (A j) (lrF g V R (A j) i) k).set k y):=λy=>Qar (by omega) y;have eF:lrF g V R (A j) i k=IntKind.i64.wrap ((A j).getD k 0+Qbr g V R i k):=rfl;rw[eD]at eF;have h':=h.setS b1 (l:=Q7 (A j) (lrF g V R (A j) i) (k+1)) (by rw[QcV,hA]);rw[<-QgJ hkA,eF,Qmt]at h';have ih2:=ih (k+1);rw[<-QgJ hkA,eF]at ih2;simp only[Qnn,Vr]at hN hB hNx hSo hSr hSs;have eVc:∀ h,(Qb1 g V ch)[p]'h=V.getD (ch*4+p) 0:=λ_=>Qmz hpp;have eVi:∀ h,(Qb1 g V i)[p]'h=V.getD (i*4+p) 0:=λ_=>Qmz hpp;have eR:∀ h,(QbJ g R p)[i]'h=R.getD (i*4+p) 0:=λ_=>QmK hi;have eO:∀ h,(QbJ g O p)[i]'h=O.getD (i*4+p) 0:=λ_=>QmK hi;have eUk:∀ h,(Q7 (A j) (lrF g V R (A j) i) k)[k]'h=(A j).getD k 0:=λ_=>Qh2 hkA;generalize V.getD (ch*4+p) 0=vc at *;generalize V.getD (i*4+p) 0=vi at *;generalize R.getD (i*4+p) 0=ri at *;generalize (A j).getD k 0=aj at *;have hN2:=QC (h'.n hi) [];have hSn2:=QC h'.sn [];have hNx2:=QC h'.w.nx [];have hPo2:=QC h'.w.po [];have hPr2:=QC (h'.w.p j b1) [];have hPs2:=Qcj (h'.w.p j b1) [];simp only[Vr]at hN2 hSn2 hNx2 hPo2 hPr2 hPs2;generalize Q7 (A j) (lrF g V R (A j) i) k=U at *;simp only[Nd.cells,nxO,sl]at hN hN2 hNx hNx2;have eSn:∀ h,(bls g.is.length sn)[j]'h=bl (sn j):=λ_=>QuI b1;by_cases hsn:sn j=true
  . have eK:∀ k,plK sn P S (O.getD (i*4+p) 0) j k=P:=λk=>by unfold plK; rw[Wb hsn]
    simp only[eK]at *;rw[hsn]at eSn;generalize O.getD (i*4+p) 0=oi at *;simp -implicitDefEqProofs[h2,h4,h6,h7,h9,h10,h11,h12,h13,h14,h15,h16,hN,hNx,hSo,hSr,hSs,hN2,hSn2,sl,hkl,hi,hcl,<- hcn,hj,<- b2,b1,b3,eU,eUs,hpp,QhN hi,QhN hcl,eVc,eVi,eR,eUk,eSn,hlU,w1];repeat (refine⟨by omega,?_⟩)
    refine ih2 _ _ (by omega) h' ?_ ?_ ?_ ?_ ?_ ?_ ?_ ?_ ?_ ?_ ?_ ?_
    . simp
    . simp
    . simp
    . simp
    . simp
    . simp
    . simp[sl]
    . simp[sl]
    . simp
    . simp
    . simp
    . simp
  . have eK:∀ k,plK sn P S (O.getD (i*4+p) 0) j k=upA P j (Q7 (P j) (QaQ (O.getD (i*4+p) 0) (P j) (S.getD j [])) k):=λk=>by unfold plK; rw[Wa hsn]
    rw[Bool.not_eq_true]at hsn;rw[hsn]at eSn;have eSj:S.getD j []=S[j]:=by simp[hjS]
    simp only[eK,eSj]at *;have eG:QaQ (O.getD (i*4+p) 0) (P j) S[j] k=IntKind.i64.wrap ((P j).getD k 0+IntKind.i64.wrap ((IntKind.i64.wrap (O.getD (i*4+p) 0*S[j][k])).tdiv 65536)):=by simp[QaQ,Qgq,hkS]
    generalize QaQ (O.getD (i*4+p) 0) (P j) S[j]=fP at *;have h'':=h'.setP b1 (l:=Q7 (P j) fP (k+1)) (by rw[QcV,hP]);have hlQ:(Q7 (P j) fP k).length=g.acts j:=by rw[QcV,hP]
    have eQ:(Qa (Q7 (P j) fP k))[k]?.getD .any=i64 ((P j).getD k 0):=by
     rw[Qbz (by omega)]; congr 1;have:=Qh2 (f:=fP) hkP;rw[<-this]; simp[QcV,hkP]
    have eQs:∀ y,List.take k (Qa (Q7 (P j) fP k))++i64 y::List.drop (k+1) (Qa (Q7 (P j) fP k))=Qa ((Q7 (P j) fP k).set k y):=λy=>Qar (by omega) y;have eQk:∀ h,(Q7 (P j) fP k)[k]'h=(P j).getD k 0:=λ_=>Qh2 hkP;rw[<-QgJ hkP,eG,Qmt]at h'';rw[<-QgJ hkP,eG]at ih2;have hPr3:=hPr2;have hPs3:=hPs2;rw[Qnn]at hPr3 hPs3;generalize Q7 (P j) fP k=Q at *;generalize O.getD (i*4+p) 0=oi at *;generalize (P j).getD k 0=pj at *;simp -implicitDefEqProofs[h2,h4,h6,h7,h9,h10,h11,h12,h13,h14,h15,h16,hN,hNx,hSo,hSr,hSs,hN2,hSn2,hNx2,hPo2,hPr3,hPs3,sl,hkl,hi,hcl,<- hcn,hj,<- b2,b1,b3,eU,eUs,eQ,eQs,eQk,hpp,QhN hi,QhN hcl,eVc,eVi,eR,eO,eUk,eSn,hlU,hlQ,hjS,QaE hjS,hkS,w1];repeat (refine⟨by omega,?_⟩)
    refine ih2 _ _ (by omega) h'' ?_ ?_ ?_ ?_ ?_ ?_ ?_ ?_ ?_ ?_ ?_ ?_
    . simp
    . simp
    . simp
    . simp
    . simp
    . simp
    . simp[sl]
    . simp[sl]
    . simp
    . simp
    . simp
    . simp
end
def mvQ (g:Gm) (p i:Nat):Option Nat:=match g.ns[i]? with
 |none=>none
 |some x=>if x.k=2/\x.p=p then some x.i.toNat else none
def nxl (g:Gm) (i:Nat):Nat:=match g.ns[i]? with|none=>0|some x=>x.nx.length
def rfA (g:Gm) (V R:List Int) (p:Nat) (A:Nat->List Int):Nat->Nat->List Int
 |0=>A
 |i+1=>match mvQ g p i with
  |none=>rfA g V R p A i
  |some j=>upA (rfA g V R p A i) j (Q7 (rfA g V R p A i j) (lrF g V R (rfA g V R p A i j) i) (nxl g i))
def rfS (g:Gm) (p:Nat):Nat->Nat->Bool
 |0=>λ_=>false
 |i+1=>match mvQ g p i with
  |none=>rfS g p i
  |some j=>λk=>if k=j then true else rfS g p i k
def rfP (g:Gm) (O:List Int) (S:List (List Int)) (p:Nat) (P:Nat->List Int):Nat->Nat->List Int
 |0=>P
 |i+1=>match mvQ g p i with
  |none=>rfP g O S p P i
  |some j=>plK (rfS g p i) (rfP g O S p P i) S (O.getD (i*4+p) 0) j (nxl g i)
structure PY (g:Gm) (H:Ws) (t:Tin) (rr:Int) (A P:Nat->List Int) (ps:Nat) (sn:Nat->Bool) (X:Ws):Prop where
 w:PW g H t rr A P X
 eps:qE H.length g.is.length<=ps
 sn:X[ps]? = some ⟨bls g.is.length sn,4,0,true⟩
section
variable {g:Gm} {H X:Ws} {t:Tin} {rr:Int} {A P:Nat->List Int} {ps pn i p j:Nat} {sn:Nat->Bool} {V R O:List Int} {S:List (List Int)}
theorem PY.node (h:PY g H t rr A P ps sn X) (hi:i<g.ns.length):PX g H t rr A P ps sn X.length i (X++[⟨g.ns[i].cells,57,0,true⟩]):=by
 have hl:=Qg h.sn;refine⟨h.w.app _,h.eps,hl,by rw[Ve hl]; exact h.sn,λ_ => ?_⟩;rw[Vh (Vc _)]; simp
theorem PX.y (h:PX g H t rr A P ps sn pn i X):PY g H t rr A P ps sn X:=⟨h.w,h.eps,h.sn⟩
theorem PW.setN (h:PW g H t rr A P X) {q:Nat} (hq:qE H.length g.is.length<=q) (o:AO):PW g H t rr A P (X.set q o):=by
 have ne:∀ {i:Nat} {o':AO},X[i]? = some o'->i<qE H.length g.is.length->(X.set q o)[i]? = some o':=λh h2=>by rw[Vd (by omega)]; exact h
 have hl:=h.len;exact⟨ne h.b (by unfold qE; omega),ne h.tb (by unfold qE; omega),ne h.rb (by unfold qE; omega),ne h.nx (by unfold qE; omega),ne h.so (by unfold qE qSo; omega),ne h.po (by unfold qE qPo; omega),λi hi=>ne (h.s i hi) (by unfold qE qS; omega),λi hi=>ne (h.p i hi) (by unfold qE qP; omega),h.ls,h.lp,λi hi=>by rw[Vd (by unfold qE at hq; omega)]; exact h.low i hi,by simp; exact hl⟩
theorem QrH {n:Nat} {s:Nat->Bool} {j:Nat} (hj:j<n) (b:Bool):List.take j (bls n s)++bl b::List.drop (j+1) (bls n s)=bls n (λk=>if k=j then b else s k):=by
 have hl:j<(bls n s).length:=by simp[hj]
 have:=YA (l:=bls n s) (i:=j) (a:=bl b);rw[Wb hl]at this;rw[<-this];apply Vv;intro k;by_cases e:j=k
 . subst e; rw[Vg hl]; simp[bls,hj]
 . rw[Vd e];by_cases hk:k<n
   . simp[bls,hk,Ne.symm e]
   . rw[Vl (by simp; omega),Vl (by simp; omega)]
theorem PY.set (h:PY g H t rr A P ps sn X) (j:Nat):PY g H t rr A P ps (λk=>if k=j then true else sn k) (X.set ps ⟨bls g.is.length (λk=>if k=j then true else sn k),4,0,true⟩) :=
 ⟨h.w.setN h.eps _,h.eps,by rw[Vg (Qg h.sn)]⟩
theorem Qux (sn:Nat->Bool) (P:Nat->List Int) (S:List (List Int)) (o:Int) (j:Nat):plK sn P S o j 0=P:=by
 unfold plK; split
 . rfl
 . rw[Qo1,QgK]
set_option maxRecDepth 10000 in
theorem Qvt (hW:Wg g) (hp:(p:Int)<g.pl) (hS:S.length=g.is.length) (hSl:∀ j (h:j<S.length),S[j].length=g.acts j) {N:Nat} {K:Wr}
 (hexit:∀ env X,PW g H t rr (rfA g V R p A g.ns.length) (rfP g O S p P g.ns.length) X->env.get 2=.ptr (.own H.length 0 0 0 0) 0->env.get 4=.ptr (.own (H.length+2) 0 0 0 0) 0->env.get 6=.slc (sls S) S.length->env.get 7=.ptr (.own (H.length+3) 0 0 0 1) 0->env.get 9=.slc (sls (QcQ g V)) g.ns.length->env.get 10=i64 p->K (.exit 4) env X) :
 ∀ (m i:Nat) (X:Ws) (env:Env),i+m=g.ns.length->PY g H t rr (rfA g V R p A i) (rfP g O S p P i) ps (rfS g p i) X->env.get 2=.ptr (.own H.length 0 0 0 0) 0->env.get 4=.ptr (.own (H.length+2) 0 0 0 0) 0->env.get 6=.slc (sls S) S.length->env.get 7=.ptr (.own (H.length+3) 0 0 0 1) 0->env.get 9=.slc (sls (QcQ g V)) g.ns.length->env.get 10=i64 p ->
  env.get 11=sl (QbJ g R p)->env.get 12=sl (QbJ g O p)->env.get 13=.own ps 0 g.is.length 1 0->env.get 14=i64 i->LI Tryz.prog N Qb QiU env X K:=by
 have hn:=hW.gd.n;intro m
 induction m with
 |zero =>
  intro i X env hi h h2 h4 h6 h7 h9 h10 h11 h12 h13 h14;refine Qc hm QiU.eq_1 ?_;have e:i=g.ns.length:=by omega
  subst e;have hB:=QC h.w.b [];simp only[Vr]at hB;simp -implicitDefEqProofs[h2,h14,hB,Qd,Gm.cells];exact hexit _ X h.w (by simp[h2]) (by simp[h4]) (by simp[h6]) (by simp[h7]) (by simp[h9]) (by simp[h10])
 |succ m ih =>
  intro i X env hi h h2 h4 h6 h7 h9 h10 h11 h12 h13 h14;refine Qc hm QiU.eq_1 ?_;have hii:i<g.ns.length:=by omega
  have hx:g.ns[i]? = some g.ns[i]:=Vb hii;have w1:=Qw (show i<9223372036854775807 by omega);have hB:=QC h.w.b;have hB0:=QC h.w.b [];simp only[Vr]at hB0;have hX:=h.node hii;have ih2:=ih (i+1);have hxl:nxl g i=g.ns[i].nx.length:=by simp[nxl,hx]
  by_cases hq:g.ns[i].k=2/\g.ns[i].p=p
  . obtain⟨hk2,hxp⟩:=hq;obtain⟨b1,b2,b3,b4,b5⟩:=QbE hW hii hk2;have hmv:mvQ g p i=some g.ns[i].i.toNat:=by simp[mvQ,hx,hk2,hxp]
    simp only[rfA,rfP,rfS,hmv,hxl]at ih2;have hlA:=hX.w.ls _ b1;have hlP:=hX.w.lp _ b1;have key:=λK he=>QuE (H:=H) (t:=t) (rr:=rr) (A:=rfA g V R p A i) (P:=rfP g O S p P i) (ps:=ps) (pn:=X.length) (sn:=rfS g p i) (V:=V) (R:=R) (O:=O) (S:=S) hW hii hk2 rfl hxp hp hS hSl hlA hlP (N:=N) (K:=K) he g.ns[i].nx.length 0 (X++[⟨g.ns[i].cells,57,0,true⟩]);generalize rfA g V R p A i=Ai at *;generalize rfP g O S p P i=Pi at *;generalize rfS g p i=si at *;simp only[Nd.cells,sl,hk2,hxp,Qo1,QgK,Qux]at key hX;simp -implicitDefEqProofs[h2,h4,h6,h7,h9,h10,h11,h12,h13,h14,hB,hB0,Qd,Gm.cells,hii,QaC hii,QaR hii,QaN hii,hk2,hxp,sl];refine key _ (λenv X2 hY g2 g4 g6 g7 g9 g10 g11 g12 g13 g14 g15 => ?_) _ (by omega) hX (by simp) (by simp) (by simp) (by simp) (by simp) (by simp) (by simp) (by simp) (by simp) (by simp) (by simp) (by simp);have hN:=QC (hY.n hii) [];have hSn:=QC hY.sn [];have hSt:=Qcj hY.sn [];simp only[Vr]at hN hSn hSt;have hZ:=hY.y.set g.ns[i].i.toNat;have eB:=QrH (s:=si) b1 true;simp only[Nd.cells,sl,hxl]at hN;generalize g.ns[i].i.toNat=j at *;simp -implicitDefEqProofs[g13,g14,g15,hN,hSn,hSt,<- b2,b1,eB,w1];have eqf:(λk=>decide (k=j)||si k)=λk=>if k=j then true else si k:=by
     funext k;by_cases h:k=j<;>simp[h]
    rw[eqf];refine⟨by omega,?_⟩;exact ih2 _ _ (by omega) hZ (by simp[g2]) (by simp[g4]) (by simp[g6]) (by simp[g7]) (by simp[g9]) (by simp[g10]) (by simp[g11,sl]) (by simp[g12,sl]) (by simp[g13]) (by simp)
  . have hmv:mvQ g p i=none:=by simp only[mvQ,hx]; rw[Wa hq]
    simp only[rfA,rfP,rfS,hmv]at ih2;generalize rfA g V R p A i=Ai at *;generalize rfP g O S p P i=Pi at *;generalize rfS g p i=si at *;simp only[Nd.cells,sl]at hX;by_cases hk2:g.ns[i].k=2
    . have hxp:¬ g.ns[i].p=p:=λe=>hq ⟨hk2,e⟩;simp only[hk2]at hX;simp -implicitDefEqProofs[h2,h4,h6,h7,h9,h10,h11,h12,h13,h14,hB,hB0,Qd,Gm.cells,hii,QaC hii,QaR hii,QaN hii,hk2,hxp,sl,w1];exact ih2 _ _ (by omega) hX.y (by simp) (by simp) (by simp) (by simp) (by simp) (by simp) (by simp[sl]) (by simp[sl]) (by simp) (by simp)
    . simp -implicitDefEqProofs[h2,h4,h6,h7,h9,h10,h11,h12,h13,h14,hB,hB0,Qd,Gm.cells,hii,QaC hii,QaR hii,QaN hii,hk2,sl,w1];exact ih2 _ _ (by omega) hX.y (by simp) (by simp) (by simp) (by simp) (by simp) (by simp) (by simp[sl]) (by simp[sl]) (by simp) (by simp)
end
def plA (g:Gm) (V R:List Int) (A:Nat->List Int):Nat->Nat->List Int
 |0=>A
 |p+1=>rfA g V R p (plA g V R A p) g.ns.length
def plP (g:Gm) (O:List Int) (S:List (List Int)) (P:Nat->List Int):Nat->Nat->List Int
 |0=>P
 |p+1=>rfP g O S p (plP g O S P p) g.ns.length
section
variable {g:Gm} {H X:Ws} {t:Tin} {rr:Int} {A P:Nat->List Int} {ps pn i p j:Nat} {sn:Nat->Bool} {V R O M:List Int} {S:List (List Int)}
theorem PW.seen (h:PW g H t rr A P X):PY g H t rr A P X.length (λ_=>false) (X++[⟨bls g.is.length λ_=>false,4,0,true⟩]):=by
 refine⟨h.app _,h.len,?_⟩;rw[Vh (Vc _)]; simp
set_option maxRecDepth 10000 in
theorem Qvp (hW:Wg g) (hR:QcN g false M (λj=>S.getD j []) R) (hO:QcN g true M (λj=>S.getD j []) O) (hS:S.length=g.is.length) (hSl:∀ j (h:j<S.length),S[j].length=g.acts j) {N:Nat} {K:Wr}
 (hexit:∀ env X,PW g H t rr (plA g V R A g.pl.toNat) (plP g O S P g.pl.toNat) X->env.get 2=.ptr (.own H.length 0 0 0 0) 0->env.get 4=.ptr (.own (H.length+2) 0 0 0 0) 0->env.get 7=.ptr (.own (H.length+3) 0 0 0 1) 0->K (.exit 2) env X) :
 ∀ (m p:Nat) (X:Ws) (env:Env),((p+m:Nat):Int)=g.pl->PW g H t rr (plA g V R A p) (plP g O S P p) X->env.get 2=.ptr (.own H.length 0 0 0 0) 0->env.get 4=.ptr (.own (H.length+2) 0 0 0 0) 0->env.get 6=.slc (sls S) S.length->env.get 7=.ptr (.own (H.length+3) 0 0 0 1) 0->env.get 9=.slc (sls (QcQ g V)) g.ns.length->env.get 10=i64 p ->
  LI Tryz.prog N Qb Qhm env X K:=by
 have hn:=hW.gd.n;have hil:=hW.gd.i;have hp4:=hW.gd.p4;intro m
 induction m with
 |zero =>
  intro p X env hp h h2 h4 h6 h7 h9 h10;refine Qc hm Qhm.eq_1 ?_;have e:g.pl.toNat=p:=by omega
  have hB:=QC h.b [];simp only[Vr]at hB;rw[<-e]at h;simp -implicitDefEqProofs[h2,h10,hB,Qd,Gm.cells,show ¬ (p:Int)<g.pl by omega];exact hexit _ X h (by simp[h2]) (by simp[h4]) (by simp[h7])
 |succ m ih =>
  intro p X env hp h h2 h4 h6 h7 h9 h10;refine Qc hm Qhm.eq_1 ?_;have hpp:(p:Int)<g.pl:=by omega
  have w1:=Qw (show p<9223372036854775807 by omega);have hB0:=QC h.b [];simp only[Vr]at hB0;have hX:=h.seen;have hz:List.replicate g.is.length (bl false)=bls g.is.length λ_=>false:=by simp[bls,Y8]
  have c1:=ok73 (H:=X) (own:=false) (p:=p) hW hR hpp hS hSl;have c2:=ok73 (H:=X) (own:=true) (p:=p) hW hO hpp hS hSl;simp only[Gm.cells]at c1 c2;have key:=λK he=>Qvt (H:=H) (t:=t) (rr:=rr) (A:=plA g V R A p) (P:=plP g O S P p) (ps:=X.length) (V:=V) (R:=R) (O:=O) (S:=S) hW hpp hS hSl (N:=N) (K:=K) he g.ns.length 0;have ih2:=ih (p+1);simp only[plA,plP]at ih2;simp -implicitDefEqProofs[h2,h4,h6,h7,h9,h10,hB0,Qd,Gm.cells,hpp];refine Qa9 (λ_=>c1) ?_;simp -implicitDefEqProofs[h2,h4,h6,h7,h9,h10,hB0,Qd,Gm.cells,hpp];refine Qa9 (λ_=>c2) ?_;simp -implicitDefEqProofs[h2,h4,h6,h7,h9,h10,hB0,Qd,Gm.cells,hpp,hz];repeat (refine⟨by omega,?_⟩)
  refine key _ (λenv X2 hY g2 g4 g6 g7 g9 g10 => ?_) _ _ (by omega) hX (by simp) (by simp) (by simp) (by simp) (by simp) (by simp) (by simp) (by simp) (by simp) (by simp);simp -implicitDefEqProofs[g10,w1];exact ih2 _ _ (by omega) hY (by simp[g2]) (by simp[g4]) (by simp[g6]) (by simp[g7]) (by simp[g9]) (by simp)
def QcL (g:Gm) (t:Tin) (V R O:List Int):Tin:=⟨t.rnd+1,t.seed,(List.range g.is.length).map (plA g V R (cpA g t.A g.is.length) g.pl.toNat),(List.range g.is.length).map (plP g O (t.A.map QG) (cpA g t.P g.is.length) g.pl.toNat)⟩
def Qc9 (g:Gm) (t:Tin) (V R O:List Int):Tin×Int:=if 1000000<=t.rnd then(.zero,2)else if QaO g (QcL g t V R O)≠0 then(.zero,5)else(QcL g t V R O,0)
theorem PW.fzS {Y:Ws} {n0:Nat} (h:PW g H t rr A P X) (hH:n0=Y.length) (hn:Y.length<=H.length):SV.fz Y.length [] (X.drop Y.length) 4 (.own (qSo H.length) 0 g.is.length 1 g.is.length)=.slc (sls ((List.range g.is.length).map A)) g.is.length :=
 QcM (H:=Y) (A:=A) (by unfold qSo; omega) h.so (λi hi=>⟨by unfold qS; omega,h.s i hi,h.ls i hi⟩) 1
theorem PW.fzP {Y:Ws} {n0:Nat} (h:PW g H t rr A P X) (hH:n0=Y.length) (hn:Y.length<=H.length):SV.fz Y.length [] (X.drop Y.length) 4 (.own (qPo H.length g.is.length) 0 g.is.length 1 g.is.length)=.slc (sls ((List.range g.is.length).map P)) g.is.length :=
 QcM (H:=Y) (A:=P) (by unfold qPo; omega) h.po (λi hi=>⟨by unfold qP; omega,h.p i hi,h.lp i hi⟩) 1
end
section
variable {g:Gm} {H X:Ws} {t:Tin} {rr:Int} {V R O M:List Int}
set_option maxRecDepth 10000 in
theorem ok46 (hW:Wg g) (hT:QeT g t) (hr:0<=t.rnd) (hSh:∀ l∈t.A,ShO l) (hV:Qfa g M (λj=>(t.A.map QG).getD j []) V) (hR:QcN g false M (λj=>(t.A.map QG).getD j []) R) (hO:QcN g true M (λj=>(t.A.map QG).getD j []) O) :
 Ok Tryz.prog 46 [.agg g.cells,.agg t.cells] H (.ret (.tup [.agg (Qc9 g t V R O).1.cells,i64 (Qc9 g t V R O).2])) H:=by
 have hil:=hW.gd.i;have hn:=hW.gd.n;have hp1:=hW.gd.p1;have hS:(t.A.map QG).length=g.is.length:=by rw[Yx]; exact hT.la
 have hSl:∀ j (h:j<(t.A.map QG).length),(t.A.map QG)[j].length=g.acts j:=λj h=>by
  simp only[List.getElem_map,Qfy];exact hT.a j (by simpa using h)
 refine Ql hm Tryz.func46 c46 (by simp[Gm.cells,Q5,Q6,Tin.cells,Q3]) λhcl => ?_;simp -implicitDefEqProofs[i46,r46,Gm.cells,Tin.cells];by_cases hc:1000000<=t.rnd
 . have e:Qc9 g t V R O=(.zero,2):=by unfold Qc9; rw[Wb hc]
   simp -implicitDefEqProofs[hc];rw[e];exact⟨rfl,Qek hcl _ _⟩
 . have w1:IntKind.i64.wrap (t.rnd+1)=t.rnd+1:=Qp (by omega) (by omega);have h56:=λH=>ok44 (H:=H) hSh (by rw[hT.la]; omega);simp only[Tin.cells]at h56;simp -implicitDefEqProofs[hc];refine Qh (h56 _) ?_;simp -implicitDefEqProofs[w1];have h32:=λH'=>ok43 (H:=H') hW;simp only[Gm.cells]at h32;refine Qj5 (L:=Qd g::⟨Qx g.is.length (qS H.length) g.acts 0,45,g.is.length,true⟩::QaS (H.length+4) g g.is.length) (r:=.own (qSo H.length) 0 g.is.length 1 g.is.length) (λH' hl => ?_) ?_
   . have:=h32 H';simp at hl;rw[hl]at this;have e1:pZ (H.length+4)=qS H.length:=by funext i; unfold pZ qS; omega
     rw[e1]at this;exact this
   have hb1:=QdO (H.length+4) g g.is.length;have hini:=PW.init (g:=g) (H:=H) (t:=t) (rr:=t.rnd+1);unfold QeP at hini;generalize QaS (H.length+4) g g.is.length=M1 at *;simp -implicitDefEqProofs;refine Qj5 (L:=Qd g::⟨Qx g.is.length (qP H.length g.is.length) g.acts 0,45,g.is.length,true⟩::QaS (H.length+6+2*g.is.length) g g.is.length) (r:=.own (qPo H.length g.is.length) 0 g.is.length 1 g.is.length) (λH' hl => ?_) ?_
   . have:=h32 H';simp at hl;rw[hl]at this;have e1:pZ (H.length+(M1.length+1+1+1+1+1+1))=qP H.length g.is.length:=by funext i; unfold pZ qP; omega
     have e2:H.length+(M1.length+1+1+1+1+1+1)+1=qPo H.length g.is.length:=by unfold qPo; omega
     have e3:H.length+(M1.length+1+1+1+1+1+1)=H.length+6+2*g.is.length:=by omega
     rw[e1,e2,e3]at this;exact this
   generalize QaS (H.length+6+2*g.is.length) g g.is.length=M2 at *;simp -implicitDefEqProofs;refine Quw (H:=H) (t:=t) (rr:=t.rnd+1) hW hT (x4:=.ptr (.own (H.length+2) 0 0 0 0) 0) (x6:=.slc (sls (t.A.map QG)) t.A.length) (λenv X h g2 g4 g6 g7 => ?_) g.is.length 0 _ _ (by omega) hini (by simp) (by simp) (by simp) (by simp) (by simp) (by simp);have hB:=QC h.b [];simp only[Vr]at hB;have h57:=ok72 (H:=X) hW hV hS hSl;simp only[Gm.cells,Yx]at h57;simp -implicitDefEqProofs[g2,g4,g6,g7,hB,Qd,Gm.cells];refine Qh h57 ?_;simp -implicitDefEqProofs[g2,g4,g6,g7];refine Qvp (H:=H) (t:=t) (rr:=t.rnd+1) (V:=V) (R:=R) (O:=O) hW hR hO hS hSl (λenv X h g2 g4 g7 => ?_) g.pl.toNat 0 _ _ (by omega) h (by simp[g2]) (by simp[g4]) (by simp[g6]) (by simp[g7]) (by simp) (by simp);have hB:=QC h.b [];have hNx:=QC h.nx [];simp only[Vr]at hB hNx;have h55:=λH=>ok47 (H:=H) (g:=g) (t:=QcL g t V R O) hW;have f55:Ok Tryz.prog 47 [.agg g.cells,.agg [i64 (t.rnd+1),i64 t.seed,.own (qSo H.length) 0 g.is.length 1 g.is.length,.own (qPo H.length g.is.length) 0 g.is.length 1 g.is.length]] X (.ret (i64 (QaO g (QcL g t V R O)))) X:=by
    refine Ok.fz 5 ?_;have fS:=h.fzS (Y:=[]) (n0:=0) rfl (by simp);have fP:=h.fzP (Y:=[]) (n0:=0) rfl (by simp);simp only[YQ,YR]at fS fP;have hg:SV.fz 0 [] X 5 (.agg g.cells)=.agg g.cells:=QaA (by simp[Gm.cells,Q5,Q6]);simp only[Vn,VF,hg,Qe9,Qdd,Nat.reduceAdd,fS,fP];have:=h55 (X.map AO.dead);simp only[QcL,Tin.cells,Yx,List.length_range]at this ⊢;exact this
   simp only[Gm.cells]at f55 hB;simp -implicitDefEqProofs[g2,g4,g7,hB,hNx,Qd,nxO,Gm.cells];refine Qh f55 ?_;have hlX:=Qg h.rb;have hR0:=QC h.rb [];have hRc:∀ c:Wt,Qf (X.set (H.length+2) ⟨c,30,0,true⟩) (H.length+2) 0=c:=λc=>by
    have:=QC (G:=X.set (H.length+2) ⟨c,30,0,true⟩) (p:=H.length+2) (c:=c) (T:=30) (v:=0) (by rw[Vg hlX]) [];simpa only[Vr]using this
   have hRt:∀ o:AO,X.set (H.length+2) o=H++(X.set (H.length+2) o).drop H.length:=λo=>QdN λj hj=>by rw[Vd (by omega)]; exact h.low j hj
   simp only[Vr]at hR0;by_cases he:QaO g (QcL g t V R O)=0
   . have e:Qc9 g t V R O=(QcL g t V R O,0):=by unfold Qc9; rw[Wa hc,Wa (by simpa using he)]
     rw[e];have hRb:=Qcj h.rb [];have hNx2:=hNx;simp only[Vr]at hRb;simp -implicitDefEqProofs[g2,g4,g7,he,hNx,hRb,hR0,hRc,nxO];have up:∀ (o:AO) i,H.length+3<=i->(X.set (H.length+2) o)[i]? = X[i]? := λo i hi=>Vd (by omega);generalize hX2:X.set (H.length+2) ⟨[i64 (t.rnd+1),i64 t.seed,.own (qSo H.length) 0 g.is.length 1 g.is.length,.own (qPo H.length g.is.length) 0 g.is.length 1 g.is.length],30,0,true⟩=X2;have up2:∀ i,H.length+3<=i->X2[i]? = X[i]? := λi hi=>by rw[<-hX2]; exact up _ i hi
     have fS:=QcM (H:=H) (G:=X2) (p:=qSo H.length) (A:=plA g V R (cpA g t.A g.is.length) g.pl.toNat) (by unfold qSo; omega) (by rw[up2 _ (by unfold qSo; omega)]; exact h.so) (λi hi=>⟨by unfold qS; omega,by rw[up2 _ (by unfold qS; omega)]; exact h.s i hi,h.ls i hi⟩) 1;have fP:=QcM (H:=H) (G:=X2) (p:=qPo H.length g.is.length) (A:=plP g O (t.A.map QG) (cpA g t.P g.is.length) g.pl.toNat) (by unfold qPo; omega) (by rw[up2 _ (by unfold qPo; omega)]; exact h.po) (λi hi=>⟨by unfold qP; omega,by rw[up2 _ (by unfold qP; omega)]; exact h.p i hi,h.lp i hi⟩) 1;have hfz:SV.fz H.length [] (X2.drop H.length) 6 (.tup [.agg [i64 (t.rnd+1),i64 t.seed,.own (qSo H.length) 0 g.is.length 1 g.is.length,.own (qPo H.length g.is.length) 0 g.is.length 1 g.is.length],i64 0])=.tup [.agg (QcL g t V R O).cells,i64 0]:=by
      simp only[Qd8,Vn,VF,Qe9,Qdd,Nat.reduceAdd,fS,fP];simp[QcL,Tin.cells]
     have:=Qi (n0:=H.length) (H:=H) (L:=X2.drop H.length) 6 hcl rfl hfz;have ht:=hRt ⟨[i64 (t.rnd+1),i64 t.seed,.own (qSo H.length) 0 g.is.length 1 g.is.length,.own (qPo H.length g.is.length) 0 g.is.length 1 g.is.length],30,0,true⟩;rw[hX2]at ht;rw[<-ht]at this;exact this
   . have e:Qc9 g t V R O=(.zero,5):=by unfold Qc9; rw[Wa hc,Wb he]
     rw[e];have hRb:=Qcj h.rb [];simp only[Vr]at hRb;simp -implicitDefEqProofs[g2,g4,g7,he,hRb,hR0,hRc];refine⟨rfl,?_⟩;rw[hRt];exact Qek hcl _ _
end
section
variable {g:Gm} {M:List Int} {S S':Nat->List Int}
theorem Qo0 {V V' nx:List Int} {i q:Nat} (hS:∀ k,k<nx.length->brP g S i k=brP g S' i k) (hV:∀ k,k<nx.length->V.getD ((nx.getD k 0).toNat*4+q) 0=V'.getD ((nx.getD k 0).toNat*4+q) 0):∀ k,k<=nx.length->QT g S V nx i q k=QT g S' V' nx i q k
 |0,_=>rfl
 |k+1,hk=>by
  simp only[QT];rw[Qo0 hS hV k (by omega),hS k (by omega),hV k (by omega)]
theorem QpP (hW:Wg g) {i:Nat} (hi:i<g.ns.length) (hS:∀ j,j<g.is.length->S j=S' j) (k:Nat) (hk:k<g.ns[i].nx.length):brP g S i k=brP g S' i k:=by
 have hx:g.ns[i]? = some g.ns[i]:=Vb hi;simp only[brP,hx];rcases QdR hW hi with h|h|h
 . rw[Wb h,Wb h]
 . rw[Wa (by omega),Wa (by omega),hS _ (QbE hW hi h).1]
 . rw[(QeC hW hi h).1]at hk; simp at hk
theorem QoH (hW:Wg g) {i q:Nat} (hi:i<g.ns.length) {V V':List Int} (hS:∀ j,j<g.is.length->S j=S' j) (hV:∀ c,i<c->c<g.ns.length->V.getD (c*4+q) 0=V'.getD (c*4+q) 0):QbD g M S V i q=QbD g M S' V' i q:=by
 have hx:g.ns[i]? = some g.ns[i]:=Vb hi;simp only[QbD,hx];rw[Qo0 (S':=S') (V':=V') (λk hk=>QpP hW hi hS k hk) (λk hk => ?_) _ (Vc _)];have hch:=(hW.wf.nf i hi).ch _ (Vf hk);have e:g.ns[i].nx.getD k 0=g.ns[i].nx[k]:=by simp[hk]
 rw[e];exact hV _ (by omega) (by omega)
theorem Qld (V:List Int) (hV:V.length=4*g.ns.length):∀ m,m<=g.ns.length->(Qck g M S V m).length=4*g.ns.length
 |0,_=>hV
 |m+1,h=>Qbo (Qld V hV m (by omega)) (by omega) _
theorem QnY (hW:Wg g) (V:List Int) (hV:V.length=4*g.ns.length):∀ m,m<=g.ns.length->∀ i q:Nat,g.ns.length-m<=i->i<g.ns.length->(q:Int)<g.pl->(Qck g M S V m).getD (i*4+q) 0=QbD g M S (Qck g M S V m) i q
 |0,_,i,q,h1,h2,_=>absurd h1 (by omega)
 |m+1,hm,i,q,h1,h2,hq=>by
  have hp4:=hW.gd.p4;have hl:=Qld (g:=g) (M:=M) (S:=S) V hV m (by omega);have ih:=QnY hW V hV m (by omega);simp only[Qck];generalize Qck g M S V m=W at *;have hcg:∀ i,g.ns.length-1-m<=i->i<g.ns.length->QbD g M S (Qy W (g.ns.length-1-m) (plF g (QbD g M S W (g.ns.length-1-m)))) i q=QbD g M S W i q:=λi hi1 hi2 =>
   QoH hW hi2 (λ_ _=>rfl) λc hc1 hc2=>Qd6 hl (by omega) hc2 (by omega) (by omega) _
  rw[hcg i (by omega) h2];by_cases e:i=g.ns.length-1-m
  . subst e;rw[Qkj hl (by omega) (by omega)];simp[plF,hq]
  . rw[Qd6 hl (by omega) h2 (by omega) e];exact ih i q (by omega) h2 hq
end
section
variable {g:Gm} {M:List Int} {S S':Nat->List Int} {own:Bool}
theorem Qrj {R R':List Int} {i k q:Nat} (h:R.getD (i*4+q) 0=R'.getD (i*4+q) 0):QS g own S M R i k q=QS g own S M R' i k q:=by
 unfold QS; rw[h]
theorem QrW (hW:Wg g) {R:List Int} {i k q:Nat} (hi:i<g.ns.length) (hk:k<g.ns[i].nx.length) (hS:∀ j,j<g.is.length->S j=S' j):QS g own S M R i k q=QS g own S' M R i k q:=by
 unfold QS; rw[QpP hW hi hS k hk]
structure Qcp (g:Gm) (own:Bool) (M:List Int) (S:Nat->List Int) (i k:Nat) (R:List Int):Prop where
 len:R.length=4*g.ns.length
 z:∀ q:Nat,(q:Int)<g.pl->R.getD (0*4+q) 0=1073741824
 eq:∀ a t q:Nat,∀ h:a<g.ns.length,(ht:t<g.ns[a].nx.length)->(q:Int)<g.pl->(a<i\/a=i/\t<k)->R.getD (g.ns[a].nx[t].toNat*4+q) 0=QS g own S M R a t q
theorem Qcp.step (hW:Wg g) {i k:Nat} {R:List Int} (h:Qcp g own M S i k R) (hi:i<g.ns.length) (hk:k<g.ns[i].nx.length):Qcp g own M S i (k+1) (chR g own S M R i k):=by
 have hp4:=hW.gd.p4;have hx:g.ns[i]? = some g.ns[i]:=Vb hi;have hch:=(hW.wf.nf i hi).ch _ (Vf hk);have hinc:=(hW.wf.nf i hi).inc;have e:g.ns[i].nx.getD k 0=g.ns[i].nx[k]:=by simp[hk]
 have er:chR g own S M R i k=Qy R g.ns[i].nx[k].toNat (Qt g.pl.toNat (QS g own S M R i k) (QD R i)):=by
  simp only[chR,hx,e]
 rw[er];have hl:=h.len;have hcl:g.ns[i].nx[k].toNat<g.ns.length:=by omega
 refine⟨Qbo hl hcl _,λq hq => ?_,λa t q ha ht hq hat => ?_⟩
 . rw[Qd6 hl hcl (by omega) (by omega) (by omega)]; exact h.z q hq
 . have hca:=(hW.wf.nf a ha).ch _ (Vf ht);have hai:a<=i:=by omega
   have hR:(Qy R g.ns[i].nx[k].toNat (Qt g.pl.toNat (QS g own S M R i k) (QD R i))).getD (a*4+q) 0=R.getD (a*4+q) 0:=Qd6 hl hcl ha (by omega) (by omega) _;rw[Qrj hR];by_cases hs:a=i/\t=k
   . obtain⟨rfl,rfl⟩:=hs;rw[Qkj hl hcl (by omega)];unfold Qt;rw[Wb (by omega)]
   . have hne:g.ns[a].nx[t].toNat≠g.ns[i].nx[k].toNat:=by
      intro hh;by_cases hai2:a=i
      . subst hai2;have htk:t<k:=by omega
        have:=Yy.1 hinc t k ht hk htk;omega
      . have h1:=hca.2.2.1;have h2:=hch.2.2.1;rw[hh]at h1;omega
     rw[Qd6 hl hcl (by omega) (by omega) hne];exact h.eq a t q ha ht hq (by omega)
theorem Qcp.chs (hW:Wg g) {i:Nat} {R:List Int} (h:Qcp g own M S i 0 R) (hi:i<g.ns.length):∀ k,k<=g.ns[i].nx.length->Qcp g own M S i k (Qax g own S M R i k)
 |0,_=>h
 |k+1,hk=>(Qcp.chs hW h hi k (by omega)).step hW hi (by omega)
theorem Qcp.des (hW:Wg g) {R:List Int} (h:Qcp g own M S 0 0 R):∀ i,i<=g.ns.length->Qcp g own M S i 0 (Qbf g own S M R i)
 |0,_=>h
 |i+1,hi=>by
  have hii:i<g.ns.length:=by omega
  have hx:g.ns[i]? = some g.ns[i]:=Vb hii;have h1:=(Qcp.des hW h i (by omega)).chs hW hii g.ns[i].nx.length (Vc _);simp only[Qbf,hx];refine⟨h1.len,h1.z,λa t q ha ht hq hat=>h1.eq a t q ha ht hq ?_⟩;by_cases e:a=i
  . subst e; exact .inr ⟨rfl,ht⟩
  . omega
theorem Qm9 (hW:Wg g) {R:List Int} (hl:R.length=4*g.ns.length) (hm:∀ i (h:i<g.ns.length),g.ns[i].k=1->M.getD i 0=QaM g.ns[i].ws/\0<M.getD i 0) (hS:∀ j,j<g.is.length->S j=S' j) :
 QcN g own M S' (Qbf g own S M (Qy R 0 (Qt g.pl.toNat (λ_=>1073741824) (QD R 0))) g.ns.length):=by
 have hp4:=hW.gd.p4;have hn1:=hW.gd.n1;have h0:Qcp g own M S 0 0 (Qy R 0 (Qt g.pl.toNat (λ_=>1073741824) (QD R 0))):=by
  refine⟨Qbo hl (by omega) _,λq hq => ?_,λa t q ha ht hq hat=>absurd hat (by omega)⟩;rw[Qkj hl (by omega) (by omega)];unfold Qt;rw[Wb (by omega)]
 have h1:=Qcp.des hW h0 g.ns.length (Vc _);refine⟨λq hq => ?_,λi k q hi hk hq => ?_,hm⟩
 . have:=h1.z q hq;simpa using this
 . have e:g.ns[i].nx.getD k 0=g.ns[i].nx[k]:=by simp[hk]
   rw[e,<- QrW hW hi hk hS];exact h1.eq i k q hi hk hq (.inl hi)
theorem Qva (hW:Wg g) {V:List Int} (hl:V.length=4*g.ns.length) (hm:∀ i (h:i<g.ns.length),g.ns[i].k=1->M.getD i 0=QaM g.ns[i].ws/\0<M.getD i 0) (hS:∀ j,j<g.is.length->S j=S' j) :
 Qfa g M S' (Qck g M S V g.ns.length):=by
 refine⟨λi q hi hq => ?_,hm⟩;rw[QnY hW V hl g.ns.length (Vc _) i q (by omega) hi hq];exact QoH hW hi hS λ_ _ _=>rfl
theorem QjY (hW:Wg g):∀ i (h:i<g.ns.length),g.ns[i].k=1->(cTC g).M.getD i 0=QaM g.ns[i].ws/\0<(cTC g).M.getD i 0:=λi hi hk=>by
 have h1:=(QmV hW).m i hi hk;have hx:g.ns[i]? = some g.ns[i]:=Vb hi;refine⟨?_,h1⟩;simp only[cTC];rw[Qb9 hi];simp only[wtF,hx]
end
def Qan (g:Gm) (j:Nat):Int:=(g.is.getD j (0,0)).1
section
variable {g:Gm} {V R O:List Int} {A P:Nat->List Int} {S:List (List Int)} {p:Nat}
theorem QfG (hW:Wg g) {i:Nat} (hi:i<g.ns.length) (hk:g.ns[i].k=2):Qan g g.ns[i].i.toNat=g.ns[i].p:=by
 have:=hW.ty (Vf hi) hk;simp[Qan,this]
theorem QkP (hW:Wg g) (hA:∀ j,j<g.is.length->(A j).length=g.acts j):∀ i,i<=g.ns.length->∀ j,j<g.is.length->(Qbt g V R A i j).length=g.acts j
 |0,_,j,hj=>hA j hj
 |i+1,hi,j,hj=>by
  have hii:i<g.ns.length:=by omega
  have hx:g.ns[i]? = some g.ns[i]:=Vb hii;have ih:=QkP hW hA i (by omega) j hj;simp only[Qbt,QcR,hx];split
  . rename_i hk;unfold upA;split
    . rename_i e;rw[e];simp[(QbE hW hii hk).2.2.1]
    . exact ih
  . exact ih
theorem QmS {l:List Int} {f:Nat->Int} {k:Nat} (h:l.length=k):Q7 l f k=Qe k f:=by subst h; exact QuL l f
theorem QnJ (hW:Wg g) {B:Nat->List Int} (hA:∀ j,j<g.is.length->(A j).length=g.acts j) (hB:∀ j,j<g.is.length->Qan g j=p->B j=A j):∀ i,i<=g.ns.length->∀ j,j<g.is.length->rfA g V R p B i j=if Qan g j=p then Qbt g V R A i j else B j
 |0,_,j,hj=>by
  simp only[rfA,Qbt];split
  . rename_i h; exact hB j hj h
  . rfl
 |i+1,hi,j,hj=>by
  have hii:i<g.ns.length:=by omega
  have hx:g.ns[i]? = some g.ns[i]:=Vb hii;have ih:=λj hj=>QnJ hW hA hB i (by omega) j hj;by_cases hk:g.ns[i].k=2
  . obtain⟨b1,b2,b3,b4,b5⟩:=QbE hW hii hk;have ho:=QfG hW hii hk;by_cases hp:g.ns[i].p=p
    . have hmv:mvQ g p i=some g.ns[i].i.toNat:=by simp[mvQ,hx,hk,hp]
      have hxl:nxl g i=g.ns[i].nx.length:=by simp[nxl,hx]
      simp only[rfA,hmv,Qbt,QcR,hx,Wb hk,hxl];have hj0:=ih _ b1;rw[Wb (by rw[ho]; exact hp)]at hj0;have hll:=QkP (V:=V) (R:=R) hW hA i (by omega) _ b1;rw[b3]at hll;unfold upA;by_cases e:j=g.ns[i].i.toNat
      . rw[Wb e,Wb e,e,Wb (by rw[ho]; exact hp),hj0,QmS hll];rfl
      . rw[Wa e,Wa e];exact ih j hj
    . have hmv:mvQ g p i=none:=by simp[mvQ,hx,hp]
      simp only[rfA,hmv,Qbt,QcR,hx,Wb hk];rw[ih j hj];unfold upA;by_cases e:j=g.ns[i].i.toNat
      . rw[e,ho,Wa hp,Wa hp]
      . rw[Wa e]
  . have hmv:mvQ g p i=none:=by simp[mvQ,hx,hk]
    simp only[rfA,hmv,Qbt,QcR,hx,Wa hk];exact ih j hj
theorem Qmk (hW:Wg g) (hA:∀ j,j<g.is.length->(A j).length=g.acts j):∀ (p j:Nat),j<g.is.length->plA g V R A p j=if 0<=Qan g j/\Qan g j<p then Qbt g V R A g.ns.length j else A j
 |0,j,hj=>by simp only[plA]; rw[Wa (by omega)]
 |p+1,j,hj=>by
  have ih:=λj hj=>Qmk hW hA p j hj;simp only[plA];rw[QnJ hW hA (λj hj ho=>by rw[ih j hj,Wa (by omega)]) g.ns.length (Vc _) j hj,ih j hj];by_cases e:Qan g j=p
  . rw[Wb e,Wb (by omega)]
  . rw[Wa e];by_cases h:0<=Qan g j/\Qan g j<p
    . rw[Wb h,Wb (by omega)]
    . rw[Wa h,Wa (by omega)]
end
def frs (g:Gm) (j:Nat):Nat:=((cTC g).F.getD j 0).toNat
section
variable {g:Gm} {V R O:List Int} {A P B:Nat->List Int} {S:List (List Int)} {p:Nat}
theorem QeM (hW:Wg g) {j:Nat} (hj:j<g.is.length):∃ h:frs g j<g.ns.length,(cTC g).F.getD j 0=frs g j/\g.ns[frs g j].k=2/\g.ns[frs g j].i.toNat=j/\∀ u (hu:u<frs g j),¬ (g.ns[u].k=2/\g.ns[u].i.toNat=j):=by
 obtain⟨t,ht,_,h2,h3,h4⟩:=fn_of hW hj;have e:=Qkd hj ht h2 h3 h4 g.ns.length (Vc _) (by omega);have ef:frs g j=t:=by unfold frs cTC; rw[e]; omega
 subst ef;exact⟨ht,by unfold cTC; exact e,h2,h3,h4⟩
theorem Qfx (hW:Wg g) {j i:Nat} (hj:j<g.is.length) (hi:i<g.ns.length) (e:frs g j=i):g.ns[i].k=2/\g.ns[i].i.toNat=j/\g.ns[i].p=Qan g j:=by
 subst e;obtain⟨h,_,h2,h3,_⟩:=QeM hW hj;have:=QfG hW h h2;rw[h3]at this;exact⟨h2,h3,this.symm⟩
theorem Qnx (hW:Wg g) {i:Nat} (hi:i<g.ns.length) (hk:g.ns[i].k=2) (hj:g.ns[i].i.toNat<g.is.length):frs g g.ns[i].i.toNat<=i:=by
 obtain⟨h,_,_,_,h4⟩:=QeM hW hj;by_cases hlt:i<frs g g.ns[i].i.toNat
 . exact absurd ⟨hk,rfl⟩ (h4 i hlt)
 . omega
theorem Qmv (hW:Wg g):∀ i,i<=g.ns.length->∀ j,j<g.is.length->(rfS g p i j=true↔(Qan g j=p/\frs g j<i))
 |0,_,j,hj=>by simp[rfS]
 |i+1,hi,j,hj=>by
  have hii:i<g.ns.length:=by omega
  have hx:g.ns[i]? = some g.ns[i]:=Vb hii;have ih:=Qmv hW i (by omega) j hj;by_cases hk:g.ns[i].k=2/\g.ns[i].p=p
  . have hmv:mvQ g p i=some g.ns[i].i.toNat:=by simp[mvQ,hx,hk]
    have ho:=QfG hW hii hk.1;simp only[rfS,hmv];by_cases e:j=g.ns[i].i.toNat
    . rw[Wb e];have:=Qnx hW hii hk.1 (by omega);rw[e,ho];simp[hk.2]; omega
    . rw[Wa e,ih];constructor
      . rintro⟨h1,h2⟩; exact⟨h1,by omega⟩
      . rintro⟨h1,h2⟩;refine⟨h1,?_⟩;by_cases e2:frs g j=i
        . exact absurd (Qfx hW hj hii e2).2.1.symm e
        . omega
  . have hmv:mvQ g p i=none:=by simp only[mvQ,hx]; rw[Wa hk]
    simp only[rfS,hmv];rw[ih];constructor
    . rintro⟨h1,h2⟩; exact⟨h1,by omega⟩
    . rintro⟨h1,h2⟩;refine⟨h1,?_⟩;by_cases e2:frs g j=i
      . obtain⟨q1,q2,q3⟩:=Qfx hW hj hii e2;exact absurd ⟨q1,q3.trans h1⟩ hk
      . omega
theorem QoW (hW:Wg g) (hB:∀ j,j<g.is.length->(B j).length=g.acts j):∀ i,i<=g.ns.length->∀ j,j<g.is.length ->
 rfP g O S p B i j=if Qan g j=p/\frs g j<i then Qe (g.acts j) (QaQ (O.getD (frs g j*4+p) 0) (B j) (S.getD j []))else B j
 |0,_,j,hj=>by simp[rfP]
 |i+1,hi,j,hj=>by
  have hii:i<g.ns.length:=by omega
  have hx:g.ns[i]? = some g.ns[i]:=Vb hii;have ih:=λj hj=>QoW hW hB i (by omega) j hj;by_cases hk:g.ns[i].k=2/\g.ns[i].p=p
  . obtain⟨b1,b2,b3,b4,b5⟩:=QbE hW hii hk.1;have hmv:mvQ g p i=some g.ns[i].i.toNat:=by simp[mvQ,hx,hk]
    have hxl:nxl g i=g.ns[i].nx.length:=by simp[nxl,hx]
    have ho:=QfG hW hii hk.1;have hfl:=Qnx hW hii hk.1 b1;have hs:=Qmv (p:=p) hW i (by omega) g.ns[i].i.toNat b1;simp only[rfP,hmv,hxl];unfold plK;by_cases hsn:rfS g p i g.ns[i].i.toNat=true
    . rw[Wb hsn,ih j hj];obtain⟨s1,s2⟩:=hs.1 hsn;by_cases e:j=g.ns[i].i.toNat
      . rw[e,Wb ⟨s1,s2⟩,Wb ⟨s1,by omega⟩]
      . by_cases c:Qan g j=p/\frs g j<i
        . rw[Wb c,Wb ⟨c.1,by omega⟩]
        . have c2:¬ (Qan g j=p/\frs g j<i+1):=λ⟨h1,h2⟩=>by
           by_cases e2:frs g j=i
           . exact e (Qfx hW hj hii e2).2.1.symm
           . exact c ⟨h1,by omega⟩
          rw[Wa c,Wa c2]
    . rw[Wa hsn];have hfi:frs g g.ns[i].i.toNat=i:=by
       by_cases h:frs g g.ns[i].i.toNat<i
       . exact absurd (hs.2 ⟨ho.trans hk.2,h⟩) hsn
       . omega
      unfold upA;by_cases e:j=g.ns[i].i.toNat
      . have h0:=ih _ b1;rw[hfi,Wa (by omega)]at h0;rw[Wb e,e,h0,hfi,Wb ⟨ho.trans hk.2,by omega⟩,QmS (by rw[hB _ b1]; exact b3),b3]
      . rw[Wa e,ih j hj];by_cases c:Qan g j=p/\frs g j<i
        . rw[Wb c,Wb ⟨c.1,by omega⟩]
        . have c2:¬ (Qan g j=p/\frs g j<i+1):=λ⟨h1,h2⟩=>by
           by_cases e2:frs g j=i
           . exact e (Qfx hW hj hii e2).2.1.symm
           . exact c ⟨h1,by omega⟩
          rw[Wa c,Wa c2]
  . have hmv:mvQ g p i=none:=by simp only[mvQ,hx]; rw[Wa hk]
    simp only[rfP,hmv];rw[ih j hj];by_cases c:Qan g j=p/\frs g j<i
    . rw[Wb c,Wb ⟨c.1,by omega⟩]
    . have c2:¬ (Qan g j=p/\frs g j<i+1):=λ⟨h1,h2⟩=>by
       by_cases e2:frs g j=i
       . obtain⟨q1,q2,q3⟩:=Qfx hW hj hii e2;exact hk ⟨q1,q3.trans h1⟩
       . exact c ⟨h1,by omega⟩
      rw[Wa c,Wa c2]
theorem QoL (hW:Wg g) (hP:∀ j,j<g.is.length->(P j).length=g.acts j):∀ (p j:Nat),j<g.is.length ->
 plP g O S P p j=if 0<=Qan g j/\Qan g j<p then Qe (g.acts j) (QaQ (O.getD (frs g j*4+(Qan g j).toNat) 0) (P j) (S.getD j []))else P j
 |0,j,hj=>by simp only[plP]; rw[Wa (by omega)]
 |p+1,j,hj=>by
  have ih:=λj hj=>QoL hW hP p j hj;simp only[plP];obtain⟨hf,_⟩:=QeM hW hj;have hB:∀ j,j<g.is.length->(plP g O S P p j).length=g.acts j:=λj hj=>by
   rw[ih j hj]; split
   . simp
   . exact hP j hj
  rw[QoW hW hB g.ns.length (Vc _) j hj];by_cases e:Qan g j=p
  . have h0:=ih j hj;rw[Wa (by omega)]at h0;rw[Wb ⟨e,hf⟩,Wb (by omega),h0];have:(Qan g j).toNat=p:=by omega
    rw[this]
  . rw[Wa (λh=>e h.1),ih j hj];by_cases h:0<=Qan g j/\Qan g j<p
    . rw[Wb h,Wb (by omega)]
    . rw[Wa h,Wa (by omega)]
end
theorem Qo3:∀ (l:List Nat) (f:Nat->Int) (i:Nat),f i<=Qb0 f l i/\Qb0 f l i<=f i+l.length
 |[],f,i=>by simp[Qb0]
 |x::l,f,i=>by
  have h:=Qo3 l (put f x (f x+1)) i;simp only[Qb0,VL];unfold put at h ⊢;by_cases e:i=x
  . subst e;rw[Wb rfl]at h;omega
  . rw[Wa e]at h;omega
theorem QlM {f:Nat->Int} (h:∀ i,0<=f i):∀ (n k:Nat),k<n->f k<=QN f n/\0<=QN f n
 |0,k,hk=>absurd hk (by omega)
 |n+1,k,hk=>by
  have h0:0<=QN f n:=by
   cases n with
   |zero=>simp[QN]
   |succ n=>exact(QlM h (n+1) 0 (by omega)).2
  have hn:=h n;simp only[QN];by_cases e:k=n
  . subst e; omega
  . have:=QlM h n k (by omega);omega
theorem Ql9 {l:List Int} {k:Nat} (hk:k<l.length):0<=(QG l).getD k 0/\(QG l).getD k 0<=65536:=by
 have hl:=Qfv (l:=l) (by omega);have e:(QG l).getD k 0=Qb0 (QB l (Qk l)) ((QZ l).take (QX l).toNat) k:=by simp[QG,hk]
 rw[e];have h1:=Qo3 ((QZ l).take (QX l).toNat) (QB l (Qk l)) k;have h2:=QlM (λi=>QdB l i) l.length k hk;have h3:((QZ l).take (QX l).toNat).length<=(QX l).toNat:=by simp; omega
 have h4:QX l=65536-QN (QB l (Qk l)) l.length:=rfl;have h5:=QdB l k;omega
theorem Qsf {l:List Int} (h:∀ w∈l,1<=w/\w<=1000) (hl:l.length<=60) {k:Nat} (hk:k<l.length):l.getD k 0<=QaM l:=by
 have h1:=Qfr h hl l.length (Vc _);have key:∀ n,n<=l.length->∀ k,k<n->l.getD k 0<=wsK l n:=by
  intro n
  induction n with
  |zero=>intro _ k hk; omega
  |succ n ih =>
   intro hn k hk;have hr:=Qfr h hl n (by omega);have hw:=h _ (Vf (show n<l.length by omega));have e:wsK l (n+1)=wsK l n+l[n]:=by
    have:wsK l (n+1)=IntKind.i64.wrap (wsK l n+l[n]):=by simp[wsK,show n<l.length by omega]
    rw[this]; exact Qp (by omega) (by omega)
   rw[e];by_cases ek:k=n
   . subst ek;have:l.getD k 0=l[k]:=by simp[show k<l.length by omega]
     omega
   . have:=ih (by omega) k (by omega);omega
 exact key l.length (Vc _) k hk
section
variable {g:Gm} {M O:List Int} {S:Nat->List Int} {own:Bool}
theorem Qk1 {a p w:Int} (ha:0<=a/\a<=1073741824) (hp:0<=p/\p<=w) (hw:0<w/\w<=65536):0<=qoF a p w/\qoF a p w<=1073741824:=by
 have h1:a*p<=1073741824*w:=Int.mul_le_mul ha.2 hp.2 hp.1 (by omega);have h0:0<=a*p:=Int.mul_nonneg ha.1 hp.1;have h2:IntKind.i64.wrap (a*p)=a*p:=Qp (by omega) (by omega);unfold qoF;rw[h2,Zn h0];have h3:a*p / w<=1073741824:=by
  apply Int.ediv_le_of_le_mul hw.1;omega
 have h4:0<=a*p / w:=Int.ediv_nonneg h0 (by omega);rw[Qp (by omega) (by omega)];exact⟨h4,h3⟩
theorem Qq3 (hW:Wg g) (hR:QcN g own M S O) (hS:∀ j,j<g.is.length->∀ k,k<g.acts j->0<=(S j).getD k 0/\(S j).getD k 0<=65536):∀ (n i q:Nat),i<=n->i<g.ns.length->(q:Int)<g.pl->0<=O.getD (i*4+q) 0/\O.getD (i*4+q) 0<=1073741824:=by
 intro n
 induction n with
 |zero =>
  intro i q hi hl hq;have:i=0:=by omega
  subst this;have:=hR.z q hq;simp only[Yb,V0];omega
 |succ n ih =>
  intro i q hi hl hq;rcases Yh i with e0|e0
  . exact ih i q (by omega) hl hq
  . obtain⟨a,ha,h1,h2,h3⟩:=hW.wf.pf i e0 hl;obtain⟨k,hk,h4⟩:=VH h3;have he:=hR.eq a k q ha hk hq;have e1:(g.ns[a].nx.getD k 0).toNat=i:=by simp[hk,h4]
    rw[e1]at he;rw[he];have hx:g.ns[a]? = some g.ns[a]:=Vb ha;have iha:=ih a q (by omega) ha hq;unfold QS;split
    . rcases QdR hW ha with hk1|hk2|hk3
      . obtain⟨a1,a2,a3,a4⟩:=Qd0 hW ha hk1;obtain⟨m1,m2⟩:=hR.m a ha hk1;have hkw:k<g.ns[a].ws.length:=by omega
        have hwl:=Qsf a4 (by omega) hkw;have hw1:=a4 _ (Vf hkw);have eg:g.ns[a].ws.getD k 0=g.ns[a].ws[k]:=by simp[hkw]
        have hws:=Qfr a4 (by omega) g.ns[a].ws.length (Vc _);have eB:brW g M a=QaM g.ns[a].ws:=by simp only[brW,hx,hk1]; exact m1
        have eP:brP g S a k=g.ns[a].ws.getD k 0:=by simp only[brP,hx,hk1]; rfl
        rw[eB,eP];refine Qk1 iha ⟨by omega,hwl⟩ ⟨by omega,?_⟩;unfold QaM;omega
      . obtain⟨b1,b2,b3,b4,b5⟩:=QbE hW ha hk2;have eP:brP g S a k=(S g.ns[a].i.toNat).getD k 0:=by simp[brP,hx,hk2]
        have eB:brW g M a=65536:=by simp[brW,hx,hk2]
        rw[eB,eP];exact Qk1 iha (hS _ b1 k (by omega)) (by omega)
      . rw[(QeC hW ha hk3).1]at hk; simp at hk
    . exact iha
end
section
variable {g:Gm} {s:TS}
structure SOk (g:Gm) (s:TS):Prop where
 A:∀ i,i<g.is.length->(s.A i).length=g.acts i
 P:∀ i,i<g.is.length->(s.P i).length=g.acts i
 V:s.V.length=4*g.ns.length
 R:s.R.length=4*g.ns.length
 O:s.O.length=4*g.ns.length
 r0:0<=s.rnd
 r1:s.rnd<=1000000
 sd:0<=s.seed/\s.seed<=2147483646
 ok:Qbc g s
 pn:∀ i,i<g.is.length->∀ a,0<=(s.P i).getD a 0
theorem Ql2 {L:List (List Int)} {least:Int} (hW:Wg g) (h1:L.length=g.is.length) (h2:∀ i,i<g.is.length->Qag L i=g.acts i/\∀ x∈L.getD i [],least<=x/\x<=70368744177664):QaP g L least=0:=by
 unfold QaP;rw[Wa (by simpa using h1),Qlc];intro i _ hi;have hii:i<g.is.length:=by omega
 obtain⟨a1,a2⟩:=h2 i hii;have hgi:g.is.getD i (0,0)=g.is[i]:=by simp[hii]
 have hac:=QaV hW hii;have ha:(g.acts i:Int)=g.is[i].2:=by unfold Gm.acts at hac ⊢; rw[hgi]at hac ⊢; omega
 unfold Qa5;rw[hgi,Wa (by rw[a1,ha]; simp),Wa];simp only[V5,not_exists,not_and,V9,Wd];intro x hx;have:=a2 x hx;omega
theorem QiZ {f:Nat->List Int} {n i:Nat} (h:i<n):((List.range n).map f).getD i []=f i:=by simp[h]
theorem QlU {l:List Int} {x:Int} (h:x∈l):∃ a,a<l.length/\l.getD a 0=x:=by
 obtain⟨a,ha,e⟩:=VH h;exact⟨a,ha,by simp[ha,e]⟩
theorem QrJ (hW:Wg g) (hA:∀ i,i<g.is.length->(s.A i).length=g.acts i) (hP:∀ i,i<g.is.length->(s.P i).length=g.acts i) (hr:0<=s.rnd/\s.rnd<=1000000) (hs:0<=s.seed/\s.seed<=2147483646) (hp:∀ i,i<g.is.length->∀ a,0<=(s.P i).getD a 0) :
 QaO g (QQ g s)=0↔Qbc g s:=by
 unfold QaO;rw[Wa (by simp only[QQ]; omega)];constructor
 . intro h;split at h
   . rename_i h1; exact absurd h h1
   . rename_i h1;have h1:QaP g (QQ g s).A (-70368744177664)=0:=by simpa using h1
     obtain⟨_,a2⟩:=QbI hW h1;obtain⟨_,p2⟩:=QbI hW h;intro i hi a ha;have e1:=(a2 i hi).2 ((s.A i).getD a 0) (by
      simp only[QQ]; rw[QiZ hi];have:a<(s.A i).length:=by rw[hA i hi]; exact ha
      simp[this])
     have e2:=(p2 i hi).2 ((s.P i).getD a 0) (by
      simp only[QQ]; rw[QiZ hi];have:a<(s.P i).length:=by rw[hP i hi]; exact ha
      simp[this])
     unfold Qcf;omega
 . intro h;have h1:QaP g (QQ g s).A (-70368744177664)=0:=by
    refine Ql2 hW (by simp[QQ]) λi hi => ?_;simp only[QQ,Qag];rw[QiZ hi];refine⟨hA i hi,λx hx => ?_⟩;obtain⟨a,ha,rfl⟩:=QlU hx;have:=h i hi a (by rw[<-hA i hi]; exact ha);unfold Qcf at this;omega
   rw[Wa (by simpa using h1)];refine Ql2 hW (by simp[QQ]) λi hi => ?_;simp only[QQ,Qag];rw[QiZ hi];refine⟨hP i hi,λx hx => ?_⟩;obtain⟨a,ha,rfl⟩:=QlU hx;have:=h i hi a (by rw[<-hP i hi]; exact ha);have:=hp i hi a;unfold Qcf at *;omega
theorem Qjw (s:TS):∀ (k j:Nat),j<k->(shL s k).S j=QG (s.A j)
 |0,j,h=>absurd h (by omega)
 |k+1,j,h=>by
  simp only[shL,upA];by_cases e:j=k
  . rw[Wb e,e]
  . rw[Wa e]; exact Qjw s k j (by omega)
def Qh4 (g:Gm) (s:TS):List Int:=Qck g (cTC g).M (shL s g.is.length).S s.V g.ns.length
def Qb5 (g:Gm) (own:Bool) (s:TS) (R:List Int):List Int:=Qbf g own (shL s g.is.length).S (cTC g).M (Qy R 0 (Qt g.pl.toNat (λ_=>1073741824) (QD R 0))) g.ns.length
theorem Qm5:(Q8 g (cTC g) s).A=Qbt g (Qh4 g s) (Qb5 g false s s.R) s.A g.ns.length:=by
 obtain⟨h1,h2,h3,h4,h5,h6,h7⟩:=Qec s g.is.length;simp only[Q8,Qh4,Qb5,h1,h3,h4]
theorem Qkx:(Q8 g (cTC g) s).P=QbB g (cTC g).F (Qb5 g true s s.O) (shL s g.is.length).S s.P g.is.length:=by
 obtain⟨h1,h2,h3,h4,h5,h6,h7⟩:=Qec s g.is.length;simp only[Q8,Qb5,h2,h5]
theorem Qh1:(Q8 g (cTC g) s).rnd=IntKind.i64.wrap (s.rnd+1)/\(Q8 g (cTC g) s).seed=s.seed:=by
 obtain⟨h1,h2,h3,h4,h5,h6,h7⟩:=Qec s g.is.length;simp only[Q8,h6,h7,and_self]
theorem Qji {F O:List Int} {S P:Nat->List Int}:∀ (n j:Nat),QbB g F O S P n j=if j<n then Qe (g.acts j) (QaQ (QcK g F O j) (P j) (S j))else P j
 |0,j=>by simp[QbB]
 |n+1,j=>by
  simp only[QbB,upA];by_cases e:j=n
  . rw[Wb e,Wb (by omega),e]
  . rw[Wa e,Qji n j];by_cases h:j<n
    . rw[Wb h,Wb (by omega)]
    . rw[Wa h,Wa (by omega)]
end
end Go.Proofs.YtogjmpkehjfecaaGreatDoor.Rc
