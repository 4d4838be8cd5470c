/- Steps of the proof. -/
import Derived.Test.YtogjmpkehjfecaaGreatDoorPart2
set_option linter.all false
namespace Go.Proofs.YtogjmpkehjfecaaGreatDoor.Rc
open Go.Ab Go.Ab.Shr
theorem Qvd {l:List Int} {i:Nat} (h:i<l.length) (t:Int):QL l t i=if t=0 then 65536 / (l.length:Int)else if 0<l[i]then 65536*l[i] / t else 0:=by simp[QL,h]
theorem Qri (l:List Int) (i:Nat):QbK l (i+1)=QbK l i-QL l (Qt l) i:=by simp only[QbK,Qo]; omega
theorem Qsf {l:List Int} (i:Nat) (hl:0<l.length):QL l (Qt l) i<=65536*70368744177664\/∃ h:i<l.length,70368744177664<l[i]:=by
 by_cases h:∃ h:i<l.length,70368744177664<l[i]
 . exact .inr h
 . left;have h0:=QiV l;unfold QL;split
   . have:65536 / (l.length:Int)<=65536:=Int.ediv_le_self _ (by omega);omega
   . split
     . rename_i h1 h2;by_cases hi:i<l.length
       . have h3:l.getD i 0=l[i]:=by simp[hi]
         have h4:¬ 70368744177664<l[i]:=λh5=>h ⟨hi,h5⟩;rw[h3]at h2 ⊢;have:65536*l[i] / Qt l<=65536*l[i]:=Int.ediv_le_self _ (by omega);omega
       . simp[hi]at h2
     . omega
theorem Qmw {f:Nat->Int} (h:∀ i,0<=f i) {i n:Nat} (hi:i<=n):Qo f i<=Qo f n:=by
 induction n with
 |zero =>
  have:i=0:=by omega
  subst this; exact V8 _
 |succ n ih =>
  by_cases e:i=n+1
  . subst e; exact V8 _
  . have:=ih (by omega); have:=h n; simp only[Qo]; omega
theorem Qq0 {l:List Int} (h0:0<l.length) (i:Nat) (hi:i<l.length):0<=QbK l i/\QbK l i<=65536/\0<=QbK l (i+1):=by
 have h1:=(QiW h0).1;have h2:=Qmw (Qes l) (show i+1<=l.length by omega);have h3:=Qmw (Qes l) (show i<=i+1 by omega);have h4:=Qkr (Qes l) i;unfold Qad QbK at *;omega
section
variable {H:Ws} {a k va v n:Nat} {C D:Wt} {T:Ww} {x:SV} {l:List Int}
set_option maxRecDepth 10000 in
theorem QqA (hP:P2 H a k) (hx:∀ (o p:List Int) (L:Ws),IsI (G2 H a k ⟨Qa o,3,va,true⟩ (oI C p D T v)++L) x l) (hl:l.length<=10) (h0:0<l.length) (hr:∀ v∈l,-70368744177664<=v/\v<=70368744177664) {N:Nat} {K:Wr}
 (hexit:∀ env,env.get 1=.own a 0 l.length 1 va->env.get 2=.own k C.length l.length 1 v->env.get 3=.ptr (.own H.length 0 0 0 0) 0->env.get 6=.ptr (.own (H.length+1) 0 0 0 0) 0->env.get 9=i64 (Qad l) ->
  K (.exit 2) env (S6 H a k va v C D T x ((List.range l.length).map (QL l (Qt l))) ((List.range l.length).map λ(i:Nat)=>(i:Int)) (Qt l))) :
 ∀ (m i:Nat) (o p:List Int) (env:Env),i+m=l.length->o.length=l.length->p.length=l.length->(∀ j,j<i->o[j]? = some (QL l (Qt l) j))->(∀ j,j<i->p[j]? = some (j:Int)) ->
  env.get 1=.own a 0 l.length 1 va->env.get 2=.own k C.length l.length 1 v->env.get 3=.ptr (.own H.length 0 0 0 0) 0->env.get 6=.ptr (.own (H.length+1) 0 0 0 0) 0 ->
  env.get 9=i64 (QbK l i)->env.get 26=x->env.get 27=i64 l.length->env.get 28=i64 i->LI Tryz.prog N Qb Qin env (S6 H a k va v C D T x o p (Qt l)) K:=by
 intro m
 induction m with
 |zero =>
  intro i o p env hi ho hp ho2 hp2 h1 h2 h3 h6 h9 h26 h27 h28;refine Qc hm Qin.eq_1 ?_;have e:i=l.length:=by omega
  subst e;have e1:o=(List.range l.length).map (QL l (Qt l)):=by
   apply Vz;intro j;by_cases hj:j<l.length
   . rw[ho2 j hj]; simp[hj]
   . rw[Vq (by omega),Vq (by simp; omega)]
  have e2:p=(List.range l.length).map λ(i:Nat)=>(i:Int):=by
   apply Vz;intro j;by_cases hj:j<l.length
   . rw[hp2 j hj]; simp[hj]
   . rw[Vq (by omega),Vq (by simp; omega)]
  subst e1 e2;simp -implicitDefEqProofs[h27,h28];exact hexit _ (by simp[h1]) (by simp[h2]) (by simp[h3]) (by simp[h6]) (by simp[h9,Qad])
 |succ m ih =>
  intro i o p env hi ho hp ho2 hp2 h1 h2 h3 h6 h9 h26 h27 h28;refine Qc hm Qin.eq_1 ?_;have hlt:i<l.length:=by omega
  have hx':=hx o p [⟨[x],45,0,true⟩,⟨[i64 (Qt l)],3,0,true⟩];have hv:=hr _ (Vf hlt);have hf:=Qvd hlt (Qt l);have hfn:=Qes l i;have hlk:=Qri l i;have htn:=QiV l;have hb:=Qq0 h0 i hlt;have w2:IntKind.i64.wrap ((i:Int)+1)=((i+1:Nat):Int):=QaB (by omega);have w3:IntKind.i64.wrap (QbK l i-QL l (Qt l) i)=QbK l (i+1):=by rw[hlk]; exact Qj (by omega) (by omega)
  simp only[oI]at hx';have io:i<o.length:=by omega
  have ip:i<p.length:=by omega
  have ok':=hx'.ok hlt;have ov':=hx'.v hlt;have s1:∀ y:Int,List.take i (Qa o)++i64 y::List.drop (i+1) (Qa o)=Qa (o.set i y):=λy=>Qa7 io y;have s2:List.take (C.length+i) (C++(Qa p++D))++i64 (i:Int)::List.drop (C.length+i+1) (C++(Qa p++D))=C++(Qa (p.set i i)++D):=Qvn ip _;have s3:(C++(Qa p++D)).length=C.length+p.length+D.length:=Qrk;have s4:∀ y:Int,(Qa (o.set i y))[i]?.getD .any=i64 y:=λy=>by simp[Qa,io]
  have hq1:∀ j,j<i+1->(o.set i (QL l (Qt l) i))[j]? = some (QL l (Qt l) j):=λj hj=>by
   by_cases e:i=j
   . subst e; rw[Vh io]
   . rw[Ve e]; exact ho2 j (by omega)
  have hq2:∀ j,j<i+1->(p.set i (i:Int))[j]? = some (j:Int):=λj hj=>by
   by_cases e:i=j
   . subst e; rw[Vh ip]
   . rw[Ve e]; exact hp2 j (by omega)
  have key:=ih (i+1) (o.set i (QL l (Qt l) i)) (p.set i (i:Int));generalize Qt l=t at *;by_cases ht:t=0
  . rw[Wb ht]at hf;have w4:IntKind.i64.wrap (Int.tdiv 65536 (l.length:Int))=QL l t i:=by
     rw[hf,ZZ (by omega)];exact Qj (by omega) (by omega)
    have hd:(t=0)=True:=eq_true ht;have hne:¬ l=[]:=λe=>by rw[e]at h0; simp at h0
    simp -implicitDefEqProofs[S6,oI,h1,h2,h3,h6,h9,h26,h27,h28,hlt,hx'.vd,hx'.ug,hx'.sl,hx'.len,ok',ov',QcQ,Qc3,QcT,QhT hP.la hP.ne,Qgn hP.lk,Qg7 hP.la hP.ne,Qlc hP.lk,hd,s1,s2,s3,s4,w2,w3,w4,hne];refine⟨by omega,by omega,by omega,?_⟩;refine key _ (by omega) (by simpa using ho) (by simpa using hp) hq1 hq2 ?_ ?_ ?_ ?_ ?_ ?_ ?_ ?_;all_goals simp
  . rw[Wa ht]at hf;have hd:(t=0)=False:=eq_false ht;by_cases hp0:0<l[i]
    . rw[Wb hp0]at hf;have w5:IntKind.i64.wrap (65536*l[i])=65536*l[i]:=Qj (by omega) (by omega);have w4:IntKind.i64.wrap (Int.tdiv (65536*l[i]) t)=QL l t i:=by
       rw[hf,ZZ (by omega)];exact Qj (by omega) (by omega)
      simp -implicitDefEqProofs[S6,oI,h1,h2,h3,h6,h9,h26,h27,h28,hlt,hx'.vd,hx'.ug,hx'.sl,hx'.len,ok',ov',QcQ,Qc3,QcT,QhT hP.la hP.ne,Qgn hP.lk,Qg7 hP.la hP.ne,Qlc hP.lk,hd,s1,s2,s3,s4,w2,w3,w4,w5,hp0];refine⟨by omega,by omega,by omega,?_⟩;refine key _ (by omega) (by simpa using ho) (by simpa using hp) hq1 hq2 ?_ ?_ ?_ ?_ ?_ ?_ ?_ ?_;all_goals simp
    . rw[Wa hp0]at hf;have w6:IntKind.i64.wrap (QbK l i)=QbK l (i+1):=by rw[hf]at w3; simpa using w3
      rw[hf]at key hq1;simp -implicitDefEqProofs[S6,oI,h1,h2,h3,h6,h9,h26,h27,h28,hlt,hx'.vd,hx'.ug,hx'.sl,hx'.len,ok',ov',QcQ,Qc3,QcT,QhT hP.la hP.ne,Qgn hP.lk,Qg7 hP.la hP.ne,Qlc hP.lk,hd,s1,s2,s3,s4,w2,w3,hp0,hf,w6];refine⟨by omega,by omega,by omega,?_⟩;refine key _ (by omega) (by simpa using ho) (by simpa using hp) hq1 hq2 ?_ ?_ ?_ ?_ ?_ ?_ ?_ ?_;all_goals simp
end
def Qh (n:Nat) (f:Nat->Int):List Int:=(List.range n).map f
@[simp] theorem QxW (n:Nat) (f:Nat->Int):(Qh n f).length=n:=by simp[Qh]
theorem Qc2 {n:Nat} {f:Nat->Int} {i:Nat} (h:i<n):(Qh n f)[i]'(by simpa using h)=f i:=by simp[Qh]
theorem Qdg {n:Nat} {f:Nat->Int} {i:Nat} (h:i<n):(Qh n f).getD i 0=f i:=by simp[Qh,h]
theorem Qd4 {n:Nat} {f:Nat->Int} {i:Nat} (y:Int):(Qh n f).set i y=Qh n (put f i y):=by
 apply Vz;intro j;by_cases hj:j<n
 . by_cases e:i=j
   . subst e; rw[Vh (by simpa using hj)]; simp[Qh,put,hj]
   . rw[Ve e];have:¬ j=i:=λh=>e h.symm;simp[Qh,put,hj,this]
 . rw[Vq (by simp; omega),Vq (by simp; omega)]
section
variable {H L:Ws} {a k va v n:Nat} {C D:Wt} {T:Ww}
set_option maxRecDepth 10000 in
theorem QlQ (hP:P2 H a k) {q:List Nat} (hq:∀ y∈q,y<n) (hn:n<=10) {c:Nat} (hc:c<=q.length) {N:Nat} {K:Wr} {F:Nat->Int}
 (hexit:∀ env,K (.exit 5) env (G2 H a k ⟨Qa (Qh n F),3,va,true⟩ (oN C q D T v)++L)) :
 ∀ (m j:Nat) (f:Nat->Int) (env:Env),j+m=c->(∀ i,i<n->0<=f i/\f i<=9223372036854775000+j)->c<=100->Qbw f ((q.take c).drop j)=F ->
  env.get 1=.own a 0 n 1 va->env.get 78=.own k C.length c 1 v->env.get 79=i64 c->env.get 80=i64 j ->
  LI Tryz.prog N Qb QiZ env (G2 H a k ⟨Qa (Qh n f),3,va,true⟩ (oN C q D T v)++L) K:=by
 intro m
 induction m with
 |zero =>
  intro j f env hj hf hc1 hF h1 h78 h79 h80;refine Qc hm QiZ.eq_1 ?_;have e:j=c:=by omega
  subst e;rw[Yk (by simp; omega)]at hF;have hF':f=F:=by rw[<-hF]; funext i; rfl
  subst hF';simp -implicitDefEqProofs[h79,h80];exact hexit _
 |succ m ih =>
  intro j f env hj hf hc1 hF h1 h78 h79 h80;refine Qc hm QiZ.eq_1 ?_;have hlt:j<c:=by omega
  have hjq:j<q.length:=by omega
  rw[Vu (by simp; omega)]at hF;simp only[List.getElem_take,Qbw]at hF;have hy:q[j]<n:=hq _ (Vf hjq);have e1:(QaV q++D)[j]?.getD .any=i64 (q[j]:Nat):=by
   rw[Vd (by simpa using hjq)];simp[QaV,Qa,hjq]
  have e2:(C++(QaV q++D)).length=C.length+q.length+D.length:=by simp; omega
  have e3:(Qa (Qh n f))[q[j]]?.getD .any=i64 (f q[j]):=by simp[Qa,Qh,hy]
  have e4:∀ y:Int,List.take q[j] (Qa (Qh n f))++i64 y::List.drop (q[j]+1) (Qa (Qh n f))=Qa (Qh n (put f q[j] y)):=λy=>by
   rw[Qa7 (by simpa using hy),Qd4]
  have hb:=hf _ hy;have w1:IntKind.i64.wrap (f q[j]+1)=f q[j]+1:=Qj (by omega) (by omega);simp -implicitDefEqProofs[oN,h1,h78,h79,h80,hlt,QhT hP.la hP.ne,Qgn hP.lk,Qg7 hP.la hP.ne,e1,e2,e3,e4,Qc2 hy,w1,hy];refine⟨by omega,by omega,by omega,?_⟩;refine ih (j+1) (put f q[j] (f q[j]+1)) _ (by omega) (λi hi => ?_) hc1 hF ?_ ?_ ?_ ?_
  . have h2:=hf i hi;unfold put;split<;>omega
  . simp
  . simp
  . simp
  . simp[QO (show j<9223372036854775807 by omega)]
theorem ok31 {H:Ws} {x:SV} {l o0 p0:List Int} (hP:P2 H a k) (hu:SV.underL H.length C=true/\SV.underL H.length D=true) (hx:∀ (o p:List Int) (L:Ws),IsI (G2 H a k ⟨Qa o,3,va,true⟩ (oI C p D T v)++L) x l) (hl:l.length<=10) (h0:0<l.length)
 (hr:∀ v∈l,-70368744177664<=v/\v<=70368744177664) (ho0:o0.length=l.length) (hp0:p0.length=l.length) :
 Ok Tryz.prog 31 [x,.own a 0 l.length 1 va,.own k C.length l.length 1 v] (G2 H a k ⟨Qa o0,3,va,true⟩ (oI C p0 D T v)) (.ret (.tup [])) (G2 H a k ⟨Qa (Qab l),3,va,true⟩ (oN C (QQ l) D T v)):=by
 have hx0:=hx o0 p0 [];have hxu:x.under H.length=true:=by simpa using hx0.und
 refine Ql hm Tryz.func31 c31 (by simp[hP.la,hP.lk,hxu]) λhcl => ?_;have hxL:=hx o0 p0 [⟨[x],45,0,true⟩,⟨[i64 0],3,0,true⟩];simp -implicitDefEqProofs[i31,r31,hx0.vd,hx0.ug,hx0.cell,hx0.flat,hx0.sl,hx0.len,QcQ,Qc3,QcT];refine Qs0 (l:=l) hP (λL=>hx o0 p0 L) hl (λv hv=>(hr v hv).2) (x1:=.own a 0 l.length 1 va) (x2:=.own k C.length l.length 1 v) (λenv g1 g2 g3 g6 => ?_) l.length 0 _ (by omega) (by simp) (by simp) (by simp) (by simp) (by simp) (by simp) (by simp);simp -implicitDefEqProofs[S6,g1,g2,g3,g6,hx0.vd,hx0.ug,hx0.cell,hx0.flat,hx0.sl,hx0.len,QcQ,Qc3,QcT];refine QqA (l:=l) hP hx hl h0 hr (λenv g1 g2 g3 g6 g9 => ?_) l.length 0 o0 p0 _ (by omega) ho0 hp0 (λj hj=>by omega) (λj hj=>by omega) (by simp[g1]) (by simp[g2]) (by simp[g3]) (by simp[g6]) (by simp[QbK,Qo]) (by simp) (by simp) (by simp);have hlr:=QiW h0;have e1:((List.range l.length).map (QL l (Qt l)))=Qh l.length (QL l (Qt l)):=rfl;have e2:oI C ((List.range l.length).map λ(i:Nat)=>(i:Int)) D T v=oN C (List.range l.length) D T v:=rfl;have e3:Qh l.length (Qbw (QL l (Qt l)) ((QQ l).take (Qad l).toNat))=Qab l:=rfl;have hfl:∀ i,i<l.length->0<=QL l (Qt l) i/\QL l (Qt l) i<=9223372036854775000+(0:Nat):=λi hi=>by
  have h1:=Qes l i;have h2:=Qsf (l:=l) i h0;have h3:=(hr _ (Vf hi)).2;rcases h2 with h2|⟨_,h2⟩<;>omega
 simp only[S6,e1,e2];have hcl2:closed (G2 H a k ⟨Qa (Qab l),3,va,true⟩ (oN C (QQ l) D T v)):=by
  have h1:closed (G2 (G2 H a k ⟨Qa o0,3,va,true⟩ (oI C p0 D T v)) a k ⟨Qa (Qab l),3,va,true⟩ (oN C (QQ l) D T v)) :=
   Qoy hcl (by simp) (by simp only[Qfw,oN,SV.underL_append,hu.1,hu.2,QaV]; simp)
  have h2:G2 (G2 H a k ⟨Qa o0,3,va,true⟩ (oI C p0 D T v)) a k ⟨Qa (Qab l),3,va,true⟩ (oN C (QQ l) D T v)=G2 H a k ⟨Qa (Qab l),3,va,true⟩ (oN C (QQ l) D T v):=by
   unfold G2;rw[Zq _ _ hP.ne.symm,Yi,Yi]
  rwa [h2]at h1
 have ho:∀ y∈QQ l,y<l.length:=λy hy=>by
  unfold QQ at hy;split at hy
  . exact Qf0.1 hy
  . simpa using hy
 have hol:(QQ l).length=l.length:=by
  unfold QQ;split
  . exact Qhk _
  . simp
 have hc9:((Qad l).toNat:Int)=Qad l:=by omega
 by_cases hc:0<Qt l/\0<Qad l
 . have eo:QQ l=QaL (QbG l (Qt l)) l.length:=by unfold QQ; rw[Wb hc]
   simp -implicitDefEqProofs[g1,g2,g3,g6,g9,QcQ,Qc3,QcT,hc.1,hc.2];have key:=ok54 (H:=G2 H a k ⟨Qa (Qh l.length (QL l (Qt l))),3,va,true⟩ (oN C (List.range l.length) D T v)++[⟨[x],45,0,true⟩,⟨[i64 (Qt l)],3,0,true⟩,⟨[.fn (.func 53) [] [.ptr (.own H.length 0 0 0 0) 0,.ptr (.own (H.length+1) 0 0 0 0) 0]],95,0,true⟩])
    (k:=k) (v:=v) (C:=C) (D:=D) (T:=T) (vf:=.fn (.func 55) [] [.ptr (.own (H.length+2) 0 0 0 0) 0]) (r:=QbG l (Qt l)) (n:=l.length) (by simp; have:=hP.lk; omega) ⟨rfl,rfl,rfl⟩ (by simp) hl
   have hS:∀ q,oS (G2 H a k ⟨Qa (Qh l.length (QL l (Qt l))),3,va,true⟩ (oN C (List.range l.length) D T v)++[⟨[x],45,0,true⟩,⟨[i64 (Qt l)],3,0,true⟩,⟨[.fn (.func 53) [] [.ptr (.own H.length 0 0 0 0) 0,.ptr (.own (H.length+1) 0 0 0 0) 0]],95,0,true⟩]) k C D T v q =
    G2 H a k ⟨Qa (Qh l.length (QL l (Qt l))),3,va,true⟩ (oN C q D T v)++[⟨[x],45,0,true⟩,⟨[i64 (Qt l)],3,0,true⟩,⟨[.fn (.func 53) [] [.ptr (.own H.length 0 0 0 0) 0,.ptr (.own (H.length+1) 0 0 0 0) 0]],95,0,true⟩]:=λq=>by
    unfold oS;rw[Yo _ _ (by simpa using hP.lk)];unfold G2;rw[Yi]
   simp only[hS]at key;have htl:=QnJ hl (λv hv=>(hr v hv).2) l.length (Vc _);have key2:=key λq i j hi hj=>⟨rfl,by
    have hxq:=hx (Qh l.length (QL l (Qt l))) (q.map λ(n:Nat)=>(n:Int)) [⟨[x],45,0,true⟩,⟨[i64 (Qt l)],3,0,true⟩,⟨[.fn (.func 53) [] [.ptr (.own H.length 0 0 0 0) 0,.ptr (.own (H.length+1) 0 0 0 0) 0]],95,0,true⟩];have hcl:ClS (G2 H a k ⟨Qa (Qh l.length (QL l (Qt l))),3,va,true⟩ (oN C q D T v)++[⟨[x],45,0,true⟩,⟨[i64 (Qt l)],3,0,true⟩,⟨[.fn (.func 53) [] [.ptr (.own H.length 0 0 0 0) 0,.ptr (.own (H.length+1) 0 0 0 0) 0]],95,0,true⟩]) x l (Qt l) H.length (H.length+1) (H.length+2) :=
     ⟨by rw[Qc3]; rfl,by rw[QcQ]; rfl,by rw[QcQ]; rfl,by simp,by simp,by simp,hxq⟩
    exact ok55 hcl hl hr hc.1 (by unfold Qt; omega) hi hj⟩
   refine Qf key2 ?_;simp -implicitDefEqProofs[g1,g2,g3,g6,g9];refine⟨by omega,?_⟩;rw[<-eo];refine QlQ (n:=l.length) (C:=C) hP ho hl (c:=(Qad l).toNat) (by omega) (F:=Qbw (QL l (Qt l)) ((QQ l).take (Qad l).toNat)) (λenv => ?_) (Qad l).toNat 0 _ _ (by omega) hfl (by omega) rfl ?_ ?_ ?_ ?_
   . simp -implicitDefEqProofs;exact Qf3 rfl (by simp) hcl2 rfl
   . simp[g1]
   . simp
   . simp
   . simp
 . have eo:QQ l=List.range l.length:=by unfold QQ; rw[Wa hc]
   by_cases hc1:0<Qt l
   . have hc2:¬ 0<Qad l:=λh=>hc ⟨hc1,h⟩;simp -implicitDefEqProofs[g1,g2,g3,g6,g9,QcQ,Qc3,QcT,hc1,hc2];refine⟨by omega,?_⟩;rw[<-eo];refine QlQ (n:=l.length) (C:=C) hP ho hl (c:=(Qad l).toNat) (by omega) (F:=Qbw (QL l (Qt l)) ((QQ l).take (Qad l).toNat)) (λenv => ?_) (Qad l).toNat 0 _ _ (by omega) hfl (by omega) rfl ?_ ?_ ?_ ?_
     . simp -implicitDefEqProofs;exact Qf3 rfl (by simp) hcl2 rfl
     . simp[g1]
     . simp
     . simp
     . simp
   . simp -implicitDefEqProofs[g1,g2,g3,g6,g9,QcQ,Qc3,QcT,hc1];refine⟨by omega,?_⟩;rw[<-eo];refine QlQ (n:=l.length) (C:=C) hP ho hl (c:=(Qad l).toNat) (by omega) (F:=Qbw (QL l (Qt l)) ((QQ l).take (Qad l).toNat)) (λenv => ?_) (Qad l).toNat 0 _ _ (by omega) hfl (by omega) rfl ?_ ?_ ?_ ?_
     . simp -implicitDefEqProofs;exact Qf3 rfl (by simp) hcl2 rfl
     . simp[g1]
     . simp
     . simp
     . simp
end
end Go.Proofs.YtogjmpkehjfecaaGreatDoor.Rc
namespace Go.Proofs.YtogjmpkehjfecaaGreatDoor.Rc
open Go.Ab
def gi (l:List Int) (i:Nat):Int:=l.getD i 0
structure Nf (ns:List Nd) (s:W3) (i:Nat) (x:Nd):Prop where
 ch:∀ j∈x.nx,(i:Int)<j/\j<ns.length/\gi s.P j.toNat=i/\gi s.D j.toNat=gi s.D i+1
 inc:x.nx.Pairwise (· < ·)
 la:gi s.L i=match x.nx.getLast? with|none=>(i:Int)|some j=>gi s.L j.toNat
def Fr (s t:W3) (a b:Nat):Prop:=∀ i,(i<a\/b<=i)->gi t.P i=gi s.P i/\gi t.D i=gi s.D i/\gi t.L i=gi s.L i
structure Kf (ns:List Nd) (at':Nat) (dep:Int) (l:List Int) (r0 r:Nat) (s t:W3):Prop where
 nf:∀ i x,r0<=i->i<r->ns[i]? = some x->Nf ns t i x
 pf:∀ i,r0<=i->i<r->((i:Int)∈l/\gi t.P i=at')\/(∃ (p:Nat) (x:Nd),gi t.P i=p/\r0<=p/\p<i/\ns[p]? = some x/\(i:Int)∈x.nx)
 ch:∀ j∈l,(r0:Int)<=j/\j<r/\gi t.P j.toNat=at'/\gi t.D j.toNat=dep+1
 inc:l.Pairwise (· < ·)
 nil:l=[]->r=r0
 la:∀ j,l.getLast? = some j->gi t.L j.toNat=(r:Int)-1
 fr:Fr s t r0 r
structure Wf (ns:List Nd) (par dep:Int) (k r:Nat) (s t:W3):Prop where
 nf:∀ i x,k<=i->i<r->ns[i]? = some x->Nf ns t i x
 pf:∀ i,k<i->i<r->∃ (p:Nat) (x:Nd),gi t.P i=p/\k<=p/\p<i/\ns[p]? = some x/\(i:Int)∈x.nx
 p:gi t.P k=par
 d:gi t.D k=dep
 l:gi t.L k=(r:Int)-1
 fr:Fr s t k r
theorem Fr.trans {s t u:W3} {a b c d:Nat} (h:Fr s t a b) (h':Fr t u c d) (h1:a<=c) (h2:b<=d):Fr s u a d:=by
 intro i hi;have e1:=h i (by omega);have e2:=h' i (by omega);exact⟨e2.1.trans e1.1,e2.2.1.trans e1.2.1,e2.2.2.trans e1.2.2⟩
theorem Nf.keep {ns:List Nd} {s t:W3} {i a b:Nat} {x:Nd} (h:Nf ns s i x) (hf:Fr s t a b) (hi:i<a) (hx:∀ j∈x.nx,j<a):Nf ns t i x:=by
 have hn:∀ j∈x.nx,j.toNat<a:=λj hj=>by have:=hx j hj; have:=(h.ch j hj).1; omega
 refine⟨λj hj => ?_,h.inc,?_⟩
 . have h1:=h.ch j hj;have h2:=hf j.toNat (.inl (hn j hj));have h3:=hf i (.inl hi);exact⟨h1.1,h1.2.1,h2.1.trans h1.2.2.1,by rw[h2.2.1,h3.2.1]; exact h1.2.2.2⟩
 . rw[(hf i (.inl hi)).2.2,h.la]
   cases hl:x.nx.getLast? with
   |none=>rfl
   |some j=>exact(hf j.toNat (.inl (hn j (List.mem_of_getLast? hl)))).2.2.symm
theorem Qpo {ns:List Nd} {at':Nat} {dep:Int} {w:Nat->W3->Option Nat×W3} (hok:∀ r s,s.ok ns.length->(w r s).2.ok ns.length/\∀ r',(w r s).1=some r'->r<r'/\r'<=ns.length)
 (hw:∀ r s r',s.ok ns.length->(w r s).1=some r'->Wf ns at' (dep+1) r r' s (w r s).2/\(∀ i x,r<=i->i<r'->ns[i]? = some x->∀ j∈x.nx,j<r')) :
 ∀ (l:List Int) (r0:Nat) (s:W3) (r:Nat),s.ok ns.length->(QaD w l r0 s).1=some r->Kf ns at' dep l r0 r s (QaD w l r0 s).2/\r0<=r/\(∀ i x,r0<=i->i<r->ns[i]? = some x->∀ j∈x.nx,j<r)
 |[],r0,s,r,hs,h=>by
  simp only[QaD,Option.some.injEq]at h;subst h;exact⟨⟨λi x h1 h2=>by omega,λi h1 h2=>by omega,λj hj=>by simp at hj,.nil,λ_=>rfl,λj hj=>by simp at hj,λi _=>⟨rfl,rfl,rfl⟩⟩,Vc _,λi x h1 h2=>by omega⟩
 |c::cs,r0,s,r,hs,h=>by
  unfold QaD at h ⊢;by_cases hc:c=r0
  . rw[Wb hc]at h ⊢;have hk:=hok r0 s hs;have hf:=hw r0 s
    cases hh:w r0 s with
    |mk o s1 =>
     rw[hh]at h hk hf
     cases o with
     |none=>simp at h
     |some r1 =>
      simp only at h ⊢;obtain⟨f1,f1b⟩:=hf r1 hs rfl;have b1:=hk.2 r1 rfl;obtain⟨f2,f2l,f2b⟩:=Qpo hok hw cs r1 s1 r hk.1 h;generalize (QaD w cs r1 s1).2=t at f2;refine⟨⟨λi x h1 h2 hx => ?_,λi h1 h2 => ?_,λj hj => ?_,?_,(λe=>by cases e),λj hj => ?_,?_⟩,by omega,λi x h1 h2 hx j hj => ?_⟩
      . by_cases hi:i<r1
        . exact(f1.nf i x h1 hi hx).keep f2.fr hi (f1b i x h1 hi hx)
        . exact f2.nf i x (by omega) h2 hx
      . by_cases hi:i<r1
        . by_cases he:i=r0
          . subst he;exact .inl ⟨by rw[hc]; exact Z2,by rw[(f2.fr i (.inl hi)).1]; exact f1.p⟩
          . obtain⟨p,x,k1,k2,k3,k4,k5⟩:=f1.pf i (by omega) hi;exact .inr ⟨p,x,by rw[(f2.fr i (.inl hi)).1]; exact k1,k2,k3,k4,k5⟩
        . rcases f2.pf i (by omega) h2 with ⟨k1,k2⟩|⟨p,x,k1,k2,k3,k4,k5⟩
          . exact .inl ⟨VI _ k1,k2⟩
          . exact .inr ⟨p,x,k1,by omega,k3,k4,k5⟩
      . rcases Vi.1 hj with rfl|hj
        . have e:j.toNat=r0:=by omega
          refine⟨by omega,by omega,?_,?_⟩
          . rw[e,(f2.fr r0 (.inl b1.1)).1]; exact f1.p
          . rw[e,(f2.fr r0 (.inl b1.1)).2.1]; exact f1.d
        . have:=f2.ch j hj;exact⟨by omega,this.2.1,this.2.2⟩
      . refine .cons (λj hj => ?_) f2.inc;have:=(f2.ch j hj).1;omega
      . cases cs with
        |nil =>
         simp only[List.getLast?_singleton,Option.some.injEq]at hj;subst hj;have hr:=f2.nil rfl;have e:c.toNat=r0:=by omega
         rw[e,(f2.fr r0 (.inl b1.1)).2.2,f1.l,hr]
        |cons c' cs' =>
         rw[List.getLast?_cons_cons]at hj;exact f2.la j hj
      . exact f1.fr.trans f2.fr (by omega) (by omega)
      . by_cases hi:i<r1
        . have:=f1b i x h1 hi hx j hj; omega
        . exact f2b i x (by omega) h2 hx j hj
  . rw[Wa hc]at h;simp at h
theorem QkS {l:List Int} {i k:Nat} {v:Int} (h:i≠k):gi (l.set k v) i=gi l i:=Qjy h
theorem Qlr {l:List Int} {k:Nat} {v:Int} (h:k<l.length):gi (l.set k v) k=v:=QkK h
theorem Qn2 {ns:List Nd}:∀ (f:Nat) (par dep:Int) (k:Nat) (s:W3) (r:Nat),s.ok ns.length->(QW ns f par dep k s).1=some r ->
 Wf ns par dep k r s (QW ns f par dep k s).2/\(∀ i x,k<=i->i<r->ns[i]? = some x->∀ j∈x.nx,j<r)
 |0,par,dep,k,s,r,hs,h=>by simp[QW]at h
 |f+1,par,dep,k,s,r,hs,h=>by
  unfold QW at h ⊢
  cases hk:ns[k]? with
  |none=>rw[hk]at h; simp at h
  |some x =>
   rw[hk]at h;have hlt:=Qd hk;have hs':W3.ok ⟨s.P.set k par,s.D.set k dep,s.L⟩ ns.length:=⟨by simpa using hs.1,by simpa using hs.2.1,hs.2.2⟩;have hkf:=Qpo (ns:=ns) (at':=k) (dep:=dep) (w:=QW ns f k (dep+1)) (λr s hs=>Qc0 f k (dep+1) r s hs) (λr s r' hs h=>Qn2 f k (dep+1) r s r' hs h) x.nx (k+1) ⟨s.P.set k par,s.D.set k dep,s.L⟩;have hko:=Qga (n:=ns.length) (w:=QW ns f k (dep+1)) (m:=0) (λr s _ hs=>Qc0 f k (dep+1) r s hs) x.nx (k+1) ⟨s.P.set k par,s.D.set k dep,s.L⟩ (by omega) (by omega) hs';simp only at h ⊢
   cases hh:QaD (QW ns f k (dep+1)) x.nx (k+1) ⟨s.P.set k par,s.D.set k dep,s.L⟩with
   |mk o s1 =>
    rw[hh]at h hkf hko
    cases o with
    |none=>simp at h
    |some r1 =>
     simp only[Option.some.injEq]at h;subst h;obtain⟨kf,kle,kb⟩:=hkf r1 hs' rfl;have hL:s1.L.length=ns.length:=hko.1.2.2;have hPk:gi s1.P k=par:=by rw[(kf.fr k (.inl (by omega))).1]; exact Qlr (by have:=hs.1; omega)
     have hDk:gi s1.D k=dep:=by rw[(kf.fr k (.inl (by omega))).2.1]; exact Qlr (by have:=hs.2.1; omega)
     have hLk:gi (s1.L.set k ((r1:Int)-1)) k=(r1:Int)-1:=Qlr (by omega);have hLo:∀ i,i≠k->gi (s1.L.set k ((r1:Int)-1)) i=gi s1.L i:=λi hi=>QkS hi;have hb:∀ i y,k<=i->i<r1->ns[i]? = some y->∀ j∈y.nx,j<(r1:Int):=λi y h1 h2 hy j hj=>by
      by_cases he:i=k
      . subst he;rw[hk]at hy; cases hy
        exact(kf.ch j hj).2.1
      . exact kb i y (by omega) h2 hy j hj
     refine⟨⟨λi y h1 h2 hy => ?_,λi h1 h2 => ?_,hPk,hDk,hLk,?_⟩,hb⟩
     . by_cases he:i=k
       . subst he;rw[hk]at hy; cases hy
         refine⟨λj hj => ?_,kf.inc,?_⟩
         . have:=kf.ch j hj;exact⟨by omega,by have:=this.2.1; have:=(hko.2 r1 rfl).2; omega,this.2.2.1,by rw[this.2.2.2]; show _=gi s1.D i+1; rw[hDk]⟩
         . show gi (s1.L.set i ((r1:Int)-1)) i=_;rw[hLk]
           cases hl:x.nx.getLast? with
           |none =>
            have:x.nx=[]:=List.getLast?_eq_none_iff.1 hl;have:=kf.nil this;simp only; omega
           |some j =>
            have h3:=kf.ch j (List.mem_of_getLast? hl);show _=gi (s1.L.set i ((r1:Int)-1)) j.toNat;rw[hLo j.toNat (by omega),kf.la j hl]
       . have hn:=kf.nf i y (by omega) h2 hy;refine⟨hn.ch,hn.inc,?_⟩;show gi (s1.L.set k ((r1:Int)-1)) i=_;rw[hLo i he,hn.la]
         cases hl:y.nx.getLast? with
         |none=>rfl
         |some j =>
          have h3:=hn.ch j (List.mem_of_getLast? hl);show _=gi (s1.L.set k ((r1:Int)-1)) j.toNat;rw[hLo j.toNat (by omega)]
     . rcases kf.pf i (by omega) h2 with ⟨k1,k2⟩|⟨p,y,k1,k2,k3,k4,k5⟩
       . exact⟨k,x,k2,Vc _,h1,hk,k1⟩
       . exact⟨p,y,k1,by omega,k3,k4,k5⟩
     . intro i hi;have h3:=kf.fr i (by omega);refine⟨?_,?_,?_⟩
       . show gi s1.P i=_; rw[h3.1]; exact QkS (by omega)
       . show gi s1.D i=_; rw[h3.2.1]; exact QkS (by omega)
       . show gi (s1.L.set k ((r1:Int)-1)) i=_; rw[hLo i (by omega)]; exact h3.2.2
section
variable {H:Ws} {g:Gm}
def Gm.out (g:Gm) (z v:SV):SV:=if g.formE=0 then .tup [v,i64 0]else .tup [z,i64 g.formE]
theorem QqO (h:g.formE≠0):∃ p,g.walked=.tup [p,i64 g.formE]/\p.under 0=true:=by
 unfold Gm.walked Gm.formE at *;by_cases h0:g.err0=0
 . have h1:¬ g.err0≠0:=by simpa using h0
   rw[Wa h1]at h ⊢;rw[Wa h1];exact⟨_,rfl,by simp[Gm.wp,sl,SV.underL,QaP,QaS]⟩
 . have h1:g.err0≠0:=h0;rw[Wb h1,Wb h1];exact⟨_,rfl,rfl⟩
theorem Qqa (h:g.formE=0):g.walked=.tup [g.wp,i64 0]:=by
 unfold Gm.walked Gm.formE at *;by_cases h0:g.err0=0
 . have h1:¬ g.err0≠0:=by simpa using h0
   rw[Wa h1]at h ⊢;rw[h]
 . have h1:g.err0≠0:=h0;rw[Wb h1]at h;exact(h0 h).elim
end
structure Wg (g:Gm):Prop where
 gd:Gd g
 wk:g.wk.1=some g.ns.length
 mx:Qb3 g.wk.2.D<=40
 se:g.setsE=0
theorem Qpf {g:Gm}:∀ {l:List Nd},Qan g l=0->∀ x∈l,x.err g=0
 |[],_,x,hx=>by simp at hx
 |y::r,h,x,hx=>by
  unfold Qan at h;by_cases hy:y.err g=0
  . rw[Wb hy]at h;rcases Vi.1 hx with rfl|hx
    . exact hy
    . exact Qpf h x hx
  . rw[Wa hy]at h;exact(hy h).elim
theorem Qf7 {g:Gm} (h:g.formE=0):Wg g:=by
 unfold Gm.formE at h;by_cases h0:g.err0=0
 . have h1:¬ g.err0≠0:=by simpa using h0
   rw[Wa h1]at h;unfold Gm.err0 at h0;by_cases hr:g.rng
   . rw[Wb hr]at h0; cases h0
   . rw[Wa hr]at h0;by_cases hn:Qan g g.ns=0
     . have hn':¬ Qan g g.ns≠0:=by simpa using hn
       rw[Wa hn']at h0;by_cases hw:g.wk.1=some g.ns.length
       . have hw':¬ g.wk.1≠some g.ns.length:=by simpa using hw
         rw[Wa hw']at h0;by_cases hm:40<Qb3 g.wk.2.D
         . rw[Wb hm]at h0; cases h0
         . unfold Gm.rng at hr;exact⟨⟨by omega,by omega,by omega,by omega,by omega,Qpf hn⟩,hw,by omega,h⟩
       . have hw':g.wk.1≠some g.ns.length:=hw;rw[Wb hw']at h0; cases h0
     . have hn':Qan g g.ns≠0:=hn;rw[Wb hn']at h0; exact(hn h0).elim
 . have h1:g.err0≠0:=h0;rw[Wb h1]at h;exact(h0 h).elim
section
variable {H:Ws} {g:Gm}
set_option maxRecDepth 10000 in
theorem QpN (hg:Gd g) {N:Nat} {K:Wr}
 (hexit:∀ env M cs,Fam (H.length+1) M g.sets cs->env.get 3=.own H.length 0 g.is.length 1 0->K (.exit 0) env (H++⟨cs,45,0,true⟩::M)) :
 ∀ (n i:Nat) (env:Env) (M:Ws) (A:List (List Int)) (cs:Wt),i+n=g.ns.length->A.length=g.is.length->(∀ s (h:s<A.length),A[s].length<=i)->Fam (H.length+1) M A cs->QcJ (g.ns.drop i) i A=g.sets ->
  env.get 3=.own H.length 0 g.is.length 1 0->env.get 17=.slc (nds g.ns) g.ns.length->env.get 18=i64 g.ns.length->env.get 19=i64 i ->
  LI Tryz.prog N Qb QgV env (H++⟨cs,45,0,true⟩::M) K:=by
 have hgn:=hg.n;intro n
 induction n with
 |zero =>
  intro i env M A cs hi hA hAl hF hS h3 h17 h18 h19;refine Qc hm QgV.eq_1 ?_;have e:i=g.ns.length:=by omega
  subst e;rw[Yt]at hS;subst hS;simp -implicitDefEqProofs[h18,h19];exact hexit _ _ _ hF (by simp[h3])
 |succ n ih =>
  intro i env M A cs hi hA hAl hF hS h3 h17 h18 h19;refine Qc hm QgV.eq_1 ?_;have hlt:i<g.ns.length:=by omega
  have hx:g.ns[i]∈g.ns:=Vf hlt;have w1:IntKind.i64.wrap ((i:Int)+1)=((i+1:Nat):Int):=QaB (by omega);rw[Vu hlt,QcJ]at hS;by_cases hk:g.ns[i].k=2
  . have hb:=hg.inf hx hk;have hs:g.ns[i].i.toNat<A.length:=by omega
    have hcl:=hF.len;rw[Wb hk,Vm,Vb hs,VQ]at hS;have eset:∀ v:SV,List.take g.ns[i].i.toNat cs++v::List.drop (g.ns[i].i.toNat+1) cs=cs.set g.ns[i].i.toNat v:=λv=>by
     rw[YF,Wb (by omega)]
    have hAl':∀ v:List Int,v.length<=i+1->∀ s (h:s<(A.set g.ns[i].i.toNat v).length),(A.set g.ns[i].i.toNat v)[s].length<=i+1:=λv hv s h=>by
     by_cases e:g.ns[i].i.toNat=s
     . subst e; simpa using hv
     . rw[ZT e];have:=hAl s (by simpa using h); omega
    rcases hF.at' _ hs with ⟨k1,k2⟩|⟨k1,p,k2,k3⟩
    . simp -implicitDefEqProofs[h3,h17,h18,h19,hlt,Qbt hlt,Qbr hlt,Qbq hlt,hk,sl,k2];refine⟨by omega,by omega,by omega,by omega,?_⟩;have hF':∀ x y:AO,Fam (H.length+1) (M++[x,y,⟨[i64 i],3,1,true⟩]) (A.set g.ns[i].i.toNat [(i:Int)]) (cs.set g.ns[i].i.toNat (.own (H.length+(M.length+3)) 0 1 1 1)):=λx y=>by
       have:=(hF.mono [x,y]).new (i:=(i:Int)) hs k1;rw[show H.length+1+(M++[x,y]).length=H.length+(M.length+3)by simp; omega]at this;simpa[Qa]using this
      rw[k1,V3]at hS;rw[eset,w1];refine ih (i+1) _ _ _ _ (by omega) (by simp[hA]) (hAl' _ (by simp)) (hF' _ _) hS ?_ ?_ ?_ ?_
      . simp
      . simp
      . simp
      . simp
    . rw[show H.length+1+p=H.length+(p+1)by omega]at k2;have hp:=Qd k3;have hle:=hAl _ hs;simp -implicitDefEqProofs[h3,h17,h18,h19,hlt,Qbt hlt,Qbr hlt,Qbq hlt,hk,sl,k2,Qih k3,QlG,Qk5,Qkx k3];refine⟨by omega,by omega,by omega,by omega,by omega,by omega,?_⟩;have hF':∀ x y:AO,Fam (H.length+1) (M.set p ⟨Qa A[g.ns[i].i.toNat]++[i64 i],3,A[g.ns[i].i.toNat].length+1,true⟩++[x,y]) (A.set g.ns[i].i.toNat (A[g.ns[i].i.toNat]++[(i:Int)]))
       (cs.set g.ns[i].i.toNat (.own (H.length+(p+1)) 0 (A[g.ns[i].i.toNat].length+1) 1 (A[g.ns[i].i.toNat].length+1))):=λx y=>by
       rw[show H.length+(p+1)=H.length+1+p by omega]at k2 ⊢;have:=(hF.grow (i:=(i:Int)) hs k2 k3).mono [x,y];simpa[Qa]using this
      rw[eset,w1];refine ih (i+1) _ _ _ _ (by omega) (by simp[hA]) (hAl' _ (by simp; omega)) (hF' _ _) hS ?_ ?_ ?_ ?_
      . simp
      . simp
      . simp
      . simp
  . simp -implicitDefEqProofs[h3,h17,h18,h19,hlt,Qbt hlt,Qbr hlt,Qbq hlt,hk,sl];rw[Wa hk]at hS;rw[w1];refine ih (i+1) _ _ A cs (by omega) hA (λs h=>by have:=hAl s h; omega) (hF.mono _) hS ?_ ?_ ?_ ?_
    . simp
    . simp
    . simp
    . simp
def Gm.setsV (g:Gm):SV:=.slc (g.sets.map slN) g.is.length
set_option maxRecDepth 10000 in
theorem ok86 (hg:Gd g):Ok Tryz.prog 86 [g.wp] H (.ret g.setsV) H:=by
 have hn:=hg.n;have hi:=hg.i;refine Ql hm Tryz.func86 c86 (by simp) λhcl => ?_;simp -implicitDefEqProofs[i86,r86,Gm.wp,sl];refine⟨by omega,by omega,?_⟩;refine QpN (g:=g) hg (λenv M cs hF h3 => ?_) g.ns.length 0 _ [] (List.replicate g.is.length []) (List.replicate g.is.length nl) (by omega) (by simp) (by simp) (Fam.zero _ _ _) (by simp[Gm.sets]) (by simp) (by simp) (by simp) (by simp);simp -implicitDefEqProofs[h3];refine Qg 4 hcl rfl ?_;have hl:=hF.len;rw[QbT]at hl;have:=hF.fz (n:=H.length) (k:=1) (d:=1) (F:=(⟨cs,45,0,true⟩:AO)::M) rfl (λp=>by rw[show 1+p=p+1 by omega]; simp);simp[hl,this,Gm.setsV];exact VB (by simp[QbT])
end
structure WF (g:Gm):Prop where
 len:g.wk.2.ok g.ns.length
 nf:∀ i (h:i<g.ns.length),Nf g.ns g.wk.2 i g.ns[i]
 pf:∀ i,0<i->i<g.ns.length->∃ p,∃ h:p<g.ns.length,gi g.wk.2.P i=p/\p<i/\(i:Int)∈g.ns[p].nx
 p0:gi g.wk.2.P 0 = -1
 d0:gi g.wk.2.D 0=0
theorem Wg.wf {g:Gm} (h:Wg g):WF g:=by
 have hok:=Qc0 (ns:=g.ns) (g.ns.length+1) (-1) 0 0 g.w0 QeC;obtain⟨hf,_⟩:=Qn2 (ns:=g.ns) (g.ns.length+1) (-1) 0 0 g.w0 g.ns.length QeC h.wk;refine⟨hok.1,λi hi=>hf.nf i _ (by omega) hi (Vb hi),λi h0 hi => ?_,hf.p,hf.d⟩;obtain⟨p,x,k1,k2,k3,k4,k5⟩:=hf.pf i h0 hi;have hp:p<g.ns.length:=by omega
 rw[Vb hp]at k4
 cases k4
 exact⟨p,hp,k1,k3,k5⟩
theorem Qif {l:List Int} {i:Nat} (h:i<l.length):l[i]=gi l i:=by simp[gi,h]
theorem QnA {g:Gm}:g.wk.2.ok g.ns.length:=(Qc0 (ns:=g.ns) (g.ns.length+1) (-1) 0 0 g.w0 QeC).1
section
variable {H:Ws} {g:Gm}
def Gm.last (g:Gm) (node:Int):Int×Int:=if g.formE≠0 then(0,g.formE)else if node<0\/g.ns.length<=node then(0,2)else(gi g.wk.2.L node.toNat,0)
theorem Qqg:g.formR=g.formE:=QmG.symm
end
section
variable {σ:Type}
def abv (g:Gm) (pl:Int) (nb:σ->Nat->Int->Bool) (nx:σ->Nat->Int->σ):Nat->Nat->σ->σ
 |0,_,s=>s
 |f+1,node,s =>
  if gi g.wk.2.P node<0 then s else
   match g.ns[(gi g.wk.2.P node).toNat]? with
   |none=>s
   |some x =>
    if x.k=2/\x.p=pl then
     (if nb s (gi g.wk.2.P node).toNat (Qcj node x.nx)=true then abv g pl nb nx f (gi g.wk.2.P node).toNat (nx s (gi g.wk.2.P node).toNat (Qcj node x.nx))else nx s (gi g.wk.2.P node).toNat (Qcj node x.nx))
    else abv g pl nb nx f (gi g.wk.2.P node).toNat s
variable {g:Gm} {Inv:Nat->Ws->σ->Prop} {vf:SV} {nb:σ->Nat->Int->Bool} {nx:σ->Nat->Int->σ} {pl:Int}
set_option maxRecDepth 10000 in
theorem QsL (hW:Wg g) (hv:vf.vd=true/\vf.ug=vf) (hclo:∀ m G s (k:Nat) (a:Int),k<m->m<g.ns.length->Inv m G s->Qdj Tryz.prog vf [i64 k,i64 a] G λout G'=>out=.ret (bl (nb s k a))/\Inv k G' (nx s k a))
 (hbox:∀ m G s o,Inv m G s->Inv m (G++[o]) s) (hdec:∀ m k G s,k<m->Inv m G s->Inv k G s) {N:Nat} {K:Wr} {s0:σ}
 (hret:∀ env m G,Inv m G s0->K .ret env G) (hexit:∀ env m G,Inv m G s0->K (.exit 0) env G) :
 ∀ (f node:Nat) (env:Env) (G:Ws) (s:σ),node<f->node<g.ns.length->Inv node G s->abv g pl nb nx f node s=s0 ->
  env.get 0=g.wp->env.get 1=i64 node->env.get 2=i64 pl->env.get 3=vf->env.get 8=i64 (gi g.wk.2.P node)->LI Tryz.prog N Qb Qj5 env G K:=by
 have hf:=hW.wf;have hgn:=hW.gd.n;have hlen:g.wk.2.P.length=g.ns.length:=QnA.1;intro f
 induction f with
 |zero=>intro node env G s h; omega
 |succ f ih =>
  intro node env G s hnf hn hI hs e0 e1 e2 e3 e8;refine Qc hm Qj5.eq_1 ?_;unfold abv at hs;by_cases hneg:gi g.wk.2.P node<0
  . rw[Wb hneg]at hs;subst hs;simp -implicitDefEqProofs[e8,show ¬ 0<=gi g.wk.2.P node by omega];exact hexit _ _ _ hI
  . rw[Wa hneg]at hs;have hn0:0<node:=by
     rcases Yu node with h|h
     . subst h; rw[hf.p0]at hneg; omega
     . exact h
    obtain⟨p,hp,k1,k2,k3⟩:=hf.pf node hn0 hn;have k1':(gi g.wk.2.P node).toNat=p:=by omega
    rw[k1',Vb hp]at hs;simp only at hs;rw[k1]at e8;have hnx:g.ns[p].nx.length<=60:=Qfx (hW.gd.e _ (Vf hp));by_cases hm':g.ns[p].k=2/\g.ns[p].p=pl
    . rw[Wb hm']at hs;simp -implicitDefEqProofs[e0,e1,e2,e3,e8,Gm.wp,hp,Qbt hp,Qbr hp,Qbq hp,sl,hm'.1,hm'.2,hv.1,hv.2];refine Qdc (λ_=>QoP (IsI.slc _ _) (by omega) (node:Int)) ?_;simp -implicitDefEqProofs;refine Qjm (hclo node _ s p (Qcj node g.ns[p].nx) k2 hn (hbox _ _ _ _ hI)) (λout G' hP => ?_);obtain⟨rfl,hI'⟩:=hP
      cases hb:nb s p (Qcj node g.ns[p].nx)with
      |true =>
       rw[hb,Wb rfl]at hs;simp -implicitDefEqProofs[e0,e8,Gm.wp,hp,hlen,sl];refine⟨by omega,?_⟩;rw[Qif (show p<g.wk.2.P.length by omega)];refine ih p _ _ _ (by omega) hp hI' hs ?_ ?_ ?_ ?_ ?_
       . simp[Gm.wp,sl,hlen]
       . simp
       . simp[e2]
       . simp[e3]
       . simp
      |false =>
       rw[hb,Wa (by simp)]at hs;subst hs;simp -implicitDefEqProofs;exact hret _ _ _ hI'
    . rw[Wa hm']at hs;by_cases hk2:g.ns[p].k=2
      . have hpl:¬ g.ns[p].p=pl:=λh=>hm' ⟨hk2,h⟩;simp -implicitDefEqProofs[e0,e1,e2,e3,e8,Gm.wp,hp,Qbt hp,Qbr hp,Qbq hp,sl,hk2,hpl,hv.1,hv.2];refine Qgl _ _ _ _ ?_;simp -implicitDefEqProofs[e0,e8,Gm.wp,hp,hlen,sl];refine⟨by omega,?_⟩;rw[Qif (show p<g.wk.2.P.length by omega)];refine ih p _ _ _ (by omega) hp (hdec _ _ _ _ k2 (hbox _ _ _ _ hI)) hs ?_ ?_ ?_ ?_ ?_
        . simp[Gm.wp,sl,hlen]
        . simp
        . simp[e2]
        . simp[e3]
        . simp
      . simp -implicitDefEqProofs[e0,e1,e2,e3,e8,Gm.wp,hp,Qbt hp,Qbr hp,Qbq hp,sl,hk2,hv.1,hv.2];refine Qgl _ _ _ _ ?_;simp -implicitDefEqProofs[e0,e8,Gm.wp,hp,hlen,sl];refine⟨by omega,?_⟩;rw[Qif (show p<g.wk.2.P.length by omega)];refine ih p _ _ _ (by omega) hp (hdec _ _ _ _ k2 (hbox _ _ _ _ hI)) hs ?_ ?_ ?_ ?_ ?_
        . simp[Gm.wp,sl,hlen]
        . simp
        . simp[e2]
        . simp[e3]
        . simp
theorem QpG (hW:Wg g) (hv:vf.vd=true/\vf.ug=vf) (hclo:∀ m G s (k:Nat) (a:Int),k<m->m<g.ns.length->Inv m G s->Qdj Tryz.prog vf [i64 k,i64 a] G λout G'=>out=.ret (bl (nb s k a))/\Inv k G' (nx s k a))
 (hbox:∀ m G s o,Inv m G s->Inv m (G++[o]) s) (hdec:∀ m k G s,k<m->Inv m G s->Inv k G s) {G:Ws} {s:σ} {node:Nat} (hn:node<g.ns.length) (hI:Inv node G s) :
 OkP Tryz.prog 114 [g.wp,i64 node,i64 pl,vf] G λout G'=>out=.ret (.tup [])/\∃ m,Inv m G' (abv g pl nb nx g.ns.length node s):=by
 have hlen:g.wk.2.P.length=g.ns.length:=QnA.1;refine QaY hm Tryz.func114 c114 (by simp) λhcl => ?_;simp -implicitDefEqProofs[i114,r114,Gm.wp,sl,hn,hlen];refine⟨by omega,?_⟩;rw[Qif (show node<g.wk.2.P.length by omega)];refine QsL (g:=g) hW hv hclo hbox hdec (s0:=abv g pl nb nx g.ns.length node s) (pl:=pl) (λenv m G' hI' => ?_) (λenv m G' hI' => ?_) g.ns.length node _ _ s hn hn hI rfl (by simp[Gm.wp,sl,hlen]) (by simp) (by simp) (by simp) (by simp)
 . simp -implicitDefEqProofs;exact⟨_,_,⟨rfl,m,hI'⟩,Qn⟩
 . simp -implicitDefEqProofs;exact⟨_,_,⟨rfl,m,hI'⟩,Qn⟩
end
def QkM (g:Gm) (H:Ws) (m:Nat) (G:Ws) (l:List (Int×Int)):Prop :=
 l.length+m<=2000/\∃ L c,G=H++⟨[g.wp],128,0,true⟩::⟨[c],151,0,true⟩::L /\
  ((l=[]/\c=nl)\/(l≠[]/\∃ p,c=.own (H.length+(p+1+1)) 0 l.length 2 l.length/\L[p]? = some ⟨Qx l,155,l.length,true⟩))
theorem QoO:∀ (l:List (Int×Int)) (x:Int×Int),Qx (l++[x])=Qx l++[i64 x.1,i64 x.2]
 |[],x=>rfl
 |y::r,x=>by simp[Qx,QoO r x]
def QbS (g:Gm) (k:Nat):Int:=match g.ns[k]? with|some x=>x.i|none=>0
section
variable {H:Ws} {g:Gm}
theorem Qic {l:List Nd} {k:Nat} (h:k<l.length):(nds l)[k*6+2]? = some (i64 l[k].i):=by rw[Qd0 h (by omega)]; rfl
set_option maxRecDepth 10000 in
theorem Qq1 {m:Nat} {G:Ws} {l:List (Int×Int)} (hI:QkM g H m G l) {k:Nat} (hk:k<g.ns.length) (hkm:k<m) (hn:g.ns.length<=2000) (a:Int) :
 OkP Tryz.prog 138 [i64 k,i64 a,.ptr (.own (H.length+1) 0 0 0 0) 0,.ptr (.own H.length 0 0 0 0) 0] G λout G'=>out=.ret (bl true)/\QkM g H k G' (l++[(QbS g k,a)]):=by
 have hinf:QbS g k=g.ns[k].i:=by unfold QbS; rw[Vb hk]
 rw[hinf];obtain⟨hb,L,c,rfl,hc⟩:=hI;refine QaY hm Tryz.func138 c138 (by simp) λhcl => ?_;rcases hc with ⟨rfl,rfl⟩|⟨hne,p,rfl,hp⟩
 . simp -implicitDefEqProofs[Qku,QlM,Gm.wp,sl,hk,Qic hk,QaF];refine⟨by omega,_,_,⟨rfl,by simp at hb ⊢; omega,L++[_,_],_,rfl,.inr ⟨by simp,L.length+1,rfl,?_⟩⟩,Qn⟩;rw[Vg (by omega)]; simp[Qx]
 . simp -implicitDefEqProofs[Qku,QlM,Gm.wp,sl,hk,Qic hk,QaF,Qih hp,Qkx hp,QlG,Qk5,QqF];refine⟨by omega,by omega,by omega,by rw[Qb8]; omega,by omega,_,_,⟨rfl,by simp; omega,L.set p _++[_],_,rfl,.inr ⟨by simp,p,by simp,?_⟩⟩,Qn⟩;rw[Vd (by simpa using Qd hp),Vh (Qd hp)];simp[QoO]
def QcB (l:List (Int×Int)) (v:Nat):AO:=⟨Qx l,155,v,true⟩
theorem Qjt:∀ (l:List (Int×Int)) (i:Nat) (a b:Int),i<l.length->(Qx l).take (i*2)++i64 a::i64 b::(Qx l).drop (i*2+2)=Qx (l.set i (a,b))
 |[],i,a,b,h=>by simp at h
 |x::r,0,a,b,h=>by simp[Qx]
 |x::r,i+1,a,b,h=>by
  rw[show(i+1)*2=i*2+2 by omega];simp only[Qx,List.take_succ_cons,ZR,Y9,VK];rw[Qjt r i a b (by simpa using h)]
def Rv (l m:List (Int×Int)) (i:Nat):Prop:=m.length=l.length/\∀ t,t<l.length->m[t]? = if t<i\/l.length-1-i<t then l[l.length-1-t]? else l[t]?
theorem Rv.step {l m:List (Int×Int)} {i:Nat} (h:Rv l m i) (hi:i<l.length-1-i) {x y:Int×Int} (hx:m[l.length-1-i]? = some x) (hy:m[i]? = some y):Rv l ((m.set i x).set (l.length-1-i) y) (i+1):=by
 have hlm:=h.1;refine⟨by simpa using h.1,λt ht => ?_⟩;have hx':=h.2 (l.length-1-i) (by omega);have hy':=h.2 i (by omega);rw[Wa (by omega)]at hx' hy';rw[hx]at hx';rw[hy]at hy';by_cases e1:t=l.length-1-i
 . subst e1;rw[Vh (by simp; omega),Wb (by omega),hy'];congr 1; omega
 . rw[Ve (λh=>e1 h.symm)];by_cases e2:t=i
   . subst e2;rw[Vh (by omega),Wb (by omega),hx']
   . rw[Ve (λh=>e2 h.symm),h.2 t ht];by_cases hc:t<i\/l.length-1-i<t
     . rw[Wb hc,Wb (by omega)]
     . rw[Wa hc,Wa (by omega)]
theorem Rv.done {l m:List (Int×Int)} {i:Nat} (h:Rv l m i) (hi:¬ (i:Int)<(l.length:Int)-1-i):m=l.reverse:=by
 have hlm:=h.1;apply Vz;intro t;by_cases ht:t<l.length
 . rw[h.2 t ht,List.getElem?_reverse ht];by_cases hc:t<i\/l.length-1-i<t
   . rw[Wb hc]
   . rw[Wa hc];congr 1; omega
 . rw[Vq (by omega),Vq (by simp; omega)]
theorem QuU {G:Ws} {q:Nat} (hq:q<G.length) (o:AO) (f:AO->AO):Ab.setObj (G.set q o) q f=G.set q (f o):=by
 rw[QS (o:=o) (Vh hq),Yi]
theorem Qje {G:Ws} {q:Nat} (hq:q<G.length) (l:List (Int×Int)) (v:Nat):Qe (G.set q (QcB l v)) q v=Qx l :=
 Qaw (o:=QcB l v) (Vh hq) rfl
set_option maxRecDepth 10000 in
theorem QtM {G:Ws} {q v:Nat} (hq:q<G.length) {l:List (Int×Int)} (hl:l.length<=2000) {N:Nat} {K:Wr} (hexit:∀ env,K (.exit 0) env (G.set q (QcB l.reverse v))) :
 ∀ (n i:Nat) (m:List (Int×Int)) (env:Env),l.length<=i+n->i<=l.length->Rv l m i->env.get 0=.own q 0 l.length 2 v->env.get 2=i64 i->env.get 3=i64 ((l.length:Int)-1-i) ->
  LI Tryz.prog N Qb Qf5 env (G.set q (QcB m v)) K:=by
 intro n
 induction n with
 |zero =>
  intro i m env hn hi hR e0 e2 e3;refine Qc hm Qf5.eq_1 ?_;have hno:¬ (i:Int)<(l.length:Int)-1-i:=by omega
  simp -implicitDefEqProofs[e0,e2,e3,hno];rw[hR.done hno];exact hexit _
 |succ n ih =>
  intro i m env hn hi hR e0 e2 e3;refine Qc hm Qf5.eq_1 ?_;by_cases hlt:(i:Int)<(l.length:Int)-1-i
  . have hlm:=hR.1;have ej:(l.length:Int)-1-i=((l.length-1-i:Nat):Int):=by omega
    have hj:l.length-1-i<m.length:=by omega
    have hi':i<m.length:=by omega
    have w1:IntKind.i64.wrap ((i:Int)+1)=((i+1:Nat):Int):=QaB (by omega);have w2:IntKind.i64.wrap (((l.length-1-i:Nat):Int)-1)=(l.length:Int)-1-((i+1:Nat):Int):=by rw[Qj (by omega) (by omega)]; omega
    rw[ej]at e3 hlt;have hlt':i<l.length-1-i:=by omega
    simp -implicitDefEqProofs[e0,e2,e3,hlt,hlt',Qje hq,Qbo hj,Qbo hi',Qb8,show i<l.length by omega,show l.length-1-i<l.length by omega,QuU hq];have c1:List.take (i*2) (QcB m v).cells++i64 m[l.length-1-i].1::i64 m[l.length-1-i].2::List.drop (i*2+2) (QcB m v).cells=Qx (m.set i m[l.length-1-i]):=Qjt m i _ _ hi';rw[c1];have c2:List.take ((l.length-1-i)*2) (Qx (m.set i m[l.length-1-i]))++i64 m[i].1::i64 m[i].2::List.drop ((l.length-1-i)*2+2) (Qx (m.set i m[l.length-1-i]))=Qx ((m.set i m[l.length-1-i]).set (l.length-1-i) m[i]) :=
     Qjt _ _ _ _ (by simpa using hj)
    rw[c2,w1,w2];have c3:Qe (G.set q (QcB (m.set i m[l.length-1-i]) v)) q v=Qx (m.set i m[l.length-1-i]):=Qje hq _ v;refine⟨by omega,?_,?_⟩
    . show _<=(Qe (G.set q (QcB (m.set i m[l.length-1-i]) v)) q v).length;rw[c3,Qb8,VO]; omega
    . refine ih (i+1) ((m.set i m[l.length-1-i]).set (l.length-1-i) m[i]) _ (by omega) (by omega) (hR.step hlt' (Vb hj) (Vb hi')) ?_ ?_ ?_
      . simp
      . simp
      . simp
  . simp -implicitDefEqProofs[e0,e2,e3,hlt];rw[hR.done hlt];exact hexit _
theorem Qqk {G:Ws} {q v:Nat} (hq:q<G.length) {l:List (Int×Int)} (hl:l.length<=2000):Ok Tryz.prog 139 [.own q 0 l.length 2 v] (G.set q (QcB l v)) (.ret (.tup [])) (G.set q (QcB l.reverse v)):=by
 refine Ql hm Tryz.func139 c139 (by simp) λhcl => ?_;have w1:IntKind.i64.wrap ((l.length:Int)-1)=(l.length:Int)-1-((0:Nat):Int):=by rw[Qj (by omega) (by omega)]; omega
 simp -implicitDefEqProofs[Qls,QjS];rw[w1];refine QtM hq hl (λenv => ?_) l.length 0 l _ (by omega) (by omega) ⟨rfl,λt ht=>by rw[Wa (by omega)]⟩ (by simp) (by simp) (by simp);simp -implicitDefEqProofs;exact Qn
theorem Qtl {G:Ws}:Ok Tryz.prog 139 [nl] G (.ret (.tup [])) G:=by
 refine Ql hm Tryz.func139 c139 (by simp) λhcl => ?_;simp -implicitDefEqProofs[Qls,QjS,show(SV.val (Value.slice none 0 0)).isSl=true by rfl,show(SV.val (Value.slice none 0 0)).slen=0 by rfl,show IntKind.i64.wrap (-1) = -1 by rfl];refine Qc hm Qf5.eq_1 ?_;simp -implicitDefEqProofs;exact Qn
end
def wv (l:List (Int×Int)):SV:=if l=[]then nl else .slc (Qx l) l.length
def Gm.up (g:Gm) (node:Nat) (pl:Int):List (Int×Int):=abv g pl (λ_ _ _=>true) (λl k a=>l++[(QbS g k,a)]) g.ns.length node []
def Gm.way (g:Gm) (node:Nat) (pl:Int):List (Int×Int):=(g.up node pl).reverse
section
variable {H:Ws} {g:Gm}
set_option maxRecDepth 10000 in
theorem QjF (hW:Wg g) {node:Nat} (hn:node<g.ns.length) (pl:Int):Ok Tryz.prog 113 [g.wp,i64 node,i64 pl] H (.ret (wv (g.way node pl))) H:=by
 have hgn:=hW.gd.n;refine Ql hm Tryz.func113 c113 (by simp) λhcl => ?_;have hwp:g.wp.vd=true/\g.wp.ug=g.wp/\g.wp.flat=[g.wp]/\g.wp.isCell=true:=⟨rfl,rfl,rfl,rfl⟩;simp -implicitDefEqProofs[i113,r113,hwp.1,hwp.2.1,hwp.2.2.1,hwp.2.2.2];have h67:=QpG (g:=g) (σ:=List (Int×Int)) (Inv:=QkM g H) (vf:=.fn (.func 138) [] [.ptr (.own (H.length+1) 0 0 0 0) 0,.ptr (.own H.length 0 0 0 0) 0]) (nb:=λ_ _ _=>true) (nx:=λl k a=>l++[(QbS g k,a)]) (pl:=pl) hW ⟨rfl,rfl⟩
  (λm G s k a hkm hm' hI=>QjY (by simpa using Qq1 hI (by omega) hkm hgn a))
  (λm G s o hI=>by
   obtain⟨hb,L,c,rfl,hc⟩:=hI;refine⟨hb,L++[o],c,by simp,?_⟩;rcases hc with h|⟨h1,p,h2,h3⟩
   . exact .inl h
   . exact .inr ⟨h1,p,h2,by rw[Vd (Qd h3)]; exact h3⟩)
  (λm k G s hkm hI=>⟨by have:=hI.1; omega,hI.2⟩) (G:=H++[⟨[g.wp],128,0,true⟩,⟨[nl],151,0,true⟩]) (s:=[]) (node:=node) hn ⟨by simp; omega,[],nl,rfl,.inl ⟨rfl,rfl⟩⟩
 refine Q4 h67 (λout G' hP => ?_);obtain⟨rfl,m,hb,L,c,rfl,hc⟩:=hP;have hup:abv g pl (λ_ _ _=>true) (λl k a=>l++[(QbS g k,a)]) g.ns.length node []=g.up node pl:=rfl;rw[hup]at hb hc;rcases hc with ⟨h0,rfl⟩|⟨hne,p,rfl,hp⟩
 . have hw:wv (g.way node pl)=nl:=by unfold wv Gm.way; rw[h0]; rfl
   rw[hw];simp -implicitDefEqProofs;refine Qf Qtl ?_;simp -implicitDefEqProofs;exact Qg 2 hcl rfl (by simp)
 . have hw:wv (g.way node pl)=.slc (Qx (g.up node pl).reverse) (g.up node pl).length:=by
    unfold wv Gm.way; rw[Wa (by simpa using hne)]; simp
   rw[hw];simp -implicitDefEqProofs;have hL:L.set p (QcB (g.up node pl) (g.up node pl).length)=L:=by
    apply Vz;intro i;by_cases h:p=i
    . subst h; rw[Vh (Qd hp),hp]; rfl
    . rw[Ve h]
   have hset:∀ (A B o:AO),(H++A::B::L).set (H.length+(p+1+1)) o=H++A::B::L.set p o:=λA B o=>by simp
   have h71:=Qqk (G:=H++(⟨[g.wp],128,0,true⟩:AO)::⟨[.own (H.length+(p+1+1)) 0 (g.up node pl).length 2 (g.up node pl).length],151,0,true⟩::L) (q:=H.length+(p+1+1)) (v:=(g.up node pl).length) (by have:=Qd hp; simp; omega) (l:=g.up node pl) (by omega);rw[hset,hset,hL]at h71;refine Qf h71 ?_;simp -implicitDefEqProofs;refine Qg 3 hcl rfl ?_;have hpl:=Qd hp;simp[hpl,QcB,Qb8,VF];exact VB (by rw[Qb8,List.length_reverse]; omega)
end
theorem Qhn (l:List (Int×Int)):(wv l).vd=true/\(wv l).ug=wv l/\(wv l).isSl=true/\(wv l).slen=l.length/\(wv l).isCell=true/\(wv l).flat=[wv l]:=by
 unfold wv;split
 . rename_i h; subst h; exact⟨rfl,rfl,rfl,rfl,rfl,rfl⟩
 . exact⟨rfl,rfl,rfl,rfl,rfl,rfl⟩
theorem QpF {l:List (Int×Int)} (h:l≠[]):wv l=.slc (Qx l) l.length:=Wa h
section
variable {H:Ws} {g:Gm} {a b:List (Int×Int)}
set_option maxRecDepth 10000 in
theorem Qus (hl:a.length<=100000) (hab:a.length=b.length) {N:Nat} {K:Wr}
 (hret:a≠b->∀ env,env.get 4=bl false->K .ret env H) (hexit:a=b->∀ env,K (.exit 0) env H) :
 ∀ (n i:Nat) (env:Env),i+n=a.length->(∀ k (h:k<a.length),k<i->a[k]=b[k]'(by omega))->env.get 0=wv a->env.get 1=wv b->env.get 12=i64 a.length->env.get 13=i64 i ->
  LI Tryz.prog N Qb Qh6 env H K:=by
 intro n
 induction n with
 |zero =>
  intro i env hi hp h0 h1 h12 h13;refine Qc hm Qh6.eq_1 ?_;have e:i=a.length:=by omega
  subst e;simp -implicitDefEqProofs[h12,h13];exact hexit (List.ext_getElem hab λk h1 h2=>hp k h1 h1) _
 |succ n ih =>
  intro i env hi hp h0 h1 h12 h13;refine Qc hm Qh6.eq_1 ?_;have hlt:i<a.length:=by omega
  have hlt':i<b.length:=by omega
  have ha:a≠[]:=λe=>by subst e; simp at hlt
  have hb:b≠[]:=λe=>by subst e; simp at hlt'
  have w1:IntKind.i64.wrap ((i:Int)+1)=((i+1:Nat):Int):=QaB (by omega);have f1:=QpF ha; have f2:=QpF hb;simp -implicitDefEqProofs[h0,h1,h12,h13,f1,f2,hlt,hlt',Qbo hlt,Qbo hlt',Qgc hlt,QfO hlt,Qgc hlt',QfO hlt'];by_cases hc:a[i]=b[i]
  . rw[Wa (by rw[hc]; simp)];rw[w1];refine ih (i+1) _ (by omega) ?_ ?_ ?_ ?_ ?_
    rotate_left
    . simp[f1]
    . simp[f2]
    . simp
    . simp
    intro k hk hki;by_cases e:k=i
    . subst e; exact hc
    . exact hp k hk (by omega)
  . rw[Wb (by
     by_cases h1:a[i].1=b[i].1
     . exact .inr λh2=>hc (Prod.ext h1 h2)
     . exact .inl h1)]
    exact hret (λe=>hc (by subst e; rfl)) _ (by simp)
theorem QvC (hl:a.length<=100000):Ok Tryz.prog 141 [wv a,wv b] H (.ret (bl (decide (a=b)))) H:=by
 obtain⟨v1,v2,v3,v4,v5,v6⟩:=Qhn a;obtain⟨u1,u2,u3,u4,u5,u6⟩:=Qhn b;refine Ql hm Tryz.func141 c141 (by simp) λhcl => ?_;by_cases hab:a.length=b.length
 . simp -implicitDefEqProofs[QkV,QjA,v1,v2,v3,v4,u1,u2,u3,u4,hab];refine Qus (a:=a) (b:=b) hl hab (λhne env h4 => ?_) (λhe env => ?_) a.length 0 _ (by omega) (by omega) (by simp) (by simp) (by simp[hab]) (by simp)
   . simp -implicitDefEqProofs[h4,hne];exact Qn
   . simp -implicitDefEqProofs[he];exact Qn
 . simp -implicitDefEqProofs[QkV,QjA,v1,v2,v3,v4,u1,u2,u3,u4,show ¬ ((a.length:Int)=b.length)by omega,hab];have:a≠b:=λe=>hab (by rw[e]);simp[this];exact Qn
theorem QnP (hl:a.length<=100000):Ok Tryz.prog 116 [wv a,wv b] H (.ret (bl (decide (a=b)))) H:=by
 obtain⟨v1,v2,v3,v4,v5,v6⟩:=Qhn a;obtain⟨u1,u2,u3,u4,u5,u6⟩:=Qhn b;refine Ql hm Tryz.func116 c116 (by simp) λhcl => ?_;simp -implicitDefEqProofs[i116,r116,v1,v2,v3,v4,u1,u2,u3,u4];refine Qf (QvC hl) ?_;simp -implicitDefEqProofs;exact Qn
end
structure Fl where
 k:Int
 n:Int
 i:Int
 o:Int
deriving DecidableEq
def Fl.cells (f:Fl):Wt:=[i64 f.k,i64 f.n,i64 f.i,i64 f.o]
def Qcr (G G':Ws):Prop:=∀ (j:Nat) (o:AO),G[j]? = some o->o.ty=3\/o.ty=136->G'[j]? = some o
theorem Qcr.refl (G:Ws):Qcr G G:=λ_ _ h _=>h
theorem Qcr.trans {G G' G'':Ws} (h:Qcr G G') (h':Qcr G' G''):Qcr G G'':=λj o ho ht=>h' j o (h j o ho ht) ht
theorem Qcr.app (G:Ws) (L:Ws):Qcr G (G++L):=λj o ho _=>by rw[Vd (Qd ho)]; exact ho
structure Rep {τ:Type} (rp:SV) (b0:Nat) (R:Nat->Ws->τ->Prop) (rb:τ->Fl->Bool) (rn:τ->Fl->τ):Prop where
 vd:rp.vd=true
 ug:rp.ug=rp
 cell:rp.isCell=true
 flat:rp.flat=[rp]
 call:∀ c G s f,R (c+1) G s->Qdj Tryz.prog rp [.agg f.cells] G λout G'=>out=.ret (bl (rb s f))/\R c G' (rn s f)/\Qcr G G'
 app:∀ c G s o,R c G s->R c (G++[o]) s
 put:∀ c G s j o o',R c G s->G[j]? = some o->b0<=j->o.ty=3->R c (G.set j o') s
 len:∀ c G s,R c G s->b0<=G.length
 dec:∀ c G s,R (c+1) G s->R c G s
theorem Rep.decn {τ:Type} {rp:SV} {b0:Nat} {R:Nat->Ws->τ->Prop} {rb:τ->Fl->Bool} {rn:τ->Fl->τ} (h:Rep rp b0 R rb rn):∀ {k c:Nat} {G:Ws} {s:τ},R (k+c) G s->R c G s
 |0,c,G,s,hr=>by simpa using hr
 |k+1,c,G,s,hr=>h.decn (k:=k) (h.dec _ _ _ (by rw[show k+c+1=k+1+c by omega]; exact hr))
section
variable {τ:Type} {rp:SV} {b0:Nat} {R:Nat->Ws->τ->Prop} {rb:τ->Fl->Bool} {rn:τ->Fl->τ} {g:Gm}
structure SkI (g:Gm) (rp:SV) (info:Int) (bs bi:Nat) (G:Ws):Prop where
 s:G[bs]? = some ⟨[g.wp,rp],136,0,true⟩
 i:G[bi]? = some ⟨[i64 info],3,0,true⟩
theorem SkI.keep {info:Int} {bs bi:Nat} {G G':Ws} (h:SkI g rp info bs bi G) (hk:Qcr G G'):SkI g rp info bs bi G':=⟨hk _ _ h.s (.inr rfl),hk _ _ h.i (.inl rfl)⟩
theorem SkI.cs {info:Int} {bs bi:Nat} {G:Ws} (h:SkI g rp info bs bi G):Qe G bs 0=[g.wp,rp]:=Qaw h.s rfl
theorem SkI.ci {info:Int} {bs bi:Nat} {G:Ws} (h:SkI g rp info bs bi G):Qe G bi 0=[i64 info]:=Qaw h.i rfl
def dpn (g:Gm) (info:Int) (d:Int) (k:Nat):Int:=if QbS g k=info then k else d
def DpI (g:Gm) (R:Nat->Ws->τ->Prop) (rp:SV) (info:Int) (bs bi bd c:Nat) (s:τ) (_:Nat) (G:Ws) (d:Int):Prop :=
 R c G s/\SkI g rp info bs bi G/\G[bd]? = some ⟨[i64 d],3,0,true⟩/\bd≠bs/\bd≠bi
set_option maxRecDepth 10000 in
theorem Qrx (hR:Rep rp b0 R rb rn) (hn:g.ns.length<=2000) {info:Int} {bs bi bd c:Nat} (hbd:b0<=bd) {s:τ} {m:Nat} {G:Ws} {d:Int} (hI:DpI g R rp info bs bi bd c s m G d) {k:Nat} (hk:k<g.ns.length) (a:Int) (m':Nat) :
 OkP Tryz.prog 115 [i64 k,i64 a,.ptr (.own bs 0 0 0 0) 0,.ptr (.own bi 0 0 0 0) 0,.ptr (.own bd 0 0 0 0) 0] G λout G'=>out=.ret (bl (decide (dpn g info d k<0)))/\DpI g R rp info bs bi bd c s m' G' (dpn g info d k):=by
 obtain⟨h1,h2,h3,h4,h5⟩:=hI;have hinf:QbS g k=g.ns[k].i:=by unfold QbS; rw[Vb hk]
 have hd:Qe G bd 0=[i64 d]:=Qaw h3 rfl;refine QaY hm Tryz.func115 c115 (by simp) λhcl => ?_;by_cases hi:g.ns[k].i=info
 . have e:dpn g info d k=k:=by unfold dpn; rw[Wb (by rw[hinf]; exact hi)]
   rw[e];have hst:∀ f:AO->AO,Ab.setObj G bd f=G.set bd (f ⟨[i64 d],3,0,true⟩):=λf=>QS h3 f;have hlt:=Qd h3;have hc2:Qe (G.set bd (⟨[i64 k],3,0,true⟩:AO)) bd 0=[i64 k]:=Qaw (o:=⟨[i64 k],3,0,true⟩) (Vh hlt) rfl;simp -implicitDefEqProofs[Qld,Qk9,Gm.wp,sl,hk,h2.cs,h2.ci,hd,Qic hk,QaF,hi,hst,hc2];refine⟨by omega,_,_,⟨rfl,hR.put _ _ _ _ _ _ h1 h3 hbd rfl,⟨?_,?_⟩,Vh hlt,h4,h5⟩,Qn⟩
   . rw[Ve h4]; exact h2.s
   . rw[Ve h5]; exact h2.i
 . have e:dpn g info d k=d:=by unfold dpn; rw[Wa (by rw[hinf]; exact hi)]
   rw[e];simp -implicitDefEqProofs[Qld,Qk9,Gm.wp,sl,hk,h2.cs,h2.ci,hd,Qic hk,QaF,hi];exact⟨by omega,_,_,⟨rfl,h1,h2,h3,h4,h5⟩,Qn⟩
theorem QkC {pl:Int}:∀ (f node:Nat) (l:List (Int×Int)),(abv g pl (λ_ _ _=>true) (λl k a=>l++[(QbS g k,a)]) f node l).length<=l.length+f
 |0,node,l=>by simp[abv]
 |f+1,node,l=>by
  unfold abv;split
  . omega
  . split
    . omega
    . split
      . rw[Wb rfl];refine YO (QkC (pl:=pl) f _ _) ?_;simp only[Vt,YX];omega
      . have:=QkC (pl:=pl) f (gi g.wk.2.P node).toNat l;omega
theorem Qjo {node:Nat} {pl:Int}:(g.way node pl).length<=g.ns.length:=by
 unfold Gm.way Gm.up;have:=QkC (g:=g) (pl:=pl) g.ns.length node [];simpa using this
def Gm.deep (g:Gm) (node:Nat) (pl info:Int):Int:=abv g pl (λd k _=>decide (dpn g info d k<0)) (λd k _=>dpn g info d k) g.ns.length node (-1)
def Qbz (g:Gm) (rb:τ->Fl->Bool) (rn:τ->Fl->τ) (info pl n0:Int) (first:List (Int×Int)):List Int->τ->Bool×τ
 |[],s=>(true,s)
 |v::r,s =>
  let d:=g.deep v.toNat pl info
  if 0<=d/\rb s ⟨1,v,info,d⟩=false then(false,rn s ⟨1,v,info,d⟩)else
  let s1:=if 0<=d then rn s ⟨1,v,info,d⟩else s
  if g.way v.toNat pl=first then Qbz g rb rn info pl n0 first r s1 else
  if rb s1 ⟨2,v,info,n0⟩=true then Qbz g rb rn info pl n0 first r (rn s1 ⟨2,v,info,n0⟩)else(false,rn s1 ⟨2,v,info,n0⟩)
set_option maxRecDepth 10000 in
theorem QrH (hW:Wg g) (hR:Rep rp b0 R rb rn) {info pl n0:Int} {bs bi:Nat} {nodes:List Int} {first:List (Int×Int)} (hn0:nodes.head? = some n0) (hns:∀ v∈nodes,0<=v/\v<g.ns.length) (hnl:nodes.length<=2000) (hfl:first.length<=2000)
 {N:Nat} {K:Wr} {Q:Bool×τ}
 {c:Nat} (hret:Q.1=false->∀ env G,R c G Q.2->env.get 6=bl false->K .ret env G) (hexit:Q.1=true->∀ env G,R c G Q.2->K (.exit 0) env G) :
 ∀ (n i:Nat) (env:Env) (G:Ws) (s:τ),i+n=nodes.length->R (2*n+c) G s->SkI g rp info bs bi G->Qbz g rb rn info pl n0 first (nodes.drop i) s=Q ->
  env.get 2=.slc (Qa nodes) nodes.length->env.get 3=.ptr (.own bs 0 0 0 0) 0->env.get 4=.ptr (.own bi 0 0 0 0) 0->env.get 7=i64 pl->env.get 8=wv first->env.get 29=.slc (Qa nodes) nodes.length->env.get 30=i64 nodes.length->env.get 31=i64 i ->
  LI Tryz.prog N Qb Qid env G K:=by
 have hgn:=hW.gd.n;have hwp:g.wp.vd=true/\g.wp.ug=g.wp/\g.wp.flat=[g.wp]/\g.wp.isCell=true:=⟨rfl,rfl,rfl,rfl⟩;intro n
 induction n with
 |zero =>
  intro i env G s hi hRG hS hQ h2 h3 h4 h7 h8 h29 h30 h31;refine Qc hm Qid.eq_1 ?_;have e:i=nodes.length:=by omega
  subst e;rw[Yt]at hQ;subst hQ;simp -implicitDefEqProofs[h30,h31];exact hexit rfl _ _ (by simpa[Qbz]using hRG)
 |succ n ih =>
  intro i env G s hi hRG hS hQ h2 h3 h4 h7 h8 h29 h30 h31;refine Qc hm Qid.eq_1 ?_;have hlt:i<nodes.length:=by omega
  have w1:IntKind.i64.wrap ((i:Int)+1)=((i+1:Nat):Int):=QaB (by omega);have hv:=hns _ (Vf hlt);have hvn:nodes[i]=((nodes[i].toNat:Nat):Int):=by omega
  rw[Vu hlt]at hQ;unfold Qbz at hQ;have hpos:0<nodes.length:=by omega
  have hhead:(Qa nodes).head? = some (i64 n0):=by
   cases hc:nodes with
   |nil=>rw[hc]at hpos; simp at hpos
   |cons y r=>rw[hc]at hn0; simp at hn0; subst hn0; rfl
  have hbs:=Qd hS.s;have hbi:=Qd hS.i;simp -implicitDefEqProofs[h2,h3,h4,h7,h8,h29,h30,h31,hlt,Qd1 _ hbs,Qd1 _ hbi,hS.cs,hS.ci,hwp.1,hwp.2.1];refine⟨by omega,?_⟩;have h67:=QpG (g:=g) (σ:=Int) (Inv:=DpI g R rp info bs bi G.length (2*n+c+1+1) s) (vf:=.fn (.func 115) [] [.ptr (.own bs 0 0 0 0) 0,.ptr (.own bi 0 0 0 0) 0,.ptr (.own G.length 0 0 0 0) 0]) (nb:=λd k _=>decide (dpn g info d k<0)) (nx:=λd k _=>dpn g info d k) (pl:=pl) hW ⟨rfl,rfl⟩
   (λm G s k a hkm hm' hI=>QjY (by simpa using Qrx hR hgn (hR.len _ _ _ hRG) hI (by omega) a k))
   (λm G s o hI=>⟨hR.app _ _ _ _ hI.1,hI.2.1.keep (Qcr.app _ _),by rw[Vd (Qd hI.2.2.1)]; exact hI.2.2.1,hI.2.2.2⟩)
   (λm k G s hkm hI=>hI) (G:=G++[⟨[i64 (-1)],3,0,true⟩]) (s := -1) (node:=nodes[i].toNat) (by omega)
   ⟨hR.app _ _ _ _ (by rw[show 2*n+c+1+1=2*(n+1)+c by omega]; exact hRG),hS.keep (Qcr.app _ _),by simp,by omega,by omega⟩
  rw[<-hvn]at h67;refine Q4 h67 (λout G2 hP => ?_);obtain⟨rfl,m',hR2,hS2,hd2,hb1,hb2⟩:=hP;have hdeep:abv g pl (λd k _=>decide (dpn g info d k<0)) (λd k _=>dpn g info d k) g.ns.length nodes[i].toNat (-1)=g.deep nodes[i].toNat pl info:=rfl;rw[hdeep]at hd2;simp only at hQ;generalize hgd:g.deep nodes[i].toNat pl info=d at hd2 hQ;have hcd:Qe G2 G.length 0=[i64 d]:=Qaw hd2 rfl;by_cases h0:0<=d
  . simp -implicitDefEqProofs[h2,h3,h4,h7,h8,h29,h30,h31,hcd,h0,hS2.cs,hS2.ci,hR.vd,hR.ug];refine Qjm (hR.call _ _ _ ⟨1,nodes[i],info,d⟩ hR2) (λout G3 hP => ?_);obtain⟨rfl,hR3,hK3⟩:=hP;have hS3:=hS2.keep hK3
    cases hb:rb s ⟨1,nodes[i],info,d⟩with
    |false =>
     rw[Wb ⟨h0,hb⟩]at hQ;subst hQ;simp -implicitDefEqProofs;exact hret rfl _ _ (hR.decn (k:=2*n+1) (by rw[show 2*n+1+c=2*n+c+1 by omega]; exact hR3)) (by simp)
    |true =>
     rw[Wa (by rw[hb]; simp),Wb h0]at hQ;simp -implicitDefEqProofs[h2,h3,h4,h7,h8,h29,h30,h31,hS3.cs,hS3.ci,hR.vd,hR.ug,hwp.1,hwp.2.1];have h50:=QjF (H:=G3) hW (node:=nodes[i].toNat) (by omega) pl;rw[<-hvn]at h50;refine Qf h50 ?_;simp -implicitDefEqProofs[h8];refine Qf (QnP (a:=g.way nodes[i].toNat pl) (b:=first) (by have:=Qjo (g:=g) (node:=nodes[i].toNat) (pl:=pl); omega)) ?_
     by_cases hw:g.way nodes[i].toNat pl=first
     . rw[Wb hw]at hQ;simp -implicitDefEqProofs[hw,h31];rw[w1];refine ih (i+1) _ _ _ (by omega) (hR.dec _ _ _ (by rw[show 2*n+c+1=(2*n+c)+1 by omega]at hR3; exact hR3)) hS3 hQ ?_ ?_ ?_ ?_ ?_ ?_ ?_ ?_
       . simp[h2]
       . simp[h3]
       . simp[h4]
       . simp[h7]
       . simp[h8]
       . simp[h29]
       . simp[h30]
       . simp
     . rw[Wa hw]at hQ;simp -implicitDefEqProofs[hw,h2,h3,h4,hS3.cs,hS3.ci,hR.vd,hR.ug,hhead];refine⟨hpos,hpos,?_⟩;refine QmK (hR.call _ _ _ ⟨2,nodes[i],info,n0⟩ hR3) (λout G4 hP => ?_);obtain⟨rfl,hR4,hK4⟩:=hP;have hS4:=hS3.keep hK4
       cases hb2:rb (rn s ⟨1,nodes[i],info,d⟩) ⟨2,nodes[i],info,n0⟩with
       |true =>
        rw[hb2,Wb rfl]at hQ;simp -implicitDefEqProofs[h2,h3,h4,hS4.cs,hS4.ci,hR.vd,hR.ug,hhead,h31,hpos];rw[w1];refine ih (i+1) _ _ _ (by omega) hR4 hS4 hQ ?_ ?_ ?_ ?_ ?_ ?_ ?_ ?_
        . simp[h2]
        . simp[h3]
        . simp[h4]
        . simp[h7]
        . simp[h8]
        . simp[h29]
        . simp[h30]
        . simp
       |false =>
        rw[hb2,Wa (by simp)]at hQ;subst hQ;simp -implicitDefEqProofs[h2,h3,h4,hS4.cs,hS4.ci,hR.vd,hR.ug,hhead,hpos];exact hret rfl _ _ (hR.decn (k:=2*n) hR4) (by simp)
  . rw[Wa (λh=>h0 h.1),Wa h0]at hQ;simp -implicitDefEqProofs[h2,h3,h4,h7,h8,h29,h30,h31,hcd,h0,hS2.cs,hS2.ci,hR.vd,hR.ug,hwp.1,hwp.2.1];have h50:=QjF (H:=G2) hW (node:=nodes[i].toNat) (by omega) pl;rw[<-hvn]at h50;refine Qf h50 ?_;simp -implicitDefEqProofs[h8];refine Qf (QnP (a:=g.way nodes[i].toNat pl) (b:=first) (by have:=Qjo (g:=g) (node:=nodes[i].toNat) (pl:=pl); omega)) ?_
    by_cases hw:g.way nodes[i].toNat pl=first
    . rw[Wb hw]at hQ;simp -implicitDefEqProofs[hw,h31];rw[w1];refine ih (i+1) _ _ _ (by omega) (hR.dec _ _ _ (hR.dec _ _ _ hR2)) hS2 hQ ?_ ?_ ?_ ?_ ?_ ?_ ?_ ?_
      . simp[h2]
      . simp[h3]
      . simp[h4]
      . simp[h7]
      . simp[h8]
      . simp[h29]
      . simp[h30]
      . simp
    . rw[Wa hw]at hQ;simp -implicitDefEqProofs[hw,h2,h3,h4,hS2.cs,hS2.ci,hR.vd,hR.ug,hhead];refine⟨hpos,hpos,?_⟩;refine QmK (hR.call _ _ _ ⟨2,nodes[i],info,n0⟩ (hR.dec _ _ _ hR2)) (λout G4 hP => ?_);obtain⟨rfl,hR4,hK4⟩:=hP;have hS4:=hS2.keep hK4
      cases hb2:rb s ⟨2,nodes[i],info,n0⟩with
      |true =>
       rw[hb2,Wb rfl]at hQ;simp -implicitDefEqProofs[h2,h3,h4,hS4.cs,hS4.ci,hR.vd,hR.ug,hhead,h31,hpos];rw[w1];refine ih (i+1) _ _ _ (by omega) hR4 hS4 hQ ?_ ?_ ?_ ?_ ?_ ?_ ?_ ?_
       . simp[h2]
       . simp[h3]
       . simp[h4]
       . simp[h7]
       . simp[h8]
       . simp[h29]
       . simp[h30]
       . simp
      |false =>
       rw[hb2,Wa (by simp)]at hQ;subst hQ;simp -implicitDefEqProofs[h2,h3,h4,hS4.cs,hS4.ci,hR.vd,hR.ug,hhead,hpos];exact hret rfl _ _ (hR.decn (k:=2*n) hR4) (by simp)
set_option maxRecDepth 10000 in
theorem ok87 (hW:Wg g) (hR:Rep rp b0 R rb rn) {info:Nat} (hinfo:info<g.is.length) {nodes:List Int} {n0:Int} (hn0:nodes.head? = some n0) (hns:∀ v∈nodes,0<=v/\v<g.ns.length) (hnl:nodes.length<=2000) {G:Ws} {s:τ} {c:Nat} (hRG:R (2*nodes.length+c) G s) :
 OkP Tryz.prog 87 [.agg [g.wp,rp],i64 info,.slc (Qa nodes) nodes.length] G λout G'=>out=.ret (bl (Qbz g rb rn info g.is[info].1 n0 (g.way n0.toNat g.is[info].1) nodes s).1)/\R c G' (Qbz g rb rn info g.is[info].1 n0 (g.way n0.toNat g.is[info].1) nodes s).2:=by
 have hgn:=hW.gd.n;have hwp:g.wp.vd=true/\g.wp.ug=g.wp/\g.wp.flat=[g.wp]/\g.wp.isCell=true:=⟨rfl,rfl,rfl,rfl⟩;have hpos:0<nodes.length:=by cases nodes with|nil=>simp at hn0|cons y r=>simp
 have hhead:(Qa nodes).head? = some (i64 n0):=by
  cases hc:nodes with
  |nil=>rw[hc]at hpos; simp at hpos
  |cons y r=>rw[hc]at hn0; simp at hn0; subst hn0; rfl
 have hv:=hns n0 (List.mem_of_head? hn0);have hvn:n0=((n0.toNat:Nat):Int):=by omega
 refine QaY hm Tryz.func87 c87 (by simp) λhcl => ?_;simp -implicitDefEqProofs[i87,r87,Gm.wp,sl,hR.vd,hR.ug,hR.flat,hR.cell,hhead,hpos,hinfo,Qj9 hinfo,Qbo hinfo,Qb8];refine⟨by omega,?_⟩;have h50:=λH=>QjF (H:=H) hW (node:=n0.toNat) (by omega) g.is[info].1;rw[<-hvn]at h50;refine Q3 (λ_=>h50 _) ?_;simp -implicitDefEqProofs;refine QrH (g:=g) (R:=R) (rb:=rb) (rn:=rn) hW hR (info:=info) (pl:=g.is[info].1) (n0:=n0) (bs:=G.length) (bi:=G.length+1) (nodes:=nodes) (first:=g.way n0.toNat g.is[info].1) hn0 hns hnl (by have:=Qjo (g:=g) (node:=n0.toNat) (pl:=g.is[info].1); omega)
  (c:=c) (λhQ env G' hR' h6 => ?_) (λhQ env G' hR' => ?_) nodes.length 0 _ _ s (by omega) (by have:=hR.app _ _ _ ⟨[g.wp,rp],136,0,true⟩ hRG; have:=hR.app _ _ _ ⟨[i64 info],3,0,true⟩ this; rw[VC]at this; exact this) ⟨by simp[Gm.wp,sl],by simp⟩ rfl
  (by simp) (by simp) (by simp) (by simp) (by simp) (by simp) (by simp) (by simp)
 . simp -implicitDefEqProofs[h6];exact⟨_,_,⟨by rw[show Qbz g rb rn info g.is[info].1 n0 (g.way n0.toNat g.is[info].1) nodes s=Qbz g rb rn info g.is[info].1 n0 (g.way n0.toNat g.is[info].1) (nodes.drop 0) s from rfl,hQ],hR'⟩,Qn⟩
 . simp -implicitDefEqProofs;exact⟨_,_,⟨by rw[show Qbz g rb rn info g.is[info].1 n0 (g.way n0.toNat g.is[info].1) nodes s=Qbz g rb rn info g.is[info].1 n0 (g.way n0.toNat g.is[info].1) (nodes.drop 0) s from rfl,hQ],hR'⟩,Qn⟩
end
def rpP (n:Nat):SV:=.fn (.func 85) [] [.ptr (.own (n+2) 0 0 0 0) 0]
def RP (g:Gm) (H:Ws) (_:Nat) (G:Ws) (b:Bool):Prop:=∃ L,G=H++L/\L[2]? = some ⟨[bl b],4,0,true⟩/\L[3]? = some ⟨[g.wp,rpP H.length],136,0,true⟩
def nxP (_:Bool) (f:Fl):Bool:=decide (f.k≠2)
section
variable {H:Ws} {g:Gm}
theorem set_app {G:Ws} {j:Nat} (hj:H.length<=j) {L:Ws} (hG:G=H++L) (o:AO):G.set j o=H++L.set (j-H.length) o:=by
 subst hG;rw[YG _ _ hj]
theorem ok85 {c c':Nat} {G:Ws} {b:Bool} (f:Fl) (hI:RP g H c G b) :
 OkP Tryz.prog 85 [.agg f.cells,.ptr (.own (H.length+2) 0 0 0 0) 0] G λout G'=>out=.ret (bl (nxP b f))/\RP g H c' G' (nxP b f)/\Qcr G G':=by
 obtain⟨L,rfl,h2,h3⟩:=hI;refine QaY hm Tryz.func85 c85 (by simp) λhcl => ?_;have hl2:=Qd h2;have e1:∀ X,Qe (L++X) 2 0=[bl b]:=λX=>Qaw (o:=⟨[bl b],4,0,true⟩) (by rw[Vd hl2]; exact h2) rfl;have e2:∀ (c:Wt) X,Qe (L.set 2 (⟨c,4,0,true⟩:AO)++X) 2 0=c:=λc X=>Qaw (o:=⟨c,4,0,true⟩) (by rw[Vd (by simpa using hl2),Vh hl2]) rfl;simp -implicitDefEqProofs[i85,r85,Fl.cells,Qih h2,e1,e2];refine⟨_,_,⟨?_,⟨_,rfl,?_,?_⟩,λj o ho ht => ?_⟩,Qn⟩
 . simp[nxP]
 . rw[Vd (by simpa using hl2),Vh hl2]; simp[nxP]
 . rw[Vd (by simpa using Qd h3),Ve (by omega)]; exact h3
 . by_cases hj:j<H.length
   . rw[Vd hj]at ho ⊢; exact ho
   . rw[Vg (by omega)]at ho ⊢;by_cases e:2=j-H.length
     . rw[<-e,h2]at ho; cases ho; simp at ht
     . rw[Vd (by simpa using Qd ho),Ve e]; exact ho
theorem repP:Rep (rpP H.length) H.length (RP g H) nxP nxP where
 vd:=rfl
 ug:=rfl
 cell:=rfl
 flat:=rfl
 call:=λc G s f hI=>QjY (by simpa using ok85 f hI)
 app:=λc G s o ⟨L,hG,h2,h3⟩=>⟨L++[o],by rw[hG,VC],by rw[Vd (Qd h2)]; exact h2,by rw[Vd (Qd h3)]; exact h3⟩
 put:=λc G s j o o' ⟨L,hG,h2,h3⟩ ho hj ht=>by
  subst hG;rw[Vg hj]at ho;refine⟨L.set (j-H.length) o',by rw[YG _ _ hj],?_,?_⟩
  . rw[Ve (λe=>by rw[e,h2]at ho; cases ho; cases ht)]; exact h2
  . rw[Ve (λe=>by rw[e,h3]at ho; cases ho; cases ht)]; exact h3
 len:=λc G s ⟨L,hG,_⟩=>by subst hG; simp
 dec:=λc G s h=>h
def QcR {τ:Type} (g:Gm) (rb:τ->Fl->Bool) (rn:τ->Fl->τ) (sel:Int->Bool) (stop:Bool):Nat->Nat->τ->τ
 |0,_,s=>s
 |f+1,i,s =>
   match g.sets[i]?,g.is[i]? with
   |some nodes,some inf =>
     if sel inf.1=true then
       (let r:=Qbz g rb rn i inf.1 (nodes.headD 0) (g.way (nodes.headD 0).toNat inf.1) nodes s
        if stop=true/\r.1=false then r.2 else QcR g rb rn sel stop f (i+1) r.2)
     else QcR g rb rn sel stop f (i+1) s
   |_,_=>s
def Gm.perf (g:Gm) (pl:Int):Bool:=QcR g nxP nxP (λp=>decide (p=pl)) true g.is.length 0 true
theorem Wg.ne (h:Wg g):∀ k (hk:k<g.sets.length),g.sets[k]≠[]:=by
 intro k hk e;have hse:=h.se;rw[Qos]at hse;unfold Gm.setsR at hse;split at hse
 . cases hse
 . split at hse
   . cases hse
   . rename_i h1;exact h1 (by rw[<-e]; exact Vf hk)
theorem Qj8 {s:Nat}:∀ {l:List Nd} {o:Nat} {a:Int},a∈occ s l o->a<o+l.length
 |[],o,a,h=>by simp[occ]at h
 |x::r,o,a,h=>by
  unfold occ at h;split at h
  . rcases Vi.1 h with rfl|h
    . simp; omega
    . have:=Qj8 h; simp; omega
  . have:=Qj8 h; simp; omega
theorem QnH {s:Nat}:∀ {l:List Nd} {o:Nat},(occ s l o).length<=l.length
 |[],o=>by simp[occ]
 |x::r,o=>by
  unfold occ;have:=QnH (s:=s) (l:=r) (o:=o+1);split<;>simp<;>omega
theorem Qie {k:Nat} (hk:k<g.sets.length):g.sets[k]=occ k g.ns 0:=by
 have:=Qf4 (g:=g) (s:=k) (by rw[<-QbT]; exact hk)
 rwa [Vm,Vb hk,VQ]at this
theorem Qpm {k:Nat} (hk:k<g.sets.length) {v:Int} (hv:v∈g.sets[k]):0<=v/\v<g.ns.length:=by
 rw[Qie hk]at hv;exact⟨QiC hv,by have:=Qj8 hv; simpa using this⟩
theorem Qr4 {k:Nat} (hk:k<g.sets.length):g.sets[k].length<=g.ns.length:=by rw[Qie hk]; exact QnH
set_option maxRecDepth 10000 in
theorem QrO (hW:Wg g) {pl:Int} {N:Nat} {K:Wr} {Q:Bool}
 (hexit:∀ env L,L[2]? = some ⟨[bl Q],4,0,true⟩->env.get 9=.ptr (.own (H.length+2) 0 0 0 0) 0->K (.exit 0) env (H++L)) :
 ∀ (n i:Nat) (env:Env) (G:Ws) (s:Bool),i+n=g.is.length->RP g H 0 G s->QcR g nxP nxP (λp=>decide (p=pl)) true n i s=Q ->
  env.get 1=i64 pl->env.get 6=g.wp->env.get 9=.ptr (.own (H.length+2) 0 0 0 0) 0->env.get 10=.ptr (.own (H.length+3) 0 0 0 0) 0->env.get 34=g.setsV->env.get 35=i64 g.is.length->env.get 36=i64 i ->
  LI Tryz.prog N Qb QhY env G K:=by
 have hgi:=hW.gd.i;have hgn:=hW.gd.n;have hsl:g.sets.length=g.is.length:=QbT;intro n
 induction n with
 |zero =>
  intro i env G s hi hR hQ h1 h6 h9 h10 h34 h35 h36;refine Qc hm QhY.eq_1 ?_;have e:i=g.is.length:=by omega
  subst e;simp -implicitDefEqProofs[h35,h36];obtain⟨L,rfl,h2,h3⟩:=hR;simp only[QcR]at hQ;subst hQ;exact hexit _ L h2 (by simp[h9])
 |succ n ih =>
  intro i env G s hi hR hQ h1 h6 h9 h10 h34 h35 h36;refine Qc hm QhY.eq_1 ?_;have hlt:i<g.is.length:=by omega
  have hls:i<g.sets.length:=by omega
  have w1:IntKind.i64.wrap ((i:Int)+1)=((i+1:Nat):Int):=QaB (by omega);have hne:=hW.ne i hls;unfold QcR at hQ;rw[Vb hlt,Vb hls]at hQ;simp only at hQ;by_cases hp:g.is[i].1=pl
  . rw[Wb (by simpa using hp)]at hQ;obtain⟨L,rfl,h2,h3⟩:=id hR;have ec:Qe (H++L) (H.length+3) 0=[g.wp,rpP H.length]:=by rw[QdM]; exact Qaw h3 rfl
    simp -implicitDefEqProofs[h1,h6,h9,h10,h34,h35,h36,Gm.wp,sl,Gm.setsV,hlt,hls,Qe5 hls,Qfp hne,Qj9 hlt,Qb8,Qbo hlt,hp,ec];obtain⟨n0,hn0⟩:∃ n0,g.sets[i].head? = some n0:=by
     cases h:g.sets[i]with
     |nil=>exact(hne h).elim
     |cons y r=>exact⟨y,rfl⟩
    have hd0:g.sets[i].headD 0=n0:=by rw[Z4,hn0]; rfl
    have h48:=ok87 (rp:=rpP H.length) (R:=RP g H) hW repP hlt hn0 (λv hv=>Qpm hls hv) (by have:=Qr4 (g:=g) hls; omega) (c:=0) (show RP g H _ (H++L) s from hR);rw[hp]at h48;rw[hd0,hp]at hQ;refine Q4 (OkP.strip (by show OkP _ _ [.agg [g.wp,rpP H.length],i64 i,.slc (Qa g.sets[i]) g.sets[i].length] _ _; exact h48)) ?_;rintro out G' ⟨rfl,hR'⟩;generalize Qbz g nxP nxP i pl n0 (g.way n0.toNat pl) g.sets[i] s=q at hR' hQ;obtain⟨b,s'⟩:=q
    cases b with
    |false =>
     rw[Wb (by simp)]at hQ;subst hQ;simp -implicitDefEqProofs;obtain⟨L',rfl,h2',h3'⟩:=hR';exact hexit _ L' h2' (by simp[h9])
    |true =>
     rw[Wa (by simp)]at hQ;simp -implicitDefEqProofs[h36];rw[w1];refine ih (i+1) _ _ _ (by omega) hR' hQ ?_ ?_ ?_ ?_ ?_ ?_ ?_
     . simp[h1]
     . simp[h6,Gm.wp,sl]
     . simp[h9]
     . simp[h10]
     . simp[h34,Gm.setsV]
     . simp[h35]
     . simp
  . rw[Wa (by simpa using hp)]at hQ;simp -implicitDefEqProofs[h1,h6,h9,h10,h34,h35,h36,Gm.wp,sl,Gm.setsV,hlt,hls,Qe5 hls,Qfp hne,Qj9 hlt,Qb8,Qbo hlt,hp];rw[w1];refine ih (i+1) _ _ _ (by omega) hR hQ ?_ ?_ ?_ ?_ ?_ ?_ ?_
    . simp[h1]
    . simp[h6,Gm.wp,sl]
    . simp[h9]
    . simp[h10]
    . simp[h34,Gm.setsV]
    . simp[h35]
    . simp
def Gm.perfE (g:Gm) (pl:Int):Int:=if g.formE≠0 then g.formE else if pl<0\/g.pl<=pl then 2 else 0
def Gm.perfV (g:Gm) (pl:Int):Bool:=if g.perfE pl=0 then g.perf pl else false
set_option maxRecDepth 10000 in
theorem ok52 (pl:Int):Ok Tryz.prog 52 [.agg g.cells,i64 pl] H (.ret (.tup [bl (g.perfV pl),i64 (g.perfE pl)])) H:=by
 refine Ql hm Tryz.func52 c52 (by simp) λhcl => ?_;simp -implicitDefEqProofs[i52,r52,Gm.cells];have hh:=λH=>ok83 (H:=H) (g:=g);simp only[Gm.cells]at hh;refine Qf (hh _) ?_;by_cases h:g.formE=0
 . rw[Qqa h];have hW:=Qf7 h;have hp1:=hW.gd.p1;have hp4:=hW.gd.p4;have w2:IntKind.i64.wrap (g.pl-1)=g.pl-1:=Qj (by omega) (by omega);simp -implicitDefEqProofs[w2];refine Qf (Qf8 (IsI.own0 H _ 1 0 [pl] [] 3 rfl) (by simp) 0 (g.pl-1)) ?_;by_cases hp:pl<0\/g.pl-1<pl
   . have e:Q5 0 (g.pl-1) [pl]=2:=by rw[Qdv,Wb hp]
     have hE:g.perfE pl=2:=by unfold Gm.perfE; rw[Wa (by simpa using h),Wb (by omega)]
     rw[e];simp -implicitDefEqProofs;refine Qg 2 hcl rfl ?_;simp[Gm.perfV,hE]
   . have e:Q5 0 (g.pl-1) [pl]=0:=by rw[Qdv,Wa hp]
     have hE:g.perfE pl=0:=by unfold Gm.perfE; rw[Wa (by simpa using h),Wa (by omega)]
     rw[e];have hwp:g.wp.vd=true/\g.wp.ug=g.wp/\g.wp.flat=[g.wp]/\g.wp.isCell=true:=⟨rfl,rfl,rfl,rfl⟩;simp -implicitDefEqProofs[hwp.1,hwp.2.1,hwp.2.2.1,hwp.2.2.2];refine⟨by simp[Q9,Gm.wp],Qf (ok86 hW.gd) ?_⟩;simp -implicitDefEqProofs[Gm.setsV];refine QrO (g:=g) hW (pl:=pl) (Q:=g.perf pl) (λenv L h2 h9 => ?_) g.is.length 0 _ _ true (by omega) ⟨_,rfl,rfl,rfl⟩ rfl (by simp) (by simp) (by simp) (by simp) (by simp[Gm.setsV]) (by simp) (by simp);have ec:Qe (H++L) (H.length+2) 0=[bl (g.perf pl)]:=by rw[QdM]; exact Qaw h2 rfl
     simp -implicitDefEqProofs[h9,ec];refine Qg 2 hcl rfl ?_;simp[Gm.perfV,hE]
 . obtain⟨p,e,_⟩:=QqO h;rw[e];have hE:g.perfE pl=g.formE:=by unfold Gm.perfE; rw[Wb h]
   simp -implicitDefEqProofs[h];refine Qg 2 hcl rfl ?_;simp[Gm.perfV,hE,h]
end
def fls:List Fl->Wt
 |[]=>[]
 |x::r=>i64 x.k::i64 x.n::i64 x.i::i64 x.o::fls r
def fv (l:List Fl):SV:=if l=[]then nl else .slc (fls l) l.length
def nxF (l:List Fl) (f:Fl):List Fl:=l++[f]
section
variable {H:Ws} {g:Gm}
def Gm.flaws (g:Gm):List Fl:=QcR g (λ_ _=>true) nxF (λ_=>true) false g.is.length 0 []
end
def ws (l:List (Int×Int)):SV:=.slc (Qx l) l.length
theorem Qsl {l:List Int} {v:Int} (hinc:l.Pairwise (· < ·)) (hv:v∈l):∃ k,∃ h:k<l.length,l[k]=v/\Qcj v l=k/\∀ t (h:t<l.length),l[t]=v->t=k:=by
 obtain⟨k,hk,e⟩:=VG hv;have huniq:∀ t (h:t<l.length),l[t]=v->t=k:=λt ht h=>by
  rw[Yy]at hinc;rcases Ym t k with h1|h1|h1
  . have:=hinc t k ht hk h1; omega
  . exact h1
  . have:=hinc k t hk ht h1; omega
 refine⟨k,hk,e,?_,huniq⟩;have:l.findIdx? (· == v)=some k:=by
  rw[Zp];refine⟨hk,by simpa using e,λj hj => ?_⟩;intro h;have:=huniq j (by omega) (by simpa using h);omega
 unfold Qcj; rw[this]
section
variable {H:Ws} {g:Gm}
theorem Qfn {pl:Int} (hW:Wg g) {f node p:Nat} (hp:p<g.ns.length) (hP:gi g.wk.2.P node=p) {l:List (Int×Int)} :
 abv g pl (λ_ _ _=>true) (λl k a=>l++[(QbS g k,a)]) (f+1) node l=abv g pl (λ_ _ _=>true) (λl k a=>l++[(QbS g k,a)]) f p (if g.ns[p].k=2/\g.ns[p].p=pl then l++[(g.ns[p].i,Qcj node g.ns[p].nx)]else l):=by
 have hinf:QbS g p=g.ns[p].i:=by unfold QbS; rw[Vb hp]
 conv=>lhs; unfold abv
 rw[Wa (by omega),hP,show((p:Nat):Int).toNat=p by omega,Vb hp];simp only;by_cases h:g.ns[p].k=2/\g.ns[p].p=pl
 . rw[Wb h,Wb h,Wb trivial,hinf]
 . rw[Wa h,Wa h]
end
section
variable {H:Ws} {g:Gm} {a b:List (Int×Int)}
theorem Wg.ty (h:Wg g) {x:Nd} (hx:x∈g.ns) (hk:x.k=2):g.is[x.i.toNat]? = some (x.p,(x.nx.length:Int)):=by
 have hse:=h.se;unfold Gm.setsE at hse;by_cases hb:∃ x∈g.ns,x.tyBad g
 . rw[Wb hb]at hse; cases hse
 . by_cases h1:g.is[x.i.toNat]? = some (x.p,(x.nx.length:Int))
   . exact h1
   . exact(hb ⟨x,hx,hk,h1⟩).elim
def fr (l:List Fl):AO:=⟨fls l,133,l.length,true⟩
def fs (l:List Fl):SV:=.slc (fls l) l.length
end
section
variable {g:Gm}
def upf (g:Gm) (pl:Int) (f node:Nat) (l:List (Int×Int)):List (Int×Int):=abv g pl (λ_ _ _=>true) (λl k a=>l++[(QbS g k,a)]) f node l
theorem Qgy (hW:Wg g) {pl:Int} {f:Nat} {l:List (Int×Int)}:upf g pl (f+1) 0 l=l:=by
 unfold upf abv; rw[Wb (by rw[hW.wf.p0]; omega)]
theorem Qn9 (hW:Wg g) {pl:Int}:∀ (f node:Nat) (l:List (Int×Int)),node<f->node<g.ns.length->upf g pl f node l=l++upf g pl f node []
 |0,node,l,h,_=>by omega
 |f+1,node,l,h,hn=>by
  rcases Yu node with hz|hz
  . subst hz; rw[Qgy hW,Qgy hW]; simp
  . obtain⟨p,hp,k1,k2,k3⟩:=hW.wf.pf node hz hn;unfold upf;rw[Qfn hW hp k1,Qfn hW hp k1];have h1:=Qn9 hW (pl:=pl) f p;unfold upf at h1;by_cases hc:g.ns[p].k=2/\g.ns[p].p=pl
    . rw[Wb hc,Wb hc,h1 _ (by omega) hp,h1 ([]++_) (by omega) hp];simp
    . rw[Wa hc,Wa hc,h1 _ (by omega) hp]
theorem Qom (hW:Wg g) {pl:Int}:∀ (f f' node:Nat) (l:List (Int×Int)),node<f->node<f'->node<g.ns.length->upf g pl f node l=upf g pl f' node l
 |0,f',node,l,h,_,_=>by omega
 |f+1,0,node,l,_,h,_=>by omega
 |f+1,f'+1,node,l,h,h',hn=>by
  rcases Yu node with hz|hz
  . subst hz; rw[Qgy hW,Qgy hW]
  . obtain⟨p,hp,k1,k2,k3⟩:=hW.wf.pf node hz hn;unfold upf;rw[Qfn hW hp k1,Qfn hW hp k1];exact Qom hW f f' p _ (by omega) (by omega) hp
def Bad (g:Gm) (i:Nat):Prop:=∃ h:i<g.sets.length,∃ h':i<g.is.length,∃ v∈g.sets[i],g.way v.toNat g.is[i].1≠g.way (g.sets[i].headD 0).toNat g.is[i].1
theorem QoZ {i:Nat} {pl n0:Int} {first:List (Int×Int)}:∀ (l:List Int),Qbz g nxP nxP i pl n0 first l true=if ∃ v∈l,g.way v.toNat pl≠first then(false,false)else(true,true)
 |[]=>by simp[Qbz]
 |v::r=>by
  have e1:nxP true ⟨1,v,i,g.deep v.toNat pl i⟩=true:=by simp[nxP]
  have e2:∀ b,nxP b ⟨2,v,i,n0⟩=false:=λb=>by simp[nxP]
  unfold Qbz;simp only;rw[Wa (by rw[e1]; simp),e1];have e3:(if 0<=g.deep v.toNat pl i then true else true)=true:=by split<;>rfl
  rw[e3];by_cases hw:g.way v.toNat pl=first
  . rw[Wb hw,QoZ r];by_cases hx:∃ u∈r,g.way u.toNat pl≠first
    . obtain⟨u,hu,hh⟩:=hx;rw[Wb ⟨u,hu,hh⟩,Wb ⟨u,VI _ hu,hh⟩]
    . rw[Wa hx,Wa];rintro⟨u,hu,hh⟩;rcases Vi.1 hu with rfl|hu
      . exact hh hw
      . exact hx ⟨u,hu,hh⟩
  . rw[Wa hw,e2,Wa (by simp),Wb ⟨v,Z2,hw⟩]
theorem QmJ (hW:Wg g) {pl:Int}:∀ (n i:Nat),i+n=g.is.length->(QcR g nxP nxP (λp=>decide (p=pl)) true n i true=true↔∀ t,i<=t->(h:t<g.is.length)->g.is[t].1=pl->¬ Bad g t)
 |0,i,hi=>by
  simp only[QcR,true_iff];intro t h1 h2; omega
 |n+1,i,hi=>by
  have hlt:i<g.is.length:=by omega
  have hls:i<g.sets.length:=by rw[QbT]; exact hlt
  unfold QcR;rw[Vb hlt,Vb hls];simp only;have ih:=QmJ hW (pl:=pl) n (i+1) (by omega);by_cases hp:g.is[i].1=pl
  . rw[Wb (by simpa using hp),QoZ];by_cases hb:∃ v∈g.sets[i],g.way v.toNat g.is[i].1≠g.way (g.sets[i].headD 0).toNat g.is[i].1
    . rw[Wb hb];simp only[and_self,We];constructor
      . intro h; cases h
      . intro h; exact(h i (Vc _) hlt hp ⟨hls,hlt,hb⟩).elim
    . rw[Wa hb];rw[Wa (by simp),ih];constructor
      . intro h t h1 h2 h3;by_cases e:t=i
        . subst e; rintro⟨_,_,h4⟩; exact hb h4
        . exact h t (by omega) h2 h3
      . intro h t h1 h2 h3; exact h t (by omega) h2 h3
  . rw[Wa (by simpa using hp),ih];constructor
    . intro h t h1 h2 h3;by_cases e:t=i
      . subst e; exact(hp h3).elim
      . exact h t (by omega) h2 h3
    . intro h t h1 h2 h3; exact h t (by omega) h2 h3
end
end Go.Proofs.YtogjmpkehjfecaaGreatDoor.Rc
namespace Go.Proofs.YtogjmpkehjfecaaGreatDoor.Rc
open Go.Ab Go.Ab.Shr
structure TS where
 rnd:Int
 seed:Int
 A:Nat->List Int
 P:Nat->List Int
 S:Nat->List Int
 V:List Int
 R:List Int
 O:List Int
 ord:List Int
structure TC where
 M:List Int
 F:List Int
def pAo (H:Ws) (_g:Gm):Nat:=H.length
def pA (H:Ws) (_g:Gm) (i:Nat):Nat:=H.length+1+i
def pPo (H:Ws) (g:Gm):Nat:=H.length+1+g.is.length
def pP (H:Ws) (g:Gm) (i:Nat):Nat:=H.length+2+g.is.length+i
def pM (H:Ws) (g:Gm):Nat:=H.length+4+2*g.is.length
def pF (H:Ws) (g:Gm):Nat:=H.length+5+2*g.is.length
def pSo (H:Ws) (g:Gm):Nat:=H.length+7+2*g.is.length
def pS (H:Ws) (g:Gm) (i:Nat):Nat:=H.length+9+2*g.is.length+2*i
def pW (H:Ws) (g:Gm):Nat:=H.length+8+4*g.is.length
def pV (H:Ws) (g:Gm):Nat:=H.length+9+4*g.is.length
def pR (H:Ws) (g:Gm):Nat:=H.length+10+4*g.is.length
def pO (H:Ws) (g:Gm):Nat:=H.length+11+4*g.is.length
def pE (H:Ws) (g:Gm):Nat:=H.length+12+4*g.is.length
def QH (I:Nat) (p:Nat->Nat) (n:Nat->Nat) (ver:Nat):Wt:=(List.range I).map λi=>.own (p i) 0 (n i) 1 ver
def Qw (g:Gm) (H:Ws) (s:TS):Wt :=
 [i64 g.pl,.slc (nds g.ns) g.ns.length,.slc (Qx g.is) g.is.length,.own (pM H g) 0 g.ns.length 1 1,.own (pF H g) 0 g.is.length 1 1,i64 s.rnd,i64 s.seed,.own (pAo H g) 0 g.is.length 1 0,.own (pPo H g) 0 g.is.length 1 0,.own (pSo H g) 0 g.is.length 1 0,
  .own (pV H g) 0 g.ns.length 4 1,.own (pR H g) 0 g.ns.length 4 1,.own (pO H g) 0 g.ns.length 4 1]
def QbQ (g:Gm) (H:Ws) (s:TS):AO:=oI (Qw g H s) s.ord [] 73 0
def Gm.acts (g:Gm) (i:Nat):Nat:=((g.is.getD i (0,0)).2).toNat
structure TL (g:Gm) (c:TC) (s:TS):Prop where
 A:∀ i,i<g.is.length->(s.A i).length=g.acts i
 P:∀ i,i<g.is.length->(s.P i).length=g.acts i
 S:∀ i,i<g.is.length->(s.S i).length=g.acts i
 V:s.V.length=4*g.ns.length
 R:s.R.length=4*g.ns.length
 O:s.O.length=4*g.ns.length
 ord:s.ord.length=10
 M:c.M.length=g.ns.length
 F:c.F.length=g.is.length
structure TW (g:Gm) (H:Ws) (c:TC) (s:TS) (G:Ws):Prop where
 l:TL g c s
 len:G.length=pE H g
 low:∀ i,i<H.length->G[i]? = H[i]?
 cl:closed G
 w:G[pW H g]? = some (QbQ g H s)
 m:G[pM H g]? = some ⟨Qa c.M,3,1,true⟩
 f:G[pF H g]? = some ⟨Qa c.F,3,1,true⟩
 ao:G[pAo H g]? = some ⟨QH g.is.length (pA H g) g.acts 1,45,0,true⟩
 a:∀ i,i<g.is.length->G[pA H g i]? = some ⟨Qa (s.A i),3,1,true⟩
 po:G[pPo H g]? = some ⟨QH g.is.length (pP H g) g.acts 1,45,0,true⟩
 p:∀ i,i<g.is.length->G[pP H g i]? = some ⟨Qa (s.P i),3,1,true⟩
 so:G[pSo H g]? = some ⟨QH g.is.length (pS H g) g.acts 0,45,0,true⟩
 ss:∀ i,i<g.is.length->G[pS H g i]? = some ⟨Qa (s.S i),3,0,true⟩
 v:G[pV H g]? = some ⟨Qa s.V,105,1,true⟩
 r:G[pR H g]? = some ⟨Qa s.R,105,1,true⟩
 o:G[pO H g]? = some ⟨Qa s.O,105,1,true⟩
section
variable {g:Gm} {H G:Ws} {c:TC} {s:TS}
theorem TW.setV (h:TW g H c s G) {V:List Int} (hV:V.length=4*g.ns.length):TW g H c { s with V:=V } (G.set (pV H g) ⟨Qa V,105,1,true⟩):=by
 have hlt:=Qd h.v;have ne:∀ {j:Nat} {x:Option AO},pV H g≠j->G[j]? = x->(G.set (pV H g) ⟨Qa V,105,1,true⟩)[j]? = x:=λhn hx=>by rw[Ve hn]; exact hx
 constructor;case l=>exact⟨h.l.A,h.l.P,h.l.S,hV,h.l.R,h.l.O,h.l.ord,h.l.M,h.l.F⟩
 case len=>simpa using h.len
 case cl=>exact QcD h.cl _ (by simp)
 case v=>rw[Vh hlt]
 case low=>intro i hi; exact ne (by unfold pV; omega) (h.low i hi)
 case a=>intro i hi; exact ne (by unfold pV pA; omega) (h.a i hi)
 case p=>intro i hi; exact ne (by unfold pV pP; omega) (h.p i hi)
 case ss=>intro i hi; exact ne (by unfold pV pS; omega) (h.ss i hi)
 case w=>exact ne (by unfold pV pW; omega) h.w
 case m=>exact ne (by unfold pV pM; omega) h.m
 case f=>exact ne (by unfold pV pF; omega) h.f
 case ao=>exact ne (by unfold pV pAo; omega) h.ao
 case po=>exact ne (by unfold pV pPo; omega) h.po
 case so=>exact ne (by unfold pV pSo; omega) h.so
 case r=>exact ne (by unfold pV pR; omega) h.r
 case o=>exact ne (by unfold pV pO; omega) h.o
theorem TW.setR (h:TW g H c s G) {X:List Int} (hV:X.length=4*g.ns.length):TW g H c { s with R:=X } (G.set (pR H g) ⟨Qa X,105,1,true⟩):=by
 have hlt:=Qd h.r;have ne:∀ {j:Nat} {x:Option AO},pR H g≠j->G[j]? = x->(G.set (pR H g) ⟨Qa X,105,1,true⟩)[j]? = x:=λhn hx=>by rw[Ve hn]; exact hx
 constructor;case l=>exact⟨h.l.A,h.l.P,h.l.S,h.l.V,hV,h.l.O,h.l.ord,h.l.M,h.l.F⟩
 case len=>simpa using h.len
 case cl=>exact QcD h.cl _ (by simp)
 case r=>rw[Vh hlt]
 case low=>intro i hi; exact ne (by unfold pR; omega) (h.low i hi)
 case a=>intro i hi; exact ne (by unfold pR pA; omega) (h.a i hi)
 case p=>intro i hi; exact ne (by unfold pR pP; omega) (h.p i hi)
 case ss=>intro i hi; exact ne (by unfold pR pS; omega) (h.ss i hi)
 case w=>exact ne (by unfold pR pW; omega) h.w
 case m=>exact ne (by unfold pR pM; omega) h.m
 case f=>exact ne (by unfold pR pF; omega) h.f
 case ao=>exact ne (by unfold pR pAo; omega) h.ao
 case po=>exact ne (by unfold pR pPo; omega) h.po
 case so=>exact ne (by unfold pR pSo; omega) h.so
 case v=>exact ne (by unfold pR pV; omega) h.v
 case o=>exact ne (by unfold pR pO; omega) h.o
theorem TW.setO (h:TW g H c s G) {X:List Int} (hV:X.length=4*g.ns.length):TW g H c { s with O:=X } (G.set (pO H g) ⟨Qa X,105,1,true⟩):=by
 have hlt:=Qd h.o;have ne:∀ {j:Nat} {x:Option AO},pO H g≠j->G[j]? = x->(G.set (pO H g) ⟨Qa X,105,1,true⟩)[j]? = x:=λhn hx=>by rw[Ve hn]; exact hx
 constructor;case l=>exact⟨h.l.A,h.l.P,h.l.S,h.l.V,h.l.R,hV,h.l.ord,h.l.M,h.l.F⟩
 case len=>simpa using h.len
 case cl=>exact QcD h.cl _ (by simp)
 case o=>rw[Vh hlt]
 case low=>intro i hi; exact ne (by unfold pO; omega) (h.low i hi)
 case a=>intro i hi; exact ne (by unfold pO pA; omega) (h.a i hi)
 case p=>intro i hi; exact ne (by unfold pO pP; omega) (h.p i hi)
 case ss=>intro i hi; exact ne (by unfold pO pS; omega) (h.ss i hi)
 case w=>exact ne (by unfold pO pW; omega) h.w
 case m=>exact ne (by unfold pO pM; omega) h.m
 case f=>exact ne (by unfold pO pF; omega) h.f
 case ao=>exact ne (by unfold pO pAo; omega) h.ao
 case po=>exact ne (by unfold pO pPo; omega) h.po
 case so=>exact ne (by unfold pO pSo; omega) h.so
 case r=>exact ne (by unfold pO pR; omega) h.r
 case v=>exact ne (by unfold pO pV; omega) h.v
end
theorem Qcn {G:Ws} {p:Nat} {c:Wt} {T:Ww} {v:Nat} (h:G[p]? = some ⟨c,T,v,true⟩) (L:Ws):Qe (G++L) p v=c:=by
 rw[Qd1 L (Qd h)]; exact Qaw (o:=⟨c,T,v,true⟩) h rfl
theorem QiL {G:Ws} {p:Nat} {o:AO} (h:G[p]? = some o) (L:Ws) (f:AO->AO):Ab.setObj (G++L) p f=G.set p (f o)++L:=by
 have hlt:=Qd h;rw[QS (o:=o) (by rw[Vd hlt]; exact h),Yo _ _ hlt]
theorem Qdh {I:Nat} {p n:Nat->Nat} {ver i:Nat} (h:i<I):(QH I p n ver)[i]?.getD .any=.own (p i) 0 (n i) 1 ver:=by simp[QH,h]
@[simp] theorem Qw4 {I:Nat} {p n:Nat->Nat} {ver i:Nat} (h:i<(QH I p n ver).length):(QH I p n ver)[i]'h=.own (p i) 0 (n i) 1 ver:=by simp[QH]
@[simp] theorem QnU (I:Nat) (p n:Nat->Nat) (ver:Nat):(QH I p n ver).length=I:=by simp[QH]
theorem QdA {l:List Int} {i:Nat} (h:i<l.length):(Qa l)[i]?.getD .any=i64 (l.getD i 0):=by simp[Qa,h]
section
variable {l:List Nd} {i:Nat}
theorem nd0 (h:i<l.length):(nds l)[i*6]?.getD .any=i64 l[i].k:=by have:=Qd0 (t:=0) h (by omega); rw[Yf]at this; rw[this]; rfl
theorem nd1 (h:i<l.length):(nds l)[i*6+1]?.getD .any=i64 l[i].p:=by rw[Qd0 h (by omega)]; rfl
theorem nd2 (h:i<l.length):(nds l)[i*6+2]?.getD .any=i64 l[i].i:=by rw[Qd0 h (by omega)]; rfl
theorem nd3 (h:i<l.length):(nds l)[i*6+3]?.getD .any=.slc (Qa l[i].nx) l[i].nx.length:=by rw[Qd0 h (by omega)]; rfl
theorem nd4 (h:i<l.length):(nds l)[i*6+4]?.getD .any=.slc (Qa l[i].ws) l[i].ws.length:=by rw[Qd0 h (by omega)]; rfl
theorem nd5 (h:i<l.length):(nds l)[i*6+5]?.getD .any=.slc (Qa l[i].ps) l[i].ps.length:=by rw[Qd0 h (by omega)]; rfl
end
def brP (g:Gm) (S:Nat->List Int) (i k:Nat):Int:=match g.ns[i]? with
 |none=>0
 |some x=>if x.k=1 then x.ws.getD k 0 else(S x.i.toNat).getD k 0
def brW (g:Gm) (M:List Int) (i:Nat):Int:=match g.ns[i]? with
 |none=>0
 |some x=>if x.k=1 then M.getD i 0 else 65536
section
variable {g:Gm} {H G:Ws} {c:TC} {s:TS}
theorem TW.cw (h:TW g H c s G) (L:Ws):Qe (G++L) (pW H g) 0=Qw g H s++(Qa s.ord++[]):=Qcn h.w L
theorem TW.ltw (h:TW g H c s G):pW H g<G.length:=Qd h.w
theorem QcK (hW:Wg g) {i:Nat} (hi:i<g.ns.length) (hk:g.ns[i].k=2):g.ns[i].i.toNat<g.is.length/\(g.ns[i].i.toNat:Int)=g.ns[i].i/\g.acts g.ns[i].i.toNat=g.ns[i].nx.length/\1<=g.ns[i].nx.length/\g.ns[i].nx.length<=10:=by
 have h1:=hW.gd.inf (Vf hi) hk;have h2:=hW.ty (Vf hi) hk;have h3:=hW.gd.e _ (Vf hi);refine⟨by omega,by omega,?_,?_⟩
 . simp[Gm.acts,h2]
 . unfold Nd.err Nd.move at h3;rw[Wa (by omega),Wa (by omega),Wb hk]at h3;split at h3
   . omega
   . omega
theorem QeE (hW:Wg g) {i:Nat} (hi:i<g.ns.length) (hk:g.ns[i].k=1):g.ns[i].ws.length=g.ns[i].nx.length/\1<=g.ns[i].nx.length/\g.ns[i].nx.length<=60/\∀ w∈g.ns[i].ws,1<=w/\w<=1000:=by
 have h3:=hW.gd.e _ (Vf hi);unfold Nd.err Nd.chance at h3;rw[Wa (by omega),Wb hk]at h3;split at h3
 . omega
 . rename_i hn;refine⟨by omega,by omega,by omega,λw hw => ?_⟩;unfold Q5 at h3;split at h3
   . omega
   . rename_i ha;simp only[Yh,not_exists,not_and,Qas,Yb,Wd]at ha;have:=ha w hw;omega
theorem Qfd (hW:Wg g) {i:Nat} (hi:i<g.ns.length) (hk:g.ns[i].k=3):g.ns[i].nx=[]/\(g.ns[i].ps.length:Int)=g.pl/\∀ w∈g.ns[i].ps,-1000000<=w/\w<=1000000:=by
 have h3:=hW.gd.e _ (Vf hi);unfold Nd.err Nd.end at h3;rw[Wa (by omega),Wa (by omega),Wa (by omega)]at h3;split at h3
 . omega
 . rename_i hn;refine⟨Vx (by omega),by omega,λw hw => ?_⟩;unfold Q5 at h3;split at h3
   . omega
   . rename_i ha;simp only[Yh,not_exists,not_and,Qas,Yb,Wd]at ha;have:=ha w hw;omega
theorem Qep (hW:Wg g) {i:Nat} (hi:i<g.ns.length):g.ns[i].k=1\/g.ns[i].k=2\/g.ns[i].k=3:=by
 have h3:=hW.gd.e _ (Vf hi);unfold Nd.err at h3;split at h3
 . omega
 . omega
set_option maxRecDepth 10000 in
theorem ok89 (hW:Wg g) (h:TW g H c s G) (L:Ws) {i k:Nat} (hi:i<g.ns.length) (hk:k<g.ns[i].nx.length) :
 Ok Tryz.prog 89 [.ptr (.own (pW H g) 0 0 0 0) 0,i64 i,i64 k] (G++L) (.ret (.tup [i64 (brP g s.S i k),i64 (brW g c.M i)])) (G++L):=by
 have hw:=h.cw L;have hlt:=h.ltw;refine Ql hm Tryz.func89 c89 (by simp[show pW H g<G.length+L.length by omega]) λhcl => ?_;have hx:g.ns[i]? = some g.ns[i]:=Vb hi;have hn:=hW.gd.n;have hg3:g.ns[i].k=1\/g.ns[i].k=2:=by
  rcases Qep hW hi with h|h|h
  . exact .inl h
  . exact .inr h
  . have:=(Qfd hW hi h).1;rw[this]at hk; simp at hk
 rcases hg3 with hk1|hk2
 . obtain⟨a1,a2,a3,a4⟩:=QeE hW hi hk1;have hm0:=Qcn h.m L;have hmi:i<c.M.length:=by rw[h.l.M]; exact hi
   have e1:brP g s.S i k=g.ns[i].ws.getD k 0:=by simp[brP,hx,hk1]
   have e2:brW g c.M i=c.M.getD i 0:=by simp[brW,hx,hk1]
   have hkw:k<g.ns[i].ws.length:=by omega
   rw[e1,e2];simp -implicitDefEqProofs[i89,r89,hw,Qw,hi,nd0 hi,nd4 hi,QaF,hk1,hkw,hm0,hmi,QdA hmi];repeat (refine⟨by omega,?_⟩)
   exact Qn
 . obtain⟨a1,a2,a3,a4,a5⟩:=QcK hW hi hk2;have hso:=Qcn h.so L;have hs:=Qcn (h.ss _ a1) L;have hl:=h.l.S _ a1;have e1:brP g s.S i k=(s.S g.ns[i].i.toNat).getD k 0:=by simp[brP,hx,hk2]
   have e2:brW g c.M i=65536:=by simp[brW,hx,hk2]
   have hks:k<(s.S g.ns[i].i.toNat).length:=by omega
   rw[e1,e2];simp -implicitDefEqProofs[i89,r89,hw,Qw,hi,nd0 hi,nd2 hi,QaF,hk2,hso,Qdh a1,a1,hs,hks,QdA hks,a3,hk];repeat (refine⟨by omega,?_⟩)
   exact Qn
end
def QR (g:Gm) (S:Nat->List Int) (V nx:List Int) (i q:Nat):Nat->Int
 |0=>0
 |k+1=>IntKind.i64.wrap (QR g S V nx i q k+IntKind.i64.wrap (V.getD ((nx.getD k 0).toNat*4+q) 0*brP g S i k))
def QbB (g:Gm) (M:List Int) (S:Nat->List Int) (V:List Int) (i q:Nat):Int:=match g.ns[i]? with
 |none=>0
 |some x=>if x.k=3 then IntKind.i64.wrap (x.ps.getD q 0*1024)else IntKind.i64.wrap ((QR g S V x.nx i q x.nx.length).tdiv (brW g M i))
def plF (g:Gm) (f:Nat->Int):Nat->Int:=λq=>if(q:Int)<g.pl then f q else 0
def Qq (q:Nat) (a b:Nat->Int):Nat->Int:=λx=>if x<q then a x else b x
theorem QcM (a b:Nat->Int):Qq 0 a b=b:=by funext x; simp[Qq]
theorem QcU (q:Nat) (a b:Nat->Int):put (Qq q a b) q (a q)=Qq (q+1) a b:=by
 funext x;unfold put Qq;by_cases h1:x=q
 . subst h1; simp
 . rw[Wa h1];by_cases h2:x<q
   . rw[Wb h2,Wb (by omega)]
   . rw[Wa h2,Wa (by omega)]
theorem QfA (q:Nat) (a b:Nat->Int):Qq q a b q=b q:=by simp[Qq]
theorem QlR {g:Gm} {n:Nat} (h:(n:Int)=g.pl) (a b:Nat->Int):Qq n (plF g a) (plF g b)=plF g a:=by
 funext x;unfold Qq plF;by_cases h1:x<n
 . rw[Wb h1]
 . rw[Wa h1,Wa (by omega),Wa (by omega)]
def Qv (V:List Int) (i:Nat) (f:Nat->Int):List Int:=V.take (i*4)++(Qh 4 f++V.drop (i*4+4))
theorem Qbb {V:List Int} {i n:Nat} (hV:V.length=4*n) (hi:i<n) (f:Nat->Int):(Qv V i f).length=4*n:=by
 simp[Qv]; omega
theorem QfI {G:Ws} (L:Ws) (f:Nat->Int):Qe (G++⟨Qa (Qh 4 f),105,0,true⟩::L) G.length 0=Qa (Qh 4 f):=by
 rw[QfT]; exact Qaw (o:=⟨Qa (Qh 4 f),105,0,true⟩) rfl rfl
section
variable {g:Gm} {H G:Ws} {c:TC} {s:TS}
set_option maxRecDepth 10000 in
theorem QtK (hW:Wg g) (h:TW g H c s G) {i k ch:Nat} {nx:List Int} (hc:ch<g.ns.length) (hnx:nx.getD k 0=ch) {x1 x12 x53 x54:SV} {N:Nat} {K:Wr}
 (hexit:∀ env,env.get 0=.ptr (.own (pW H g) 0 0 0 0) 0->env.get 1=x1->env.get 5=.ptr (.own G.length 0 0 0 0) 0->env.get 12=x12->env.get 53=x53->env.get 54=x54->env.get 55=i64 k ->
  K (.exit 4) env (G++[⟨Qa (Qh 4 (plF g λq=>QR g s.S s.V nx i q (k+1))),105,0,true⟩])) :
 ∀ (m q:Nat) (env:Env),((q+m:Nat):Int)=g.pl->env.get 0=.ptr (.own (pW H g) 0 0 0 0) 0->env.get 1=x1->env.get 5=.ptr (.own G.length 0 0 0 0) 0->env.get 10=i64 ch->env.get 11=i64 (brP g s.S i k)->env.get 12=x12 ->
  env.get 53=x53->env.get 54=x54->env.get 55=i64 k->env.get 71=i64 g.pl->env.get 72=i64 q ->
  LI Tryz.prog N Qb QgR env (G++[⟨Qa (Qh 4 (Qq q (plF g λq=>QR g s.S s.V nx i q (k+1)) (plF g λq=>QR g s.S s.V nx i q k))),105,0,true⟩]) K:=by
 intro m
 induction m with
 |zero =>
  intro q env hq h0 h1 h5 h10 h11 h12 h53 h54 h55 h71 h72;refine Qc hm QgR.eq_1 ?_;simp -implicitDefEqProofs[h71,h72,show ¬ (q:Int)<g.pl by omega];rw[QlR (by omega)];exact hexit _ (by simp[h0]) (by simp[h1]) (by simp[h5]) (by simp[h12]) (by simp[h53]) (by simp[h54]) (by simp[h55])
 |succ m ih =>
  intro q env hq h0 h1 h5 h10 h11 h12 h53 h54 h55 h71 h72;refine Qc hm QgR.eq_1 ?_;have hp4:=hW.gd.p4;have hq4:q<4:=by omega
  have hqp:(q:Int)<g.pl:=by omega
  have hw:=λL=>h.cw L;have hv:=λL=>Qcn h.v L;have hl:=h.l.V;have hcq:ch*4+q<s.V.length:=by omega
  have hG:=h.len;have e1:QR g s.S s.V nx i q (k+1)=IntKind.i64.wrap (QR g s.S s.V nx i q k+IntKind.i64.wrap (s.V.getD (ch*4+q) 0*brP g s.S i k)):=by simp only[QR,hnx]; simp
  have e2:(plF g λq=>QR g s.S s.V nx i q k) q=QR g s.S s.V nx i q k:=by simp[plF,hqp]
  have e3:(plF g λq=>QR g s.S s.V nx i q (k+1)) q=QR g s.S s.V nx i q (k+1):=by simp[plF,hqp]
  have e4:∀ f:Nat->Int,(Qa (Qh 4 f))[q]?.getD .any=i64 (f q):=λf=>by rw[QdA (by simpa using hq4),Qdg hq4]
  have e5:∀ (f:Nat->Int) (y:Int),List.take q (Qa (Qh 4 f))++i64 y::List.drop (q+1) (Qa (Qh 4 f))=Qa (Qh 4 (put f q y)):=λf y=>by rw[Qa7 (by simpa using hq4),Qd4]
  have e6:=QcU q (plF g λq=>QR g s.S s.V nx i q (k+1)) (plF g λq=>QR g s.S s.V nx i q k);have eV:s.V.getD (ch*4+q) 0=s.V[ch*4+q]:=by simp[hcq]
  rw[e3,e1,eV]at e6;have e7:=QfA q (plF g λq=>QR g s.S s.V nx i q (k+1)) (plF g λq=>QR g s.S s.V nx i q k);rw[e2]at e7;generalize Qq q (plF g λq=>QR g s.S s.V nx i q (k+1)) (plF g λq=>QR g s.S s.V nx i q k)=f at *;have hov:=λ(f:Nat->Int)=>QfI (G:=G) [] f;simp -implicitDefEqProofs[h0,h1,h5,h10,h11,h12,h71,h72,hqp,hw,Qw,hv,hc,hcq,hq4,hov,e4,e5,e7,Qc2 hq4];repeat (refine⟨by omega,?_⟩)
  rw[e6];refine ih (q+1) _ (by omega) ?_ ?_ ?_ ?_ ?_ ?_ ?_ ?_ ?_ ?_ ?_
  . simp
  . simp
  . simp
  . simp
  . simp
  . simp
  . simp[h53]
  . simp[h54]
  . simp[h55]
  . simp
  . simp[QO (show q<9223372036854775807 by omega)]
set_option maxRecDepth 10000 in
theorem Qsa (hW:Wg g) (h:TW g H c s G) {i:Nat} (hi:i<g.ns.length) {N:Nat} {K:Wr}
 (hexit:∀ env,env.get 0=.ptr (.own (pW H g) 0 0 0 0) 0->env.get 1=i64 i->env.get 5=.ptr (.own G.length 0 0 0 0) 0->env.get 8=i64 (brW g c.M i) ->
  K (.exit 2) env (G++[⟨Qa (Qh 4 (plF g λq=>QR g s.S s.V g.ns[i].nx i q g.ns[i].nx.length)),105,0,true⟩])) :
 ∀ (m k:Nat) (env:Env),k+m=g.ns[i].nx.length->(k≠0->env.get 8=i64 (brW g c.M i))->(m=0->k≠0)->env.get 0=.ptr (.own (pW H g) 0 0 0 0) 0->env.get 1=i64 i->env.get 5=.ptr (.own G.length 0 0 0 0) 0 ->
  env.get 53=.slc (Qa g.ns[i].nx) g.ns[i].nx.length->env.get 54=i64 g.ns[i].nx.length->env.get 55=i64 k ->
  LI Tryz.prog N Qb QgA env (G++[⟨Qa (Qh 4 (plF g λq=>QR g s.S s.V g.ns[i].nx i q k)),105,0,true⟩]) K:=by
 have hnx60:g.ns[i].nx.length<=60:=Qfx (hW.gd.e _ (Vf hi));intro m
 induction m with
 |zero =>
  intro k env hk h8 hk0 h0 h1 h5 h53 h54 h55;refine Qc hm QgA.eq_1 ?_;have e:k=g.ns[i].nx.length:=by omega
  subst e;simp -implicitDefEqProofs[h54,h55];exact hexit _ (by simp[h0]) (by simp[h1]) (by simp[h5]) (by simp[h8 (hk0 rfl)])
 |succ m ih =>
  intro k env hk h8 hk0 h0 h1 h5 h53 h54 h55;refine Qc hm QgA.eq_1 ?_;have hkl:k<g.ns[i].nx.length:=by omega
  have hch:=(hW.wf.nf i hi).ch _ (Vf hkl);have hw:=λL=>h.cw L;simp -implicitDefEqProofs[h0,h1,h5,h53,h54,h55,hkl];refine⟨by omega,Qf (ok89 hW h _ hi hkl) ?_⟩;simp -implicitDefEqProofs[h0,h1,h5,h53,h54,h55,hw,Qw];have hcn:((g.ns[i].nx[k].toNat:Nat):Int)=g.ns[i].nx[k]:=by omega
  have e0:=QcM (plF g λq=>QR g s.S s.V g.ns[i].nx i q (k+1)) (plF g λq=>QR g s.S s.V g.ns[i].nx i q k);rw[<-e0];have hp:=hW.gd.p1;refine QtK hW h (i:=i) (k:=k) (ch:=g.ns[i].nx[k].toNat) (nx:=g.ns[i].nx) (by omega) (by simp[hkl,hcn]) (x1:=i64 i) (x12:=i64 (brW g c.M i)) (x53:=.slc (Qa g.ns[i].nx) g.ns[i].nx.length) (x54:=i64 g.ns[i].nx.length) (λenv g0 g1 g5 g12 g53 g54 g55 => ?_) g.pl.toNat 0 _ (by omega) (by simp) (by simp) (by simp) (by simp[hcn]) (by simp) (by simp) (by simp) (by simp) (by simp) (by simp) (by simp);simp -implicitDefEqProofs[g0,g1,g5,g12,g53,g54,g55];refine ih (k+1) _ (by omega) (λ_=>by simp) (λ_=>by omega) ?_ ?_ ?_ ?_ ?_ ?_
  . simp[g0]
  . simp[g1]
  . simp[g5]
  . simp[g53]
  . simp[g54]
  . simp[QO (show k<9223372036854775807 by omega)]
set_option maxRecDepth 10000 in
theorem Qsw (hW:Wg g) {d:Int} (hd:d≠0) {f:Nat->Int} {x1:SV} {N:Nat} {K:Wr}
 (hexit:∀ env,env.get 0=.ptr (.own (pW H g) 0 0 0 0) 0->env.get 1=x1->env.get 5=.ptr (.own G.length 0 0 0 0) 0 ->
  K (.exit 6) env (G++[⟨Qa (Qh 4 (plF g λq=>IntKind.i64.wrap ((f q).tdiv d))),105,0,true⟩])) :
 ∀ (m q:Nat) (env:Env),((q+m:Nat):Int)=g.pl->env.get 0=.ptr (.own (pW H g) 0 0 0 0) 0->env.get 1=x1->env.get 5=.ptr (.own G.length 0 0 0 0) 0->env.get 8=i64 d->env.get 98=i64 g.pl->env.get 99=i64 q ->
  LI Tryz.prog N Qb QgM env (G++[⟨Qa (Qh 4 (Qq q (plF g λq=>IntKind.i64.wrap ((f q).tdiv d)) (plF g f))),105,0,true⟩]) K:=by
 have hp4:=hW.gd.p4;intro m
 induction m with
 |zero =>
  intro q env hq h0 h1 h5 h8 h98 h99;refine Qc hm QgM.eq_1 ?_;simp -implicitDefEqProofs[h98,h99,show ¬ (q:Int)<g.pl by omega];rw[QlR (by omega)];exact hexit _ (by simp[h0]) (by simp[h1]) (by simp[h5])
 |succ m ih =>
  intro q env hq h0 h1 h5 h8 h98 h99;refine Qc hm QgM.eq_1 ?_;have hq4:q<4:=by omega
  have hqp:(q:Int)<g.pl:=by omega
  have e4:∀ f:Nat->Int,(Qa (Qh 4 f))[q]?.getD .any=i64 (f q):=λf=>by rw[QdA (by simpa using hq4),Qdg hq4]
  have e5:∀ (f:Nat->Int) (y:Int),List.take q (Qa (Qh 4 f))++i64 y::List.drop (q+1) (Qa (Qh 4 f))=Qa (Qh 4 (put f q y)):=λf y=>by rw[Qa7 (by simpa using hq4),Qd4]
  have e6:=QcU q (plF g λq=>IntKind.i64.wrap ((f q).tdiv d)) (plF g f);have e3:(plF g λq=>IntKind.i64.wrap ((f q).tdiv d)) q=IntKind.i64.wrap ((f q).tdiv d):=by simp[plF,hqp]
  rw[e3]at e6;have e7:=QfA q (plF g λq=>IntKind.i64.wrap ((f q).tdiv d)) (plF g f);have e2:(plF g f) q=f q:=by simp[plF,hqp]
  rw[e2]at e7;generalize Qq q (plF g λq=>IntKind.i64.wrap ((f q).tdiv d)) (plF g f)=F at *;have hov:=λ(f:Nat->Int)=>QfI (G:=G) [] f;simp -implicitDefEqProofs[h0,h1,h5,h8,h98,h99,hqp,hq4,hov,e4,e5,e7,Qc2 hq4,hd];repeat (refine⟨by omega,?_⟩)
  rw[e6];refine ih (q+1) _ (by omega) ?_ ?_ ?_ ?_ ?_ ?_
  . simp[h0]
  . simp[h1]
  . simp
  . simp
  . simp
  . simp[QO (show q<9223372036854775807 by omega)]
set_option maxRecDepth 10000 in
theorem QsP (hW:Wg g) {ps:List Int} (hps:(ps.length:Int)=g.pl) {x1:SV} {N:Nat} {K:Wr}
 (hexit:∀ env,env.get 0=.ptr (.own (pW H g) 0 0 0 0) 0->env.get 1=x1->env.get 5=.ptr (.own G.length 0 0 0 0) 0 ->
  K (.exit 0) env (G++[⟨Qa (Qh 4 (plF g λq=>IntKind.i64.wrap (ps.getD q 0*1024))),105,0,true⟩])) :
 ∀ (m q:Nat) (env:Env),((q+m:Nat):Int)=g.pl->env.get 0=.ptr (.own (pW H g) 0 0 0 0) 0->env.get 1=x1->env.get 5=.ptr (.own G.length 0 0 0 0) 0->env.get 31=.slc (Qa ps) ps.length->env.get 32=i64 ps.length->env.get 33=i64 q ->
  LI Tryz.prog N Qb Qiu env (G++[⟨Qa (Qh 4 (Qq q (plF g λq=>IntKind.i64.wrap (ps.getD q 0*1024)) (plF g λ_=>0))),105,0,true⟩]) K:=by
 have hp4:=hW.gd.p4;intro m
 induction m with
 |zero =>
  intro q env hq h0 h1 h5 h31 h32 h33;refine Qc hm Qiu.eq_1 ?_;have e:q=ps.length:=by omega
  subst e;simp -implicitDefEqProofs[h32,h33];rw[QlR (by omega)];exact hexit _ (by simp[h0]) (by simp[h1]) (by simp[h5])
 |succ m ih =>
  intro q env hq h0 h1 h5 h31 h32 h33;refine Qc hm Qiu.eq_1 ?_;have hq4:q<4:=by omega
  have hqp:(q:Int)<g.pl:=by omega
  have hql:q<ps.length:=by omega
  have e5:∀ (f:Nat->Int) (y:Int),List.take q (Qa (Qh 4 f))++i64 y::List.drop (q+1) (Qa (Qh 4 f))=Qa (Qh 4 (put f q y)):=λf y=>by rw[Qa7 (by simpa using hq4),Qd4]
  have e6:=QcU q (plF g λq=>IntKind.i64.wrap (ps.getD q 0*1024)) (plF g λ_=>0);have e3:(plF g λq=>IntKind.i64.wrap (ps.getD q 0*1024)) q=IntKind.i64.wrap (ps[q]*1024):=by simp[plF,hqp,hql]
  rw[e3]at e6;generalize Qq q (plF g λq=>IntKind.i64.wrap (ps.getD q 0*1024)) (plF g λ_=>0)=F at *;have hov:=λ(f:Nat->Int)=>QfI (G:=G) [] f;simp -implicitDefEqProofs[h0,h1,h5,h31,h32,h33,hql,hq4,hov,e5];repeat (refine⟨by omega,?_⟩)
  rw[e6];refine ih (q+1) _ (by omega) ?_ ?_ ?_ ?_ ?_ ?_
  . simp[h0]
  . simp[h1]
  . simp
  . simp
  . simp
  . simp[QO (show q<9223372036854775807 by omega)]
end
structure TC.Ok (g:Gm) (c:TC):Prop where
 m:∀ i (h:i<g.ns.length),g.ns[i].k=1->0<c.M.getD i 0
 f:∀ i,i<g.is.length->0<=c.F.getD i 0/\c.F.getD i 0<g.ns.length
theorem Qmi {g:Gm} {c:TC} (h:c.Ok g) {i:Nat} (hi:i<g.ns.length):brW g c.M i≠0:=by
 have hx:g.ns[i]? = some g.ns[i]:=Vb hi;simp only[brW,hx];split
 . rename_i hk; have:=h.m i hi hk; omega
 . decide
section
variable {g:Gm} {H G:Ws} {c:TC} {s:TS}
theorem TW.cw0 (h:TW g H c s G):Qe G (pW H g) 0=Qw g H s++(Qa s.ord++[]):=by have:=h.cw []; rwa [VV]at this
theorem TW.fin (h:TW g H c s G) {L:Ws}:Cv G.length (.tup []) (G++L) (.tup []) G:=Qf3 rfl (Vc _) h.cl rfl
theorem Qth (V:List Int) (i:Nat) (f:Nat->Int):List.take (i*4) (Qa V)++(Qa (Qh 4 f)++List.drop (i*4+4) (Qa V))=Qa (Qv V i f):=by simp[Qa,Qv]
theorem QnT (h:TW g H c s G) {i:Nat} (hi:i<g.ns.length) {f:Nat->Int} {L:Ws} :
 Qbu G.length (λout G'=>out=.ret (.tup [])/\TW g H c { s with V:=Qv s.V i f } G') (.tup []) (G.set (pV H g) ⟨List.take (i*4) (Qa s.V)++(Qa (Qh 4 f)++List.drop (i*4+4) (Qa s.V)),105,1,true⟩++L):=by
 rw[Qth];have h2:=h.setV (Qbb h.l.V hi f);have h3:=h2.fin (L:=L);rw[VO]at h3;exact⟨_,_,⟨rfl,h2⟩,h3⟩
set_option maxRecDepth 10000 in
theorem ok57 (hW:Wg g) (h:TW g H c s G) (hc:c.Ok g) {i:Nat} (hi:i<g.ns.length) :
 OkP Tryz.prog 57 [.ptr (.own (pW H g) 0 0 0 0) 0,i64 i] G λout G'=>out=.ret (.tup [])/\TW g H c { s with V:=Qv s.V i (plF g (QbB g c.M s.S s.V i)) } G':=by
 have hlt:=h.ltw;have hx:g.ns[i]? = some g.ns[i]:=Vb hi;have hw:=λL=>h.cw L;have hw0:=h.cw0;have hn:=hW.gd.n;have hp:=hW.gd.p1;have hVl:=h.l.V;have hcv:=λL=>Qcn h.v L;have hsv:=λL f=>QiL h.v L f;refine QaY hm Tryz.func57 c57 (by simp[hlt]) λhcl => ?_;have hk12:g.ns[i].k≠3->1<=g.ns[i].nx.length:=λh3=>by
  rcases Qep hW hi with h|h|h
  . exact(QeE hW hi h).2.1
  . exact(QcK hW hi h).2.2.2.1
  . exact absurd h h3
 by_cases hk:g.ns[i].k≠3
 . have ep:(λq=>IntKind.i64.wrap ((QR g s.S s.V g.ns[i].nx i q g.ns[i].nx.length).tdiv (brW g c.M i)))=QbB g c.M s.S s.V i:=by funext q; simp[QbB,hx,hk]
   simp -implicitDefEqProofs[i57,r57,hw,hw0,Qw,hi,nd0 hi,nd3 hi,QaF,hk];repeat (refine⟨by omega,?_⟩)
   have e0:[i64 0,i64 0,i64 0,i64 0]=Qa (Qh 4 (plF g λq=>QR g s.S s.V g.ns[i].nx i q 0)):=by
    simp[QR,plF,Qh,Qa,List.range_succ]
   rw[e0];refine Qsa hW h hi (λenv g0 g1 g5 g8 => ?_) g.ns[i].nx.length 0 _ (by omega) (λh=>absurd rfl h) (λh=>by have:=hk12 hk; omega) (by simp) (by simp) (by simp) (by simp) (by simp) (by simp);simp -implicitDefEqProofs[g0,g1,g5,g8,hw,Qw];have e1:=QcM (plF g λq=>IntKind.i64.wrap ((QR g s.S s.V g.ns[i].nx i q g.ns[i].nx.length).tdiv (brW g c.M i))) (plF g λq=>QR g s.S s.V g.ns[i].nx i q g.ns[i].nx.length);rw[<-e1];refine Qsw (H:=H) hW (Qmi hc hi) (x1:=i64 i) (λenv g0 g1 g5 => ?_) g.pl.toNat 0 _ (by omega) (by simp[g0]) (by simp[g1]) (by simp[g5]) (by simp[g8]) (by simp) (by simp);rw[ep];simp -implicitDefEqProofs[g0,g1,g5,hw,Qw,QfI,hcv,hsv,hi];exact⟨by omega,QnT h hi⟩
 . have hk:g.ns[i].k=3:=by omega
   obtain⟨a1,a2,a3⟩:=Qfd hW hi hk;have ep:(λq=>IntKind.i64.wrap (g.ns[i].ps.getD q 0*1024))=QbB g c.M s.S s.V i:=by funext q; simp[QbB,hx,hk]
   simp -implicitDefEqProofs[i57,r57,hw,hw0,Qw,hi,nd0 hi,nd5 hi,QaF,hk];repeat (refine⟨by omega,?_⟩)
   have e0:[i64 0,i64 0,i64 0,i64 0]=Qa (Qh 4 (Qq 0 (plF g λq=>IntKind.i64.wrap (g.ns[i].ps.getD q 0*1024)) (plF g λ_=>0))):=by
    rw[QcM]; simp[plF,Qh,Qa,List.range_succ]
   rw[e0];refine QsP (H:=H) hW a2 (x1:=i64 i) (λenv g0 g1 g5 => ?_) g.pl.toNat 0 _ (by omega) (by simp) (by simp) (by simp) (by simp) (by simp) (by simp);rw[ep];simp -implicitDefEqProofs[g0,g1,g5,hw,Qw,QfI,hcv,hsv,hi];exact⟨by omega,QnT h hi⟩
end
end Go.Proofs.YtogjmpkehjfecaaGreatDoor.Rc
namespace Go.Ab.Lm
theorem Qj0:∀ {l:List Nat} {j:Nat} (h:j<l.length) (x:Nat),val (l.set j x)+l[j]*B ^ j=val l+x*B ^ j
 |[],j,h,x=>by simp at h
 |y::r,0,h,x=>by simp[val]; omega
 |y::r,j+1,h,x=>by
  have ih:=Qj0 (l:=r) (j:=j) (by simpa using h) x;simp only[Y9,List.getElem_cons_succ,val,V6];have h1:B*(val (r.set j x)+r[j]'(by simpa using h)*B ^ j)=B*(val r+x*B ^ j):=by rw[ih]
  rw[Ys,Ys]at h1;have e1:B*(r[j]'(by simpa using h)*B ^ j)=r[j]'(by simpa using h)*(B ^ j*B):=by rw[VF,Yj]
  have e2:B*(x*B ^ j)=x*(B ^ j*B):=by rw[VF,Yj]
  rw[e1,e2]at h1;omega
theorem Dig.set {l:List Nat} {j x:Nat} (h:Dig l) (hx:x<B):Dig (l.set j x):=λy hy=>by
 rcases List.mem_or_eq_of_mem_set hy with h1|h1
 . exact h y h1
 . rw[h1]; exact hx
theorem QmW:∀ n:Nat,val (List.replicate n 0)=0
 |0=>rfl
 |n+1=>by rw[YT,val,QmW n,ZN]
theorem Qpx {l:List Nat} {k:Nat} (h:k<l.length):val (l.take (k+1))=val (l.take k)+l[k]*B ^ k:=by
 rw[Za h,Qir];have:(l.take k).length=k:=by simp; omega
 rw[this];simp[val,VF]
end Go.Ab.Lm
namespace Go.Proofs.YtogjmpkehjfecaaGreatDoor.Rc
open Go.Ab Go.Ab.Lm
section
variable {H:Ws} {a b:Nat}
theorem QiO {o:List Nat} {j:Nat} (h:j<o.length) (x:Nat):List.take j (us o)++.val (.int .u32 (x:Int))::List.drop (j+1) (us o)=us (o.set j x):=by
 unfold us;rw[List.map_set,YF,Wb (by simpa using h)];rfl
set_option maxRecDepth 10000 in
theorem Qrl {x y o0:List Nat} {i n:Nat} (hx:Dig x) (hy:Dig y) (hi:i<x.length) (hn:n=x.length+y.length) (hnb:n<1000000) {N:Nat} {K:Wr}
 (hexit:∀ env o c,o.length=n->Dig o->c<B->val o+c*B ^ (i+y.length)=val o0+x[i]*val y*B ^ i->o.drop (i+y.length)=o0.drop (i+y.length) ->
  env.get 0=.slc (us x) x.length->env.get 1=.slc (us y) y.length->env.get 5=.own H.length 0 n 1 0->env.get 6=i64 i->env.get 7=.val (.int .u64 (c:Nat))->K (.exit 2) env (H++[⟨us o,114,0,true⟩])) :
 ∀ (m k:Nat) (o:List Nat) (c:Nat) (env:Env),k+m=y.length->o.length=n->Dig o->c<B->val o+c*B ^ (i+k)=val o0+x[i]*val (y.take k)*B ^ i->o.drop (i+k)=o0.drop (i+k) ->
  env.get 0=.slc (us x) x.length->env.get 1=.slc (us y) y.length->env.get 5=.own H.length 0 n 1 0->env.get 6=i64 i->env.get 7=.val (.int .u64 (c:Nat))->env.get 8=i64 k ->
  LI Tryz.prog N Qb Qhh env (H++[⟨us o,114,0,true⟩]) K:=by
 have hB:B=1000000000:=rfl;intro m
 induction m with
 |zero =>
  intro k o c env hk ho hd hc hv ht h0 h1 h5 h6 h7 h8;refine Qc hm' Qhh.eq_1 ?_;have e:k=y.length:=by omega
  subst e;rw[YE]at hv;simp -implicitDefEqProofs[h0,h1,h5,h6,h7,h8];exact hexit _ o c ho hd hc hv ht (by simp[h0]) (by simp[h1]) (by simp[h5]) (by simp[h6]) (by simp[h7])
 |succ m ih =>
  intro k o c env hk ho hd hc hv ht h0 h1 h5 h6 h7 h8;refine Qc hm' Qhh.eq_1 ?_;have hky:k<y.length:=by omega
  have hik:i+k<o.length:=by omega
  have dx:=hx _ (Vf hi);have dy:=hy _ (Vf hky);have dO:=hd _ (Vf hik);have w1:IntKind.i64.wrap ((k:Int)+1)=((k+1:Nat):Int):=QaB (by omega);have wi:IntKind.i64.wrap ((i:Int)+k)=((i+k:Nat):Int):=by rw[Qj (by omega) (by omega)]; omega
  have gx:(us x)[i]?.getD .any=.val (.int .u32 x[i]):=QaX hi;have gx':∀ h,(us x)[i]'h=.val (.int .u32 x[i]):=λh=>QbI hi h;have gy:(us y)[k]?.getD .any=.val (.int .u32 y[k]):=QaX hky;have gy':∀ h,(us y)[k]'h=.val (.int .u32 y[k]):=λh=>QbI hky h;obtain⟨j,hj⟩:∃ j,j=i+k:=⟨_,rfl⟩;have hjo:j<o.length:=by omega
  have gO:(us o)[j]?.getD .any=.val (.int .u32 o[j]):=QaX hjo;have gO':∀ h,(us o)[j]'h=.val (.int .u32 o[j]):=λh=>QbI hjo h;obtain⟨pm,hpm⟩:∃ pm,pm=x[i]*y[k]:=⟨_,rfl⟩;have hpb:pm<=999999999*999999999:=by rw[hpm]; exact Nat.mul_le_mul (by omega) (by omega)
  have dO':o[j]<B:=hd _ (Vf hjo);obtain⟨s1,hs1⟩:∃ s1,s1=c+o[j]:=⟨_,rfl⟩;obtain⟨t,hts⟩:∃ t,t=s1+pm:=⟨_,rfl⟩;have wo:=Q0 (n:=o[j]) (by omega);have wx:=Q0 (n:=x[i]) (by omega);have wy:=Q0 (n:=y[k]) (by omega);have wm:IntKind.u64.wrap (((x[i]:Nat):Int)*((y[k]:Nat):Int))=(pm:Int):=by
   rw[show((x[i]:Nat):Int)*((y[k]:Nat):Int)=((pm:Nat):Int)by rw[hpm]; simp,Q0 (by omega)]
  have wa:IntKind.u64.wrap ((c:Int)+((o[j]:Nat):Int))=(s1:Int):=by rw[show(c:Int)+((o[j]:Nat):Int)=((s1:Nat):Int)by omega,Q0 (by omega)]
  have wt:IntKind.u64.wrap ((s1:Int)+(pm:Int))=(t:Int):=by rw[show(s1:Int)+(pm:Int)=((t:Nat):Int)by omega,Q0 (by omega)]
  have tm:∀ t:Nat,((t:Int)).tmod 1000000000=((t % 1000000000:Nat):Int):=λt=>rfl;have td:∀ t:Nat,((t:Int)).tdiv 1000000000=((t / 1000000000:Nat):Int):=λt=>rfl;obtain⟨q,hq⟩:∃ q,q=t / 1000000000:=⟨_,rfl⟩;obtain⟨r,hr⟩:∃ r,r=t % 1000000000:=⟨_,rfl⟩;have eq0:((t / 1000000000:Nat):Int)=(q:Int):=by rw[hq]
  have er:((t % 1000000000:Nat):Int)=(r:Int):=by rw[hr]
  have hqb:q<B:=by rw[hq,hB]; omega
  have hrb:r<B:=by rw[hr,hB]; omega
  have wq:=Q0 (n:=q) (by omega);have wr:=QaW (n:=r) (by omega);have hset:=QiO hjo r;have hvs:=Qj0 hjo r;have hln:(us o).length=n:=by rw[QP,ho]
  have hih:=ih (k+1) (o.set j r) q;rw[<-hj]at wi;simp -implicitDefEqProofs[h0,h1,h5,h6,h7,h8,hky,QP,ho,hln,gx,gx',gy,gy',gO,gO',wi,wo,wx,wy,wm,wa,wt,tm,td,eq0,er,wq,wr,hset,show(i:Int)<x.length by omega,show(k:Int)<y.length by omega];repeat (refine⟨by omega,?_⟩)
  refine⟨rfl,?_⟩;repeat (refine⟨by omega,?_⟩)
  refine hih _ (by omega) (by rw[VO]; exact ho) (hd.set hrb) hqb ?_ ?_ ?_ ?_ ?_ ?_ ?_ ?_
  . have hP:B ^ (i+(k+1))=B ^ j*B:=by rw[<-Yd,<- hj,V6]
    have hP2:B ^ k*B ^ i=B ^ j:=by rw[<-Zv,hj,Nat.add_comm]
    rw[<-hj]at hv;rw[hP,Qpx hky];have h4:x[i]*(val (y.take k)+y[k]*B ^ k)*B ^ i=x[i]*val (y.take k)*B ^ i+pm*B ^ j:=by
     rw[Ys,V0,<- Yj,Yj (x[i]*y[k]),hP2,hpm]
    rw[h4];generalize B ^ j=P at *;have h1:t=q*B+r:=by rw[hq,hr,hB]; omega
    have h2:t*P=q*B*P+r*P:=by rw[h1,V0]
    have h3:t*P=c*P+o[j]*P+pm*P:=by rw[hts,hs1,V0,V0]
    have h5:q*(P*B)=q*B*P:=by rw[VF P B,Yj]
    rw[h5];omega
  . rw[<-Yd,<- hj];apply Vz;intro u;have h1:=Wj (λl=>l[u+1]?) ht;simp only[Vr]at h1;rw[Vr,Vr,Ve (by omega)];rw[hj,show i+k+1+u=i+k+(u+1)by omega];exact h1
  . simp
  . simp
  . simp
  . simp
  . simp
  . simp[w1]
set_option maxRecDepth 10000 in
theorem QtZ {x y:List Nat} {n:Nat} (hx:Dig x) (hy:Dig y) (hn:n=x.length+y.length) (hnb:n<1000000) {N:Nat} {K:Wr}
 (hexit:∀ env o,o.length=n->Dig o->val o=val x*val y->env.get 5=.own H.length 0 n 1 0->K (.exit 0) env (H++[⟨us o,114,0,true⟩])) :
 ∀ (m i:Nat) (o:List Nat) (env:Env),i+m=x.length->o.length=n->Dig o->val o=val (x.take i)*val y->o.drop (i+y.length)=List.replicate (x.length-i) 0 ->
  env.get 0=.slc (us x) x.length->env.get 1=.slc (us y) y.length->env.get 5=.own H.length 0 n 1 0->env.get 6=i64 i ->
  LI Tryz.prog N Qb Qiq env (H++[⟨us o,114,0,true⟩]) K:=by
 have hB:B=1000000000:=rfl;intro m
 induction m with
 |zero =>
  intro i o env hi ho hd hv ht h0 h1 h5 h6;refine Qc hm' Qiq.eq_1 ?_;have e:i=x.length:=by omega
  subst e;rw[YE]at hv;simp -implicitDefEqProofs[h0,h1,h5,h6];exact hexit _ o ho hd hv (by simp[h5])
 |succ m ih =>
  intro i o env hi ho hd hv ht h0 h1 h5 h6;refine Qc hm' Qiq.eq_1 ?_;have hix:i<x.length:=by omega
  have w1:IntKind.i64.wrap ((i:Int)+1)=((i+1:Nat):Int):=QaB (by omega);simp -implicitDefEqProofs[h0,h1,h5,h6,hix];refine Qrl (o0:=o) hx hy hix hn hnb (λenv o2 c ho2 hd2 hc hv2 ht2 k0 k1 k5 k6 k7 => ?_) y.length 0 o 0 _ (by omega) ho hd (by decide) (by simp[val]) rfl ?_ ?_ ?_ ?_ ?_ ?_
  . have wi:IntKind.i64.wrap ((i:Int)+y.length)=((i+y.length:Nat):Int):=by rw[Qj (by omega) (by omega)]; omega
    have wc:=QaW (n:=c) (by omega);obtain⟨j,hj⟩:∃ j,j=i+y.length:=⟨_,rfl⟩;rw[<-hj]at wi hv2 ht2 ht;have hjo:j<o2.length:=by omega
    have hset:=QiO hjo c;have hvs:=Qj0 hjo c;have hln:(us o2).length=n:=by rw[QP,ho2]
    have hz:o2[j]=0:=by
     have h1:=Wj (λl=>l[0]?) (ht2.trans ht);simp only[Vr,Yf]at h1;rw[Vb hjo]at h1;simpa[show 0<x.length-i by omega]using h1
    rw[hz,Yc,Yf]at hvs;simp -implicitDefEqProofs[k0,k1,k5,k6,k7,wi,wc,hset,hln];repeat (refine⟨by omega,?_⟩)
    refine⟨rfl,?_⟩;repeat (refine⟨by omega,?_⟩)
    refine ih (i+1) (o2.set j c) _ (by omega) (by rw[VO]; exact ho2) (hd2.set hc) ?_ ?_ ?_ ?_ ?_ ?_
    . rw[hvs,hv2,hv,Qpx hix,V0];congr 1;rw[Yj,Yj,VF (val y)]
    . rw[show i+1+y.length=j+1 by omega];apply Vz;intro u;have h1:=Wj (λl=>l[u+1]?) (ht2.trans ht);simp only[Vr]at h1;rw[Vr,Ve (by omega),show j+1+u=j+(u+1)by omega,h1,ZS,ZS];by_cases hu:u+1<x.length-i
      . rw[Wb hu,Wb (by omega)]
      . rw[Wa hu,Wa (by omega)]
    . simp[k0]
    . simp[k1]
    . simp[k5]
    . simp[w1]
  . simp[h0]
  . simp
  . simp[h5]
  . simp
  . simp
  . simp
theorem QdU (hl:(lim a).length+(lim b).length<1000000):Ok Tryz.prog 103 [nS a,nS b] H (.ret (nS (a*b))) H:=by
 refine Ql hm' Tryz.func103 c103 (by simp[nS,QbE]) λhcl => ?_;have wl:IntKind.i64.wrap (((lim a).length:Int)+(lim b).length)=(((lim a).length+(lim b).length:Nat):Int):=by rw[Qj (by omega) (by omega)]; omega
 obtain⟨n,hn⟩:∃ n,n=(lim a).length+(lim b).length:=⟨_,rfl⟩;rw[<-hn]at wl;simp -implicitDefEqProofs[i103,r103,nS,wl];repeat (refine⟨by omega,?_⟩)
 have e0:List.replicate n (SV.val (.int .u32 0))=us (List.replicate n 0):=by simp[us,u32]
 rw[e0];refine QtZ (H:=H) (QaO a) (QaO b) hn (by omega) (λenv o ho hd hv h5 => ?_) (lim a).length 0 (List.replicate n 0) _ (by omega) (by simp) (λz hz=>by simp[Y4]at hz; rw[hz.2]; decide) (by rw[QmW]; simp[val]) ?_ ?_ ?_ ?_ ?_
 . rw[Qcb,Qcb]at hv;have ht:=QdX hd;rw[hv]at ht;simp -implicitDefEqProofs[h5];have h69:=Qjn (X:=H++[⟨us o,114,0,true⟩]) (l:=o) (k:=H.length) (v:=0) (by simp) (by omega);rw[ho]at h69;refine Q4 h69 ?_;rintro o' G' ⟨rfl,hG⟩;rw[hG];simp -implicitDefEqProofs;have hf:=Qk2 (n:=H.length) (L:=[⟨us o,114,0,true⟩]) (z:=o) (k:=0) (d:=0) (v:=0) (by simp);rw[ht,Yf]at hf;rw[ht];exact Qg 2 hcl rfl hf
 . simp[hn]
 . simp
 . simp
 . simp
 . simp
end
section
variable {H:Ws}
theorem Qik {n:Nat} (hn:n<B):Ok Tryz.prog 129 [.val (.int .u32 (n:Nat))] H (.ret (nS n)) H:=by
 refine Ql hm' Tryz.func129 c129 (by simp[SV.under]) λhcl => ?_;have ht:=QdX (l:=[n]) (λz hz=>by simp at hz; rw[hz]; exact hn);have hv:val [n]=n:=by simp[val]
 rw[hv]at ht;simp -implicitDefEqProofs[i129,r129];refine⟨⟨rfl,rfl,rfl⟩,rfl,?_⟩;have h69:=Qjn (X:=H++[⟨us [n],114,0,true⟩]) (l:=[n]) (k:=H.length) (v:=0) (by simp) (by simp);simp only[us,u32,Vs,V4,VT,Yx,VX]at h69;refine Q4 h69 ?_;rintro o' G' ⟨rfl,hG⟩;rw[hG];simp -implicitDefEqProofs;have hf:=Qk2 (n:=H.length) (L:=[⟨us [n],114,0,true⟩]) (z:=[n]) (k:=0) (d:=0) (v:=0) (by simp);rw[ht,Yf]at hf;rw[ht];exact Qg 2 hcl rfl hf
set_option maxRecDepth 10000 in
theorem Qu0 {z:List Nat} (hz:z.length<1000000) {N:Nat} {K:Wr}
 (hexit:∀ env G,env.get 3=.own H.length 0 z.length 1 z.length->K (.exit 0) env (H++⟨us z,114,z.length,true⟩::G)) :
 ∀ (m:Nat) (n:Int) (p:List Nat) (env:Env) (G:Ws),p.length+m=z.length -> -9223372036854775808<=n/\n<=9223372036854775807->p++lim n.natAbs=z->env.get 0=i64 n->env.get 3=.own H.length 0 p.length 1 p.length ->
  LI Tryz.prog N Qb Qho env (H++⟨us p,114,p.length,true⟩::G) K:=by
 have hB:B=1000000000:=rfl;intro m
 induction m with
 |zero =>
  intro n p env G hm hn hp h0 h3;refine Qc hm' Qho.eq_1 ?_;have hl:=Wj List.length hp;simp only[Vt]at hl;have h1:lim n.natAbs=[]:=Vx (by omega);have h2:=Qdt.1 h1;have h3':n=0:=by omega
  subst h3';rw[h1,VV]at hp;subst hp;simp -implicitDefEqProofs[h0,h3];exact hexit _ G (by simp[h3])
 |succ m ih =>
  intro n p env G hm hn hp h0 h3;refine Qc hm' Qho.eq_1 ?_;have hl:=Wj List.length hp;simp only[Vt]at hl;have hne:n.natAbs≠0:=by
   intro e;rw[e,Q8]at hl;simp at hl;omega
  have hn0:¬ n=0:=by omega
  rw[QaQ hne]at hp;obtain⟨q,hq⟩:∃ q,q=n.tdiv 1000000000:=⟨_,rfl⟩;obtain⟨d,hd⟩:∃ d,d=n.tmod 1000000000:=⟨_,rfl⟩;have hqa:q.natAbs=n.natAbs / B:=by rw[hq,hB]; exact Int.natAbs_tdiv n 1000000000
  have hda:d.natAbs=n.natAbs % B:=by rw[hd,hB]; exact Int.natAbs_tmod n 1000000000
  have hdb:d.natAbs<B:=by rw[hda]; exact Yr _ Qda
  have hqb:q.natAbs<=n.natAbs:=by rw[hqa]; exact YL _ _
  have hq2:q.natAbs<=9223372036854775808 / 1000000000:=by rw[hqa,hB]; omega
  have wq:IntKind.i64.wrap q=q:=Qj (by omega) (by omega);have wn:IntKind.i64.wrap (-d) = -d:=Qj (by omega) (by omega);obtain⟨r,hr⟩:∃ r,r=d.natAbs:=⟨_,rfl⟩;have hmx:max d (-d)=(r:Int):=by omega
  have wr:=QaW (n:=r) (by omega);have e:us p++[.val (.int .u32 (r:Int))]=us (p++[r]):=by simp[us,u32]
  have hih:=ih q (p++[r]);have hpl:(p++[r]).length=p.length+1:=by simp
  rw[hpl,<- e]at hih;simp -implicitDefEqProofs[h0,h3,hn0,<- hq,<- hd,wq,wn,hmx,wr,QP];refine⟨⟨rfl,rfl,rfl⟩,rfl,?_⟩;repeat (refine⟨by omega,?_⟩)
  refine hih _ _ (by omega) (by omega) ?_ ?_ ?_
  . rw[hqa,VC,Zm,hr,hda];exact hp
  . simp
  . simp
theorem ok71 (n:Int) (hn : -9223372036854775808<=n/\n<=9223372036854775807):Ok Tryz.prog 71 [i64 n] H (.ret (nS n.natAbs)) H:=by
 refine Ql hm' Tryz.func71 c71 (by simp) λhcl => ?_;have hz:(lim n.natAbs).length<=3:=Qb4 (by
  have:B ^ 3=1000000000000000000000000000:=by decide
  omega)
 simp -implicitDefEqProofs[i71,r71];refine Qu0 (H:=H) (z:=lim n.natAbs) (by omega) (λenv G h3 => ?_) (lim n.natAbs).length n [] _ [] (by simp) hn (by simp) (by simp) (by simp);simp -implicitDefEqProofs[h3];refine Qg 2 hcl rfl ?_;simp[nS,QP,Qc5,QbE];exact VB (by rw[QP]; omega)
end
end Go.Proofs.YtogjmpkehjfecaaGreatDoor.Rc
namespace Go.Ab.Lm
theorem Qgj:∀ (k n:Nat),(lim n).drop k=lim (n / B ^ k)
 |0,n=>by simp
 |k+1,n=>by
  by_cases h:n=0
  . subst h; rw[Q8]; simp[Q8]
  . rw[QaQ h,ZR,Qgj k,Zb,V6,VF B]
theorem Qfv {n k:Nat} (h:k<(lim n).length):(lim n)[k]=n / B ^ k % B:=by
 have h1:=Qgj k n;rw[Vu h]at h1;have h2:n / B ^ k≠0:=by
  intro e;rw[e,Q8]at h1
  cases h1
 rw[QaQ h2]at h1;exact(List.cons.inj h1).1
theorem Qhx {n:Nat} (h:n≠0) (hk:(lim n).length-1<(lim n).length):(lim n)[(lim n).length-1]=n / B ^ ((lim n).length-1)/\0<n / B ^ ((lim n).length-1)/\n / B ^ ((lim n).length-1)<B:=by
 have h1:=Qkz h;have h2:=Qb5 n;have h3:0<n / B ^ ((lim n).length-1):=Nat.div_pos h1 (Qht _);have h4:n / B ^ ((lim n).length-1)<B:=by
  apply Zc;rw[<-V6,show((lim n).length-1).succ=(lim n).length by omega];exact h2
 refine⟨?_,h3,h4⟩;rw[Qfv hk,YU h4]
theorem Qt4 {x n:Nat} (hx:x<B):Qz (x::lim n)=lim (x+B*n):=by
 have h:=QdX (l:=x::lim n) (λy hy=>by
  rcases Vi.1 hy with rfl|hy
  . exact hx
  . exact QaO n y hy)
 rw[h,val,Qcb]
theorem Qq9 {R b P:Nat} (hP:0<P) (ht:0<b / P):R / b<=R / P / (b / P):=by
 rw[Zb];apply Nat.div_le_div_left
 . exact Nat.mul_div_le b P
 . exact Zd hP ht
theorem Qvg {A b x:Nat} (hb:0<b) (hA:A=x+B*(A / B)):A / b=(x+B*(A / B % b)) / b+B*(A / B / b)/\A % b=(x+B*(A / B % b)) % b:=by
 have h1:=Zw (A / B) b;generalize A / B=Q at *;have h2:A=(x+B*(Q % b))+b*(B*(Q / b)):=by
  rw[hA];conv=>lhs; rw[<-h1]
  rw[Ys,Nat.mul_left_comm];omega
 rw[h2];exact⟨Nat.add_mul_div_left _ _ hb,Nat.add_mul_mod_self_left _ _ _⟩
end Go.Ab.Lm
namespace Go.Proofs.YtogjmpkehjfecaaGreatDoor.Rc
open Go.Ab Go.Ab.Shr
theorem oc0 {G:Ws} {p:Nat} {c:Wt} {T:Ww} {v:Nat} (h:G[p]? = some ⟨c,T,v,true⟩):Qe G p v=c:=Qaw (o:=⟨c,T,v,true⟩) h rfl
theorem Qd5 {V:List Int} {n ch i q:Nat} (hV:V.length=4*n) (hc:ch<n) (hi:i<n) (hq:q<4) (hne:i≠ch) (f:Nat->Int):(Qv V ch f).getD (i*4+q) 0=V.getD (i*4+q) 0:=by
 simp only[Vm,Qv];congr 1;by_cases hlt:i<ch
 . rw[Vd (by simp; omega),Y0 (by omega)]
 . rw[Vg (by simp; omega),Vg (by simp; omega),Vr];congr 1;simp; omega
theorem QjC {V:List Int} {n ch q:Nat} (hV:V.length=4*n) (hc:ch<n) (hq:q<4) (f:Nat->Int):(Qv V ch f).getD (ch*4+q) 0=f q:=by
 simp only[Vm,Qv];rw[Vg (by simp; omega),Vd (by simp; omega)];have:ch*4+q-(List.take (ch*4) V).length=q:=by simp; omega
 rw[this,Vb (by simpa using hq),Qc2 hq]; rfl
theorem Qib {V:List Int} {n ch q:Nat} (hV:V.length=4*n) (hc:ch<n) (hq:q<4) (f:Nat->Int) (y:Int):(Qv V ch f).set (ch*4+q) y=Qv V ch (put f q y):=by
 unfold Qv;have e:ch*4+q-(List.take (ch*4) V).length=q:=by simp; omega
 rw[YG _ _ (by simp; omega),e,Yo _ _ (by simp; omega),Qd4]
theorem QnC {q:Nat} {a b:Nat->Int} (h:a q=b q):Qq q a b=Qq (q+1) a b:=by
 rw[<-QcU];funext x;unfold put;split
 . rename_i e; subst e; rw[QfA,h]
 . rfl
def Qgg (g:Gm) (i q:Nat):Bool:=match g.ns[i]? with
 |none=>false
 |some x=>decide (x.k=2/\x.p=q)
def QA (V:List Int) (i q:Nat):Int:=V.getD (i*4+q) 0
def qoF (a part whole:Int):Int:=IntKind.i64.wrap ((IntKind.i64.wrap (a*part)).tdiv whole)
def QN (g:Gm) (own:Bool) (S:Nat->List Int) (M R:List Int) (i k q:Nat):Int :=
 if Qgg g i q=own then qoF (R.getD (i*4+q) 0) (brP g S i k) (brW g M i)else R.getD (i*4+q) 0
theorem QnO {V:List Int} {n ch i:Nat} (hV:V.length=4*n) (hi:i<n):List.take (ch*4) (Qa V)++(List.take 4 (List.drop (i*4) (Qa V))++List.drop (ch*4+4) (Qa V))=Qa (Qv V ch (QA V i)):=by
 have e:List.take 4 (List.drop (i*4) V)=Qh 4 (QA V i):=by
  apply Vz;intro q;by_cases hq:q<4
  . rw[Y0 hq,Vr,Vb (by omega),Vb (by simpa using hq),Qc2 hq];simp[QA,show i*4+q<V.length by omega]
  . rw[Vq (by simp; omega),Vq (by simp; omega)]
 simp only[Qv,<- e,Qa,YM,ZU,List.map_drop]
section
variable {g:Gm} {H:Ws} {c:TC}
set_option maxRecDepth 10000 in
theorem QtQ (hW:Wg g) (hc:c.Ok g) {i k ch:Nat} (hi:i<g.ns.length) (hch:ch<g.ns.length) (hne:i≠ch) {s:TS} {R O:List Int} (hR:R.length=4*g.ns.length) (hO:O.length=4*g.ns.length) {x20 x21 x22:SV} {N:Nat} {K:Wr}
 (hexit:∀ env G',TW g H c { s with R:=Qv R ch (Qq g.pl.toNat (QN g false s.S c.M R i k) (QA R i)),O:=Qv O ch (Qq g.pl.toNat (QN g true s.S c.M O i k) (QA O i)) } G' ->
  env.get 0=.ptr (.own (pW H g) 0 0 0 0) 0->env.get 1=i64 i->env.get 4=.ptr (.slc (nds g.ns) g.ns.length) (i*6)->env.get 20=x20->env.get 21=x21->env.get 22=x22->K (.exit 2) env G') :
 ∀ (m q:Nat) (env:Env) (G:Ws),((q+m:Nat):Int)=g.pl ->
  TW g H c { s with R:=Qv R ch (Qq q (QN g false s.S c.M R i k) (QA R i)),O:=Qv O ch (Qq q (QN g true s.S c.M O i k) (QA O i)) } G ->
  env.get 0=.ptr (.own (pW H g) 0 0 0 0) 0->env.get 1=i64 i->env.get 4=.ptr (.slc (nds g.ns) g.ns.length) (i*6)->env.get 6=i64 ch->env.get 7=i64 (brP g s.S i k)->env.get 8=i64 (brW g c.M i)->env.get 20=x20->env.get 21=x21->env.get 22=x22->env.get 64=i64 g.pl->env.get 65=i64 q ->
  LI Tryz.prog N Qb Qhu env G K:=by
 have hp4:=hW.gd.p4;have hn:=hW.gd.n;have hx:g.ns[i]? = some g.ns[i]:=Vb hi;have hwn:=Qmi hc hi;intro m
 induction m with
 |zero =>
  intro q env G hq h h0 h1 h4 h6 h7 h8 h20 h21 h22 h64 h65;refine Qc hm Qhu.eq_1 ?_;have e:q=g.pl.toNat:=by omega
  rw[e]at h;simp -implicitDefEqProofs[h64,h65,show ¬ (q:Int)<g.pl by omega];exact hexit _ _ h (by simp[h0]) (by simp[h1]) (by simp[h4]) (by simp[h20]) (by simp[h21]) (by simp[h22])
 |succ m ih =>
  intro q env G hq h h0 h1 h4 h6 h7 h8 h20 h21 h22 h64 h65;refine Qc hm Qhu.eq_1 ?_;have hq4:q<4:=by omega
  have hqp:(q:Int)<g.pl:=by omega
  have hw:=h.cw0;have w1:=QO (show q<9223372036854775807 by omega);by_cases hh:Qgg g i q=true
  . have hk:g.ns[i].k=2/\g.ns[i].p=q:=by simpa[Qgg,hx]using hh
    have eR:QN g false s.S c.M R i k q=R.getD (i*4+q) 0:=by simp[QN,hh]
    have eO:QN g true s.S c.M O i k q=qoF (O.getD (i*4+q) 0) (brP g s.S i k) (brW g c.M i):=by simp[QN,hh]
    have eP:=QcU q (QN g true s.S c.M O i k) (QA O i);rw[QnC (q:=q) (a:=QN g false s.S c.M R i k) (b:=(QA R i)) eR]at h;have hO2:=oc0 h.o;have hg:=Qd5 hO hch hi hq4 hne (Qq q (QN g true s.S c.M O i k) (QA O i));have hs:=Qib hO hch hq4 (Qq q (QN g true s.S c.M O i k) (QA O i));have hl:=Qbb hO hch (Qq q (QN g true s.S c.M O i k) (QA O i));generalize hF:Qq q (QN g true s.S c.M O i k) (QA O i)=F at *;have hst:=QS h.o;have eI:(Qa (Qv O ch F))[i*4+q]?.getD .any=i64 (O.getD (i*4+q) 0):=by rw[QdA (by omega),hg]
    have hse:∀ y:Int,List.take (ch*4+q) (Qa (Qv O ch F))++i64 y::List.drop (ch*4+q+1) (Qa (Qv O ch F))=Qa (Qv O ch (put F q y)):=λy=>by rw[Qa7 (by omega),hs]
    have hF2:=h.setO (X:=Qv O ch (put F q (qoF (O.getD (i*4+q) 0) (brP g s.S i k) (brW g c.M i)))) (Qbb hO hch _);rw[<-eO,eP]at hF2;simp only[qoF]at eO;generalize O.getD (i*4+q) 0=y at *;simp -implicitDefEqProofs[h0,h1,h4,h6,h7,h8,h64,h65,hqp,hw,Qw,hi,nd0 hi,nd1 hi,QaF,hk.1,hk.2,hO2,hch,hst,hq4,hl,hwn,eI,hse];repeat (refine⟨by omega,?_⟩)
    rw[<-eO,eP];refine ih (q+1) _ _ (by omega) hF2 ?_ ?_ ?_ ?_ ?_ ?_ ?_ ?_ ?_ ?_ ?_
    . simp
    . simp
    . simp
    . simp
    . simp
    . simp
    . simp[h20]
    . simp[h21]
    . simp[h22]
    . simp
    . simp[w1]
  . have hh':Qgg g i q=false:=by simpa using hh
    have eR:QN g false s.S c.M R i k q=qoF (R.getD (i*4+q) 0) (brP g s.S i k) (brW g c.M i):=by simp[QN,hh']
    have eO:QN g true s.S c.M O i k q=O.getD (i*4+q) 0:=by simp[QN,hh']
    have eP:=QcU q (QN g false s.S c.M R i k) (QA R i);rw[QnC (q:=q) (a:=QN g true s.S c.M O i k) (b:=(QA O i)) eO]at h;have hR2:=oc0 h.r;have hg:=Qd5 hR hch hi hq4 hne (Qq q (QN g false s.S c.M R i k) (QA R i));have hs:=Qib hR hch hq4 (Qq q (QN g false s.S c.M R i k) (QA R i));have hl:=Qbb hR hch (Qq q (QN g false s.S c.M R i k) (QA R i));generalize hF:Qq q (QN g false s.S c.M R i k) (QA R i)=F at *;have hst:=QS h.r;have eI:(Qa (Qv R ch F))[i*4+q]?.getD .any=i64 (R.getD (i*4+q) 0):=by rw[QdA (by omega),hg]
    have hse:∀ y:Int,List.take (ch*4+q) (Qa (Qv R ch F))++i64 y::List.drop (ch*4+q+1) (Qa (Qv R ch F))=Qa (Qv R ch (put F q y)):=λy=>by rw[Qa7 (by omega),hs]
    have hF2:=h.setR (X:=Qv R ch (put F q (qoF (R.getD (i*4+q) 0) (brP g s.S i k) (brW g c.M i)))) (Qbb hR hch _);rw[<-eR,eP]at hF2;simp only[qoF]at eR;generalize R.getD (i*4+q) 0=y at *;by_cases hk:g.ns[i].k=2
    . have hp:¬ g.ns[i].p=q:=λe=>by simp[Qgg,hx,hk,e]at hh
      simp -implicitDefEqProofs[h0,h1,h4,h6,h7,h8,h64,h65,hqp,hw,Qw,hi,nd0 hi,nd1 hi,QaF,hk,hp,hR2,hch,hst,hq4,hl,hwn,eI,hse];repeat (refine⟨by omega,?_⟩)
      rw[<-eR,eP];refine ih (q+1) _ _ (by omega) hF2 ?_ ?_ ?_ ?_ ?_ ?_ ?_ ?_ ?_ ?_ ?_
      . simp
      . simp
      . simp
      . simp
      . simp
      . simp
      . simp[h20]
      . simp[h21]
      . simp[h22]
      . simp
      . simp[w1]
    . simp -implicitDefEqProofs[h0,h1,h4,h6,h7,h8,h64,h65,hqp,hw,Qw,hi,nd0 hi,nd1 hi,QaF,hk,hR2,hch,hst,hq4,hl,hwn,eI,hse];repeat (refine⟨by omega,?_⟩)
      rw[<-eR,eP];refine ih (q+1) _ _ (by omega) hF2 ?_ ?_ ?_ ?_ ?_ ?_ ?_ ?_ ?_ ?_ ?_
      . simp
      . simp
      . simp
      . simp
      . simp
      . simp
      . simp[h20]
      . simp[h21]
      . simp[h22]
      . simp
      . simp[w1]
def chR (g:Gm) (own:Bool) (S:Nat->List Int) (M R:List Int) (i k:Nat):List Int:=match g.ns[i]? with
 |none=>R
 |some x=>Qv R (x.nx.getD k 0).toNat (Qq g.pl.toNat (QN g own S M R i k) (QA R i))
def Qax (g:Gm) (own:Bool) (S:Nat->List Int) (M R:List Int) (i:Nat):Nat->List Int
 |0=>R
 |k+1=>chR g own S M (Qax g own S M R i k) i k
theorem QkZ {g:Gm} (hW:Wg g) {own:Bool} {S:Nat->List Int} {M R:List Int} {i:Nat} (hi:i<g.ns.length) (hR:R.length=4*g.ns.length):∀ k,k<=g.ns[i].nx.length->(Qax g own S M R i k).length=4*g.ns.length
 |0,_=>hR
 |k+1,hk=>by
  have hx:g.ns[i]? = some g.ns[i]:=Vb hi;have h1:=QkZ hW hi hR k (by omega) (own:=own) (S:=S) (M:=M);have hkl:k<g.ns[i].nx.length:=by omega
  have hch:=(hW.wf.nf i hi).ch _ (Vf hkl);simp only[Qax,chR,hx];have e:g.ns[i].nx.getD k 0=g.ns[i].nx[k]:=by simp[hkl]
  rw[e];exact Qbb h1 (by omega) _
set_option maxRecDepth 10000 in
theorem Qs3 (hW:Wg g) (hc:c.Ok g) {i:Nat} (hi:i<g.ns.length) {s:TS} {R O:List Int} (hR:R.length=4*g.ns.length) (hO:O.length=4*g.ns.length) {N:Nat} {K:Wr}
 (hexit:∀ env G',TW g H c { s with R:=Qax g false s.S c.M R i g.ns[i].nx.length,O:=Qax g true s.S c.M O i g.ns[i].nx.length } G'->K (.exit 0) env G') :
 ∀ (m k:Nat) (env:Env) (G:Ws),k+m=g.ns[i].nx.length ->
  TW g H c { s with R:=Qax g false s.S c.M R i k,O:=Qax g true s.S c.M O i k } G ->
  env.get 0=.ptr (.own (pW H g) 0 0 0 0) 0->env.get 1=i64 i->env.get 4=.ptr (.slc (nds g.ns) g.ns.length) (i*6)->env.get 20=.slc (Qa g.ns[i].nx) g.ns[i].nx.length->env.get 21=i64 g.ns[i].nx.length->env.get 22=i64 k ->
  LI Tryz.prog N Qb Qhr env G K:=by
 have hn:=hW.gd.n;have hnx60:g.ns[i].nx.length<=60:=Qfx (hW.gd.e _ (Vf hi));have hx:g.ns[i]? = some g.ns[i]:=Vb hi;have hp1:=hW.gd.p1;have hp4:=hW.gd.p4;intro m
 induction m with
 |zero =>
  intro k env G hk h h0 h1 h4 h20 h21 h22;refine Qc hm Qhr.eq_1 ?_;have e:k=g.ns[i].nx.length:=by omega
  subst e;simp -implicitDefEqProofs[h21,h22];exact hexit _ _ h
 |succ m ih =>
  intro k env G hk h h0 h1 h4 h20 h21 h22;refine Qc hm Qhr.eq_1 ?_;have hkl:k<g.ns[i].nx.length:=by omega
  have hch:=(hW.wf.nf i hi).ch _ (Vf hkl);have hcn:((g.ns[i].nx[k].toNat:Nat):Int)=g.ns[i].nx[k]:=by omega
  have hgd:g.ns[i].nx.getD k 0=g.ns[i].nx[k]:=by simp[hkl]
  have hRl:=QkZ hW hi hR k (by omega) (own:=false) (S:=s.S) (M:=c.M);have hOl:=QkZ hW hi hO k (by omega) (own:=true) (S:=s.S) (M:=c.M);have key1:Qax g false s.S c.M R i (k+1)=Qv (Qax g false s.S c.M R i k) g.ns[i].nx[k].toNat (Qq g.pl.toNat (QN g false s.S c.M (Qax g false s.S c.M R i k) i k) (QA (Qax g false s.S c.M R i k) i)):=by simp only[Qax,chR,hx,hgd]
  have key2:Qax g true s.S c.M O i (k+1)=Qv (Qax g true s.S c.M O i k) g.ns[i].nx[k].toNat (Qq g.pl.toNat (QN g true s.S c.M (Qax g true s.S c.M O i k) i k) (QA (Qax g true s.S c.M O i k) i)):=by simp only[Qax,chR,hx,hgd]
  have ih2:=λ(env:Env) (G:Ws)=>ih (k+1) env G (by omega);rw[key1,key2]at ih2;generalize Qax g false s.S c.M R i k=R1 at *;generalize Qax g true s.S c.M O i k=O1 at *;have hw:=h.cw0;have w1:=QO (show k<9223372036854775807 by omega);simp -implicitDefEqProofs[h0,h1,h4,h20,h21,h22,hkl];have hcall:=ok89 hW h [] hi hkl;rw[VV]at hcall;refine⟨by omega,Qf hcall ?_⟩;generalize hc2:g.ns[i].nx[k].toNat=ch at *;have hchn:ch<g.ns.length:=by omega
  rw[<-hcn];have hR2:=oc0 h.r;have hO2:=oc0 h.o;have hs1:=QS h.r;have hA:=h.setR (X:=Qv R1 ch (QA R1 i)) (Qbb hRl hchn _);have hs2:=QS hA.o;have hO3:=oc0 hA.o;have hB:=hA.setO (X:=Qv O1 ch (QA O1 i)) (Qbb hOl hchn _);have hw2:=hB.cw0;have m1:min 4 (R1.length-i*4)=4:=by omega
  have m2:min 4 (O1.length-i*4)=4:=by omega
  have c1:∀ l:List Int,Qy (List.take 4 (List.drop (i*4) (Qa l))):=λl=>by rw[Qui,Qoc]; simp
  simp -implicitDefEqProofs[h0,h1,h4,h20,h21,h22,hw,hw2,Qw,hR2,hO2,hO3,hi,hchn,m1,m2,c1,hs1,hs2,QnO hRl hi,QnO hOl hi];repeat (refine⟨by omega,?_⟩)
  rw[<-QcM (QN g false s.S c.M R1 i k) (QA R1 i),<- QcM (QN g true s.S c.M O1 i k) (QA O1 i)]at hB;have hne:i≠ch:=by omega
  refine QtQ (H:=H) hW hc (k:=k) hi hchn hne (s:=s) (R:=R1) (O:=O1) hRl hOl (x20:=.slc (Qa g.ns[i].nx) g.ns[i].nx.length) (x21:=i64 g.ns[i].nx.length) (x22:=i64 k) (λenv G' hG' g0 g1 g4 g20 g21 g22 => ?_) g.pl.toNat 0 _ _ (by omega) ?_ (by simp) (by simp) (by simp) (by simp) (by simp) (by simp) (by simp) (by simp) (by simp) (by simp) (by simp)
  . simp -implicitDefEqProofs[g0,g1,g4,g20,g21,g22];refine ih2 _ _ hG' ?_ ?_ ?_ ?_ ?_ ?_
    . simp[g0]
    . simp[g1]
    . simp[g4]
    . simp[g20]
    . simp[g21]
    . simp[w1]
  . rw[QcM,QcM]at hB ⊢;exact hB
set_option maxRecDepth 10000 in
theorem ok58 (hW:Wg g) (hc:c.Ok g) {s:TS} {G:Ws} (h:TW g H c s G) {i:Nat} (hi:i<g.ns.length) :
 OkP Tryz.prog 58 [.ptr (.own (pW H g) 0 0 0 0) 0,i64 i] G λout G'=>out=.ret (.tup [])/\TW g H c { s with R:=Qax g false s.S c.M s.R i g.ns[i].nx.length,O:=Qax g true s.S c.M s.O i g.ns[i].nx.length } G':=by
 have hlt:=h.ltw;have hn:=hW.gd.n;have hw:=h.cw0;refine QaY hm Tryz.func58 c58 (by simp[hlt]) λhcl => ?_;simp -implicitDefEqProofs[i58,r58,hw,Qw,hi,nd3 hi,QaF];repeat (refine⟨by omega,?_⟩)
 refine Qs3 (H:=H) hW hc hi (s:=s) (R:=s.R) (O:=s.O) h.l.R h.l.O (λenv G' hG' => ?_) g.ns[i].nx.length 0 _ _ (by omega) h (by simp) (by simp) (by simp) (by simp) (by simp) (by simp);simp -implicitDefEqProofs;exact⟨_,_,⟨rfl,hG'⟩,Qn⟩
end
end Go.Proofs.YtogjmpkehjfecaaGreatDoor.Rc
namespace Go.Proofs.YtogjmpkehjfecaaGreatDoor.Rc
open Go.Ab Go.Ab.Lm
section
variable {H X:Ws}
set_option maxRecDepth 10000 in
theorem QuL {l m0:List Nat} {k v:Nat} (hk:X[k]? = some ⟨us l,114,v,true⟩) {N:Nat} {K:Wr} (hexit:∀ env,env.get 0=.own k 0 (Qz m0).length 1 v->K (.exit 0) env X) :
 ∀ (n:Nat) (m:List Nat) (env:Env) (s:List Nat),n<1000000->m.length=n->m++s=l->Qz m=Qz m0->env.get 0=.own k 0 m.length 1 v->LI Tryz.prog N Qb Qdk env X K:=by
 intro n
 induction n with
 |zero =>
  intro m env s hn hm0 hs ht h0;refine Qc hm' Qdk.eq_1 ?_;have:m=[]:=Vx hm0;subst this;simp -implicitDefEqProofs[h0];refine hexit _ ?_;rw[<-ht]; simp[Qz]
 |succ n ih =>
  intro m env s hn hml hs ht h0;refine Qc hm' Qdk.eq_1 ?_;obtain⟨m',y,rfl⟩:∃ m' y,m=m'++[y]:=⟨m.dropLast,m.getLast (by intro e; rw[e]at hml; simp at hml),(List.dropLast_concat_getLast _).symm⟩;have hm':m'.length=n:=by simp at hml; exact hml
  have w1:IntKind.i64.wrap (n:Int)=n:=Qck (by omega);have hc:=Qaw (o:=⟨us l,114,v,true⟩) hk rfl;have hln:n<l.length:=by rw[<-hs]; simp; omega
  have e2:(us l)[n]?.getD .any=.val (.int .u32 y):=by
   rw[QaX hln];have:l[n]=y:=by subst hs; simp[List.getElem_append,hm']
   rw[this]; rfl
  have e2':∀ h,(us l)[n]'h=.val (.int .u32 y):=λh=>by
   have:=e2;rw[Vb h]at this;simpa using this
  have hll:(us l).length=l.length:=QP l;by_cases hy:y=0
  . subst hy;simp -implicitDefEqProofs[h0,w1,hm',hc,e2,e2',hll];repeat (refine⟨by omega,?_⟩)
    refine ih m' _ ([0]++s) (by omega) hm' (by rw[<-hs]; simp) (by rw[<-ht,QfV]) ?_;simp[hm']
  . have hy':¬ (y:Int)=0:=by omega
    simp -implicitDefEqProofs[h0,w1,hm',hc,e2,e2',hll,hy,hy'];repeat (refine⟨by omega,?_⟩)
    refine hexit _ ?_;rw[<-ht,Qg6 hy];simp[hm']
theorem Qmz {l m s:List Nat} {k v:Nat} (hk:X[k]? = some ⟨us l,114,v,true⟩) (hs:m++s=l) (hl:m.length<1000000):OkP Tryz.prog 130 [.own k 0 m.length 1 v] X λo X'=>o=.ret (.own k 0 (Qz m).length 1 v)/\X'=X:=by
 have hlt:=Qd hk;refine QaY hm' Tryz.func130 Qlf (by simp[hlt]) λhcl => ?_;simp -implicitDefEqProofs[Qhw,QiG];refine QuL (m0:=m) hk (λenv h0 => ?_) m.length m _ s hl rfl hs rfl (by simp);simp -implicitDefEqProofs[h0];exact⟨_,_,⟨rfl,rfl⟩,Qn⟩
theorem QmM {n:Nat} {L:Ws} {l m s:List Nat} {k d v:Nat} (hs:m++s=l) (h:L[k]? = some ⟨us l,114,v,true⟩):SV.fz n [] L (d+2) (.own (n+k) 0 (Qz m).length 1 v)=.slc (us (Qz m)) (Qz m).length:=by
 have hl:=Qjf m;have e:(us l).take (Qz m).length=us (Qz m):=by
  unfold us;rw[<-ZU,<- hs,YV hl,QhO]
 have hll:(Qz m).length<=l.length:=by rw[<-hs]; simp; omega
 rw[QdR,h];simp[QX,QP,Qc5,QbE,e,hll]
theorem QtF {R n:Nat} {y:List Nat} {x0 x4 x6 x7 x9:SV} (hy:y.length=n) (hn:1<=n) (hR:R / B ^ (n-1)<B*B) (hRl:(lim R).length<1000000) (hnl:n<1000000) {N:Nat} {K:Wr}
 (hexit:∀ env,env.get 0=x0->env.get 1=.slc (us y) y.length->env.get 4=x4->env.get 5=nS R->env.get 6=x6->env.get 7=x7->env.get 9=x9->env.get 10=.val (.int .u64 (R / B ^ (n-1):Nat))->K (.exit 2) env X) :
 ∀ (m:Nat) (k:Nat) (env:Env),k<=(lim R).length->n-1+m=max k (n-1)->env.get 0=x0->env.get 1=.slc (us y) y.length->env.get 4=x4->env.get 5=nS R->env.get 6=x6->env.get 7=x7->env.get 9=x9 ->
  env.get 10=.val (.int .u64 (R / B ^ k:Nat))->(k<n-1->R / B ^ k=0)->env.get 11=i64 ((k:Int)-1)->LI Tryz.prog N Qb Qig env X K:=by
 have hB:B=1000000000:=rfl;have wy:IntKind.i64.wrap ((y.length:Int)-1)=(y.length:Int)-1:=Qj (by omega) (by omega);intro m
 induction m with
 |zero =>
  intro k env hk hm h0 h1 h4 h5 h6 h7 h9 h10 hz h11;refine Qc hm' Qig.eq_1 ?_;have hkn:k<=n-1:=by omega
  have e:R / B ^ k=R / B ^ (n-1):=by
   by_cases e:k=n-1
   . rw[e]
   . rw[hz (by omega)];have h1:=hz (by omega);have h2:R / B ^ (n-1)<=R / B ^ k:=Nat.div_le_div_left (YK Qda (by omega)) (Qht k);rw[h1]at h2;exact(Nat.le_zero.1 h2).symm
  rw[e]at h10;simp -implicitDefEqProofs[h0,h1,h4,h5,h6,h7,h9,h10,h11,wy,show ¬ (y.length:Int)-1<=(k:Int)-1 by omega];exact hexit _ (by simp[h0]) (by simp[h1]) (by simp[h4]) (by simp[h5]) (by simp[h6]) (by simp[h7]) (by simp[h9]) (by simp[h10])
 |succ m ih =>
  intro k env hk hm h0 h1 h4 h5 h6 h7 h9 h10 hz h11;refine Qc hm' Qig.eq_1 ?_;obtain⟨j,rfl⟩:∃ j,k=j+1:=⟨k-1,by omega⟩;have hjR:j<(lim R).length:=by omega
  have ej:((j+1:Nat):Int)-1=j:=by omega
  rw[ej]at h11;have w1:IntKind.i64.wrap ((j:Int)-1)=(j:Int)-1:=Qj (by omega) (by omega);have g:(us (lim R))[j]?.getD .any=.val (.int .u32 (lim R)[j]):=QaX hjR;have g':∀ h,(us (lim R))[j]'h=.val (.int .u32 (lim R)[j]):=λh=>QbI hjR h;have dj:=QaO R _ (Vf hjR);have hs:R / B ^ j=(R / B ^ (j+1))*B+(lim R)[j]:=by
   rw[Qfv hjR,V6,<- Zb];have:=Zw (R / B ^ j) B;rw[VF]at this;exact this.symm
  have hjb:R / B ^ j<=R / B ^ (n-1):=Nat.div_le_div_left (YK Qda (by omega)) (Qht _);have hBB:B*B=1000000000000000000:=rfl;obtain⟨u,hu⟩:∃ u,u=R / B ^ (j+1):=⟨_,rfl⟩;obtain⟨t,ht⟩:∃ t,t=R / B ^ j:=⟨_,rfl⟩;obtain⟨p,hp⟩:∃ p,p=u*B:=⟨_,rfl⟩;rw[<-hu,<- ht,<- hp]at hs;rw[<-hu]at h10;have wp:IntKind.u64.wrap ((u:Int)*1000000000)=(p:Int):=by
   rw[show(u:Int)*1000000000=((p:Nat):Int)by rw[hp,hB]; simp,Q0 (by omega)]
  have wr:=Q0 (n:=(lim R)[j]) (by omega);have wt:IntKind.u64.wrap ((p:Int)+((lim R)[j]:Nat))=(t:Int):=by
   rw[show(p:Int)+((lim R)[j]:Nat)=((t:Nat):Int)by omega,Q0 (by omega)]
  have hih:=ih j;rw[<-ht]at hih;simp only[nS]at h5 hih;simp -implicitDefEqProofs[h0,h1,h4,h5,h6,h7,h9,h10,h11,wy,show(y.length:Int)-1<=(j:Int)by omega,hjR,QP,g,g',wp,wr,wt];repeat (refine⟨by omega,?_⟩)
  refine hih _ (by omega) (by omega) ?_ ?_ ?_ ?_ ?_ ?_ ?_ ?_ (λh=>by omega) ?_
  . simp[h0]
  . simp
  . simp[h4]
  . simp
  . simp[h6]
  . simp[h7]
  . simp[h9]
  . simp
  . simp[w1]
theorem QvH {R b:Nat} {x0 x4 x6 x7 x9:SV} (hb:0<b) (hRl:(lim R).length<100000) (hbl:(lim b).length<100000) {N:Nat} {K:Wr}
 (hexit:∀ env,env.get 0=x0->env.get 1=nS b->env.get 4=x4->env.get 5=nS R->env.get 6=x6->env.get 7=x7->env.get 9=x9->env.get 12=.val (.int .u64 (R / b:Nat))->K (.exit 4) env X) :
 ∀ (d:Nat) (env:Env),d<B->R / b<=d->env.get 0=x0->env.get 1=nS b->env.get 4=x4->env.get 5=nS R->env.get 6=x6->env.get 7=x7->env.get 9=x9->env.get 12=.val (.int .u64 (d:Nat))->LI Tryz.prog N Qb QiA env X K:=by
 have hB:B=1000000000:=rfl;intro d
 induction d with
 |zero =>
  intro env hd hq h0 h1 h4 h5 h6 h7 h9 h12;refine Qc hm' QiA.eq_1 ?_;have w:=QaW (n:=0) (by omega);have hl0:(lim 0).length=0:=by rw[Q8]; rfl
  have h42:=λH=>QdU (H:=H) (a:=b) (b:=0) (by omega);have h44:=λH=>QeY (H:=H) (a:=b*0) (b:=R) (by rw[ZN]; omega) (by omega);rw[ZN]at h42 h44;simp -implicitDefEqProofs[h0,h1,h4,h5,h6,h7,h9,h12];refine Qf (Qik (n:=0) (by decide)) ?_;simp -implicitDefEqProofs[h0,h1,h4,h5,h6,h7,h9,h12];refine Qf (h42 _) ?_;simp -implicitDefEqProofs[h0,h1,h4,h5,h6,h7,h9,h12];refine Qf (h44 _) ?_;have e:¬ 0<Qam 0 R:=by unfold Qam; split<;>simp
  have hz:R / b=0:=Nat.le_zero.1 hq;rw[hz]at hexit;simp -implicitDefEqProofs[e,h0,h1,h4,h5,h6,h7,h9,h12];exact hexit _ (by simp[h0]) (by simp[h1]) (by simp[h4]) (by simp[h5]) (by simp[h6]) (by simp[h7]) (by simp[h9]) (by simp[h12])
 |succ d ih =>
  intro env hd hq h0 h1 h4 h5 h6 h7 h9 h12;refine Qc hm' QiA.eq_1 ?_;obtain⟨c,hc⟩:∃ c,c=d+1:=⟨_,rfl⟩;rw[<-hc]at h12 hd hq;have w:=QaW (n:=c) (by omega);have hl1:(lim c).length<=1:=Qb4 (by simpa using hd);have hlm:(lim (b*c)).length<=(lim b).length+1:=Qb4 (by
   rw[V6];exact Nat.mul_lt_mul'' (Qb5 b) hd)
  have h42:=λH=>QdU (H:=H) (a:=b) (b:=c) (by omega);have h44:=λH=>QeY (H:=H) (a:=b*c) (b:=R) (by omega) (by omega);have h82:=λH=>Qik (H:=H) (n:=c) hd;simp -implicitDefEqProofs[h0,h1,h4,h5,h6,h7,h9,h12,w];refine Qf (h82 _) ?_;simp -implicitDefEqProofs[h0,h1,h4,h5,h6,h7,h9,h12];refine Qf (h42 _) ?_;simp -implicitDefEqProofs[h0,h1,h4,h5,h6,h7,h9,h12];refine Qf (h44 _) ?_;by_cases hgt:R<b*c
  . have e:0<Qam (b*c) R:=by unfold Qam; rw[Wa (by omega),Wb hgt]; decide
    have wd:IntKind.u64.wrap ((c:Int)-1)=(d:Int):=by rw[show(c:Int)-1=((d:Nat):Int)by omega,Q0 (by omega)]
    simp -implicitDefEqProofs[e,h0,h1,h4,h5,h6,h7,h9,h12,wd];refine ih _ (by omega) (by
     have:=Zc hgt;omega) ?_ ?_ ?_ ?_ ?_ ?_ ?_ ?_
    . simp[h0]
    . simp[h1]
    . simp[h4]
    . simp[h5]
    . simp[h6]
    . simp[h7]
    . simp[h9]
    . simp
  . have e:¬ 0<Qam (b*c) R:=by unfold Qam; rw[Wa hgt]; split<;>simp
    have hz:R / b=c:=by
     have:c<=R / b:=(Nat.le_div_iff_mul_le hb).2 (by rw[VF]; omega);omega
    rw[hz]at hexit;simp -implicitDefEqProofs[e,h0,h1,h4,h5,h6,h7,h9,h12];exact hexit _ (by simp[h0]) (by simp[h1]) (by simp[h4]) (by simp[h5]) (by simp[h6]) (by simp[h7]) (by simp[h9]) (by simp[h12])
theorem QtS {R f k v n:Nat} {A:Ws} {x4:SV} (hf:0<f) (hfB:f<B) (hRl:(lim R).length<100000) {N:Nat} {K:Wr}
 (hexit:∀ env X l,X[k]? = some ⟨us l,114,v,true⟩->(∀ j,j≠k->X[j]? = A[j]?)->X.length=A.length->(∃ s,∃ m:List Nat,m++s=l/\m.length=(lim R).length/\Dig m/\val m=R / f)->env.get 4=x4->env.get 5=.own k 0 (lim R).length 1 v->K (.exit 6) env X) :
 ∀ (i:Nat) (env:Env) (X:Ws) (l s m:List Nat),i<=(lim R).length->X[k]? = some ⟨us l,114,v,true⟩->(∀ j,j≠k->X[j]? = A[j]?)->X.length=A.length->m++s=l->m.length=(lim R).length->m.take i=(lim R).take i->Dig m->val (m.drop i)=R / B ^ i / f ->
  env.get 4=x4->env.get 5=.own k 0 (lim R).length 1 v->env.get 6=nS f->env.get 13=.val (.int .u64 (R / B ^ i % f:Nat))->env.get 14=i64 ((i:Int)-1)->LI Tryz.prog N Qb QiQ env X K:=by
 have hB:B=1000000000:=rfl;have hBB:B*B=1000000000000000000:=rfl;have elf:lim f=[f]:=by
  rw[QaQ (by omega),YU hfB,YI hfB,Q8]
 intro i
 induction i with
 |zero =>
  intro env X l s m hi hX ho hXl hms hml ht hd hv h4 h5 h6 h13 h14;refine Qc hm' QiQ.eq_1 ?_;simp -implicitDefEqProofs[h4,h5,h6,h13,h14];exact hexit _ X l hX ho hXl ⟨s,m,hms,hml,hd,by simpa using hv⟩ (by simp[h4]) (by simp[h5])
 |succ i ih =>
  intro env X l s m hi hX ho hXl hms hml ht hd hv h4 h5 h6 h13 h14;refine Qc hm' QiQ.eq_1 ?_;have hiR:i<(lim R).length:=by omega
  have him:i<m.length:=by omega
  have hil:i<l.length:=by rw[<-hms]; simp; omega
  have ej:((i+1:Nat):Int)-1=i:=by omega
  rw[ej]at h14;have w1:IntKind.i64.wrap ((i:Int)-1)=(i:Int)-1:=Qj (by omega) (by omega);have hli:l[i]=(lim R)[i]:=by
   have h1:l[i]? = (lim R)[i]? := by
    rw[<-hms,Vd him];have:=Wj (λl=>l[i]?) ht;simpa[VD]using this
   rw[Vb hil,Vb hiR]at h1;simpa using h1
  have hc:=oc0 hX;have hst:=QS hX;have dj:=QaO R _ (Vf hiR);have g:(us l)[i]?.getD .any=.val (.int .u32 (lim R)[i]):=by rw[QaX hil,hli]; rfl
  have g':∀ h,(us l)[i]'h=.val (.int .u32 (lim R)[i]):=λh=>by rw[QbI hil,hli]; rfl
  have hll:(us l).length=l.length:=QP l;obtain⟨Q,hQ⟩:∃ Q,Q=R / B ^ (i+1):=⟨_,rfl⟩;obtain⟨c,hcc⟩:∃ c,c=Q % f:=⟨_,rfl⟩;rw[<-hQ,<- hcc]at h13;have hcf:c<f:=by rw[hcc]; exact Yr _ hf
  have hRi:R / B ^ i=(lim R)[i]+B*Q:=by
   rw[Qfv hiR,hQ,V6,<- Zb];exact(Nat.mod_add_div _ _).symm
  obtain⟨p,hp⟩:∃ p,p=c*B:=⟨_,rfl⟩;obtain⟨t,ht2⟩:∃ t,t=p+(lim R)[i]:=⟨_,rfl⟩;have hpb:p+B<=B*B:=by
   rw[hp];have:(c+1)*B<=B*B:=YC B (by omega);rw[V0,Nat.one_mul]at this;exact this
  have wp:IntKind.u64.wrap ((c:Int)*1000000000)=(p:Int):=by
   rw[show(c:Int)*1000000000=((p:Nat):Int)by rw[hp,hB]; simp,Q0 (by omega)]
  have wr:=Q0 (n:=(lim R)[i]) (by omega);have wt:IntKind.u64.wrap ((p:Int)+((lim R)[i]:Nat))=(t:Int):=by
   rw[show(p:Int)+((lim R)[i]:Nat)=((t:Nat):Int)by omega,Q0 (by omega)]
  have wf:=Q0 (n:=f) (by omega);obtain⟨q,hq⟩:∃ q,q=t / f:=⟨_,rfl⟩;obtain⟨r,hr⟩:∃ r,r=t % f:=⟨_,rfl⟩;have hqb:q<B:=by
   rw[hq];apply Zc;have:(c+1)*B<=f*B:=YC B hcf;rw[V0,Nat.one_mul]at this;omega
  have td:((t:Int)).tdiv (f:Int)=(q:Int):=by rw[hq]; rfl
  have tm:((t:Int)).tmod (f:Int)=(r:Int):=by rw[hr]; rfl
  have hrf:r<f:=by rw[hr]; exact Yr _ hf
  have wq:=Q0 (n:=q) (by omega);have wq2:=QaW (n:=q) (by omega);have wrr:=Q0 (n:=r) (by omega);have hset:=QiO hil q;have hk:=Qd hX;have hfz:¬ (f:Int)=0:=by omega
  have ef:us (lim f)=[.val (.int .u32 (f:Int))]:=by rw[elf]; rfl
  have efl:(lim f).length=1:=by rw[elf]; rfl
  simp only[nS,ef,efl]at h6;have hQf:B*Q=f*(B*(Q / f))+p:=by
   have:=Zw Q f;rw[<-hcc]at this;conv=>lhs; rw[<-this]
   rw[Ys,Nat.mul_left_comm,hp,VF c B]
  have hts:R / B ^ i=f*(B*(Q / f))+t:=by rw[hRi,hQf,ht2]; omega
  have hdv:R / B ^ i / f=B*(Q / f)+q:=by
   rw[hts,Nat.mul_add_div hf,hq]
  have hmd:R / B ^ i % f=r:=by
   rw[hts,Nat.mul_add_mod,hr]
  have hih:=ih;rw[hdv,hmd]at hih;simp -implicitDefEqProofs[h4,h5,h6,h13,h14,hc,hil,hll,hst,g,g',wp,wr,wt,wf,td,tm,wq,wq2,wrr,hset,hfz,hiR];repeat (refine⟨by omega,?_⟩)
  refine⟨rfl,?_⟩;repeat (refine⟨by omega,?_⟩)
  refine hih _ _ (l.set i q) s (m.set i q) (by omega) (by rw[Vh hk]) (λj hj=>by rw[Ve (λe=>hj e.symm)]; exact ho j hj) (by rw[VO]; exact hXl) ?_ (by rw[VO]; exact hml) ?_ (hd.set hqb) ?_ ?_ ?_ ?_ ?_ ?_
  . rw[<-hms,Yo _ _ him]
  . apply Vz;intro j;have h1:=Wj (λl=>l[j]?) ht;simp only[VD]at h1 ⊢;by_cases hj:j<i
    . rw[Wb hj,Wb hj,Ve (by omega)];rw[Wb (by omega),Wb (by omega)]at h1;exact h1
    . rw[Wa hj,Wa hj]
  . have hms2:i<(m.set i q).length:=by rw[VO]; exact him
    have e1:(m.set i q).drop i=q::m.drop (i+1):=by
     rw[Vu hms2,List.getElem_set_self];congr 1;apply Vz;intro j;rw[Vr,Vr,Ve (by omega)]
    rw[e1,val,hv,<- hQ];omega
  . simp[h4]
  . simp
  . simp[nS,ef,efl]
  . simp
  . simp[w1]
end
structure DV (H:Ws) (gq j A bb k v:Nat) (X:Ws):Prop where
 low:∀ i,i<H.length->X[i]? = H[i]?
 hq:∃ qs,X[H.length+1]? = some ⟨us qs,114,1,true⟩/\qs.length=gq+1/\Dig qs/\val (qs.drop j)=A / B ^ j / bb
 hr:∃ s,X[k]? = some ⟨us (lim (A / B ^ j % bb)++s),114,v,true⟩
 hk:H.length<=k/\k≠H.length+1
section
variable {H X:Ws}
set_option maxRecDepth 10000 in
theorem QqU {A bb gq n top:Nat} {x6:SV} (hb:0<bb) (hn:(lim bb).length=n+1) (hA:(lim A).length=n+1+gq) (hl:n+1+gq<50000) (htop:top=bb / B ^ n) (ht0:0<top) (htB:top<B) {N:Nat} {K:Wr}
 (hexit:∀ env X k v,DV H gq 0 A bb k v X->env.get 4=.own (H.length+1) 0 (gq+1) 1 1->env.get 5=.own k 0 (lim (A % bb)).length 1 v->env.get 6=x6->K (.exit 0) env X) :
 ∀ (j:Nat) (env:Env) (X:Ws) (k v:Nat),j<=gq+1->DV H gq j A bb k v X->env.get 0=nS A->env.get 1=nS bb->env.get 4=.own (H.length+1) 0 (gq+1) 1 1->env.get 5=.own k 0 (lim (A / B ^ j % bb)).length 1 v->env.get 6=x6->env.get 7=.val (.int .u64 (top:Nat))->env.get 9=i64 ((j:Int)-1)->LI Tryz.prog N Qb QhK env X K:=by
 have hB:B=1000000000:=rfl;intro j
 induction j with
 |zero =>
  intro env X k v hj h h0 h1 h4 h5 h6 h7 h9;refine Qc hm' QhK.eq_1 ?_;simp -implicitDefEqProofs[h0,h1,h4,h5,h6,h7,h9];exact hexit _ X k v h (by simp[h4]) (by simp[h5]) (by simp[h6])
 |succ i ih =>
  intro env X k v hj h h0 h1 h4 h5 h6 h7 h9;refine Qc hm' QhK.eq_1 ?_;have ej:((i+1:Nat):Int)-1=i:=by omega
  rw[ej]at h9;have hiA:i<(lim A).length:=by omega
  have w1:IntKind.i64.wrap ((i:Int)-1)=(i:Int)-1:=Qj (by omega) (by omega);obtain⟨x,hx⟩:∃ x,x=(lim A)[i]:=⟨_,rfl⟩;have hxB:x<B:=by rw[hx]; exact QaO A _ (Vf _)
  have g:(us (lim A))[i]?.getD .any=.val (.int .u32 x):=by rw[QaX hiA,hx]; rfl
  have g':∀ h,(us (lim A))[i]'h=.val (.int .u32 x):=λh=>by rw[QbI hiA,hx]; rfl
  obtain⟨s,hs⟩:=h.hr;obtain⟨qs,hq1,hq2,hq3,hq4⟩:=h.hq;obtain⟨r,hr⟩:∃ r,r=A / B ^ (i+1) % bb:=⟨_,rfl⟩;rw[<-hr]at hs h5;have hrb:r<bb:=by rw[hr]; exact Yr _ hb
  have hrl:=QcP (YZ hrb);have hor:=λL=>Qcn hs L;have htk:List.take (lim r).length (us (lim r++s))=us (lim r):=by
   unfold us;rw[YM,YV (by simp),VB (by simp)]
  have hln:(us (lim r++s)).length=(lim r).length+s.length:=by rw[QP]; simp
  simp only[nS]at h0;simp -implicitDefEqProofs[h0,h1,h4,h5,h6,h7,h9,hiA,QP,g,g',hor,htk,hln];repeat (refine⟨by omega,?_⟩)
  refine⟨⟨rfl,rfl,rfl⟩,rfl,?_,?_⟩
  . intro y hy;obtain⟨z,_,rfl⟩:=Vl.1 hy;rfl
  repeat (refine⟨by omega,?_⟩)
  obtain⟨R,hR⟩:∃ R,R=x+B*r:=⟨_,rfl⟩;have eg:SV.val (.int .u32 (x:Int))::us (lim r)=us (x::lim r):=rfl;have etr:Qz (x::lim r)=lim R:=by rw[Qt4 hxB,hR]
  have hl69:(x::lim r).length<1000000:=by simp; omega
  have hlen:1+(lim r).length=(x::lim r).length:=by simp; omega
  rw[eg,hlen];have h69:=λH=>Qvm (H:=H) (l:=x::lim r) hl69;rw[etr]at h69;refine QlZ X.length 1 (o:=⟨us (x::lim r),114,1,true⟩) (by simp) rfl ?_ (h69 _) ?_
  . simp[QP];exact VB (by rw[QP]; simp)
  have hset0:Ab.setObj (X++[(⟨us (x::lim r),114,1,true⟩:AO)]) X.length AO.dead=X++[⟨[],114,2,false⟩]:=by
   rw[QS (o:=⟨us (x::lim r),114,1,true⟩) (by simp)];simp[AO.dead]
  rw[hset0];have hAi:A / B ^ i=x+B*(A / B ^ i / B):=by
   rw[hx,Qfv hiA];exact(Nat.mod_add_div _ _).symm
  have hdd:A / B ^ i / B=A / B ^ (i+1):=by rw[Zb,V6]
  obtain⟨ds1,ds2⟩:=Qvg hb hAi;rw[hdd,<- hr,<- hR]at ds1 ds2;have hRb:R<B*bb:=by
   rw[hR];have:B*(r+1)<=B*bb:=YA B hrb;rw[Ys,Ye]at this;omega
  have hbbl:=Qb5 bb;rw[hn]at hbbl;have hRl:(lim R).length<=n+2:=Qb4 (by
   rw[V6,VF];exact Zh hRb (YA B (YZ hbbl)))
  have hlead:R / B ^ n<B*B:=by
   apply Zc;rw[<-Yj,<- V6,VF];exact Zh hRb (YA B (YZ hbbl))
  have hBB:B*B=1000000000000000000:=rfl;obtain⟨lead,hle⟩:∃ lead,lead=R / B ^ n:=⟨_,rfl⟩;obtain⟨lq,hlq⟩:∃ lq,lq=lead / top:=⟨_,rfl⟩;have tdl:((lead:Int)).tdiv (top:Int)=(lq:Int):=by rw[hlq]; rfl
  have hlq1:lq<=lead:=by rw[hlq]; exact YL _ _
  have wlq:=Q0 (n:=lq) (by omega);have htz:¬ (top:Int)=0:=by omega
  have htz2:¬ top=0:=by omega
  obtain⟨d0,hd0⟩:∃ d0,d0=min lq 999999999:=⟨_,rfl⟩;have wmin:min (lq:Int) 999999999=(d0:Int):=by omega
  have hd1:R / bb<=d0:=by
   have h1:R / bb<=lq:=by
    rw[hlq,hle,htop];exact Qq9 (Qht n) (by rw[<-htop]; exact ht0)
   have h2:R / bb<B:=Zc (by rw[VF]; exact hRb);omega
  have wR:IntKind.i64.wrap (((lim R).length:Int)-1)=((lim R).length:Int)-1:=Qj (by omega) (by omega);simp -implicitDefEqProofs[nS,wR,h0,h1,h4,h5,h6,h7,h9];refine QtF (X:=X++[⟨[],114,2,false⟩]) (R:=R) (n:=n+1) (y:=lim bb) (x0:=nS A) (x4:=.own (H.length+1) 0 (gq+1) 1 1) (x6:=x6) (x7:=.val (.int .u64 (top:Nat))) (x9:=i64 i) hn (by omega) (by simpa using hlead) (by omega) (by omega) (λenv k0 k1 k4 k5 k6 k7 k9 k10 => ?_) (max (lim R).length n-n) (lim R).length _ (Vc _) (by simp; omega) ?_ ?_ ?_ ?_ ?_ ?_ ?_ ?_ ?_ ?_
  . simp only[ZP,<- hle]at k10;simp -implicitDefEqProofs[k0,k1,k4,k5,k6,k7,k9,k10,tdl,wlq,htz,htz2,wmin];refine QvH (X:=X++[⟨[],114,2,false⟩]) (R:=R) (b:=bb) (x0:=nS A) (x4:=.own (H.length+1) 0 (gq+1) 1 1) (x6:=x6) (x7:=.val (.int .u64 (top:Nat))) (x9:=i64 i) hb (by omega) (by omega) (λenv m0 m1 m4 m5 m6 m7 m9 m12 => ?_) d0 _ (by omega) hd1 ?_ ?_ ?_ ?_ ?_ ?_ ?_ ?_
    . obtain⟨d,hd⟩:∃ d,d=R / bb:=⟨_,rfl⟩;rw[<-hd]at m12 ds1 hd1;have hdB:d<B:=by omega
      have wd:=QaW (n:=d) (by omega);have hdl:(lim d).length<=1:=Qb4 (by simpa using hdB);have hbd:bb*d<=R:=by rw[hd]; exact Nat.mul_div_le R bb
      have hbdl:=QcP hbd;have h82:=λH=>Qik (H:=H) (n:=d) hdB;have h42:=λH=>QdU (H:=H) (a:=bb) (b:=d) (by omega);have h45:=λH=>QmA (H:=H) (a:=R) (b:=bb*d) hbd (by omega) (by omega);simp -implicitDefEqProofs[m0,m1,m4,m5,m6,m7,m9,m12,wd];refine Qf (h82 _) ?_;simp -implicitDefEqProofs[m0,m1,m4,m5,m6,m7,m9,m12];refine Qf (h42 _) ?_;simp -implicitDefEqProofs[m0,m1,m4,m5,m6,m7,m9,m12];refine Q4 (h45 _) ?_;rintro o G' ⟨z,G,rfl,rfl,hz1,hz2⟩;have hiq:i<qs.length:=by omega
      have hoq:=λL=>Qcn hq1 L;have hsq:=λL f=>QiL hq1 L f;have hset:=QiO hiq d;have hql:(us qs).length=gq+1:=by rw[QP,hq2]
      simp -implicitDefEqProofs[m0,m1,m4,m5,m6,m7,m9,m12,wd,hoq,hsq,hset,hql];repeat (refine⟨by omega,?_⟩)
      refine⟨rfl,?_⟩;repeat (refine⟨by omega,?_⟩)
      have hmod:R-bb*d=A / B ^ i % bb:=by rw[ds2,hd]; have:=Zw R bb; omega
      rw[hmod]at hz1;have hXl:H.length+1<X.length:=Qd hq1;have hlow:=h.low;refine ih _ (X.set (H.length+1) ⟨us (qs.set i d),114,1,true⟩++(⟨[],114,2,false⟩::⟨us z,114,z.length,true⟩::G)) (X.length+1) z.length (by omega) ⟨λu hu => ?_,⟨qs.set i d,?_,?_,hq3.set hdB,?_⟩,⟨z.drop (Qz z).length,?_⟩,by omega,by omega⟩ ?_ ?_ ?_ ?_ ?_ ?_ ?_
      . rw[Vd (by rw[VO]; omega),Ve (by omega)];exact hlow u hu
      . rw[Vd (by rw[VO]; omega),Vh hXl]
      . rw[VO]; exact hq2
      . have e1:(qs.set i d).drop i=d::qs.drop (i+1):=by
         rw[Vu (by rw[VO]; exact hiq),List.getElem_set_self];congr 1;apply Vz;intro u;rw[Vr,Vr,Ve (by omega)]
        rw[e1,val,hq4,ds1]
      . rw[Vg (by rw[VO]; omega),VO,show X.length+1-X.length=1 by omega];have e2:lim (A / B ^ i % bb)++z.drop (Qz z).length=z:=by
         rw[<-hz1];conv=>rhs; rw[<-Yn (Qz z).length z]
         rw[QhO]
        rw[e2]; rfl
      . simp[m0]
      . simp[m1]
      . simp[m4]
      . simp[hmod]
      . simp[m6]
      . simp[m7]
      . simp[w1]
    . simp[k0]
    . simp[k1,nS]
    all_goals simp[k4,k5,k6,k7,k9]
  all_goals (first|(simp[nS,h0,h1,h4,h6,h7,h9]; done)|skip)
  . rw[YI (Qb5 R)]; simp
  . exact λ_=>YI (Qb5 R)
end
end Go.Proofs.YtogjmpkehjfecaaGreatDoor.Rc
