/- Steps of the proof. -/
import Derived.Test.YtogjmpkehjfecaaGreatDoorPart1
set_option linter.all false
namespace Go.Proofs.YtogjmpkehjfecaaGreatDoor.Rc
open Go.Ab Go.Ab.Shr
theorem QjL {l:List Int} {i:Nat} (h:i<l.length) (t:Int):QB l t i=if t=0 then 65536 / (l.length:Int)else if 0<l[i]then 65536*l[i] / t else 0:=by simp[QB,h]
theorem QmZ (l:List Int) (i:Nat):Qbg l (i+1)=Qbg l i-QB l (Qk l) i:=by simp only[Qbg,QN]; omega
theorem Qqm {l:List Int} (i:Nat) (hl:0<l.length):QB l (Qk l) i<=65536*70368744177664\/∃ h:i<l.length,70368744177664<l[i]:=by
 by_cases h:∃ h:i<l.length,70368744177664<l[i]
 . exact .inr h
 . left;have h0:=QeZ l;unfold QB;split
   . have:65536 / (l.length:Int)<=65536:=Y5 _ (by omega);omega
   . split
     . rename_i h1 h2;by_cases hi:i<l.length
       . have h3:l.getD i 0=l[i]:=by simp[hi]
         have h4:¬ 70368744177664<l[i]:=λh5=>h ⟨hi,h5⟩;rw[h3]at h2 ⊢;have:65536*l[i] / Qk l<=65536*l[i]:=Y5 _ (by omega);omega
       . simp[hi]at h2
     . omega
theorem Qmr {f:Nat->Int} (h:∀ i,0<=f i) {i n:Nat} (hi:i<=n):QN f i<=QN f n:=by
 induction n with
 |zero =>
  have:i=0:=by omega
  subst this; exact Ym _
 |succ n ih =>
  by_cases e:i=n+1
  . subst e; exact Ym _
  . have:=ih (by omega); have:=h n; simp only[QN]; omega
theorem Qnj {l:List Int} (h0:0<l.length) (i:Nat) (hi:i<l.length):0<=Qbg l i/\Qbg l i<=65536/\0<=Qbg l (i+1):=by
 have h1:=(Qfv h0).1;have h2:=Qmr (QdB l) (show i+1<=l.length by omega);have h3:=Qmr (QdB l) (show i<=i+1 by omega);have h4:=Qkf (QdB l) i;unfold QX Qbg at *;omega
section
variable {H:Ws} {a k va v n:Nat} {C D:Wt} {T:Ww} {x:SV} {l:List Int}
set_option maxRecDepth 10000 in
theorem QvV (hP:P2 H a k) (hx:∀ (o p:List Int) (L:Ws),IsI (G2 H a k ⟨Qa o,3,va,true⟩ (oI C p D T v)++L) x l) (hl:l.length<=10) (h0:0<l.length) (hr:∀ v∈l,-70368744177664<=v/\v<=70368744177664) {N:Nat} {K:Wr}
 (hexit:∀ env,env.get 1=.own a 0 l.length 1 va->env.get 2=.own k C.length l.length 1 v->env.get 3=.ptr (.own H.length 0 0 0 0) 0->env.get 6=.ptr (.own (H.length+1) 0 0 0 0) 0->env.get 9=i64 (QX l) ->
  K (.exit 2) env (S6 H a k va v C D T x ((List.range l.length).map (QB l (Qk l))) ((List.range l.length).map λ(i:Nat)=>(i:Int)) (Qk l))) :
 ∀ (m i:Nat) (o p:List Int) (env:Env),i+m=l.length->o.length=l.length->p.length=l.length->(∀ j,j<i->o[j]? = some (QB l (Qk l) j))->(∀ j,j<i->p[j]? = some (j:Int)) ->
  env.get 1=.own a 0 l.length 1 va->env.get 2=.own k C.length l.length 1 v->env.get 3=.ptr (.own H.length 0 0 0 0) 0->env.get 6=.ptr (.own (H.length+1) 0 0 0 0) 0 ->
  env.get 9=i64 (Qbg l i)->env.get 26=x->env.get 27=i64 l.length->env.get 28=i64 i->LI Tryz.prog N Qb QgW env (S6 H a k va v C D T x o p (Qk l)) K:=by
 intro m
 induction m with
 |zero =>
  intro i o p env hi ho hp ho2 hp2 h1 h2 h3 h6 h9 h26 h27 h28;refine Qc hm QgW.eq_1 ?_;have e:i=l.length:=by omega
  subst e;have e1:o=(List.range l.length).map (QB l (Qk l)):=by
   apply Vv;intro j;by_cases hj:j<l.length
   . rw[ho2 j hj]; simp[hj]
   . rw[Vl (by omega),Vl (by simp; omega)]
  have e2:p=(List.range l.length).map λ(i:Nat)=>(i:Int):=by
   apply Vv;intro j;by_cases hj:j<l.length
   . rw[hp2 j hj]; simp[hj]
   . rw[Vl (by omega),Vl (by simp; omega)]
  subst e1 e2;simp -implicitDefEqProofs[h27,h28];exact hexit _ (by simp[h1]) (by simp[h2]) (by simp[h3]) (by simp[h6]) (by simp[h9,QX])
 |succ m ih =>
  intro i o p env hi ho hp ho2 hp2 h1 h2 h3 h6 h9 h26 h27 h28;refine Qc hm QgW.eq_1 ?_;have hlt:i<l.length:=by omega
  have hx':=hx o p [⟨[x],45,0,true⟩,⟨[i64 (Qk l)],3,0,true⟩];have hv:=hr _ (Vf hlt);have hf:=QjL hlt (Qk l);have hfn:=QdB l i;have hlk:=QmZ l i;have htn:=QeZ l;have hb:=Qnj h0 i hlt;have w2:IntKind.i64.wrap ((i:Int)+1)=((i+1:Nat):Int):=QaF (by omega);have w3:IntKind.i64.wrap (Qbg l i-QB l (Qk l) i)=Qbg l (i+1):=by rw[hlk]; exact Qp (by omega) (by omega)
  simp only[oI]at hx';have io:i<o.length:=by omega
  have ip:i<p.length:=by omega
  have ok':=hx'.ok hlt;have ov':=hx'.v hlt;have s1:∀ y:Int,List.take i (Qa o)++i64 y::List.drop (i+1) (Qa o)=Qa (o.set i y):=λy=>Qar io y;have s2:List.take (C.length+i) (C++(Qa p++D))++i64 (i:Int)::List.drop (C.length+i+1) (C++(Qa p++D))=C++(Qa (p.set i i)++D):=Qp3 ip _;have s3:(C++(Qa p++D)).length=C.length+p.length+D.length:=QuW;have s4:∀ y:Int,(Qa (o.set i y))[i]?.getD .any=i64 y:=λy=>by simp[Qa,io]
  have hq1:∀ j,j<i+1->(o.set i (QB l (Qk l) i))[j]? = some (QB l (Qk l) j):=λj hj=>by
   by_cases e:i=j
   . subst e; rw[Vg io]
   . rw[Vd e]; exact ho2 j (by omega)
  have hq2:∀ j,j<i+1->(p.set i (i:Int))[j]? = some (j:Int):=λj hj=>by
   by_cases e:i=j
   . subst e; rw[Vg ip]
   . rw[Vd e]; exact hp2 j (by omega)
  have key:=ih (i+1) (o.set i (QB l (Qk l) i)) (p.set i (i:Int));generalize Qk l=t at *;by_cases ht:t=0
  . rw[Wb ht]at hf;have w4:IntKind.i64.wrap (Int.tdiv 65536 (l.length:Int))=QB l t i:=by
     rw[hf,Zn (by omega)];exact Qp (by omega) (by omega)
    have hd:(t=0)=True:=eq_true ht;have hne:¬ l=[]:=λe=>by rw[e]at h0; simp at h0
    simp -implicitDefEqProofs[S6,oI,h1,h2,h3,h6,h9,h26,h27,h28,hlt,hx'.vd,hx'.ug,hx'.sl,hx'.len,ok',ov',QcH,Qda,QcY,Qjs hP.la hP.ne,Qip hP.lk,QgN hP.la hP.ne,QjZ hP.lk,hd,s1,s2,s3,s4,w2,w3,w4,hne];refine⟨by omega,by omega,by omega,?_⟩;refine key _ (by omega) (by simpa using ho) (by simpa using hp) hq1 hq2 ?_ ?_ ?_ ?_ ?_ ?_ ?_ ?_;all_goals simp
  . rw[Wa ht]at hf;have hd:(t=0)=False:=eq_false ht;by_cases hp0:0<l[i]
    . rw[Wb hp0]at hf;have w5:IntKind.i64.wrap (65536*l[i])=65536*l[i]:=Qp (by omega) (by omega);have w4:IntKind.i64.wrap (Int.tdiv (65536*l[i]) t)=QB l t i:=by
       rw[hf,Zn (by omega)];exact Qp (by omega) (by omega)
      simp -implicitDefEqProofs[S6,oI,h1,h2,h3,h6,h9,h26,h27,h28,hlt,hx'.vd,hx'.ug,hx'.sl,hx'.len,ok',ov',QcH,Qda,QcY,Qjs hP.la hP.ne,Qip hP.lk,QgN hP.la hP.ne,QjZ hP.lk,hd,s1,s2,s3,s4,w2,w3,w4,w5,hp0];refine⟨by omega,by omega,by omega,?_⟩;refine key _ (by omega) (by simpa using ho) (by simpa using hp) hq1 hq2 ?_ ?_ ?_ ?_ ?_ ?_ ?_ ?_;all_goals simp
    . rw[Wa hp0]at hf;have w6:IntKind.i64.wrap (Qbg l i)=Qbg l (i+1):=by rw[hf]at w3; simpa using w3
      rw[hf]at key hq1;simp -implicitDefEqProofs[S6,oI,h1,h2,h3,h6,h9,h26,h27,h28,hlt,hx'.vd,hx'.ug,hx'.sl,hx'.len,ok',ov',QcH,Qda,QcY,Qjs hP.la hP.ne,Qip hP.lk,QgN hP.la hP.ne,QjZ hP.lk,hd,s1,s2,s3,s4,w2,w3,hp0,hf,w6];refine⟨by omega,by omega,by omega,?_⟩;refine key _ (by omega) (by simpa using ho) (by simpa using hp) hq1 hq2 ?_ ?_ ?_ ?_ ?_ ?_ ?_ ?_;all_goals simp
end
def Qe (n:Nat) (f:Nat->Int):List Int:=(List.range n).map f
@[simp] theorem Qxb (n:Nat) (f:Nat->Int):(Qe n f).length=n:=by simp[Qe]
theorem Qa2 {n:Nat} {f:Nat->Int} {i:Nat} (h:i<n):(Qe n f)[i]'(by simpa using h)=f i:=by simp[Qe]
theorem Qb9 {n:Nat} {f:Nat->Int} {i:Nat} (h:i<n):(Qe n f).getD i 0=f i:=by simp[Qe,h]
theorem Qco {n:Nat} {f:Nat->Int} {i:Nat} (y:Int):(Qe n f).set i y=Qe n (put f i y):=by
 apply Vv;intro j;by_cases hj:j<n
 . by_cases e:i=j
   . subst e; rw[Vg (by simpa using hj)]; simp[Qe,put,hj]
   . rw[Vd e];have:¬ j=i:=λh=>e h.symm;simp[Qe,put,hj,this]
 . rw[Vl (by simp; omega),Vl (by simp; omega)]
section
variable {H L:Ws} {a k va v n:Nat} {C D:Wt} {T:Ww}
set_option maxRecDepth 10000 in
theorem QlP (hP:P2 H a k) {q:List Nat} (hq:∀ y∈q,y<n) (hn:n<=10) {c:Nat} (hc:c<=q.length) {N:Nat} {K:Wr} {F:Nat->Int}
 (hexit:∀ env,K (.exit 5) env (G2 H a k ⟨Qa (Qe n F),3,va,true⟩ (oN C q D T v)++L)) :
 ∀ (m j:Nat) (f:Nat->Int) (env:Env),j+m=c->(∀ i,i<n->0<=f i/\f i<=9223372036854775000+j)->c<=100->Qb0 f ((q.take c).drop j)=F ->
  env.get 1=.own a 0 n 1 va->env.get 78=.own k C.length c 1 v->env.get 79=i64 c->env.get 80=i64 j ->
  LI Tryz.prog N Qb Qjh env (G2 H a k ⟨Qa (Qe n f),3,va,true⟩ (oN C q D T v)++L) K:=by
 intro m
 induction m with
 |zero =>
  intro j f env hj hf hc1 hF h1 h78 h79 h80;refine Qc hm Qjh.eq_1 ?_;have e:j=c:=by omega
  subst e;rw[YJ (by simp; omega)]at hF;have hF':f=F:=by rw[<-hF]; funext i; rfl
  subst hF';simp -implicitDefEqProofs[h79,h80];exact hexit _
 |succ m ih =>
  intro j f env hj hf hc1 hF h1 h78 h79 h80;refine Qc hm Qjh.eq_1 ?_;have hlt:j<c:=by omega
  have hjq:j<q.length:=by omega
  rw[Vy (by simp; omega)]at hF;simp only[List.getElem_take,Qb0]at hF;have hy:q[j]<n:=hq _ (Vf hjq);have e1:(Qa4 q++D)[j]?.getD .any=i64 (q[j]:Nat):=by
   rw[Ve (by simpa using hjq)];simp[Qa4,Qa,hjq]
  have e2:(C++(Qa4 q++D)).length=C.length+q.length+D.length:=by simp; omega
  have e3:(Qa (Qe n f))[q[j]]?.getD .any=i64 (f q[j]):=by simp[Qa,Qe,hy]
  have e4:∀ y:Int,List.take q[j] (Qa (Qe n f))++i64 y::List.drop (q[j]+1) (Qa (Qe n f))=Qa (Qe n (put f q[j] y)):=λy=>by
   rw[Qar (by simpa using hy),Qco]
  have hb:=hf _ hy;have w1:IntKind.i64.wrap (f q[j]+1)=f q[j]+1:=Qp (by omega) (by omega);simp -implicitDefEqProofs[oN,h1,h78,h79,h80,hlt,Qjs hP.la hP.ne,Qip hP.lk,QgN hP.la hP.ne,e1,e2,e3,e4,Qa2 hy,w1,hy];refine⟨by omega,by omega,by omega,?_⟩;refine ih (j+1) (put f q[j] (f q[j]+1)) _ (by omega) (λi hi => ?_) hc1 hF ?_ ?_ ?_ ?_
  . have h2:=hf i hi;unfold put;split<;>omega
  . simp
  . simp
  . simp
  . simp[Qw (show j<9223372036854775807 by omega)]
theorem ok31 {H:Ws} {x:SV} {l o0 p0:List Int} (hP:P2 H a k) (hu:SV.underL H.length C=true/\SV.underL H.length D=true) (hx:∀ (o p:List Int) (L:Ws),IsI (G2 H a k ⟨Qa o,3,va,true⟩ (oI C p D T v)++L) x l) (hl:l.length<=10) (h0:0<l.length)
 (hr:∀ v∈l,-70368744177664<=v/\v<=70368744177664) (ho0:o0.length=l.length) (hp0:p0.length=l.length) :
 Ok Tryz.prog 31 [x,.own a 0 l.length 1 va,.own k C.length l.length 1 v] (G2 H a k ⟨Qa o0,3,va,true⟩ (oI C p0 D T v)) (.ret (.tup [])) (G2 H a k ⟨Qa (QG l),3,va,true⟩ (oN C (QZ l) D T v)):=by
 have hx0:=hx o0 p0 [];have hxu:x.under H.length=true:=by simpa using hx0.und
 refine Ql hm Tryz.func31 c31 (by simp[hP.la,hP.lk,hxu]) λhcl => ?_;have hxL:=hx o0 p0 [⟨[x],45,0,true⟩,⟨[i64 0],3,0,true⟩];simp -implicitDefEqProofs[i31,r31,hx0.vd,hx0.ug,hx0.cell,hx0.flat,hx0.sl,hx0.len,QcH,Qda,QcY];refine QvE (l:=l) hP (λL=>hx o0 p0 L) hl (λv hv=>(hr v hv).2) (x1:=.own a 0 l.length 1 va) (x2:=.own k C.length l.length 1 v) (λenv g1 g2 g3 g6 => ?_) l.length 0 _ (by omega) (by simp) (by simp) (by simp) (by simp) (by simp) (by simp) (by simp);simp -implicitDefEqProofs[S6,g1,g2,g3,g6,hx0.vd,hx0.ug,hx0.cell,hx0.flat,hx0.sl,hx0.len,QcH,Qda,QcY];refine QvV (l:=l) hP hx hl h0 hr (λenv g1 g2 g3 g6 g9 => ?_) l.length 0 o0 p0 _ (by omega) ho0 hp0 (λj hj=>by omega) (λj hj=>by omega) (by simp[g1]) (by simp[g2]) (by simp[g3]) (by simp[g6]) (by simp[Qbg,QN]) (by simp) (by simp) (by simp);have hlr:=Qfv h0;have e1:((List.range l.length).map (QB l (Qk l)))=Qe l.length (QB l (Qk l)):=rfl;have e2:oI C ((List.range l.length).map λ(i:Nat)=>(i:Int)) D T v=oN C (List.range l.length) D T v:=rfl;have e3:Qe l.length (Qb0 (QB l (Qk l)) ((QZ l).take (QX l).toNat))=QG l:=rfl;have hfl:∀ i,i<l.length->0<=QB l (Qk l) i/\QB l (Qk l) i<=9223372036854775000+(0:Nat):=λi hi=>by
  have h1:=QdB l i;have h2:=Qqm (l:=l) i h0;have h3:=(hr _ (Vf hi)).2;rcases h2 with h2|⟨_,h2⟩<;>omega
 simp only[S6,e1,e2];have hcl2:closed (G2 H a k ⟨Qa (QG l),3,va,true⟩ (oN C (QZ l) D T v)):=by
  have h1:closed (G2 (G2 H a k ⟨Qa o0,3,va,true⟩ (oI C p0 D T v)) a k ⟨Qa (QG l),3,va,true⟩ (oN C (QZ l) D T v)) :=
   Qmb hcl (by simp) (by simp only[Qgm,oN,SV.underL_append,hu.1,hu.2,Qa4]; simp)
  have h2:G2 (G2 H a k ⟨Qa o0,3,va,true⟩ (oI C p0 D T v)) a k ⟨Qa (QG l),3,va,true⟩ (oN C (QZ l) D T v)=G2 H a k ⟨Qa (QG l),3,va,true⟩ (oN C (QZ l) D T v):=by
   unfold G2;rw[Zk _ _ hP.ne.symm,Yk,Yk]
  rwa [h2]at h1
 have ho:∀ y∈QZ l,y<l.length:=λy hy=>by
  unfold QZ at hy;split at hy
  . exact QeS.1 hy
  . simpa using hy
 have hol:(QZ l).length=l.length:=by
  unfold QZ;split
  . exact Qgi _
  . simp
 have hc9:((QX l).toNat:Int)=QX l:=by omega
 by_cases hc:0<Qk l/\0<QX l
 . have eo:QZ l=QaB (Qbe l (Qk l)) l.length:=by unfold QZ; rw[Wb hc]
   simp -implicitDefEqProofs[g1,g2,g3,g6,g9,QcH,Qda,QcY,hc.1,hc.2];have key:=ok54 (H:=G2 H a k ⟨Qa (Qe l.length (QB l (Qk l))),3,va,true⟩ (oN C (List.range l.length) D T v)++[⟨[x],45,0,true⟩,⟨[i64 (Qk l)],3,0,true⟩,⟨[.fn (.func 53) [] [.ptr (.own H.length 0 0 0 0) 0,.ptr (.own (H.length+1) 0 0 0 0) 0]],95,0,true⟩])
    (k:=k) (v:=v) (C:=C) (D:=D) (T:=T) (vf:=.fn (.func 55) [] [.ptr (.own (H.length+2) 0 0 0 0) 0]) (r:=Qbe l (Qk l)) (n:=l.length) (by simp; have:=hP.lk; omega) ⟨rfl,rfl,rfl⟩ (by simp) hl
   have hS:∀ q,oS (G2 H a k ⟨Qa (Qe l.length (QB l (Qk l))),3,va,true⟩ (oN C (List.range l.length) D T v)++[⟨[x],45,0,true⟩,⟨[i64 (Qk l)],3,0,true⟩,⟨[.fn (.func 53) [] [.ptr (.own H.length 0 0 0 0) 0,.ptr (.own (H.length+1) 0 0 0 0) 0]],95,0,true⟩]) k C D T v q =
    G2 H a k ⟨Qa (Qe l.length (QB l (Qk l))),3,va,true⟩ (oN C q D T v)++[⟨[x],45,0,true⟩,⟨[i64 (Qk l)],3,0,true⟩,⟨[.fn (.func 53) [] [.ptr (.own H.length 0 0 0 0) 0,.ptr (.own (H.length+1) 0 0 0 0) 0]],95,0,true⟩]:=λq=>by
    unfold oS;rw[Yj _ _ (by simpa using hP.lk)];unfold G2;rw[Yk]
   simp only[hS]at key;have htl:=Qju hl (λv hv=>(hr v hv).2) l.length (Vc _);have key2:=key λq i j hi hj=>⟨rfl,by
    have hxq:=hx (Qe l.length (QB l (Qk l))) (q.map λ(n:Nat)=>(n:Int)) [⟨[x],45,0,true⟩,⟨[i64 (Qk l)],3,0,true⟩,⟨[.fn (.func 53) [] [.ptr (.own H.length 0 0 0 0) 0,.ptr (.own (H.length+1) 0 0 0 0) 0]],95,0,true⟩];have hcl:ClS (G2 H a k ⟨Qa (Qe l.length (QB l (Qk l))),3,va,true⟩ (oN C q D T v)++[⟨[x],45,0,true⟩,⟨[i64 (Qk l)],3,0,true⟩,⟨[.fn (.func 53) [] [.ptr (.own H.length 0 0 0 0) 0,.ptr (.own (H.length+1) 0 0 0 0) 0]],95,0,true⟩]) x l (Qk l) H.length (H.length+1) (H.length+2) :=
     ⟨by rw[Qda]; rfl,by rw[QcH]; rfl,by rw[QcH]; rfl,by simp,by simp,by simp,hxq⟩
    exact ok55 hcl hl hr hc.1 (by unfold Qk; omega) hi hj⟩
   refine Qh key2 ?_;simp -implicitDefEqProofs[g1,g2,g3,g6,g9];refine⟨by omega,?_⟩;rw[<-eo];refine QlP (n:=l.length) (C:=C) hP ho hl (c:=(QX l).toNat) (by omega) (F:=Qb0 (QB l (Qk l)) ((QZ l).take (QX l).toNat)) (λenv => ?_) (QX l).toNat 0 _ _ (by omega) hfl (by omega) rfl ?_ ?_ ?_ ?_
   . simp -implicitDefEqProofs;exact QfQ rfl (by simp) hcl2 rfl
   . simp[g1]
   . simp
   . simp
   . simp
 . have eo:QZ l=List.range l.length:=by unfold QZ; rw[Wa hc]
   by_cases hc1:0<Qk l
   . have hc2:¬ 0<QX l:=λh=>hc ⟨hc1,h⟩;simp -implicitDefEqProofs[g1,g2,g3,g6,g9,QcH,Qda,QcY,hc1,hc2];refine⟨by omega,?_⟩;rw[<-eo];refine QlP (n:=l.length) (C:=C) hP ho hl (c:=(QX l).toNat) (by omega) (F:=Qb0 (QB l (Qk l)) ((QZ l).take (QX l).toNat)) (λenv => ?_) (QX l).toNat 0 _ _ (by omega) hfl (by omega) rfl ?_ ?_ ?_ ?_
     . simp -implicitDefEqProofs;exact QfQ rfl (by simp) hcl2 rfl
     . simp[g1]
     . simp
     . simp
     . simp
   . simp -implicitDefEqProofs[g1,g2,g3,g6,g9,QcH,Qda,QcY,hc1];refine⟨by omega,?_⟩;rw[<-eo];refine QlP (n:=l.length) (C:=C) hP ho hl (c:=(QX l).toNat) (by omega) (F:=Qb0 (QB l (Qk l)) ((QZ l).take (QX l).toNat)) (λenv => ?_) (QX l).toNat 0 _ _ (by omega) hfl (by omega) rfl ?_ ?_ ?_ ?_
     . simp -implicitDefEqProofs;exact QfQ rfl (by simp) hcl2 rfl
     . simp[g1]
     . simp
     . simp
     . simp
end
end Go.Proofs.YtogjmpkehjfecaaGreatDoor.Rc
namespace Go.Proofs.YtogjmpkehjfecaaGreatDoor.Rc
open Go.Ab
def gi (l:List Int) (i:Nat):Int:=l.getD i 0
structure Nf (ns:List Nd) (s:W3) (i:Nat) (x:Nd):Prop where
 ch:∀ j∈x.nx,(i:Int)<j/\j<ns.length/\gi s.P j.toNat=i/\gi s.D j.toNat=gi s.D i+1
 inc:x.nx.Pairwise (· < ·)
 la:gi s.L i=match x.nx.getLast? with|none=>(i:Int)|some j=>gi s.L j.toNat
def Fr (s t:W3) (a b:Nat):Prop:=∀ i,(i<a\/b<=i)->gi t.P i=gi s.P i/\gi t.D i=gi s.D i/\gi t.L i=gi s.L i
structure Kf (ns:List Nd) (at':Nat) (dep:Int) (l:List Int) (r0 r:Nat) (s t:W3):Prop where
 nf:∀ i x,r0<=i->i<r->ns[i]? = some x->Nf ns t i x
 pf:∀ i,r0<=i->i<r->((i:Int)∈l/\gi t.P i=at')\/(∃ (p:Nat) (x:Nd),gi t.P i=p/\r0<=p/\p<i/\ns[p]? = some x/\(i:Int)∈x.nx)
 ch:∀ j∈l,(r0:Int)<=j/\j<r/\gi t.P j.toNat=at'/\gi t.D j.toNat=dep+1
 inc:l.Pairwise (· < ·)
 nil:l=[]->r=r0
 la:∀ j,l.getLast? = some j->gi t.L j.toNat=(r:Int)-1
 fr:Fr s t r0 r
structure Wf (ns:List Nd) (par dep:Int) (k r:Nat) (s t:W3):Prop where
 nf:∀ i x,k<=i->i<r->ns[i]? = some x->Nf ns t i x
 pf:∀ i,k<i->i<r->∃ (p:Nat) (x:Nd),gi t.P i=p/\k<=p/\p<i/\ns[p]? = some x/\(i:Int)∈x.nx
 p:gi t.P k=par
 d:gi t.D k=dep
 l:gi t.L k=(r:Int)-1
 fr:Fr s t k r
theorem Fr.trans {s t u:W3} {a b c d:Nat} (h:Fr s t a b) (h':Fr t u c d) (h1:a<=c) (h2:b<=d):Fr s u a d:=by
 intro i hi;have e1:=h i (by omega);have e2:=h' i (by omega);exact⟨e2.1.trans e1.1,e2.2.1.trans e1.2.1,e2.2.2.trans e1.2.2⟩
theorem Nf.keep {ns:List Nd} {s t:W3} {i a b:Nat} {x:Nd} (h:Nf ns s i x) (hf:Fr s t a b) (hi:i<a) (hx:∀ j∈x.nx,j<a):Nf ns t i x:=by
 have hn:∀ j∈x.nx,j.toNat<a:=λj hj=>by have:=hx j hj; have:=(h.ch j hj).1; omega
 refine⟨λj hj => ?_,h.inc,?_⟩
 . have h1:=h.ch j hj;have h2:=hf j.toNat (.inl (hn j hj));have h3:=hf i (.inl hi);exact⟨h1.1,h1.2.1,h2.1.trans h1.2.2.1,by rw[h2.2.1,h3.2.1]; exact h1.2.2.2⟩
 . rw[(hf i (.inl hi)).2.2,h.la]
   cases hl:x.nx.getLast? with
   |none=>rfl
   |some j=>exact(hf j.toNat (.inl (hn j (List.mem_of_getLast? hl)))).2.2.symm
theorem QmL {ns:List Nd} {at':Nat} {dep:Int} {w:Nat->W3->Option Nat×W3} (hok:∀ r s,s.ok ns.length->(w r s).2.ok ns.length/\∀ r',(w r s).1=some r'->r<r'/\r'<=ns.length)
 (hw:∀ r s r',s.ok ns.length->(w r s).1=some r'->Wf ns at' (dep+1) r r' s (w r s).2/\(∀ i x,r<=i->i<r'->ns[i]? = some x->∀ j∈x.nx,j<r')) :
 ∀ (l:List Int) (r0:Nat) (s:W3) (r:Nat),s.ok ns.length->(QaD w l r0 s).1=some r->Kf ns at' dep l r0 r s (QaD w l r0 s).2/\r0<=r/\(∀ i x,r0<=i->i<r->ns[i]? = some x->∀ j∈x.nx,j<r)
 |[],r0,s,r,hs,h=>by
  simp only[QaD,Option.some.injEq]at h;subst h;exact⟨⟨λi x h1 h2=>by omega,λi h1 h2=>by omega,λj hj=>by simp at hj,.nil,λ_=>rfl,λj hj=>by simp at hj,λi _=>⟨rfl,rfl,rfl⟩⟩,Vc _,λi x h1 h2=>by omega⟩
 |c::cs,r0,s,r,hs,h=>by
  unfold QaD at h ⊢;by_cases hc:c=r0
  . rw[Wb hc]at h ⊢;have hk:=hok r0 s hs;have hf:=hw r0 s
    cases hh:w r0 s with
    |mk o s1 =>
     rw[hh]at h hk hf
     cases o with
     |none=>simp at h
     |some r1 =>
      simp only at h ⊢;obtain⟨f1,f1b⟩:=hf r1 hs rfl;have b1:=hk.2 r1 rfl;obtain⟨f2,f2l,f2b⟩:=QmL hok hw cs r1 s1 r hk.1 h;generalize (QaD w cs r1 s1).2=t at f2;refine⟨⟨λi x h1 h2 hx => ?_,λi h1 h2 => ?_,λj hj => ?_,?_,(λe=>by cases e),λj hj => ?_,?_⟩,by omega,λi x h1 h2 hx j hj => ?_⟩
      . by_cases hi:i<r1
        . exact(f1.nf i x h1 hi hx).keep f2.fr hi (f1b i x h1 hi hx)
        . exact f2.nf i x (by omega) h2 hx
      . by_cases hi:i<r1
        . by_cases he:i=r0
          . subst he;exact .inl ⟨by rw[hc]; exact ZY,by rw[(f2.fr i (.inl hi)).1]; exact f1.p⟩
          . obtain⟨p,x,k1,k2,k3,k4,k5⟩:=f1.pf i (by omega) hi;exact .inr ⟨p,x,by rw[(f2.fr i (.inl hi)).1]; exact k1,k2,k3,k4,k5⟩
        . rcases f2.pf i (by omega) h2 with ⟨k1,k2⟩|⟨p,x,k1,k2,k3,k4,k5⟩
          . exact .inl ⟨VJ _ k1,k2⟩
          . exact .inr ⟨p,x,k1,by omega,k3,k4,k5⟩
      . rcases Vi.1 hj with rfl|hj
        . have e:j.toNat=r0:=by omega
          refine⟨by omega,by omega,?_,?_⟩
          . rw[e,(f2.fr r0 (.inl b1.1)).1]; exact f1.p
          . rw[e,(f2.fr r0 (.inl b1.1)).2.1]; exact f1.d
        . have:=f2.ch j hj;exact⟨by omega,this.2.1,this.2.2⟩
      . refine .cons (λj hj => ?_) f2.inc;have:=(f2.ch j hj).1;omega
      . cases cs with
        |nil =>
         simp only[List.getLast?_singleton,Option.some.injEq]at hj;subst hj;have hr:=f2.nil rfl;have e:c.toNat=r0:=by omega
         rw[e,(f2.fr r0 (.inl b1.1)).2.2,f1.l,hr]
        |cons c' cs' =>
         rw[List.getLast?_cons_cons]at hj;exact f2.la j hj
      . exact f1.fr.trans f2.fr (by omega) (by omega)
      . by_cases hi:i<r1
        . have:=f1b i x h1 hi hx j hj; omega
        . exact f2b i x (by omega) h2 hx j hj
  . rw[Wa hc]at h;simp at h
theorem Qh0 {l:List Int} {i k:Nat} {v:Int} (h:i≠k):gi (l.set k v) i=gi l i:=Qkc h
theorem QfX {l:List Int} {k:Nat} {v:Int} (h:k<l.length):gi (l.set k v) k=v:=Qk8 h
theorem QmR {ns:List Nd}:∀ (f:Nat) (par dep:Int) (k:Nat) (s:W3) (r:Nat),s.ok ns.length->(Q4 ns f par dep k s).1=some r ->
 Wf ns par dep k r s (Q4 ns f par dep k s).2/\(∀ i x,k<=i->i<r->ns[i]? = some x->∀ j∈x.nx,j<r)
 |0,par,dep,k,s,r,hs,h=>by simp[Q4]at h
 |f+1,par,dep,k,s,r,hs,h=>by
  unfold Q4 at h ⊢
  cases hk:ns[k]? with
  |none=>rw[hk]at h; simp at h
  |some x =>
   rw[hk]at h;have hlt:=Qg hk;have hs':W3.ok ⟨s.P.set k par,s.D.set k dep,s.L⟩ ns.length:=⟨by simpa using hs.1,by simpa using hs.2.1,hs.2.2⟩;have hkf:=QmL (ns:=ns) (at':=k) (dep:=dep) (w:=Q4 ns f k (dep+1)) (λr s hs=>Qdk f k (dep+1) r s hs) (λr s r' hs h=>QmR f k (dep+1) r s r' hs h) x.nx (k+1) ⟨s.P.set k par,s.D.set k dep,s.L⟩;have hko:=Qgb (n:=ns.length) (w:=Q4 ns f k (dep+1)) (m:=0) (λr s _ hs=>Qdk f k (dep+1) r s hs) x.nx (k+1) ⟨s.P.set k par,s.D.set k dep,s.L⟩ (by omega) (by omega) hs';simp only at h ⊢
   cases hh:QaD (Q4 ns f k (dep+1)) x.nx (k+1) ⟨s.P.set k par,s.D.set k dep,s.L⟩with
   |mk o s1 =>
    rw[hh]at h hkf hko
    cases o with
    |none=>simp at h
    |some r1 =>
     simp only[Option.some.injEq]at h;subst h;obtain⟨kf,kle,kb⟩:=hkf r1 hs' rfl;have hL:s1.L.length=ns.length:=hko.1.2.2;have hPk:gi s1.P k=par:=by rw[(kf.fr k (.inl (by omega))).1]; exact QfX (by have:=hs.1; omega)
     have hDk:gi s1.D k=dep:=by rw[(kf.fr k (.inl (by omega))).2.1]; exact QfX (by have:=hs.2.1; omega)
     have hLk:gi (s1.L.set k ((r1:Int)-1)) k=(r1:Int)-1:=QfX (by omega);have hLo:∀ i,i≠k->gi (s1.L.set k ((r1:Int)-1)) i=gi s1.L i:=λi hi=>Qh0 hi;have hb:∀ i y,k<=i->i<r1->ns[i]? = some y->∀ j∈y.nx,j<(r1:Int):=λi y h1 h2 hy j hj=>by
      by_cases he:i=k
      . subst he;rw[hk]at hy; cases hy
        exact(kf.ch j hj).2.1
      . exact kb i y (by omega) h2 hy j hj
     refine⟨⟨λi y h1 h2 hy => ?_,λi h1 h2 => ?_,hPk,hDk,hLk,?_⟩,hb⟩
     . by_cases he:i=k
       . subst he;rw[hk]at hy; cases hy
         refine⟨λj hj => ?_,kf.inc,?_⟩
         . have:=kf.ch j hj;exact⟨by omega,by have:=this.2.1; have:=(hko.2 r1 rfl).2; omega,this.2.2.1,by rw[this.2.2.2]; show _=gi s1.D i+1; rw[hDk]⟩
         . show gi (s1.L.set i ((r1:Int)-1)) i=_;rw[hLk]
           cases hl:x.nx.getLast? with
           |none =>
            have:x.nx=[]:=List.getLast?_eq_none_iff.1 hl;have:=kf.nil this;simp only; omega
           |some j =>
            have h3:=kf.ch j (List.mem_of_getLast? hl);show _=gi (s1.L.set i ((r1:Int)-1)) j.toNat;rw[hLo j.toNat (by omega),kf.la j hl]
       . have hn:=kf.nf i y (by omega) h2 hy;refine⟨hn.ch,hn.inc,?_⟩;show gi (s1.L.set k ((r1:Int)-1)) i=_;rw[hLo i he,hn.la]
         cases hl:y.nx.getLast? with
         |none=>rfl
         |some j =>
          have h3:=hn.ch j (List.mem_of_getLast? hl);show _=gi (s1.L.set k ((r1:Int)-1)) j.toNat;rw[hLo j.toNat (by omega)]
     . rcases kf.pf i (by omega) h2 with ⟨k1,k2⟩|⟨p,y,k1,k2,k3,k4,k5⟩
       . exact⟨k,x,k2,Vc _,h1,hk,k1⟩
       . exact⟨p,y,k1,by omega,k3,k4,k5⟩
     . intro i hi;have h3:=kf.fr i (by omega);refine⟨?_,?_,?_⟩
       . show gi s1.P i=_; rw[h3.1]; exact Qh0 (by omega)
       . show gi s1.D i=_; rw[h3.2.1]; exact Qh0 (by omega)
       . show gi (s1.L.set k ((r1:Int)-1)) i=_; rw[hLo i (by omega)]; exact h3.2.2
section
variable {H:Ws} {g:Gm}
def Gm.out (g:Gm) (z v:SV):SV:=if g.formE=0 then .tup [v,i64 0]else .tup [z,i64 g.formE]
theorem QrL (h:g.formE≠0):∃ p,g.walked=.tup [p,i64 g.formE]/\p.under 0=true:=by
 unfold Gm.walked Gm.formE at *;by_cases h0:g.err0=0
 . have h1:¬ g.err0≠0:=by simpa using h0
   rw[Wa h1]at h ⊢;rw[Wa h1];exact⟨_,rfl,by simp[Gm.wp,sl,SV.underL,Q5,Q6]⟩
 . have h1:g.err0≠0:=h0;rw[Wb h1,Wb h1];exact⟨_,rfl,rfl⟩
theorem QrB (h:g.formE=0):g.walked=.tup [g.wp,i64 0]:=by
 unfold Gm.walked Gm.formE at *;by_cases h0:g.err0=0
 . have h1:¬ g.err0≠0:=by simpa using h0
   rw[Wa h1]at h ⊢;rw[h]
 . have h1:g.err0≠0:=h0;rw[Wb h1]at h;exact(h0 h).elim
end
structure Wg (g:Gm):Prop where
 gd:Gd g
 wk:g.wk.1=some g.ns.length
 mx:Qca g.wk.2.D<=40
 se:g.setsE=0
theorem QnI {g:Gm}:∀ {l:List Nd},Qay g l=0->∀ x∈l,x.err g=0
 |[],_,x,hx=>by simp at hx
 |y::r,h,x,hx=>by
  unfold Qay at h;by_cases hy:y.err g=0
  . rw[Wb hy]at h;rcases Vi.1 hx with rfl|hx
    . exact hy
    . exact QnI h x hx
  . rw[Wa hy]at h;exact(hy h).elim
theorem Qfp {g:Gm} (h:g.formE=0):Wg g:=by
 unfold Gm.formE at h;by_cases h0:g.err0=0
 . have h1:¬ g.err0≠0:=by simpa using h0
   rw[Wa h1]at h;unfold Gm.err0 at h0;by_cases hr:g.rng
   . rw[Wb hr]at h0; cases h0
   . rw[Wa hr]at h0;by_cases hn:Qay g g.ns=0
     . have hn':¬ Qay g g.ns≠0:=by simpa using hn
       rw[Wa hn']at h0;by_cases hw:g.wk.1=some g.ns.length
       . have hw':¬ g.wk.1≠some g.ns.length:=by simpa using hw
         rw[Wa hw']at h0;by_cases hm:40<Qca g.wk.2.D
         . rw[Wb hm]at h0; cases h0
         . unfold Gm.rng at hr;exact⟨⟨by omega,by omega,by omega,by omega,by omega,QnI hn⟩,hw,by omega,h⟩
       . have hw':g.wk.1≠some g.ns.length:=hw;rw[Wb hw']at h0; cases h0
     . have hn':Qay g g.ns≠0:=hn;rw[Wb hn']at h0; exact(hn h0).elim
 . have h1:g.err0≠0:=h0;rw[Wb h1]at h;exact(h0 h).elim
section
variable {H:Ws} {g:Gm}
set_option maxRecDepth 10000 in
theorem Quv (hg:Gd g) {N:Nat} {K:Wr}
 (hexit:∀ env M cs,Fam (H.length+1) M g.sets cs->env.get 3=.own H.length 0 g.is.length 1 0->K (.exit 0) env (H++⟨cs,45,0,true⟩::M)) :
 ∀ (n i:Nat) (env:Env) (M:Ws) (A:List (List Int)) (cs:Wt),i+n=g.ns.length->A.length=g.is.length->(∀ s (h:s<A.length),A[s].length<=i)->Fam (H.length+1) M A cs->QcT (g.ns.drop i) i A=g.sets ->
  env.get 3=.own H.length 0 g.is.length 1 0->env.get 17=.slc (nds g.ns) g.ns.length->env.get 18=i64 g.ns.length->env.get 19=i64 i ->
  LI Tryz.prog N Qb Qg3 env (H++⟨cs,45,0,true⟩::M) K:=by
 have hgn:=hg.n;intro n
 induction n with
 |zero =>
  intro i env M A cs hi hA hAl hF hS h3 h17 h18 h19;refine Qc hm Qg3.eq_1 ?_;have e:i=g.ns.length:=by omega
  subst e;rw[Yl]at hS;subst hS;simp -implicitDefEqProofs[h18,h19];exact hexit _ _ _ hF (by simp[h3])
 |succ n ih =>
  intro i env M A cs hi hA hAl hF hS h3 h17 h18 h19;refine Qc hm Qg3.eq_1 ?_;have hlt:i<g.ns.length:=by omega
  have hx:g.ns[i]∈g.ns:=Vf hlt;have w1:IntKind.i64.wrap ((i:Int)+1)=((i+1:Nat):Int):=QaF (by omega);rw[Vy hlt,QcT]at hS;by_cases hk:g.ns[i].k=2
  . have hb:=hg.inf hx hk;have hs:g.ns[i].i.toNat<A.length:=by omega
    have hcl:=hF.len;rw[Wb hk,Vp,Vb hs,VT]at hS;have eset:∀ v:SV,List.take g.ns[i].i.toNat cs++v::List.drop (g.ns[i].i.toNat+1) cs=cs.set g.ns[i].i.toNat v:=λv=>by
     rw[YA,Wb (by omega)]
    have hAl':∀ v:List Int,v.length<=i+1->∀ s (h:s<(A.set g.ns[i].i.toNat v).length),(A.set g.ns[i].i.toNat v)[s].length<=i+1:=λv hv s h=>by
     by_cases e:g.ns[i].i.toNat=s
     . subst e; simpa using hv
     . rw[ZO e];have:=hAl s (by simpa using h); omega
    rcases hF.at' _ hs with ⟨k1,k2⟩|⟨k1,p,k2,k3⟩
    . simp -implicitDefEqProofs[h3,h17,h18,h19,hlt,QaC hlt,QaR hlt,QaN hlt,hk,sl,k2];refine⟨by omega,by omega,by omega,by omega,?_⟩;have hF':∀ x y:AO,Fam (H.length+1) (M++[x,y,⟨[i64 i],3,1,true⟩]) (A.set g.ns[i].i.toNat [(i:Int)]) (cs.set g.ns[i].i.toNat (.own (H.length+(M.length+3)) 0 1 1 1)):=λx y=>by
       have:=(hF.mono [x,y]).new (i:=(i:Int)) hs k1;rw[show H.length+1+(M++[x,y]).length=H.length+(M.length+3)by simp; omega]at this;simpa[Qa]using this
      rw[k1,VW]at hS;rw[eset,w1];refine ih (i+1) _ _ _ _ (by omega) (by simp[hA]) (hAl' _ (by simp)) (hF' _ _) hS ?_ ?_ ?_ ?_
      . simp
      . simp
      . simp
      . simp
    . rw[show H.length+1+p=H.length+(p+1)by omega]at k2;have hp:=Qg k3;have hle:=hAl _ hs;simp -implicitDefEqProofs[h3,h17,h18,h19,hlt,QaC hlt,QaR hlt,QaN hlt,hk,sl,k2,QfB k3,QgV,Qhh,QhH k3];refine⟨by omega,by omega,by omega,by omega,by omega,by omega,?_⟩;have hF':∀ x y:AO,Fam (H.length+1) (M.set p ⟨Qa A[g.ns[i].i.toNat]++[i64 i],3,A[g.ns[i].i.toNat].length+1,true⟩++[x,y]) (A.set g.ns[i].i.toNat (A[g.ns[i].i.toNat]++[(i:Int)]))
       (cs.set g.ns[i].i.toNat (.own (H.length+(p+1)) 0 (A[g.ns[i].i.toNat].length+1) 1 (A[g.ns[i].i.toNat].length+1))):=λx y=>by
       rw[show H.length+(p+1)=H.length+1+p by omega]at k2 ⊢;have:=(hF.grow (i:=(i:Int)) hs k2 k3).mono [x,y];simpa[Qa]using this
      rw[eset,w1];refine ih (i+1) _ _ _ _ (by omega) (by simp[hA]) (hAl' _ (by simp; omega)) (hF' _ _) hS ?_ ?_ ?_ ?_
      . simp
      . simp
      . simp
      . simp
  . simp -implicitDefEqProofs[h3,h17,h18,h19,hlt,QaC hlt,QaR hlt,QaN hlt,hk,sl];rw[Wa hk]at hS;rw[w1];refine ih (i+1) _ _ A cs (by omega) hA (λs h=>by have:=hAl s h; omega) (hF.mono _) hS ?_ ?_ ?_ ?_
    . simp
    . simp
    . simp
    . simp
def Gm.setsV (g:Gm):SV:=.slc (g.sets.map slN) g.is.length
set_option maxRecDepth 10000 in
theorem ok86 (hg:Gd g):Ok Tryz.prog 86 [g.wp] H (.ret g.setsV) H:=by
 have hn:=hg.n;have hi:=hg.i;refine Ql hm Tryz.func86 c86 (by simp) λhcl => ?_;simp -implicitDefEqProofs[i86,r86,Gm.wp,sl];refine⟨by omega,by omega,?_⟩;refine Quv (g:=g) hg (λenv M cs hF h3 => ?_) g.ns.length 0 _ [] (List.replicate g.is.length []) (List.replicate g.is.length nl) (by omega) (by simp) (by simp) (Fam.zero _ _ _) (by simp[Gm.sets]) (by simp) (by simp) (by simp) (by simp);simp -implicitDefEqProofs[h3];refine Qi 4 hcl rfl ?_;have hl:=hF.len;rw[QaT]at hl;have:=hF.fz (n:=H.length) (k:=1) (d:=1) (F:=(⟨cs,45,0,true⟩:AO)::M) rfl (λp=>by rw[show 1+p=p+1 by omega]; simp);simp[hl,this,Gm.setsV];exact VA (by simp[QaT])
end
structure WF (g:Gm):Prop where
 len:g.wk.2.ok g.ns.length
 nf:∀ i (h:i<g.ns.length),Nf g.ns g.wk.2 i g.ns[i]
 pf:∀ i,0<i->i<g.ns.length->∃ p,∃ h:p<g.ns.length,gi g.wk.2.P i=p/\p<i/\(i:Int)∈g.ns[p].nx
 p0:gi g.wk.2.P 0 = -1
 d0:gi g.wk.2.D 0=0
theorem Wg.wf {g:Gm} (h:Wg g):WF g:=by
 have hok:=Qdk (ns:=g.ns) (g.ns.length+1) (-1) 0 0 g.w0 QeQ;obtain⟨hf,_⟩:=QmR (ns:=g.ns) (g.ns.length+1) (-1) 0 0 g.w0 g.ns.length QeQ h.wk;refine⟨hok.1,λi hi=>hf.nf i _ (by omega) hi (Vb hi),λi h0 hi => ?_,hf.p,hf.d⟩;obtain⟨p,x,k1,k2,k3,k4,k5⟩:=hf.pf i h0 hi;have hp:p<g.ns.length:=by omega
 rw[Vb hp]at k4
 cases k4
 exact⟨p,hp,k1,k3,k5⟩
theorem QdA {l:List Int} {i:Nat} (h:i<l.length):l[i]=gi l i:=by simp[gi,h]
theorem Qe0 {g:Gm}:g.wk.2.ok g.ns.length:=(Qdk (ns:=g.ns) (g.ns.length+1) (-1) 0 0 g.w0 QeQ).1
section
variable {H:Ws} {g:Gm}
def Gm.last (g:Gm) (node:Int):Int×Int:=if g.formE≠0 then(0,g.formE)else if node<0\/g.ns.length<=node then(0,2)else(gi g.wk.2.L node.toNat,0)
theorem Qnf:g.formR=g.formE:=QuG.symm
def QiS (g:Gm) (i:Nat) (z:List Int):Prop:=z.length=g.ns.length/\gi z 0 = -1/\∀ j,0<j->j<g.ns.length->gi g.wk.2.P j<i->gi z j=gi g.wk.2.P j
set_option maxRecDepth 10000 in
theorem Qtp (hf:WF g) (hg:Gd g) {i:Nat} (hi:i<g.ns.length) {N:Nat} {K:Wr}
 (hexit:∀ env z,QiS g (i+1) z->env.get 1=.ptr (.own H.length 0 0 0 0) 0->env.get 3=.own (H.length+1) 0 g.ns.length 1 0->env.get 4=i64 i->K (.exit 2) env (H++[Qd g,ro z])) :
 ∀ (n c:Nat) (env:Env) (z:List Int),c+n=g.ns[i].nx.length->QiS g i z->(∀ k (h:k<g.ns[i].nx.length),k<c->gi z (g.ns[i].nx[k]).toNat=i) ->
  env.get 1=.ptr (.own H.length 0 0 0 0) 0->env.get 3=.own (H.length+1) 0 g.ns.length 1 0->env.get 4=i64 i->env.get 5=i64 c->LI Tryz.prog N Qb Qjc env (H++[Qd g,ro z]) K:=by
 have hgn:=hg.n;intro n
 induction n with
 |zero =>
  intro c env z hc hz hp h1 h3 h4 h5;refine Qc hm Qjc.eq_1 ?_;have e:c=g.ns[i].nx.length:=by omega
  subst e;simp -implicitDefEqProofs[h1,h3,h4,h5,Qd,hi,Qf9 hi,Qam];refine⟨by omega,?_⟩;refine hexit _ z ⟨hz.1,hz.2.1,λj h0 hj hlt => ?_⟩ (by simp) (by simp[h3]) (by simp);by_cases he:gi g.wk.2.P j=i
  . obtain⟨p,hp',k1,k2,k3⟩:=hf.pf j h0 hj;have:p=i:=by omega
    subst this;obtain⟨k,hk,ek⟩:=VH k3;have:=hp k hk hk;rw[ek]at this;rw[he]; simpa using this
  . exact hz.2.2 j h0 hj (by omega)
 |succ n ih =>
  intro c env z hc hz hp h1 h3 h4 h5;refine Qc hm Qjc.eq_1 ?_;have hlt:c<g.ns[i].nx.length:=by omega
  have hch:=(hf.nf i hi).ch _ (Vf hlt);have hnx:g.ns[i].nx.length<=60:=Qc7 (hg.e _ (Vf hi));have w1:IntKind.i64.wrap ((c:Int)+1)=((c+1:Nat):Int):=QaF (by omega);have hzl:=hz.1;simp -implicitDefEqProofs[h1,h3,h4,h5,Qd,hi,Qf9 hi,Qam,hlt,ro];refine⟨by omega,by omega,by omega,by omega,?_⟩;rw[w1,Qar (by omega)];have hset:∀ j,j≠g.ns[i].nx[c].toNat->gi (z.set g.ns[i].nx[c].toNat i) j=gi z j:=λj hj=>Qh0 hj;have hset0:gi (z.set g.ns[i].nx[c].toNat i) g.ns[i].nx[c].toNat=i:=QfX (by omega);refine ih (c+1) _ (z.set g.ns[i].nx[c].toNat i) (by omega) ⟨by simpa using hzl,?_,λj h0 hj hPj => ?_⟩ (λk hk hkc => ?_) ?_ ?_ ?_ ?_
  . rw[hset 0 (by omega)]; exact hz.2.1
  . rw[hset j (λe=>by subst e; rw[hch.2.2.1]at hPj; omega)];exact hz.2.2 j h0 hj hPj
  . by_cases e:(g.ns[i].nx[k]).toNat=(g.ns[i].nx[c]).toNat
    . rw[e]; exact hset0
    . rw[hset _ e];by_cases e':k=c
      . subst e'; exact(e rfl).elim
      . exact hp k hk (by omega)
  . simp
  . simp
  . simp
  . simp
set_option maxRecDepth 10000 in
theorem QsJ (hf:WF g) (hg:Gd g) {N:Nat} {K:Wr}
 (hexit:∀ env z,QiS g g.ns.length z->env.get 3=.own (H.length+1) 0 g.ns.length 1 0->K (.exit 0) env (H++[Qd g,ro z])) :
 ∀ (n i:Nat) (env:Env) (z:List Int),i+n=g.ns.length->QiS g i z ->
  env.get 1=.ptr (.own H.length 0 0 0 0) 0->env.get 3=.own (H.length+1) 0 g.ns.length 1 0->env.get 4=i64 i->LI Tryz.prog N Qb Qhp env (H++[Qd g,ro z]) K:=by
 have hgn:=hg.n;intro n
 induction n with
 |zero =>
  intro i env z hi hz h1 h3 h4;refine Qc hm Qhp.eq_1 ?_;have e:i=g.ns.length:=by omega
  subst e;simp -implicitDefEqProofs[h1,h3,h4,Qd];exact hexit _ z hz (by simp[h3])
 |succ n ih =>
  intro i env z hi hz h1 h3 h4;refine Qc hm Qhp.eq_1 ?_;have hlt:i<g.ns.length:=by omega
  have w1:IntKind.i64.wrap ((i:Int)+1)=((i+1:Nat):Int):=QaF (by omega);simp -implicitDefEqProofs[h1,h3,h4,Qd,hlt];refine Qtp (g:=g) hf hg hlt (λenv z hz h1 h3 h4 => ?_) g.ns[i].nx.length 0 _ z (by omega) hz (by omega) (by simp) (by simp) (by simp) (by simp);simp -implicitDefEqProofs[h4];rw[w1];exact ih (i+1) _ z (by omega) hz (by simp[h1]) (by simp[h3]) (by simp)
set_option maxRecDepth 10000 in
theorem Qpy (hW:Wg g):Ok Tryz.prog 128 [.agg g.cells] H (.ret (sl g.wk.2.P)) H:=by
 have hf:=hW.wf;have hgn:=hW.gd.n;have hg1:=hW.gd.n1;have hlen:g.wk.2.P.length=g.ns.length:=Qe0.1;refine Ql hm Tryz.func128 c128 (by simp) λhcl => ?_;simp -implicitDefEqProofs[i128,r128,Gm.cells];have e0:i64 (-1)::List.replicate (g.ns.length-1) (i64 0)=Qa ((List.replicate g.ns.length 0).set 0 (-1)):=by
  obtain⟨n,hn⟩:∃ n,g.ns.length=n+1:=⟨g.ns.length-1,by omega⟩;rw[hn]; simp[YO,Qa]
 refine⟨by omega,by omega,by omega,by omega,?_⟩;rw[e0];refine QsJ (g:=g) hf hW.gd (λenv z hz h3 => ?_) g.ns.length 0 _ _ (by omega) ⟨by simp,QfX (by simp; omega),λj h0 hj hP => ?_⟩ (by simp) (by simp) (by simp)
 . simp -implicitDefEqProofs[h3];refine Qi 2 hcl rfl ?_;have:z=g.wk.2.P:=by
    refine Y4 (by rw[hz.1,hlen]) λj h1 h2 => ?_;rw[QdA h1,QdA h2];by_cases h0:j=0
    . subst h0; rw[hz.2.1,hf.p0]
    . have hj:j<g.ns.length:=by omega
      obtain⟨p,hp,k1,k2,k3⟩:=hf.pf j (by omega) hj;exact hz.2.2 j (by omega) hj (by omega)
   subst this;simp[ro,sl,hlen]
 . obtain⟨p,hp,k1,k2,k3⟩:=hf.pf j h0 hj;omega
end
section
variable {σ:Type}
def abv (g:Gm) (pl:Int) (nb:σ->Nat->Int->Bool) (nx:σ->Nat->Int->σ):Nat->Nat->σ->σ
 |0,_,s=>s
 |f+1,node,s =>
  if gi g.wk.2.P node<0 then s else
   match g.ns[(gi g.wk.2.P node).toNat]? with
   |none=>s
   |some x =>
    if x.k=2/\x.p=pl then
     (if nb s (gi g.wk.2.P node).toNat (Qch node x.nx)=true then abv g pl nb nx f (gi g.wk.2.P node).toNat (nx s (gi g.wk.2.P node).toNat (Qch node x.nx))else nx s (gi g.wk.2.P node).toNat (Qch node x.nx))
    else abv g pl nb nx f (gi g.wk.2.P node).toNat s
variable {g:Gm} {Inv:Nat->Ws->σ->Prop} {vf:SV} {nb:σ->Nat->Int->Bool} {nx:σ->Nat->Int->σ} {pl:Int}
set_option maxRecDepth 10000 in
theorem Qsz (hW:Wg g) (hv:vf.vd=true/\vf.ug=vf) (hclo:∀ m G s (k:Nat) (a:Int),k<m->m<g.ns.length->Inv m G s->Qc2 Tryz.prog vf [i64 k,i64 a] G λout G'=>out=.ret (bl (nb s k a))/\Inv k G' (nx s k a))
 (hbox:∀ m G s o,Inv m G s->Inv m (G++[o]) s) (hdec:∀ m k G s,k<m->Inv m G s->Inv k G s) {N:Nat} {K:Wr} {s0:σ}
 (hret:∀ env m G,Inv m G s0->K .ret env G) (hexit:∀ env m G,Inv m G s0->K (.exit 0) env G) :
 ∀ (f node:Nat) (env:Env) (G:Ws) (s:σ),node<f->node<g.ns.length->Inv node G s->abv g pl nb nx f node s=s0 ->
  env.get 0=g.wp->env.get 1=i64 node->env.get 2=i64 pl->env.get 3=vf->env.get 8=i64 (gi g.wk.2.P node)->LI Tryz.prog N Qb Qly env G K:=by
 have hf:=hW.wf;have hgn:=hW.gd.n;have hlen:g.wk.2.P.length=g.ns.length:=Qe0.1;intro f
 induction f with
 |zero=>intro node env G s h; omega
 |succ f ih =>
  intro node env G s hnf hn hI hs e0 e1 e2 e3 e8;refine Qc hm Qly.eq_1 ?_;unfold abv at hs;by_cases hneg:gi g.wk.2.P node<0
  . rw[Wb hneg]at hs;subst hs;simp -implicitDefEqProofs[e8,show ¬ 0<=gi g.wk.2.P node by omega];exact hexit _ _ _ hI
  . rw[Wa hneg]at hs;have hn0:0<node:=by
     rcases Yh node with h|h
     . subst h; rw[hf.p0]at hneg; omega
     . exact h
    obtain⟨p,hp,k1,k2,k3⟩:=hf.pf node hn0 hn;have k1':(gi g.wk.2.P node).toNat=p:=by omega
    rw[k1',Vb hp]at hs;simp only at hs;rw[k1]at e8;have hnx:g.ns[p].nx.length<=60:=Qc7 (hW.gd.e _ (Vf hp));by_cases hm':g.ns[p].k=2/\g.ns[p].p=pl
    . rw[Wb hm']at hs;simp -implicitDefEqProofs[e0,e1,e2,e3,e8,Gm.wp,hp,QaC hp,QaR hp,QaN hp,sl,hm'.1,hm'.2,hv.1,hv.2];refine Qbv (λ_=>Qmx (IsI.slc _ _) (by omega) (node:Int)) ?_;simp -implicitDefEqProofs;refine QkW (hclo node _ s p (Qch node g.ns[p].nx) k2 hn (hbox _ _ _ _ hI)) (λout G' hP => ?_);obtain⟨rfl,hI'⟩:=hP
      cases hb:nb s p (Qch node g.ns[p].nx)with
      |true =>
       rw[hb,Wb rfl]at hs;simp -implicitDefEqProofs[e0,e8,Gm.wp,hp,hlen,sl];refine⟨by omega,?_⟩;rw[QdA (show p<g.wk.2.P.length by omega)];refine ih p _ _ _ (by omega) hp hI' hs ?_ ?_ ?_ ?_ ?_
       . simp[Gm.wp,sl,hlen]
       . simp
       . simp[e2]
       . simp[e3]
       . simp
      |false =>
       rw[hb,Wa (by simp)]at hs;subst hs;simp -implicitDefEqProofs;exact hret _ _ _ hI'
    . rw[Wa hm']at hs;by_cases hk2:g.ns[p].k=2
      . have hpl:¬ g.ns[p].p=pl:=λh=>hm' ⟨hk2,h⟩;simp -implicitDefEqProofs[e0,e1,e2,e3,e8,Gm.wp,hp,QaC hp,QaR hp,QaN hp,sl,hk2,hpl,hv.1,hv.2];refine QeY _ _ _ _ ?_;simp -implicitDefEqProofs[e0,e8,Gm.wp,hp,hlen,sl];refine⟨by omega,?_⟩;rw[QdA (show p<g.wk.2.P.length by omega)];refine ih p _ _ _ (by omega) hp (hdec _ _ _ _ k2 (hbox _ _ _ _ hI)) hs ?_ ?_ ?_ ?_ ?_
        . simp[Gm.wp,sl,hlen]
        . simp
        . simp[e2]
        . simp[e3]
        . simp
      . simp -implicitDefEqProofs[e0,e1,e2,e3,e8,Gm.wp,hp,QaC hp,QaR hp,QaN hp,sl,hk2,hv.1,hv.2];refine QeY _ _ _ _ ?_;simp -implicitDefEqProofs[e0,e8,Gm.wp,hp,hlen,sl];refine⟨by omega,?_⟩;rw[QdA (show p<g.wk.2.P.length by omega)];refine ih p _ _ _ (by omega) hp (hdec _ _ _ _ k2 (hbox _ _ _ _ hI)) hs ?_ ?_ ?_ ?_ ?_
        . simp[Gm.wp,sl,hlen]
        . simp
        . simp[e2]
        . simp[e3]
        . simp
theorem Ql7 (hW:Wg g) (hv:vf.vd=true/\vf.ug=vf) (hclo:∀ m G s (k:Nat) (a:Int),k<m->m<g.ns.length->Inv m G s->Qc2 Tryz.prog vf [i64 k,i64 a] G λout G'=>out=.ret (bl (nb s k a))/\Inv k G' (nx s k a))
 (hbox:∀ m G s o,Inv m G s->Inv m (G++[o]) s) (hdec:∀ m k G s,k<m->Inv m G s->Inv k G s) {G:Ws} {s:σ} {node:Nat} (hn:node<g.ns.length) (hI:Inv node G s) :
 OkP Tryz.prog 114 [g.wp,i64 node,i64 pl,vf] G λout G'=>out=.ret (.tup [])/\∃ m,Inv m G' (abv g pl nb nx g.ns.length node s):=by
 have hlen:g.wk.2.P.length=g.ns.length:=Qe0.1;refine Qce hm Tryz.func114 c114 (by simp) λhcl => ?_;simp -implicitDefEqProofs[i114,r114,Gm.wp,sl,hn,hlen];refine⟨by omega,?_⟩;rw[QdA (show node<g.wk.2.P.length by omega)];refine Qsz (g:=g) hW hv hclo hbox hdec (s0:=abv g pl nb nx g.ns.length node s) (pl:=pl) (λenv m G' hI' => ?_) (λenv m G' hI' => ?_) g.ns.length node _ _ s hn hn hI rfl (by simp[Gm.wp,sl,hlen]) (by simp) (by simp) (by simp) (by simp)
 . simp -implicitDefEqProofs;exact⟨_,_,⟨rfl,m,hI'⟩,Qo⟩
 . simp -implicitDefEqProofs;exact⟨_,_,⟨rfl,m,hI'⟩,Qo⟩
end
def Qli (g:Gm) (H:Ws) (m:Nat) (G:Ws) (l:List (Int×Int)):Prop :=
 l.length+m<=2000/\∃ L c,G=H++⟨[g.wp],128,0,true⟩::⟨[c],151,0,true⟩::L /\
  ((l=[]/\c=nl)\/(l≠[]/\∃ p,c=.own (H.length+(p+1+1)) 0 l.length 2 l.length/\L[p]? = some ⟨Qu l,155,l.length,true⟩))
theorem QiI:∀ (l:List (Int×Int)) (x:Int×Int),Qu (l++[x])=Qu l++[i64 x.1,i64 x.2]
 |[],x=>rfl
 |y::r,x=>by simp[Qu,QiI r x]
def Qbq (g:Gm) (k:Nat):Int:=match g.ns[k]? with|some x=>x.i|none=>0
section
variable {H:Ws} {g:Gm}
theorem Qed {l:List Nd} {k:Nat} (h:k<l.length):(nds l)[k*6+2]? = some (i64 l[k].i):=by rw[Qds h (by omega)]; rfl
set_option maxRecDepth 10000 in
theorem QuD {m:Nat} {G:Ws} {l:List (Int×Int)} (hI:Qli g H m G l) {k:Nat} (hk:k<g.ns.length) (hkm:k<m) (hn:g.ns.length<=2000) (a:Int) :
 OkP Tryz.prog 138 [i64 k,i64 a,.ptr (.own (H.length+1) 0 0 0 0) 0,.ptr (.own H.length 0 0 0 0) 0] G λout G'=>out=.ret (bl true)/\Qli g H k G' (l++[(Qbq g k,a)]):=by
 have hinf:Qbq g k=g.ns[k].i:=by unfold Qbq; rw[Vb hk]
 rw[hinf];obtain⟨hb,L,c,rfl,hc⟩:=hI;refine Qce hm Tryz.func138 c138 (by simp) λhcl => ?_;rcases hc with ⟨rfl,rfl⟩|⟨hne,p,rfl,hp⟩
 . simp -implicitDefEqProofs[Qkb,QlN,Gm.wp,sl,hk,Qed hk,Qam];refine⟨by omega,_,_,⟨rfl,by simp at hb ⊢; omega,L++[_,_],_,rfl,.inr ⟨by simp,L.length+1,rfl,?_⟩⟩,Qo⟩;rw[Vh (by omega)]; simp[Qu]
 . simp -implicitDefEqProofs[Qkb,QlN,Gm.wp,sl,hk,Qed hk,Qam,QfB hp,QhH hp,QgV,Qhh,Qnt];refine⟨by omega,by omega,by omega,by rw[Qa0]; omega,by omega,_,_,⟨rfl,by simp; omega,L.set p _++[_],_,rfl,.inr ⟨by simp,p,by simp,?_⟩⟩,Qo⟩;rw[Ve (by simpa using Qg hp),Vg (Qg hp)];simp[QiI]
def Qau (l:List (Int×Int)) (v:Nat):AO:=⟨Qu l,155,v,true⟩
theorem Qlt:∀ (l:List (Int×Int)) (i:Nat) (a b:Int),i<l.length->(Qu l).take (i*2)++i64 a::i64 b::(Qu l).drop (i*2+2)=Qu (l.set i (a,b))
 |[],i,a,b,h=>by simp at h
 |x::r,0,a,b,h=>by simp[Qu]
 |x::r,i+1,a,b,h=>by
  rw[show(i+1)*2=i*2+2 by omega];simp only[Qu,List.take_succ_cons,Zl,Yt,V6];rw[Qlt r i a b (by simpa using h)]
def Rv (l m:List (Int×Int)) (i:Nat):Prop:=m.length=l.length/\∀ t,t<l.length->m[t]? = if t<i\/l.length-1-i<t then l[l.length-1-t]? else l[t]?
theorem Rv.step {l m:List (Int×Int)} {i:Nat} (h:Rv l m i) (hi:i<l.length-1-i) {x y:Int×Int} (hx:m[l.length-1-i]? = some x) (hy:m[i]? = some y):Rv l ((m.set i x).set (l.length-1-i) y) (i+1):=by
 have hlm:=h.1;refine⟨by simpa using h.1,λt ht => ?_⟩;have hx':=h.2 (l.length-1-i) (by omega);have hy':=h.2 i (by omega);rw[Wa (by omega)]at hx' hy';rw[hx]at hx';rw[hy]at hy';by_cases e1:t=l.length-1-i
 . subst e1;rw[Vg (by simp; omega),Wb (by omega),hy'];congr 1; omega
 . rw[Vd (λh=>e1 h.symm)];by_cases e2:t=i
   . subst e2;rw[Vg (by omega),Wb (by omega),hx']
   . rw[Vd (λh=>e2 h.symm),h.2 t ht];by_cases hc:t<i\/l.length-1-i<t
     . rw[Wb hc,Wb (by omega)]
     . rw[Wa hc,Wa (by omega)]
theorem Rv.done {l m:List (Int×Int)} {i:Nat} (h:Rv l m i) (hi:¬ (i:Int)<(l.length:Int)-1-i):m=l.reverse:=by
 have hlm:=h.1;apply Vv;intro t;by_cases ht:t<l.length
 . rw[h.2 t ht,List.getElem?_reverse ht];by_cases hc:t<i\/l.length-1-i<t
   . rw[Wb hc]
   . rw[Wa hc];congr 1; omega
 . rw[Vl (by omega),Vl (by simp; omega)]
theorem Quj {G:Ws} {q:Nat} (hq:q<G.length) (o:AO) (f:AO->AO):Ab.setObj (G.set q o) q f=G.set q (f o):=by
 rw[QY (o:=o) (Vg hq),Yk]
theorem Qhg {G:Ws} {q:Nat} (hq:q<G.length) (l:List (Int×Int)) (v:Nat):Qf (G.set q (Qau l v)) q v=Qu l :=
 Qak (o:=Qau l v) (Vg hq) rfl
set_option maxRecDepth 10000 in
theorem QsU {G:Ws} {q v:Nat} (hq:q<G.length) {l:List (Int×Int)} (hl:l.length<=2000) {N:Nat} {K:Wr} (hexit:∀ env,K (.exit 0) env (G.set q (Qau l.reverse v))) :
 ∀ (n i:Nat) (m:List (Int×Int)) (env:Env),l.length<=i+n->i<=l.length->Rv l m i->env.get 0=.own q 0 l.length 2 v->env.get 2=i64 i->env.get 3=i64 ((l.length:Int)-1-i) ->
  LI Tryz.prog N Qb QfW env (G.set q (Qau m v)) K:=by
 intro n
 induction n with
 |zero =>
  intro i m env hn hi hR e0 e2 e3;refine Qc hm QfW.eq_1 ?_;have hno:¬ (i:Int)<(l.length:Int)-1-i:=by omega
  simp -implicitDefEqProofs[e0,e2,e3,hno];rw[hR.done hno];exact hexit _
 |succ n ih =>
  intro i m env hn hi hR e0 e2 e3;refine Qc hm QfW.eq_1 ?_;by_cases hlt:(i:Int)<(l.length:Int)-1-i
  . have hlm:=hR.1;have ej:(l.length:Int)-1-i=((l.length-1-i:Nat):Int):=by omega
    have hj:l.length-1-i<m.length:=by omega
    have hi':i<m.length:=by omega
    have w1:IntKind.i64.wrap ((i:Int)+1)=((i+1:Nat):Int):=QaF (by omega);have w2:IntKind.i64.wrap (((l.length-1-i:Nat):Int)-1)=(l.length:Int)-1-((i+1:Nat):Int):=by rw[Qp (by omega) (by omega)]; omega
    rw[ej]at e3 hlt;have hlt':i<l.length-1-i:=by omega
    simp -implicitDefEqProofs[e0,e2,e3,hlt,hlt',Qhg hq,QaL hj,QaL hi',Qa0,show i<l.length by omega,show l.length-1-i<l.length by omega,Quj hq];have c1:List.take (i*2) (Qau m v).cells++i64 m[l.length-1-i].1::i64 m[l.length-1-i].2::List.drop (i*2+2) (Qau m v).cells=Qu (m.set i m[l.length-1-i]):=Qlt m i _ _ hi';rw[c1];have c2:List.take ((l.length-1-i)*2) (Qu (m.set i m[l.length-1-i]))++i64 m[i].1::i64 m[i].2::List.drop ((l.length-1-i)*2+2) (Qu (m.set i m[l.length-1-i]))=Qu ((m.set i m[l.length-1-i]).set (l.length-1-i) m[i]) :=
     Qlt _ _ _ _ (by simpa using hj)
    rw[c2,w1,w2];have c3:Qf (G.set q (Qau (m.set i m[l.length-1-i]) v)) q v=Qu (m.set i m[l.length-1-i]):=Qhg hq _ v;refine⟨by omega,?_,?_⟩
    . show _<=(Qf (G.set q (Qau (m.set i m[l.length-1-i]) v)) q v).length;rw[c3,Qa0,VY]; omega
    . refine ih (i+1) ((m.set i m[l.length-1-i]).set (l.length-1-i) m[i]) _ (by omega) (by omega) (hR.step hlt' (Vb hj) (Vb hi')) ?_ ?_ ?_
      . simp
      . simp
      . simp
  . simp -implicitDefEqProofs[e0,e2,e3,hlt];rw[hR.done hlt];exact hexit _
theorem Qsb {G:Ws} {q v:Nat} (hq:q<G.length) {l:List (Int×Int)} (hl:l.length<=2000):Ok Tryz.prog 139 [.own q 0 l.length 2 v] (G.set q (Qau l v)) (.ret (.tup [])) (G.set q (Qau l.reverse v)):=by
 refine Ql hm Tryz.func139 c139 (by simp) λhcl => ?_;have w1:IntKind.i64.wrap ((l.length:Int)-1)=(l.length:Int)-1-((0:Nat):Int):=by rw[Qp (by omega) (by omega)]; omega
 simp -implicitDefEqProofs[Qkk,QkB];rw[w1];refine QsU hq hl (λenv => ?_) l.length 0 l _ (by omega) (by omega) ⟨rfl,λt ht=>by rw[Wa (by omega)]⟩ (by simp) (by simp) (by simp);simp -implicitDefEqProofs;exact Qo
theorem QvD {G:Ws}:Ok Tryz.prog 139 [nl] G (.ret (.tup [])) G:=by
 refine Ql hm Tryz.func139 c139 (by simp) λhcl => ?_;simp -implicitDefEqProofs[Qkk,QkB,show(SV.val (Value.slice none 0 0)).isSl=true by rfl,show(SV.val (Value.slice none 0 0)).slen=0 by rfl,show IntKind.i64.wrap (-1) = -1 by rfl];refine Qc hm QfW.eq_1 ?_;simp -implicitDefEqProofs;exact Qo
end
def wv (l:List (Int×Int)):SV:=if l=[]then nl else .slc (Qu l) l.length
def Gm.up (g:Gm) (node:Nat) (pl:Int):List (Int×Int):=abv g pl (λ_ _ _=>true) (λl k a=>l++[(Qbq g k,a)]) g.ns.length node []
def Gm.way (g:Gm) (node:Nat) (pl:Int):List (Int×Int):=(g.up node pl).reverse
section
variable {H:Ws} {g:Gm}
set_option maxRecDepth 10000 in
theorem QjW (hW:Wg g) {node:Nat} (hn:node<g.ns.length) (pl:Int):Ok Tryz.prog 113 [g.wp,i64 node,i64 pl] H (.ret (wv (g.way node pl))) H:=by
 have hgn:=hW.gd.n;refine Ql hm Tryz.func113 c113 (by simp) λhcl => ?_;have hwp:g.wp.vd=true/\g.wp.ug=g.wp/\g.wp.flat=[g.wp]/\g.wp.isCell=true:=⟨rfl,rfl,rfl,rfl⟩;simp -implicitDefEqProofs[i113,r113,hwp.1,hwp.2.1,hwp.2.2.1,hwp.2.2.2];have h67:=Ql7 (g:=g) (σ:=List (Int×Int)) (Inv:=Qli g H) (vf:=.fn (.func 138) [] [.ptr (.own (H.length+1) 0 0 0 0) 0,.ptr (.own H.length 0 0 0 0) 0]) (nb:=λ_ _ _=>true) (nx:=λl k a=>l++[(Qbq g k,a)]) (pl:=pl) hW ⟨rfl,rfl⟩
  (λm G s k a hkm hm' hI=>QjX (by simpa using QuD hI (by omega) hkm hgn a))
  (λm G s o hI=>by
   obtain⟨hb,L,c,rfl,hc⟩:=hI;refine⟨hb,L++[o],c,by simp,?_⟩;rcases hc with h|⟨h1,p,h2,h3⟩
   . exact .inl h
   . exact .inr ⟨h1,p,h2,by rw[Ve (Qg h3)]; exact h3⟩)
  (λm k G s hkm hI=>⟨by have:=hI.1; omega,hI.2⟩) (G:=H++[⟨[g.wp],128,0,true⟩,⟨[nl],151,0,true⟩]) (s:=[]) (node:=node) hn ⟨by simp; omega,[],nl,rfl,.inl ⟨rfl,rfl⟩⟩
 refine QbL h67 (λout G' hP => ?_);obtain⟨rfl,m,hb,L,c,rfl,hc⟩:=hP;have hup:abv g pl (λ_ _ _=>true) (λl k a=>l++[(Qbq g k,a)]) g.ns.length node []=g.up node pl:=rfl;rw[hup]at hb hc;rcases hc with ⟨h0,rfl⟩|⟨hne,p,rfl,hp⟩
 . have hw:wv (g.way node pl)=nl:=by unfold wv Gm.way; rw[h0]; rfl
   rw[hw];simp -implicitDefEqProofs;refine Qh QvD ?_;simp -implicitDefEqProofs;exact Qi 2 hcl rfl (by simp)
 . have hw:wv (g.way node pl)=.slc (Qu (g.up node pl).reverse) (g.up node pl).length:=by
    unfold wv Gm.way; rw[Wa (by simpa using hne)]; simp
   rw[hw];simp -implicitDefEqProofs;have hL:L.set p (Qau (g.up node pl) (g.up node pl).length)=L:=by
    apply Vv;intro i;by_cases h:p=i
    . subst h; rw[Vg (Qg hp),hp]; rfl
    . rw[Vd h]
   have hset:∀ (A B o:AO),(H++A::B::L).set (H.length+(p+1+1)) o=H++A::B::L.set p o:=λA B o=>by simp
   have h71:=Qsb (G:=H++(⟨[g.wp],128,0,true⟩:AO)::⟨[.own (H.length+(p+1+1)) 0 (g.up node pl).length 2 (g.up node pl).length],151,0,true⟩::L) (q:=H.length+(p+1+1)) (v:=(g.up node pl).length) (by have:=Qg hp; simp; omega) (l:=g.up node pl) (by omega);rw[hset,hset,hL]at h71;refine Qh h71 ?_;simp -implicitDefEqProofs;refine Qi 3 hcl rfl ?_;have hpl:=Qg hp;simp[hpl,Qau,Qa0,VB];exact VA (by rw[Qa0,ZU]; omega)
end
theorem QhS (l:List (Int×Int)):(wv l).vd=true/\(wv l).ug=wv l/\(wv l).isSl=true/\(wv l).slen=l.length/\(wv l).isCell=true/\(wv l).flat=[wv l]:=by
 unfold wv;split
 . rename_i h; subst h; exact⟨rfl,rfl,rfl,rfl,rfl,rfl⟩
 . exact⟨rfl,rfl,rfl,rfl,rfl,rfl⟩
theorem QmM {l:List (Int×Int)} (h:l≠[]):wv l=.slc (Qu l) l.length:=Wa h
section
variable {H:Ws} {g:Gm} {a b:List (Int×Int)}
set_option maxRecDepth 10000 in
theorem Qv8 (hl:a.length<=100000) (hab:a.length=b.length) {N:Nat} {K:Wr}
 (hret:a≠b->∀ env,env.get 4=bl false->K .ret env H) (hexit:a=b->∀ env,K (.exit 0) env H) :
 ∀ (n i:Nat) (env:Env),i+n=a.length->(∀ k (h:k<a.length),k<i->a[k]=b[k]'(by omega))->env.get 0=wv a->env.get 1=wv b->env.get 12=i64 a.length->env.get 13=i64 i ->
  LI Tryz.prog N Qb Qh5 env H K:=by
 intro n
 induction n with
 |zero =>
  intro i env hi hp h0 h1 h12 h13;refine Qc hm Qh5.eq_1 ?_;have e:i=a.length:=by omega
  subst e;simp -implicitDefEqProofs[h12,h13];exact hexit (Y4 hab λk h1 h2=>hp k h1 h1) _
 |succ n ih =>
  intro i env hi hp h0 h1 h12 h13;refine Qc hm Qh5.eq_1 ?_;have hlt:i<a.length:=by omega
  have hlt':i<b.length:=by omega
  have ha:a≠[]:=λe=>by subst e; simp at hlt
  have hb:b≠[]:=λe=>by subst e; simp at hlt'
  have w1:IntKind.i64.wrap ((i:Int)+1)=((i+1:Nat):Int):=QaF (by omega);have f1:=QmM ha; have f2:=QmM hb;simp -implicitDefEqProofs[h0,h1,h12,h13,f1,f2,hlt,hlt',QaL hlt,QaL hlt',QdG hlt,QdV hlt,QdG hlt',QdV hlt'];by_cases hc:a[i]=b[i]
  . rw[Wa (by rw[hc]; simp)];rw[w1];refine ih (i+1) _ (by omega) ?_ ?_ ?_ ?_ ?_
    rotate_left
    . simp[f1]
    . simp[f2]
    . simp
    . simp
    intro k hk hki;by_cases e:k=i
    . subst e; exact hc
    . exact hp k hk (by omega)
  . rw[Wb (by
     by_cases h1:a[i].1=b[i].1
     . exact .inr λh2=>hc (Prod.ext h1 h2)
     . exact .inl h1)]
    exact hret (λe=>hc (by subst e; rfl)) _ (by simp)
theorem QrN (hl:a.length<=100000):Ok Tryz.prog 141 [wv a,wv b] H (.ret (bl (decide (a=b)))) H:=by
 obtain⟨v1,v2,v3,v4,v5,v6⟩:=QhS a;obtain⟨u1,u2,u3,u4,u5,u6⟩:=QhS b;refine Ql hm Tryz.func141 c141 (by simp) λhcl => ?_;by_cases hab:a.length=b.length
 . simp -implicitDefEqProofs[Qj9,QkO,v1,v2,v3,v4,u1,u2,u3,u4,hab];refine Qv8 (a:=a) (b:=b) hl hab (λhne env h4 => ?_) (λhe env => ?_) a.length 0 _ (by omega) (by omega) (by simp) (by simp) (by simp[hab]) (by simp)
   . simp -implicitDefEqProofs[h4,hne];exact Qo
   . simp -implicitDefEqProofs[he];exact Qo
 . simp -implicitDefEqProofs[Qj9,QkO,v1,v2,v3,v4,u1,u2,u3,u4,show ¬ ((a.length:Int)=b.length)by omega,hab];have:a≠b:=λe=>hab (by rw[e]);simp[this];exact Qo
theorem QmQ (hl:a.length<=100000):Ok Tryz.prog 116 [wv a,wv b] H (.ret (bl (decide (a=b)))) H:=by
 obtain⟨v1,v2,v3,v4,v5,v6⟩:=QhS a;obtain⟨u1,u2,u3,u4,u5,u6⟩:=QhS b;refine Ql hm Tryz.func116 c116 (by simp) λhcl => ?_;simp -implicitDefEqProofs[i116,r116,v1,v2,v3,v4,u1,u2,u3,u4];refine Qh (QrN hl) ?_;simp -implicitDefEqProofs;exact Qo
end
structure Fl where
 k:Int
 n:Int
 i:Int
 o:Int
deriving DecidableEq
def Fl.cells (f:Fl):Wt:=[i64 f.k,i64 f.n,i64 f.i,i64 f.o]
def Qcn (G G':Ws):Prop:=∀ (j:Nat) (o:AO),G[j]? = some o->o.ty=3\/o.ty=136->G'[j]? = some o
theorem Qcn.refl (G:Ws):Qcn G G:=λ_ _ h _=>h
theorem Qcn.trans {G G' G'':Ws} (h:Qcn G G') (h':Qcn G' G''):Qcn G G'':=λj o ho ht=>h' j o (h j o ho ht) ht
theorem Qcn.app (G:Ws) (L:Ws):Qcn G (G++L):=λj o ho _=>by rw[Ve (Qg ho)]; exact ho
structure Rep {τ:Type} (rp:SV) (b0:Nat) (R:Nat->Ws->τ->Prop) (rb:τ->Fl->Bool) (rn:τ->Fl->τ):Prop where
 vd:rp.vd=true
 ug:rp.ug=rp
 cell:rp.isCell=true
 flat:rp.flat=[rp]
 call:∀ c G s f,R (c+1) G s->Qc2 Tryz.prog rp [.agg f.cells] G λout G'=>out=.ret (bl (rb s f))/\R c G' (rn s f)/\Qcn G G'
 app:∀ c G s o,R c G s->R c (G++[o]) s
 put:∀ c G s j o o',R c G s->G[j]? = some o->b0<=j->o.ty=3->R c (G.set j o') s
 len:∀ c G s,R c G s->b0<=G.length
 dec:∀ c G s,R (c+1) G s->R c G s
theorem Rep.decn {τ:Type} {rp:SV} {b0:Nat} {R:Nat->Ws->τ->Prop} {rb:τ->Fl->Bool} {rn:τ->Fl->τ} (h:Rep rp b0 R rb rn):∀ {k c:Nat} {G:Ws} {s:τ},R (k+c) G s->R c G s
 |0,c,G,s,hr=>by simpa using hr
 |k+1,c,G,s,hr=>h.decn (k:=k) (h.dec _ _ _ (by rw[show k+c+1=k+1+c by omega]; exact hr))
section
variable {τ:Type} {rp:SV} {b0:Nat} {R:Nat->Ws->τ->Prop} {rb:τ->Fl->Bool} {rn:τ->Fl->τ} {g:Gm}
structure SkI (g:Gm) (rp:SV) (info:Int) (bs bi:Nat) (G:Ws):Prop where
 s:G[bs]? = some ⟨[g.wp,rp],136,0,true⟩
 i:G[bi]? = some ⟨[i64 info],3,0,true⟩
theorem SkI.keep {info:Int} {bs bi:Nat} {G G':Ws} (h:SkI g rp info bs bi G) (hk:Qcn G G'):SkI g rp info bs bi G':=⟨hk _ _ h.s (.inr rfl),hk _ _ h.i (.inl rfl)⟩
theorem SkI.cs {info:Int} {bs bi:Nat} {G:Ws} (h:SkI g rp info bs bi G):Qf G bs 0=[g.wp,rp]:=Qak h.s rfl
theorem SkI.ci {info:Int} {bs bi:Nat} {G:Ws} (h:SkI g rp info bs bi G):Qf G bi 0=[i64 info]:=Qak h.i rfl
def dpn (g:Gm) (info:Int) (d:Int) (k:Nat):Int:=if Qbq g k=info then k else d
def DpI (g:Gm) (R:Nat->Ws->τ->Prop) (rp:SV) (info:Int) (bs bi bd c:Nat) (s:τ) (_:Nat) (G:Ws) (d:Int):Prop :=
 R c G s/\SkI g rp info bs bi G/\G[bd]? = some ⟨[i64 d],3,0,true⟩/\bd≠bs/\bd≠bi
set_option maxRecDepth 10000 in
theorem QqD (hR:Rep rp b0 R rb rn) (hn:g.ns.length<=2000) {info:Int} {bs bi bd c:Nat} (hbd:b0<=bd) {s:τ} {m:Nat} {G:Ws} {d:Int} (hI:DpI g R rp info bs bi bd c s m G d) {k:Nat} (hk:k<g.ns.length) (a:Int) (m':Nat) :
 OkP Tryz.prog 115 [i64 k,i64 a,.ptr (.own bs 0 0 0 0) 0,.ptr (.own bi 0 0 0 0) 0,.ptr (.own bd 0 0 0 0) 0] G λout G'=>out=.ret (bl (decide (dpn g info d k<0)))/\DpI g R rp info bs bi bd c s m' G' (dpn g info d k):=by
 obtain⟨h1,h2,h3,h4,h5⟩:=hI;have hinf:Qbq g k=g.ns[k].i:=by unfold Qbq; rw[Vb hk]
 have hd:Qf G bd 0=[i64 d]:=Qak h3 rfl;refine Qce hm Tryz.func115 c115 (by simp) λhcl => ?_;by_cases hi:g.ns[k].i=info
 . have e:dpn g info d k=k:=by unfold dpn; rw[Wb (by rw[hinf]; exact hi)]
   rw[e];have hst:∀ f:AO->AO,Ab.setObj G bd f=G.set bd (f ⟨[i64 d],3,0,true⟩):=λf=>QY h3 f;have hlt:=Qg h3;have hc2:Qf (G.set bd (⟨[i64 k],3,0,true⟩:AO)) bd 0=[i64 k]:=Qak (o:=⟨[i64 k],3,0,true⟩) (Vg hlt) rfl;simp -implicitDefEqProofs[Qk3,QkC,Gm.wp,sl,hk,h2.cs,h2.ci,hd,Qed hk,Qam,hi,hst,hc2];refine⟨by omega,_,_,⟨rfl,hR.put _ _ _ _ _ _ h1 h3 hbd rfl,⟨?_,?_⟩,Vg hlt,h4,h5⟩,Qo⟩
   . rw[Vd h4]; exact h2.s
   . rw[Vd h5]; exact h2.i
 . have e:dpn g info d k=d:=by unfold dpn; rw[Wa (by rw[hinf]; exact hi)]
   rw[e];simp -implicitDefEqProofs[Qk3,QkC,Gm.wp,sl,hk,h2.cs,h2.ci,hd,Qed hk,Qam,hi];exact⟨by omega,_,_,⟨rfl,h1,h2,h3,h4,h5⟩,Qo⟩
theorem Qk4 {pl:Int}:∀ (f node:Nat) (l:List (Int×Int)),(abv g pl (λ_ _ _=>true) (λl k a=>l++[(Qbq g k,a)]) f node l).length<=l.length+f
 |0,node,l=>by simp[abv]
 |f+1,node,l=>by
  unfold abv;split
  . omega
  . split
    . omega
    . split
      . rw[Wb rfl];refine YC (Qk4 (pl:=pl) f _ _) ?_;simp only[VG,List.length_singleton];omega
      . have:=Qk4 (pl:=pl) f (gi g.wk.2.P node).toNat l;omega
theorem Qe1 {node:Nat} {pl:Int}:(g.way node pl).length<=g.ns.length:=by
 unfold Gm.way Gm.up;have:=Qk4 (g:=g) (pl:=pl) g.ns.length node [];simpa using this
def Gm.deep (g:Gm) (node:Nat) (pl info:Int):Int:=abv g pl (λd k _=>decide (dpn g info d k<0)) (λd k _=>dpn g info d k) g.ns.length node (-1)
def Qap (g:Gm) (rb:τ->Fl->Bool) (rn:τ->Fl->τ) (info pl n0:Int) (first:List (Int×Int)):List Int->τ->Bool×τ
 |[],s=>(true,s)
 |v::r,s =>
  let d:=g.deep v.toNat pl info
  if 0<=d/\rb s ⟨1,v,info,d⟩=false then(false,rn s ⟨1,v,info,d⟩)else
  let s1:=if 0<=d then rn s ⟨1,v,info,d⟩else s
  if g.way v.toNat pl=first then Qap g rb rn info pl n0 first r s1 else
  if rb s1 ⟨2,v,info,n0⟩=true then Qap g rb rn info pl n0 first r (rn s1 ⟨2,v,info,n0⟩)else(false,rn s1 ⟨2,v,info,n0⟩)
set_option maxRecDepth 10000 in
theorem Qp9 (hW:Wg g) (hR:Rep rp b0 R rb rn) {info pl n0:Int} {bs bi:Nat} {nodes:List Int} {first:List (Int×Int)} (hn0:nodes.head? = some n0) (hns:∀ v∈nodes,0<=v/\v<g.ns.length) (hnl:nodes.length<=2000) (hfl:first.length<=2000)
 {N:Nat} {K:Wr} {Q:Bool×τ}
 {c:Nat} (hret:Q.1=false->∀ env G,R c G Q.2->env.get 6=bl false->K .ret env G) (hexit:Q.1=true->∀ env G,R c G Q.2->K (.exit 0) env G) :
 ∀ (n i:Nat) (env:Env) (G:Ws) (s:τ),i+n=nodes.length->R (2*n+c) G s->SkI g rp info bs bi G->Qap g rb rn info pl n0 first (nodes.drop i) s=Q ->
  env.get 2=.slc (Qa nodes) nodes.length->env.get 3=.ptr (.own bs 0 0 0 0) 0->env.get 4=.ptr (.own bi 0 0 0 0) 0->env.get 7=i64 pl->env.get 8=wv first->env.get 29=.slc (Qa nodes) nodes.length->env.get 30=i64 nodes.length->env.get 31=i64 i ->
  LI Tryz.prog N Qb QjG env G K:=by
 have hgn:=hW.gd.n;have hwp:g.wp.vd=true/\g.wp.ug=g.wp/\g.wp.flat=[g.wp]/\g.wp.isCell=true:=⟨rfl,rfl,rfl,rfl⟩;intro n
 induction n with
 |zero =>
  intro i env G s hi hRG hS hQ h2 h3 h4 h7 h8 h29 h30 h31;refine Qc hm QjG.eq_1 ?_;have e:i=nodes.length:=by omega
  subst e;rw[Yl]at hQ;subst hQ;simp -implicitDefEqProofs[h30,h31];exact hexit rfl _ _ (by simpa[Qap]using hRG)
 |succ n ih =>
  intro i env G s hi hRG hS hQ h2 h3 h4 h7 h8 h29 h30 h31;refine Qc hm QjG.eq_1 ?_;have hlt:i<nodes.length:=by omega
  have w1:IntKind.i64.wrap ((i:Int)+1)=((i+1:Nat):Int):=QaF (by omega);have hv:=hns _ (Vf hlt);have hvn:nodes[i]=((nodes[i].toNat:Nat):Int):=by omega
  rw[Vy hlt]at hQ;unfold Qap at hQ;have hpos:0<nodes.length:=by omega
  have hhead:(Qa nodes).head? = some (i64 n0):=by
   cases hc:nodes with
   |nil=>rw[hc]at hpos; simp at hpos
   |cons y r=>rw[hc]at hn0; simp at hn0; subst hn0; rfl
  have hbs:=Qg hS.s;have hbi:=Qg hS.i;simp -implicitDefEqProofs[h2,h3,h4,h7,h8,h29,h30,h31,hlt,Qeg _ hbs,Qeg _ hbi,hS.cs,hS.ci,hwp.1,hwp.2.1];refine⟨by omega,?_⟩;have h67:=Ql7 (g:=g) (σ:=Int) (Inv:=DpI g R rp info bs bi G.length (2*n+c+1+1) s) (vf:=.fn (.func 115) [] [.ptr (.own bs 0 0 0 0) 0,.ptr (.own bi 0 0 0 0) 0,.ptr (.own G.length 0 0 0 0) 0]) (nb:=λd k _=>decide (dpn g info d k<0)) (nx:=λd k _=>dpn g info d k) (pl:=pl) hW ⟨rfl,rfl⟩
   (λm G s k a hkm hm' hI=>QjX (by simpa using QqD hR hgn (hR.len _ _ _ hRG) hI (by omega) a k))
   (λm G s o hI=>⟨hR.app _ _ _ _ hI.1,hI.2.1.keep (Qcn.app _ _),by rw[Ve (Qg hI.2.2.1)]; exact hI.2.2.1,hI.2.2.2⟩)
   (λm k G s hkm hI=>hI) (G:=G++[⟨[i64 (-1)],3,0,true⟩]) (s := -1) (node:=nodes[i].toNat) (by omega)
   ⟨hR.app _ _ _ _ (by rw[show 2*n+c+1+1=2*(n+1)+c by omega]; exact hRG),hS.keep (Qcn.app _ _),by simp,by omega,by omega⟩
  rw[<-hvn]at h67;refine QbL h67 (λout G2 hP => ?_);obtain⟨rfl,m',hR2,hS2,hd2,hb1,hb2⟩:=hP;have hdeep:abv g pl (λd k _=>decide (dpn g info d k<0)) (λd k _=>dpn g info d k) g.ns.length nodes[i].toNat (-1)=g.deep nodes[i].toNat pl info:=rfl;rw[hdeep]at hd2;simp only at hQ;generalize hgd:g.deep nodes[i].toNat pl info=d at hd2 hQ;have hcd:Qf G2 G.length 0=[i64 d]:=Qak hd2 rfl;by_cases h0:0<=d
  . simp -implicitDefEqProofs[h2,h3,h4,h7,h8,h29,h30,h31,hcd,h0,hS2.cs,hS2.ci,hR.vd,hR.ug];refine QkW (hR.call _ _ _ ⟨1,nodes[i],info,d⟩ hR2) (λout G3 hP => ?_);obtain⟨rfl,hR3,hK3⟩:=hP;have hS3:=hS2.keep hK3
    cases hb:rb s ⟨1,nodes[i],info,d⟩with
    |false =>
     rw[Wb ⟨h0,hb⟩]at hQ;subst hQ;simp -implicitDefEqProofs;exact hret rfl _ _ (hR.decn (k:=2*n+1) (by rw[show 2*n+1+c=2*n+c+1 by omega]; exact hR3)) (by simp)
    |true =>
     rw[Wa (by rw[hb]; simp),Wb h0]at hQ;simp -implicitDefEqProofs[h2,h3,h4,h7,h8,h29,h30,h31,hS3.cs,hS3.ci,hR.vd,hR.ug,hwp.1,hwp.2.1];have h50:=QjW (H:=G3) hW (node:=nodes[i].toNat) (by omega) pl;rw[<-hvn]at h50;refine Qh h50 ?_;simp -implicitDefEqProofs[h8];refine Qh (QmQ (a:=g.way nodes[i].toNat pl) (b:=first) (by have:=Qe1 (g:=g) (node:=nodes[i].toNat) (pl:=pl); omega)) ?_
     by_cases hw:g.way nodes[i].toNat pl=first
     . rw[Wb hw]at hQ;simp -implicitDefEqProofs[hw,h31];rw[w1];refine ih (i+1) _ _ _ (by omega) (hR.dec _ _ _ (by rw[show 2*n+c+1=(2*n+c)+1 by omega]at hR3; exact hR3)) hS3 hQ ?_ ?_ ?_ ?_ ?_ ?_ ?_ ?_
       . simp[h2]
       . simp[h3]
       . simp[h4]
       . simp[h7]
       . simp[h8]
       . simp[h29]
       . simp[h30]
       . simp
     . rw[Wa hw]at hQ;simp -implicitDefEqProofs[hw,h2,h3,h4,hS3.cs,hS3.ci,hR.vd,hR.ug,hhead];refine⟨hpos,hpos,?_⟩;refine Qnl (hR.call _ _ _ ⟨2,nodes[i],info,n0⟩ hR3) (λout G4 hP => ?_);obtain⟨rfl,hR4,hK4⟩:=hP;have hS4:=hS3.keep hK4
       cases hb2:rb (rn s ⟨1,nodes[i],info,d⟩) ⟨2,nodes[i],info,n0⟩with
       |true =>
        rw[hb2,Wb rfl]at hQ;simp -implicitDefEqProofs[h2,h3,h4,hS4.cs,hS4.ci,hR.vd,hR.ug,hhead,h31,hpos];rw[w1];refine ih (i+1) _ _ _ (by omega) hR4 hS4 hQ ?_ ?_ ?_ ?_ ?_ ?_ ?_ ?_
        . simp[h2]
        . simp[h3]
        . simp[h4]
        . simp[h7]
        . simp[h8]
        . simp[h29]
        . simp[h30]
        . simp
       |false =>
        rw[hb2,Wa (by simp)]at hQ;subst hQ;simp -implicitDefEqProofs[h2,h3,h4,hS4.cs,hS4.ci,hR.vd,hR.ug,hhead,hpos];exact hret rfl _ _ (hR.decn (k:=2*n) hR4) (by simp)
  . rw[Wa (λh=>h0 h.1),Wa h0]at hQ;simp -implicitDefEqProofs[h2,h3,h4,h7,h8,h29,h30,h31,hcd,h0,hS2.cs,hS2.ci,hR.vd,hR.ug,hwp.1,hwp.2.1];have h50:=QjW (H:=G2) hW (node:=nodes[i].toNat) (by omega) pl;rw[<-hvn]at h50;refine Qh h50 ?_;simp -implicitDefEqProofs[h8];refine Qh (QmQ (a:=g.way nodes[i].toNat pl) (b:=first) (by have:=Qe1 (g:=g) (node:=nodes[i].toNat) (pl:=pl); omega)) ?_
    by_cases hw:g.way nodes[i].toNat pl=first
    . rw[Wb hw]at hQ;simp -implicitDefEqProofs[hw,h31];rw[w1];refine ih (i+1) _ _ _ (by omega) (hR.dec _ _ _ (hR.dec _ _ _ hR2)) hS2 hQ ?_ ?_ ?_ ?_ ?_ ?_ ?_ ?_
      . simp[h2]
      . simp[h3]
      . simp[h4]
      . simp[h7]
      . simp[h8]
      . simp[h29]
      . simp[h30]
      . simp
    . rw[Wa hw]at hQ;simp -implicitDefEqProofs[hw,h2,h3,h4,hS2.cs,hS2.ci,hR.vd,hR.ug,hhead];refine⟨hpos,hpos,?_⟩;refine Qnl (hR.call _ _ _ ⟨2,nodes[i],info,n0⟩ (hR.dec _ _ _ hR2)) (λout G4 hP => ?_);obtain⟨rfl,hR4,hK4⟩:=hP;have hS4:=hS2.keep hK4
      cases hb2:rb s ⟨2,nodes[i],info,n0⟩with
      |true =>
       rw[hb2,Wb rfl]at hQ;simp -implicitDefEqProofs[h2,h3,h4,hS4.cs,hS4.ci,hR.vd,hR.ug,hhead,h31,hpos];rw[w1];refine ih (i+1) _ _ _ (by omega) hR4 hS4 hQ ?_ ?_ ?_ ?_ ?_ ?_ ?_ ?_
       . simp[h2]
       . simp[h3]
       . simp[h4]
       . simp[h7]
       . simp[h8]
       . simp[h29]
       . simp[h30]
       . simp
      |false =>
       rw[hb2,Wa (by simp)]at hQ;subst hQ;simp -implicitDefEqProofs[h2,h3,h4,hS4.cs,hS4.ci,hR.vd,hR.ug,hhead,hpos];exact hret rfl _ _ (hR.decn (k:=2*n) hR4) (by simp)
set_option maxRecDepth 10000 in
theorem ok87 (hW:Wg g) (hR:Rep rp b0 R rb rn) {info:Nat} (hinfo:info<g.is.length) {nodes:List Int} {n0:Int} (hn0:nodes.head? = some n0) (hns:∀ v∈nodes,0<=v/\v<g.ns.length) (hnl:nodes.length<=2000) {G:Ws} {s:τ} {c:Nat} (hRG:R (2*nodes.length+c) G s) :
 OkP Tryz.prog 87 [.agg [g.wp,rp],i64 info,.slc (Qa nodes) nodes.length] G λout G'=>out=.ret (bl (Qap g rb rn info g.is[info].1 n0 (g.way n0.toNat g.is[info].1) nodes s).1)/\R c G' (Qap g rb rn info g.is[info].1 n0 (g.way n0.toNat g.is[info].1) nodes s).2:=by
 have hgn:=hW.gd.n;have hwp:g.wp.vd=true/\g.wp.ug=g.wp/\g.wp.flat=[g.wp]/\g.wp.isCell=true:=⟨rfl,rfl,rfl,rfl⟩;have hpos:0<nodes.length:=by cases nodes with|nil=>simp at hn0|cons y r=>simp
 have hhead:(Qa nodes).head? = some (i64 n0):=by
  cases hc:nodes with
  |nil=>rw[hc]at hpos; simp at hpos
  |cons y r=>rw[hc]at hn0; simp at hn0; subst hn0; rfl
 have hv:=hns n0 (List.mem_of_head? hn0);have hvn:n0=((n0.toNat:Nat):Int):=by omega
 refine Qce hm Tryz.func87 c87 (by simp) λhcl => ?_;simp -implicitDefEqProofs[i87,r87,Gm.wp,sl,hR.vd,hR.ug,hR.flat,hR.cell,hhead,hpos,hinfo,Qge hinfo,QaL hinfo,Qa0];refine⟨by omega,?_⟩;have h50:=λH=>QjW (H:=H) hW (node:=n0.toNat) (by omega) g.is[info].1;rw[<-hvn]at h50;refine Qa9 (λ_=>h50 _) ?_;simp -implicitDefEqProofs;refine Qp9 (g:=g) (R:=R) (rb:=rb) (rn:=rn) hW hR (info:=info) (pl:=g.is[info].1) (n0:=n0) (bs:=G.length) (bi:=G.length+1) (nodes:=nodes) (first:=g.way n0.toNat g.is[info].1) hn0 hns hnl (by have:=Qe1 (g:=g) (node:=n0.toNat) (pl:=g.is[info].1); omega)
  (c:=c) (λhQ env G' hR' h6 => ?_) (λhQ env G' hR' => ?_) nodes.length 0 _ _ s (by omega) (by have:=hR.app _ _ _ ⟨[g.wp,rp],136,0,true⟩ hRG; have:=hR.app _ _ _ ⟨[i64 info],3,0,true⟩ this; rw[VQ]at this; exact this) ⟨by simp[Gm.wp,sl],by simp⟩ rfl
  (by simp) (by simp) (by simp) (by simp) (by simp) (by simp) (by simp) (by simp)
 . simp -implicitDefEqProofs[h6];exact⟨_,_,⟨by rw[show Qap g rb rn info g.is[info].1 n0 (g.way n0.toNat g.is[info].1) nodes s=Qap g rb rn info g.is[info].1 n0 (g.way n0.toNat g.is[info].1) (nodes.drop 0) s from rfl,hQ],hR'⟩,Qo⟩
 . simp -implicitDefEqProofs;exact⟨_,_,⟨by rw[show Qap g rb rn info g.is[info].1 n0 (g.way n0.toNat g.is[info].1) nodes s=Qap g rb rn info g.is[info].1 n0 (g.way n0.toNat g.is[info].1) (nodes.drop 0) s from rfl,hQ],hR'⟩,Qo⟩
end
def rpP (n:Nat):SV:=.fn (.func 85) [] [.ptr (.own (n+2) 0 0 0 0) 0]
def RP (g:Gm) (H:Ws) (_:Nat) (G:Ws) (b:Bool):Prop:=∃ L,G=H++L/\L[2]? = some ⟨[bl b],4,0,true⟩/\L[3]? = some ⟨[g.wp,rpP H.length],136,0,true⟩
def nxP (_:Bool) (f:Fl):Bool:=decide (f.k≠2)
section
variable {H:Ws} {g:Gm}
theorem set_app {G:Ws} {j:Nat} (hj:H.length<=j) {L:Ws} (hG:G=H++L) (o:AO):G.set j o=H++L.set (j-H.length) o:=by
 subst hG;rw[Yr _ _ hj]
theorem ok85 {c c':Nat} {G:Ws} {b:Bool} (f:Fl) (hI:RP g H c G b) :
 OkP Tryz.prog 85 [.agg f.cells,.ptr (.own (H.length+2) 0 0 0 0) 0] G λout G'=>out=.ret (bl (nxP b f))/\RP g H c' G' (nxP b f)/\Qcn G G':=by
 obtain⟨L,rfl,h2,h3⟩:=hI;refine Qce hm Tryz.func85 c85 (by simp) λhcl => ?_;have hl2:=Qg h2;have e1:∀ X,Qf (L++X) 2 0=[bl b]:=λX=>Qak (o:=⟨[bl b],4,0,true⟩) (by rw[Ve hl2]; exact h2) rfl;have e2:∀ (c:Wt) X,Qf (L.set 2 (⟨c,4,0,true⟩:AO)++X) 2 0=c:=λc X=>Qak (o:=⟨c,4,0,true⟩) (by rw[Ve (by simpa using hl2),Vg hl2]) rfl;simp -implicitDefEqProofs[i85,r85,Fl.cells,QfB h2,e1,e2];refine⟨_,_,⟨?_,⟨_,rfl,?_,?_⟩,λj o ho ht => ?_⟩,Qo⟩
 . simp[nxP]
 . rw[Ve (by simpa using hl2),Vg hl2]; simp[nxP]
 . rw[Ve (by simpa using Qg h3),Vd (by omega)]; exact h3
 . by_cases hj:j<H.length
   . rw[Ve hj]at ho ⊢; exact ho
   . rw[Vh (by omega)]at ho ⊢;by_cases e:2=j-H.length
     . rw[<-e,h2]at ho; cases ho; simp at ht
     . rw[Ve (by simpa using Qg ho),Vd e]; exact ho
theorem repP:Rep (rpP H.length) H.length (RP g H) nxP nxP where
 vd:=rfl
 ug:=rfl
 cell:=rfl
 flat:=rfl
 call:=λc G s f hI=>QjX (by simpa using ok85 f hI)
 app:=λc G s o ⟨L,hG,h2,h3⟩=>⟨L++[o],by rw[hG,VQ],by rw[Ve (Qg h2)]; exact h2,by rw[Ve (Qg h3)]; exact h3⟩
 put:=λc G s j o o' ⟨L,hG,h2,h3⟩ ho hj ht=>by
  subst hG;rw[Vh hj]at ho;refine⟨L.set (j-H.length) o',by rw[Yr _ _ hj],?_,?_⟩
  . rw[Vd (λe=>by rw[e,h2]at ho; cases ho; cases ht)]; exact h2
  . rw[Vd (λe=>by rw[e,h3]at ho; cases ho; cases ht)]; exact h3
 len:=λc G s ⟨L,hG,_⟩=>by subst hG; simp
 dec:=λc G s h=>h
def QaX {τ:Type} (g:Gm) (rb:τ->Fl->Bool) (rn:τ->Fl->τ) (sel:Int->Bool) (stop:Bool):Nat->Nat->τ->τ
 |0,_,s=>s
 |f+1,i,s =>
   match g.sets[i]?,g.is[i]? with
   |some nodes,some inf =>
     if sel inf.1=true then
       (let r:=Qap g rb rn i inf.1 (nodes.headD 0) (g.way (nodes.headD 0).toNat inf.1) nodes s
        if stop=true/\r.1=false then r.2 else QaX g rb rn sel stop f (i+1) r.2)
     else QaX g rb rn sel stop f (i+1) s
   |_,_=>s
def Gm.perf (g:Gm) (pl:Int):Bool:=QaX g nxP nxP (λp=>decide (p=pl)) true g.is.length 0 true
theorem Wg.ne (h:Wg g):∀ k (hk:k<g.sets.length),g.sets[k]≠[]:=by
 intro k hk e;have hse:=h.se;rw[QoQ]at hse;unfold Gm.setsR at hse;split at hse
 . cases hse
 . split at hse
   . cases hse
   . rename_i h1;exact h1 (by rw[<-e]; exact Vf hk)
theorem QjV {s:Nat}:∀ {l:List Nd} {o:Nat} {a:Int},a∈occ s l o->a<o+l.length
 |[],o,a,h=>by simp[occ]at h
 |x::r,o,a,h=>by
  unfold occ at h;split at h
  . rcases Vi.1 h with rfl|h
    . simp; omega
    . have:=QjV h; simp; omega
  . have:=QjV h; simp; omega
theorem QpE {s:Nat}:∀ {l:List Nd} {o:Nat},(occ s l o).length<=l.length
 |[],o=>by simp[occ]
 |x::r,o=>by
  unfold occ;have:=QpE (s:=s) (l:=r) (o:=o+1);split<;>simp<;>omega
theorem QhX {k:Nat} (hk:k<g.sets.length):g.sets[k]=occ k g.ns 0:=by
 have:=Qi2 (g:=g) (s:=k) (by rw[<-QaT]; exact hk)
 rwa [Vp,Vb hk,VT]at this
theorem QhG {k:Nat} (hk:k<g.sets.length) {v:Int} (hv:v∈g.sets[k]):0<=v/\v<g.ns.length:=by
 rw[QhX hk]at hv;exact⟨QjF hv,by have:=QjV hv; simpa using this⟩
theorem Qg0 {k:Nat} (hk:k<g.sets.length):g.sets[k].length<=g.ns.length:=by rw[QhX hk]; exact QpE
set_option maxRecDepth 10000 in
theorem Qqo (hW:Wg g) {pl:Int} {N:Nat} {K:Wr} {Q:Bool}
 (hexit:∀ env L,L[2]? = some ⟨[bl Q],4,0,true⟩->env.get 9=.ptr (.own (H.length+2) 0 0 0 0) 0->K (.exit 0) env (H++L)) :
 ∀ (n i:Nat) (env:Env) (G:Ws) (s:Bool),i+n=g.is.length->RP g H 0 G s->QaX g nxP nxP (λp=>decide (p=pl)) true n i s=Q ->
  env.get 1=i64 pl->env.get 6=g.wp->env.get 9=.ptr (.own (H.length+2) 0 0 0 0) 0->env.get 10=.ptr (.own (H.length+3) 0 0 0 0) 0->env.get 34=g.setsV->env.get 35=i64 g.is.length->env.get 36=i64 i ->
  LI Tryz.prog N Qb Qhr env G K:=by
 have hgi:=hW.gd.i;have hgn:=hW.gd.n;have hsl:g.sets.length=g.is.length:=QaT;intro n
 induction n with
 |zero =>
  intro i env G s hi hR hQ h1 h6 h9 h10 h34 h35 h36;refine Qc hm Qhr.eq_1 ?_;have e:i=g.is.length:=by omega
  subst e;simp -implicitDefEqProofs[h35,h36];obtain⟨L,rfl,h2,h3⟩:=hR;simp only[QaX]at hQ;subst hQ;exact hexit _ L h2 (by simp[h9])
 |succ n ih =>
  intro i env G s hi hR hQ h1 h6 h9 h10 h34 h35 h36;refine Qc hm Qhr.eq_1 ?_;have hlt:i<g.is.length:=by omega
  have hls:i<g.sets.length:=by omega
  have w1:IntKind.i64.wrap ((i:Int)+1)=((i+1:Nat):Int):=QaF (by omega);have hne:=hW.ne i hls;unfold QaX at hQ;rw[Vb hlt,Vb hls]at hQ;simp only at hQ;by_cases hp:g.is[i].1=pl
  . rw[Wb (by simpa using hp)]at hQ;obtain⟨L,rfl,h2,h3⟩:=id hR;have ec:Qf (H++L) (H.length+3) 0=[g.wp,rpP H.length]:=by rw[QdY]; exact Qak h3 rfl
    simp -implicitDefEqProofs[h1,h6,h9,h10,h34,h35,h36,Gm.wp,sl,Gm.setsV,hlt,hls,Qc6 hls,Qdt hne,Qge hlt,Qa0,QaL hlt,hp,ec];obtain⟨n0,hn0⟩:∃ n0,g.sets[i].head? = some n0:=by
     cases h:g.sets[i]with
     |nil=>exact(hne h).elim
     |cons y r=>exact⟨y,rfl⟩
    have hd0:g.sets[i].headD 0=n0:=by rw[Zs,hn0]; rfl
    have h48:=ok87 (rp:=rpP H.length) (R:=RP g H) hW repP hlt hn0 (λv hv=>QhG hls hv) (by have:=Qg0 (g:=g) hls; omega) (c:=0) (show RP g H _ (H++L) s from hR);rw[hp]at h48;rw[hd0,hp]at hQ;refine QbL (OkP.strip (by show OkP _ _ [.agg [g.wp,rpP H.length],i64 i,.slc (Qa g.sets[i]) g.sets[i].length] _ _; exact h48)) ?_;rintro out G' ⟨rfl,hR'⟩;generalize Qap g nxP nxP i pl n0 (g.way n0.toNat pl) g.sets[i] s=q at hR' hQ;obtain⟨b,s'⟩:=q
    cases b with
    |false =>
     rw[Wb (by simp)]at hQ;subst hQ;simp -implicitDefEqProofs;obtain⟨L',rfl,h2',h3'⟩:=hR';exact hexit _ L' h2' (by simp[h9])
    |true =>
     rw[Wa (by simp)]at hQ;simp -implicitDefEqProofs[h36];rw[w1];refine ih (i+1) _ _ _ (by omega) hR' hQ ?_ ?_ ?_ ?_ ?_ ?_ ?_
     . simp[h1]
     . simp[h6,Gm.wp,sl]
     . simp[h9]
     . simp[h10]
     . simp[h34,Gm.setsV]
     . simp[h35]
     . simp
  . rw[Wa (by simpa using hp)]at hQ;simp -implicitDefEqProofs[h1,h6,h9,h10,h34,h35,h36,Gm.wp,sl,Gm.setsV,hlt,hls,Qc6 hls,Qdt hne,Qge hlt,Qa0,QaL hlt,hp];rw[w1];refine ih (i+1) _ _ _ (by omega) hR hQ ?_ ?_ ?_ ?_ ?_ ?_ ?_
    . simp[h1]
    . simp[h6,Gm.wp,sl]
    . simp[h9]
    . simp[h10]
    . simp[h34,Gm.setsV]
    . simp[h35]
    . simp
def Gm.perfE (g:Gm) (pl:Int):Int:=if g.formE≠0 then g.formE else if pl<0\/g.pl<=pl then 2 else 0
def Gm.perfV (g:Gm) (pl:Int):Bool:=if g.perfE pl=0 then g.perf pl else false
set_option maxRecDepth 10000 in
theorem ok52 (pl:Int):Ok Tryz.prog 52 [.agg g.cells,i64 pl] H (.ret (.tup [bl (g.perfV pl),i64 (g.perfE pl)])) H:=by
 refine Ql hm Tryz.func52 c52 (by simp) λhcl => ?_;simp -implicitDefEqProofs[i52,r52,Gm.cells];have hh:=λH=>ok83 (H:=H) (g:=g);simp only[Gm.cells]at hh;refine Qh (hh _) ?_;by_cases h:g.formE=0
 . rw[QrB h];have hW:=Qfp h;have hp1:=hW.gd.p1;have hp4:=hW.gd.p4;have w2:IntKind.i64.wrap (g.pl-1)=g.pl-1:=Qp (by omega) (by omega);simp -implicitDefEqProofs[w2];refine Qh (Qgj (IsI.own0 H _ 1 0 [pl] [] 3 rfl) (by simp) 0 (g.pl-1)) ?_;by_cases hp:pl<0\/g.pl-1<pl
   . have e:Qaj 0 (g.pl-1) [pl]=2:=by rw[Qd7,Wb hp]
     have hE:g.perfE pl=2:=by unfold Gm.perfE; rw[Wa (by simpa using h),Wb (by omega)]
     rw[e];simp -implicitDefEqProofs;refine Qi 2 hcl rfl ?_;simp[Gm.perfV,hE]
   . have e:Qaj 0 (g.pl-1) [pl]=0:=by rw[Qd7,Wa hp]
     have hE:g.perfE pl=0:=by unfold Gm.perfE; rw[Wa (by simpa using h),Wa (by omega)]
     rw[e];have hwp:g.wp.vd=true/\g.wp.ug=g.wp/\g.wp.flat=[g.wp]/\g.wp.isCell=true:=⟨rfl,rfl,rfl,rfl⟩;simp -implicitDefEqProofs[hwp.1,hwp.2.1,hwp.2.2.1,hwp.2.2.2];refine⟨by simp[Qal,Gm.wp],Qh (ok86 hW.gd) ?_⟩;simp -implicitDefEqProofs[Gm.setsV];refine Qqo (g:=g) hW (pl:=pl) (Q:=g.perf pl) (λenv L h2 h9 => ?_) g.is.length 0 _ _ true (by omega) ⟨_,rfl,rfl,rfl⟩ rfl (by simp) (by simp) (by simp) (by simp) (by simp[Gm.setsV]) (by simp) (by simp);have ec:Qf (H++L) (H.length+2) 0=[bl (g.perf pl)]:=by rw[QdY]; exact Qak h2 rfl
     simp -implicitDefEqProofs[h9,ec];refine Qi 2 hcl rfl ?_;simp[Gm.perfV,hE]
 . obtain⟨p,e,_⟩:=QrL h;rw[e];have hE:g.perfE pl=g.formE:=by unfold Gm.perfE; rw[Wb h]
   simp -implicitDefEqProofs[h];refine Qi 2 hcl rfl ?_;simp[Gm.perfV,hE,h]
end
def fls:List Fl->Wt
 |[]=>[]
 |x::r=>i64 x.k::i64 x.n::i64 x.i::i64 x.o::fls r
theorem Qlp:∀ (l:List Fl) (x:Fl),fls (l++[x])=fls l++[i64 x.k,i64 x.n,i64 x.i,i64 x.o]
 |[],x=>rfl
 |y::r,x=>by simp[fls,Qlp r x]
theorem QeX:∀ l:List Fl,(fls l).length=4*l.length
 |[]=>rfl
 |x::r=>by simp[fls,QeX r]; omega
theorem Qns (n:Nat):∀ l:List Fl,SV.underL n (fls l)=true
 |[]=>rfl
 |x::r=>by simp[fls,Qns n r]
@[simp] theorem fz_fls (n:Nat) (ks:List Nat) (L:Ws) (d:Nat) (l:List Fl):(fls l).map (SV.fz n ks L (d+1))=fls l:=Qgp (Qns n l)
def fv (l:List Fl):SV:=if l=[]then nl else .slc (fls l) l.length
def nxF (l:List Fl) (f:Fl):List Fl:=l++[f]
section
variable {H:Ws} {g:Gm}
def Gm.flaws (g:Gm):List Fl:=QaX g (λ_ _=>true) nxF (λ_=>true) false g.is.length 0 []
end
def ws (l:List (Int×Int)):SV:=.slc (Qu l) l.length
theorem QsS {l:List Int} {v:Int} (hinc:l.Pairwise (· < ·)) (hv:v∈l):∃ k,∃ h:k<l.length,l[k]=v/\Qch v l=k/\∀ t (h:t<l.length),l[t]=v->t=k:=by
 obtain⟨k,hk,e⟩:=VH hv;have huniq:∀ t (h:t<l.length),l[t]=v->t=k:=λt ht h=>by
  rw[Yy]at hinc;rcases Ye t k with h1|h1|h1
  . have:=hinc t k ht hk h1; omega
  . exact h1
  . have:=hinc k t hk ht h1; omega
 refine⟨k,hk,e,?_,huniq⟩;have:l.findIdx? (· == v)=some k:=by
  rw[Zi];refine⟨hk,by simpa using e,λj hj => ?_⟩;intro h;have:=huniq j (by omega) (by simpa using h);omega
 unfold Qch; rw[this]
section
variable {H:Ws} {g:Gm}
def Qi5 (x:Nd):AO:=⟨[i64 x.k,i64 x.p,i64 x.i,.slc (Qa x.nx) x.nx.length,.slc (Qa x.ws) x.ws.length,.slc (Qa x.ps) x.ps.length],57,0,true⟩
set_option maxRecDepth 10000 in
theorem QtA {x:Nd} {pl:Int} {node idx:Nat} (hx60:x.nx.length<=60) (hidx:idx<x.nx.length) (hat:x.nx[idx]=node) (huniq:∀ t (h:t<x.nx.length),x.nx[t]=node->t=idx) {l:List (Int×Int)} (hl:l.length<=2000) {A:AO} {q:Nat}
 {N:Nat} {K:Wr} {v7:SV}
 (hexit:∀ env M (l':List (Int×Int)),(l'=if x.k=2/\x.p=pl then l++[(x.i,(idx:Int))]else l)->env.get 2=i64 pl->env.get 3=.ptr (.own H.length 0 0 0 0) 0->env.get 7=v7->env.get 8=.own (H.length+1) 0 l'.length 2 l'.length->env.get 9=i64 node ->
  K (.exit 2) env (H++A::Qau l' l'.length::M)) :
 ∀ (n k:Nat) (env:Env) (acc:List (Int×Int)) (M:Ws),k+n=x.nx.length->(x.k=2/\x.p=pl\/k=0)->acc=(if idx<k then l++[(x.i,(idx:Int))]else l)->M[q]? = some (Qi5 x) ->
  env.get 2=i64 pl->env.get 3=.ptr (.own H.length 0 0 0 0) 0->env.get 7=v7->env.get 8=.own (H.length+1) 0 acc.length 2 acc.length->env.get 9=i64 node->env.get 10=.ptr (.own (H.length+(q+1+1)) 0 0 0 0) 0->env.get 11=i64 k ->
  LI Tryz.prog N Qb QiW env (H++A::Qau acc acc.length::M) K:=by
 intro n
 induction n with
 |zero =>
  intro k env acc M hk hc hacc hq h2 h3 h7 h8 h9 h10 h11;refine Qc hm QiW.eq_1 ?_;have e:k=x.nx.length:=by omega
  subst e;have hq':Qf M q 0=[i64 x.k,i64 x.p,i64 x.i,.slc (Qa x.nx) x.nx.length,.slc (Qa x.ws) x.ws.length,.slc (Qa x.ps) x.ps.length]:=Qak (o:=Qi5 x) hq rfl;have hc':x.k=2/\x.p=pl:=by rcases hc with h|h; exact h; omega
  simp -implicitDefEqProofs[h2,h3,h7,h8,h9,h10,h11,hq',hc'.1,hc'.2];exact hexit _ M acc (by rw[Wb hc',hacc,Wb hidx]) (by simp) (by simp) (by simp) (by simp) (by simp)
 |succ n ih =>
  intro k env acc M hk hc hacc hq h2 h3 h7 h8 h9 h10 h11;refine Qc hm QiW.eq_1 ?_;have hlt:k<x.nx.length:=by omega
  have w1:IntKind.i64.wrap ((k:Int)+1)=((k+1:Nat):Int):=QaF (by omega);have hq':Qf M q 0=[i64 x.k,i64 x.p,i64 x.i,.slc (Qa x.nx) x.nx.length,.slc (Qa x.ws) x.ws.length,.slc (Qa x.ps) x.ps.length]:=Qak (o:=Qi5 x) hq rfl;have hql:=Qg hq;have hacl:acc.length<=2001:=by rw[hacc]; split<;>(try simp only[VG,List.length_singleton])<;>omega
  by_cases hm1:x.k=2/\x.p=pl
  . by_cases he:x.nx[k]=node
    . have hki:=huniq k hlt he;subst hki;rw[Wa (by omega)]at hacc;subst hacc;simp -implicitDefEqProofs[h2,h3,h7,h8,h9,h10,h11,hq',hlt,hm1.1,hm1.2,he,Qau,Qa0,VB];rw[w1];refine⟨by omega,by omega,by omega,?_⟩;have e1:(⟨Qu acc++[i64 x.i,i64 k],155,acc.length+1,true⟩:AO)=Qau (acc++[(x.i,(k:Int))]) (acc++[(x.i,(k:Int))]).length:=by simp[Qau,QiI]
      rw[e1];refine ih (k+1) _ (acc++[(x.i,(k:Int))]) _ (by omega) (.inl hm1) (by rw[Wb (by omega)]) (by rw[Ve hql]; exact hq) ?_ ?_ ?_ ?_ ?_ ?_ ?_
      . simp
      . simp
      . simp
      . simp
      . simp
      . simp
      . simp
    . have hki:k≠idx:=λe=>by subst e; exact he hat
      simp -implicitDefEqProofs[h2,h3,h7,h8,h9,h10,h11,hq',hlt,hm1.1,hm1.2,he];rw[w1];refine⟨by omega,?_⟩;have hac2:(if idx<k then l++[(x.i,(idx:Int))]else l)=(if idx<k+1 then l++[(x.i,(idx:Int))]else l):=by
       by_cases h:idx<k
       . rw[Wb h,Wb (by omega)]
       . rw[Wa h,Wa (by omega)]
      refine ih (k+1) _ acc _ (by omega) (.inl hm1) (hacc.trans hac2) hq ?_ ?_ ?_ ?_ ?_ ?_ ?_
      . simp
      . simp
      . simp
      . simp
      . simp
      . simp
      . simp
  . have hk0:k=0:=by rcases hc with h|h; exact(hm1 h).elim; exact h
    subst hk0;by_cases hk2:x.k=2
    . have hpl:¬ x.p=pl:=λh=>hm1 ⟨hk2,h⟩;simp -implicitDefEqProofs[h2,h3,h7,h8,h9,h10,h11,hq',hlt,hk2,hpl];exact hexit _ M acc (by rw[Wa hm1,hacc,Wa (by omega)]) (by simp) (by simp) (by simp) (by simp) (by simp)
    . simp -implicitDefEqProofs[h2,h3,h7,h8,h9,h10,h11,hq',hlt,hk2];exact hexit _ M acc (by rw[Wa hm1,hacc,Wa (by omega)]) (by simp) (by simp) (by simp) (by simp) (by simp)
theorem Qfd {pl:Int} (hW:Wg g) {f node p:Nat} (hp:p<g.ns.length) (hP:gi g.wk.2.P node=p) {l:List (Int×Int)} :
 abv g pl (λ_ _ _=>true) (λl k a=>l++[(Qbq g k,a)]) (f+1) node l=abv g pl (λ_ _ _=>true) (λl k a=>l++[(Qbq g k,a)]) f p (if g.ns[p].k=2/\g.ns[p].p=pl then l++[(g.ns[p].i,Qch node g.ns[p].nx)]else l):=by
 have hinf:Qbq g p=g.ns[p].i:=by unfold Qbq; rw[Vb hp]
 conv=>lhs; unfold abv
 rw[Wa (by omega),hP,show((p:Nat):Int).toNat=p by omega,Vb hp];simp only;by_cases h:g.ns[p].k=2/\g.ns[p].p=pl
 . rw[Wb h,Wb h,Wb trivial,hinf]
 . rw[Wa h,Wa h]
set_option maxRecDepth 10000 in
theorem QvH (hW:Wg g) {pl:Int} {N:Nat} {K:Wr} {Q:List (Int×Int)} (hQl:Q.length<=2000)
 (hexit:∀ env M,env.get 8=.own (H.length+1) 0 Q.length 2 Q.length->K (.exit 0) env (H++Qd g::Qau Q Q.length::M)) :
 ∀ (f node:Nat) (env:Env) (l:List (Int×Int)) (M:Ws),node<f->node<g.ns.length->abv g pl (λ_ _ _=>true) (λl k a=>l++[(Qbq g k,a)]) f node l=Q->l.length+node<=2000 ->
  env.get 2=i64 pl->env.get 3=.ptr (.own H.length 0 0 0 0) 0->env.get 7=.slc (Qa g.wk.2.P) g.wk.2.P.length->env.get 8=.own (H.length+1) 0 l.length 2 l.length->env.get 9=i64 node ->
  LI Tryz.prog N Qb QlC env (H++Qd g::Qau l l.length::M) K:=by
 have hf:=hW.wf;have hgn:=hW.gd.n;have hlen:g.wk.2.P.length=g.ns.length:=Qe0.1;intro f
 induction f with
 |zero=>intro node env l M h; omega
 |succ f ih =>
  intro node env l M hnf hn hQ hll h2 h3 h7 h8 h9;refine Qc hm QlC.eq_1 ?_;have hget:g.wk.2.P[node]'(by omega)=gi g.wk.2.P node:=QdA (by omega);rcases Yh node with hz|hz
  . subst hz;have hp0:=hf.p0;have hneg:gi g.wk.2.P 0<0:=by omega
    have hhd:(Qa g.wk.2.P).head? = some (i64 (-1)):=by
     rw[List.head?_eq_getElem?];have:(0:Nat)<g.wk.2.P.length:=by omega
     simp[Qa,this,hget,hp0]
    unfold abv at hQ;rw[Wb hneg]at hQ;subst hQ;simp -implicitDefEqProofs[h2,h3,h7,h8,h9,hlen,hn,hhd];exact⟨by omega,hexit _ M (by simp)⟩
  . obtain⟨p,hp,k1,k2,k3⟩:=hf.pf node hz hn;rw[Qfd hW hp k1]at hQ;obtain⟨idx,hidx,e1,e2,e3⟩:=QsS (hf.nf p hp).inc k3;rw[e2]at hQ;simp -implicitDefEqProofs[h2,h3,h7,h8,h9,hlen,hn,hget,k1,Qd,hp,QaC hp,QaR hp,QaN hp,sl];refine⟨by omega,?_⟩;refine QtA (x:=g.ns[p]) (pl:=pl) (node:=node) (idx:=idx) (Qc7 (hW.gd.e _ (Vf hp))) hidx e1 e3 (l:=l) (by omega) (A:=Qd g) (q:=M.length) (v7:=.slc (Qa g.wk.2.P) g.ns.length) (λenv M' l' hl' g2 g3 g7 g8 g9 => ?_)
     g.ns[p].nx.length 0 _ l _ (by omega) (.inr rfl) (by rw[Wa (by omega)]) (by simp[Qi5]) (by simp) (by simp) (by simp) (by simp) (by simp) (by simp) (by simp)
    rw[<-hl']at hQ;simp -implicitDefEqProofs[g2,g3,g7,g8,g9,hn,hget,k1,hlen];refine⟨by omega,?_⟩;refine ih p _ l' M' (by omega) hp hQ (by rw[hl']; split<;>(try simp only[VG,List.length_singleton])<;>omega) ?_ ?_ ?_ ?_ ?_
    . simp[g2]
    . simp[g3]
    . simp[g7,hlen]
    . simp[g8]
    . simp
set_option maxRecDepth 10000 in
theorem Qs0 {l:List (Int×Int)} (hl:l.length<=2000) {A:AO} {N:Nat} {K:Wr}
 (hexit:∀ env M q,M[q]? = some (Qau l.reverse l.length)->env.get 12=.own (H.length+(q+1+1)) 0 l.length 2 l.length->K (.exit 4) env (H++A::Qau l l.length::M)) :
 ∀ (n:Nat) (env:Env) (M:Ws) (q:Nat),n<=l.length->M[q]? = some (Qau (l.drop n).reverse (l.length-n)) ->
  env.get 8=.own (H.length+1) 0 l.length 2 l.length->env.get 12=.own (H.length+(q+1+1)) 0 (l.length-n) 2 (l.length-n)->env.get 13=i64 ((n:Int)-1) ->
  LI Tryz.prog N Qb QiQ env (H++A::Qau l l.length::M) K:=by
 intro n
 induction n with
 |zero =>
  intro env M q hn hq h8 h12 h13;refine Qc hm QiQ.eq_1 ?_;simp -implicitDefEqProofs[h8,h12,h13];exact hexit _ M q (by simpa using hq) (by simp)
 |succ n ih =>
  intro env M q hn hq h8 h12 h13;refine Qc hm QiQ.eq_1 ?_;have hlt:n<l.length:=by omega
  have e:((n+1:Nat):Int)-1=n:=by omega
  rw[e]at h13;have w1:IntKind.i64.wrap ((n:Int)-1)=(n:Int)-1:=Qp (by omega) (by omega);have hql:=Qg hq;have hd:(l.drop (n+1)).length=l.length-(n+1):=by simp
  simp -implicitDefEqProofs[h8,h12,h13,Qau,hlt,QaL hlt,Qa0,QfB hq,QhH hq,QgV,Qhh,Qnt];refine⟨by omega,by omega,by omega,?_⟩;rw[w1];have en:l.length-(n+1)+1=l.length-n:=by omega
  rw[en];refine ih _ (M.set q _++[_]) q (by omega) ?_ ?_ ?_ ?_
  . rw[Ve (by simpa using hql),Vg hql];rw[Vy hlt,List.reverse_cons];simp[Qau,QiI]
  . simp
  . simp
  . simp
set_option maxRecDepth 10000 in
theorem QlB (hW:Wg g) {node:Nat} (hn:node<g.ns.length) (pl:Int):Ok Tryz.prog 97 [.agg g.cells,i64 node,i64 pl] H (.ret (ws (g.way node pl))) H:=by
 have hgn:=hW.gd.n;refine Ql hm Tryz.func97 c97 (by simp) λhcl => ?_;simp -implicitDefEqProofs[i97,r97,Gm.cells];have hh:=λH=>Qpy (H:=H) hW;simp only[Gm.cells,sl]at hh;refine Qh (hh _) ?_;simp -implicitDefEqProofs;have hul:(g.up node pl).length<=2000:=by
  have:=Qe1 (g:=g) (node:=node) (pl:=pl);unfold Gm.way at this;rw[ZU]at this; omega
 refine QvH (g:=g) (H:=H) hW (pl:=pl) (Q:=g.up node pl) hul (λenv M h8 => ?_) g.ns.length node _ [] [] hn hn rfl (by simp; omega) (by simp) (by simp) (by simp) (by simp) (by simp);have w1:IntKind.i64.wrap (((g.up node pl).length:Int)-1)=((g.up node pl).length:Int)-1:=Qp (by omega) (by omega);simp -implicitDefEqProofs[h8,w1];refine Qs0 (l:=g.up node pl) hul (λenv M' q hq h12 => ?_) (g.up node pl).length _ (M++[Qau [] 0]) M.length (Vc _) (by simp) (by simp[h8]) (by simp) (by simp);simp -implicitDefEqProofs[h12];refine Qi 3 hcl rfl ?_;have hql:=Qg hq;simp[hq,Qau,Qa0,VB,Gm.way,ws];exact VA (by rw[Qa0,ZU]; omega)
end
section
variable {H:Ws} {g:Gm} {a b:List (Int×Int)}
set_option maxRecDepth 10000 in
theorem Qvv (hl:a.length<=100000) (hab:a.length=b.length) {N:Nat} {K:Wr}
 (hret:a≠b->∀ env,env.get 4=bl false->K .ret env H) (hexit:a=b->∀ env,K (.exit 0) env H) :
 ∀ (n i:Nat) (env:Env),i+n=a.length->(∀ k (h:k<a.length),k<i->a[k]=b[k]'(by omega))->env.get 0=ws a->env.get 1=ws b->env.get 5=i64 i ->
  LI Tryz.prog N Qb Qi8 env H K:=by
 intro n
 induction n with
 |zero =>
  intro i env hi hp h0 h1 h5;refine Qc hm Qi8.eq_1 ?_;have e:i=a.length:=by omega
  subst e;simp -implicitDefEqProofs[h0,h1,h5,ws];exact hexit (Y4 hab λk h1 h2=>hp k h1 h1) _
 |succ n ih =>
  intro i env hi hp h0 h1 h5;refine Qc hm Qi8.eq_1 ?_;have hlt:i<a.length:=by omega
  have hlt':i<b.length:=by omega
  have w1:IntKind.i64.wrap ((i:Int)+1)=((i+1:Nat):Int):=QaF (by omega);simp -implicitDefEqProofs[h0,h1,h5,ws,hlt,hlt',QaL hlt,QaL hlt',QdG hlt,QdV hlt,QdG hlt',QdV hlt'];by_cases hc:a[i]=b[i]
  . rw[Wa (by rw[hc]; simp)];rw[w1];refine ih (i+1) _ (by omega) ?_ ?_ ?_ ?_
    rotate_left
    . simp[ws]
    . simp[ws]
    . simp
    intro k hk hki;by_cases e:k=i
    . subst e; exact hc
    . exact hp k hk (by omega)
  . rw[Wb (by
     by_cases h1:a[i].1=b[i].1
     . exact .inr λh2=>hc (Prod.ext h1 h2)
     . exact .inl h1)]
    exact hret (λe=>hc (by subst e; rfl)) _ (by simp)
theorem Qrc (hl:a.length<=100000):Ok Tryz.prog 150 [ws a,ws b] H (.ret (bl (decide (a=b)))) H:=by
 refine Ql hm Tryz.func150 c150 (by simp) λhcl => ?_;by_cases hab:a.length=b.length
 . simp -implicitDefEqProofs[QlI,QkT,ws,hab];refine Qvv (a:=a) (b:=b) hl hab (λhne env h4 => ?_) (λhe env => ?_) a.length 0 _ (by omega) (by omega) (by simp[ws,hab]) (by simp[ws]) (by simp)
   . simp -implicitDefEqProofs[h4,hne];exact Qo
   . simp -implicitDefEqProofs[he];exact Qo
 . simp -implicitDefEqProofs[QlI,QkT,ws,show ¬ ((a.length:Int)=b.length)by omega,hab];have:a≠b:=λe=>hab (by rw[e]);simp[this];exact Qo
theorem Wg.ty (h:Wg g) {x:Nd} (hx:x∈g.ns) (hk:x.k=2):g.is[x.i.toNat]? = some (x.p,(x.nx.length:Int)):=by
 have hse:=h.se;unfold Gm.setsE at hse;by_cases hb:∃ x∈g.ns,x.tyBad g
 . rw[Wb hb]at hse; cases hse
 . by_cases h1:g.is[x.i.toNat]? = some (x.p,(x.nx.length:Int))
   . exact h1
   . exact(hb ⟨x,hx,hk,h1⟩).elim
def dq (g:Gm) (pl info:Int) (f node:Nat):Int:=abv g pl (λd k _=>decide (dpn g info d k<0)) (λd k _=>dpn g info d k) f node (-1)
theorem Qnh (hW:Wg g) {info:Nat} (hinfo:info<g.is.length) {f node p:Nat} (hp:p<g.ns.length) (hP:gi g.wk.2.P node=p) :
 dq g g.is[info].1 info (f+1) node=if g.ns[p].k=2/\g.ns[p].i=info then(p:Int)else dq g g.is[info].1 info f p:=by
 have hinf:Qbq g p=g.ns[p].i:=by unfold Qbq; rw[Vb hp]
 have hmem:g.ns[p]∈g.ns:=Vf hp;unfold dq;conv=>lhs; unfold abv
 rw[Wa (by omega),hP,show((p:Nat):Int).toNat=p by omega,Vb hp];simp only;by_cases h1:g.ns[p].k=2/\g.ns[p].i=info
 . have hty:=hW.ty hmem h1.1;rw[h1.2,show((info:Nat):Int).toNat=info by omega,Vb hinfo]at hty;simp only[Option.some.injEq]at hty;have e:dpn g info (-1) p=p:=by unfold dpn; rw[Wb (by rw[hinf]; exact h1.2)]
   rw[Wb h1,Wb ⟨h1.1,by rw[hty]⟩,e,Wa (by simp)]
 . rw[Wa h1];by_cases h2:g.ns[p].k=2/\g.ns[p].p=g.is[info].1
   . have e:dpn g info (-1) p = -1:=by unfold dpn; rw[Wa (by rw[hinf]; exact λh=>h1 ⟨h2.1,h⟩)]
     rw[Wb h2,e,Wb (by simp)]
   . rw[Wa h2]
theorem Qnp {pl info:Int} {f node:Nat} (h:gi g.wk.2.P node<0):dq g pl info (f+1) node = -1:=by
 unfold dq abv; rw[Wb h]
def fr (l:List Fl):AO:=⟨fls l,133,l.length,true⟩
set_option maxRecDepth 10000 in
theorem QtZ (hW:Wg g) {info:Nat} (hinfo:info<g.is.length) {v:Int} {l:List Fl} (hl:l.length<=1000000) {N:Nat} {K:Wr} {Q:Int} {e5 e7 e8:SV}
 (hexit:∀ env M (l':List Fl),l'=(if 0<=Q then l++[⟨1,v,info,Q⟩]else l)->env.get 1=.ptr (.own H.length 0 0 0 0) 0->env.get 3=.own (H.length+1) 0 l'.length 4 l'.length->env.get 4=.slc (Qa g.wk.2.P) g.wk.2.P.length->env.get 5=e5->env.get 6=i64 info->env.get 7=e7->env.get 8=e8->env.get 9=i64 v ->
  K (.exit 4) env (H++Qd g::fr l'::M)) :
 ∀ (f node:Nat) (env:Env) (M:Ws),node<f->node<g.ns.length->dq g g.is[info].1 info f node=Q ->
  env.get 1=.ptr (.own H.length 0 0 0 0) 0->env.get 3=.own (H.length+1) 0 l.length 4 l.length->env.get 4=.slc (Qa g.wk.2.P) g.wk.2.P.length->env.get 5=e5->env.get 6=i64 info->env.get 7=e7->env.get 8=e8->env.get 9=i64 v->env.get 10=i64 (gi g.wk.2.P node) ->
  LI Tryz.prog N Qb QlK env (H++Qd g::fr l::M) K:=by
 have hf:=hW.wf;have hgn:=hW.gd.n;have hlen:g.wk.2.P.length=g.ns.length:=Qe0.1;intro f
 induction f with
 |zero=>intro node env M h; omega
 |succ f ih =>
  intro node env M hnf hn hQ h1 h3 h4 h5 h6 h7 h8 h9 h10;refine Qc hm QlK.eq_1 ?_;by_cases hneg:gi g.wk.2.P node<0
  . rw[Qnp hneg]at hQ;subst hQ;simp -implicitDefEqProofs[h1,h3,h4,h5,h6,h7,h8,h9,h10,show ¬ 0<=gi g.wk.2.P node by omega];exact hexit _ M l (by rw[Wa (by omega)]) (by simp[h1]) (by simp[h3]) (by simp[h4]) (by simp[h5]) (by simp[h6]) (by simp[h7]) (by simp[h8]) (by simp[h9])
  . have hz:0<node:=by
     rcases Yh node with h|h
     . subst h; rw[hf.p0]at hneg; omega
     . exact h
    obtain⟨p,hp,k1,k2,k3⟩:=hf.pf node hz hn;rw[Qnh hW hinfo hp k1]at hQ;rw[k1]at h10;have hget:g.wk.2.P[p]'(by omega)=gi g.wk.2.P p:=QdA (by omega);have g0:(nds g.ns)[p*6]? = some (i64 g.ns[p].k):=by have:=Qds (l:=g.ns) (t:=0) hp (by omega); simpa[Nd.cells]using this
    by_cases hc:g.ns[p].k=2/\g.ns[p].i=info
    . rw[Wb hc]at hQ;subst hQ;simp -implicitDefEqProofs[h1,h3,h4,h5,h6,h7,h8,h9,h10,Qd,hp,QaC hp,Qed hp,g0,Qam,hc.1,hc.2,fr,QeX];refine⟨by omega,by omega,by omega,by omega,?_⟩;have e1:(⟨fls l++[i64 1,i64 v,i64 info,i64 p],133,l.length+1,true⟩:AO)=fr (l++[⟨1,v,info,p⟩]):=by simp[fr,Qlp]
      rw[e1];refine hexit _ _ (l++[⟨1,v,info,p⟩]) ?_ ?_ ?_ ?_ ?_ ?_ ?_ ?_ ?_
      . rw[Wb (by omega)]
      . simp
      . simp
      . simp
      . simp
      . simp
      . simp
      . simp
      . simp
    . rw[Wa hc]at hQ;by_cases hk2:g.ns[p].k=2
      . have hi2:¬ g.ns[p].i=info:=λh=>hc ⟨hk2,h⟩;simp -implicitDefEqProofs[h1,h3,h4,h5,h6,h7,h8,h9,h10,Qd,hp,QaC hp,Qed hp,g0,Qam,hk2,hi2,hlen];refine⟨by omega,by omega,?_⟩;rw[hget];refine ih p _ M (by omega) hp hQ ?_ ?_ ?_ ?_ ?_ ?_ ?_ ?_ ?_
        . simp
        . simp
        . simp[hlen]
        . simp
        . simp
        . simp
        . simp
        . simp
        . simp
      . simp -implicitDefEqProofs[h1,h3,h4,h5,h6,h7,h8,h9,h10,Qd,hp,QaC hp,Qed hp,g0,Qam,hk2,hlen];refine⟨by omega,?_⟩;rw[hget];refine ih p _ M (by omega) hp hQ ?_ ?_ ?_ ?_ ?_ ?_ ?_ ?_ ?_
        . simp
        . simp
        . simp[hlen]
        . simp
        . simp
        . simp
        . simp
        . simp
        . simp
def QcC (g:Gm) (pl info n0:Int) (first:List (Int×Int)) (v:Int) (l:List Fl):List Fl :=
 if g.way v.toNat pl=first then(if 0<=g.deep v.toNat pl info then l++[⟨1,v,info,g.deep v.toNat pl info⟩]else l)
 else(if 0<=g.deep v.toNat pl info then l++[⟨1,v,info,g.deep v.toNat pl info⟩]else l)++[⟨2,v,info,n0⟩]
theorem Qjm {pl info n0:Int} {first:List (Int×Int)} {v:Int} {r:List Int} {l:List Fl} :
 Qap g (λ_ _=>true) nxF info pl n0 first (v::r) l=Qap g (λ_ _=>true) nxF info pl n0 first r (QcC g pl info n0 first v l):=by
 conv=>lhs; unfold Qap
 simp only;rw[Wa (by simp)];unfold QcC;by_cases hw:g.way v.toNat pl=first
 . rw[Wb hw,Wb hw]; rfl
 . rw[Wa hw,Wa hw,Wb trivial]; rfl
theorem QtK {pl info n0:Int} {first:List (Int×Int)} {v:Int} {l:List Fl}:(QcC g pl info n0 first v l).length<=l.length+2:=by
 unfold QcC;split<;>split<;>simp
set_option maxRecDepth 10000 in
theorem Qve (hW:Wg g) {i:Nat} (hi:i<g.is.length) {n0:Int} (hn0:(g.sets[i]'(by rw[QaT]; exact hi)).head? = some n0) {N:Nat} {K:Wr} {Q:List Fl}
 (hexit:∀ env M,Q.length<=4000*(i+1)->env.get 1=.ptr (.own H.length 0 0 0 0) 0->env.get 3=.own (H.length+1) 0 Q.length 4 Q.length->env.get 4=.slc (Qa g.wk.2.P) g.wk.2.P.length->env.get 5=g.setsV->env.get 6=i64 i->K (.exit 2) env (H++Qd g::fr Q::M)) :
 ∀ (n k:Nat) (env:Env) (l:List Fl) (M:Ws),k+n=(g.sets[i]'(by rw[QaT]; exact hi)).length->l.length<=4000*i+2*k->(Qap g (λ_ _=>true) nxF i g.is[i].1 n0 (g.way n0.toNat g.is[i].1) ((g.sets[i]'(by rw[QaT]; exact hi)).drop k) l).2=Q ->
  env.get 1=.ptr (.own H.length 0 0 0 0) 0->env.get 3=.own (H.length+1) 0 l.length 4 l.length->env.get 4=.slc (Qa g.wk.2.P) g.wk.2.P.length->env.get 5=g.setsV->env.get 6=i64 i->env.get 7=i64 g.is[i].1->env.get 8=i64 k ->
  LI Tryz.prog N Qb Qjv env (H++Qd g::fr l::M) K:=by
 have hf:=hW.wf;have hgn:=hW.gd.n;have hgi:=hW.gd.i;have hlen:g.wk.2.P.length=g.ns.length:=Qe0.1;have hls:i<g.sets.length:=by rw[QaT]; exact hi
 have hne:=hW.ne i hls;have hlk:=Qg0 (g:=g) hls;have hpos:0<g.sets[i].length:=Z8.2 hne;have hhead:(Qa g.sets[i]).head? = some (i64 n0):=by
  cases hc:g.sets[i]with
  |nil=>exact(hne hc).elim
  |cons y r=>rw[hc]at hn0; simp at hn0; subst hn0; rfl
 have hv0:=QhG hls (List.mem_of_head? hn0);intro n
 induction n with
 |zero =>
  intro k env l M hk hl hQ h1 h3 h4 h5 h6 h7 h8;refine Qc hm Qjv.eq_1 ?_;have e:k=g.sets[i].length:=by omega
  subst e;rw[Yl]at hQ;simp only[Qap]at hQ;subst hQ;simp -implicitDefEqProofs[h1,h3,h4,h5,h6,h7,h8,Gm.setsV,hi,hls,Qc6 hls,Qdt hne];exact hexit _ M (by omega) (by simp) (by simp) (by simp) (by simp[Gm.setsV]) (by simp)
 |succ n ih =>
  intro k env l M hk hl hQ h1 h3 h4 h5 h6 h7 h8;refine Qc hm Qjv.eq_1 ?_;have hlt:k<g.sets[i].length:=by omega
  have w1:IntKind.i64.wrap ((k:Int)+1)=((k+1:Nat):Int):=QaF (by omega);have hv:=QhG hls (Vf hlt);have hvn:g.sets[i][k]=((g.sets[i][k].toNat:Nat):Int):=by omega
  have hvl:g.sets[i][k].toNat<g.ns.length:=by omega
  rw[Vy hlt,Qjm]at hQ;have hget:g.wk.2.P[g.sets[i][k].toNat]'(by omega)=gi g.wk.2.P g.sets[i][k].toNat:=QdA (by omega);simp -implicitDefEqProofs[h1,h3,h4,h5,h6,h7,h8,Gm.setsV,hi,hls,Qc6 hls,Qdt hne,hlt,hlen,hvl,hget,hv.1,hv.2];refine⟨by omega,by omega,?_⟩;have hdeep:dq g g.is[i].1 i g.ns.length g.sets[i][k].toNat=g.deep g.sets[i][k].toNat g.is[i].1 i:=rfl;refine QtZ (g:=g) hW hi (v:=g.sets[i][k]) (l:=l) (by omega) (Q:=g.deep g.sets[i][k].toNat g.is[i].1 i) (e5:=g.setsV) (e7:=i64 g.is[i].1) (e8:=i64 k) (λenv M' l' hl' q1 q3 q4 q5 q6 q7 q8 q9 => ?_)
   g.ns.length g.sets[i][k].toNat _ M hvl hvl hdeep (by simp) (by simp) (by simp[hlen]) (by simp[Gm.setsV]) (by simp) (by simp) (by simp) (by simp) (by simp)
  have hl'l:l'.length<=l.length+1:=by rw[hl']; split<;>simp
  have h56:=λH=>QlB (H:=H) hW (node:=g.sets[i][k].toNat) hvl g.is[i].1;rw[<-hvn]at h56;simp only[Gm.cells]at h56;have h56':=λH=>QlB (H:=H) hW (node:=n0.toNat) (by omega) g.is[i].1;rw[show((n0.toNat:Nat):Int)=n0 by omega]at h56';simp only[Gm.cells]at h56';simp -implicitDefEqProofs[q1,q3,q4,q5,q6,q7,q8,q9,Qd,Gm.setsV];refine Qa9 (λ_=>h56 _) ?_;simp -implicitDefEqProofs[q1,q3,q4,q5,q6,q7,q8,q9,Qd,Gm.setsV,hi,hls,Qc6 hls,Qdt hne,hhead,hpos];refine⟨by omega,by omega,?_⟩;refine Qa9 (λ_=>h56' _) ?_;refine Qa9 (λ_=>Qrc (by have:=Qe1 (g:=g) (node:=g.sets[i][k].toNat) (pl:=g.is[i].1); omega)) ?_;by_cases hw:g.way g.sets[i][k].toNat g.is[i].1=g.way n0.toNat g.is[i].1
  . have hst:QcC g g.is[i].1 i n0 (g.way n0.toNat g.is[i].1) g.sets[i][k] l=l':=by
     unfold QcC; rw[Wb hw,hl']
    rw[hst]at hQ;simp -implicitDefEqProofs[hw];rw[w1];refine ih (k+1) _ l' M' (by omega) (by omega) hQ ?_ ?_ ?_ ?_ ?_ ?_ ?_
    . simp[q1]
    . simp[q3]
    . simp[q4]
    . simp[q5]
    . simp[q6]
    . simp[q7]
    . simp
  . have hst:QcC g g.is[i].1 i n0 (g.way n0.toNat g.is[i].1) g.sets[i][k] l=l'++[⟨2,g.sets[i][k],i,n0⟩]:=by
     unfold QcC; rw[Wa hw,hl']
    rw[hst]at hQ;simp -implicitDefEqProofs[hw,q1,q3,q4,q5,q6,q7,q8,q9,Gm.setsV,hi,hls,Qc6 hls,Qdt hne,hhead,hpos,fr,QeX];refine⟨by omega,by omega,by omega,by omega,by omega,?_⟩;rw[w1];have e1:(⟨fls l'++[i64 2,i64 g.sets[i][k],i64 i,i64 n0],133,l'.length+1,true⟩:AO)=fr (l'++[⟨2,g.sets[i][k],i,n0⟩]):=by simp[fr,Qlp]
    rw[e1];refine ih (k+1) _ (l'++[⟨2,g.sets[i][k],i,n0⟩]) _ (by omega) (by simp; omega) hQ ?_ ?_ ?_ ?_ ?_ ?_ ?_
    . simp[q1]
    . simp
    . simp[q4]
    . simp[q5,Gm.setsV]
    . simp[q6]
    . simp[q7]
    . simp
set_option maxRecDepth 10000 in
theorem Qvm (hW:Wg g) {N:Nat} {K:Wr} {Q:List Fl}
 (hexit:∀ env M,Q.length<=1000000->env.get 3=.own (H.length+1) 0 Q.length 4 Q.length->K (.exit 0) env (H++Qd g::fr Q::M)) :
 ∀ (n i:Nat) (env:Env) (l:List Fl) (M:Ws),i+n=g.is.length->l.length<=4000*i->QaX g (λ_ _=>true) nxF (λ_=>true) false n i l=Q ->
  env.get 1=.ptr (.own H.length 0 0 0 0) 0->env.get 3=.own (H.length+1) 0 l.length 4 l.length->env.get 4=.slc (Qa g.wk.2.P) g.wk.2.P.length->env.get 5=g.setsV->env.get 6=i64 i ->
  LI Tryz.prog N Qb Qi3 env (H++Qd g::fr l::M) K:=by
 have hgi:=hW.gd.i;have hgn:=hW.gd.n;have hsl:g.sets.length=g.is.length:=QaT;intro n
 induction n with
 |zero =>
  intro i env l M hi hl hQ h1 h3 h4 h5 h6;refine Qc hm Qi3.eq_1 ?_;have e:i=g.is.length:=by omega
  subst e;simp only[QaX]at hQ;subst hQ;simp -implicitDefEqProofs[h1,h3,h4,h5,h6,Gm.setsV];exact hexit _ M (by omega) (by simp)
 |succ n ih =>
  intro i env l M hi hl hQ h1 h3 h4 h5 h6;refine Qc hm Qi3.eq_1 ?_;have hlt:i<g.is.length:=by omega
  have hls:i<g.sets.length:=by omega
  have w1:IntKind.i64.wrap ((i:Int)+1)=((i+1:Nat):Int):=QaF (by omega);have hne:=hW.ne i hls;have hlk:=Qg0 (g:=g) hls;unfold QaX at hQ;rw[Vb hlt,Vb hls]at hQ;simp only[We]at hQ;rw[Wa (by simp)]at hQ;obtain⟨n0,hn0⟩:∃ n0,g.sets[i].head? = some n0:=by
   cases h:g.sets[i]with
   |nil=>exact(hne h).elim
   |cons y r=>exact⟨y,rfl⟩
  have hd0:g.sets[i].headD 0=n0:=by rw[Zs,hn0]; rfl
  rw[hd0]at hQ;simp -implicitDefEqProofs[h1,h3,h4,h5,h6,Gm.setsV,hlt,hls,Qd,Qge hlt,Qa0];refine⟨by omega,?_⟩;refine Qve (g:=g) hW hlt hn0 (Q:=(Qap g (λ_ _=>true) nxF i g.is[i].1 n0 (g.way n0.toNat g.is[i].1) g.sets[i] l).2) (λenv M' hQl q1 q3 q4 q5 q6 => ?_) g.sets[i].length 0 _ l M (by omega) (by omega) rfl (by simp) (by simp) (by simp[h4]) (by simp[Gm.setsV]) (by simp) (by simp) (by simp);simp -implicitDefEqProofs[q6];rw[w1];refine ih (i+1) _ _ M' (by omega) hQl hQ ?_ ?_ ?_ ?_ ?_
  . simp[q1]
  . simp[q3]
  . simp[q4]
  . simp[q5]
  . simp
def fs (l:List Fl):SV:=.slc (fls l) l.length
theorem QqE (hW:Wg g):g.flaws.length<=1000000:=by
 have hgi:=hW.gd.i;have hgn:=hW.gd.n;have hsk:∀ (r:List Int) (i:Nat) (pl n0:Int) (first:List (Int×Int)) (l:List Fl),(Qap g (λ_ _=>true) nxF i pl n0 first r l).2.length<=l.length+2*r.length:=by
  intro r
  induction r with
  |nil=>intro i pl n0 first l; simp[Qap]
  |cons v r ih =>
   intro i pl n0 first l
   rw[Qjm];have h1:=ih i pl n0 first (QcC g pl i n0 first v l)
   have h2:=QtK (g:=g) (pl:=pl) (info:=i) (n0:=n0) (first:=first) (v:=v) (l:=l)
   simp only[VL]; omega
 have:∀ (n i:Nat) (l:List Fl),(QaX g (λ_ _=>true) nxF (λ_=>true) false n i l).length<=l.length+4000*n:=by
  intro n
  induction n with
  |zero=>intro i l; simp[QaX]
  |succ n ih =>
   intro i l;unfold QaX;by_cases hls:i<g.sets.length
   . have hlt:i<g.is.length:=by rw[<-QaT]; exact hls
     rw[Vb hls,Vb hlt];simp only[We];rw[Wa (by simp)];refine YC (ih _ _) ?_;have h1:=hsk g.sets[i] i g.is[i].1 (g.sets[i].headD 0) (g.way (g.sets[i].headD 0).toNat g.is[i].1) l;have h2:=Qg0 (g:=g) hls;omega
   . rw[Vl (by omega)];simp only; omega
 have h:=this g.is.length 0 [];unfold Gm.flaws;simp only[YQ]at h;omega
set_option maxRecDepth 10000 in
theorem Qwc (hW:Wg g):Ok Tryz.prog 127 [.agg g.cells] H (.ret (fs g.flaws)) H:=by
 refine Ql hm Tryz.func127 c127 (by simp) λhcl => ?_;simp -implicitDefEqProofs[i127,r127,Gm.cells];have hh:=λH=>Qpy (H:=H) hW;simp only[Gm.cells,sl]at hh;refine Qh (hh _) ?_;simp -implicitDefEqProofs;have hh:=λH=>QlT (H:=H) hW.gd;simp only[Gm.cells]at hh;refine Qh (hh _) ?_;simp -implicitDefEqProofs;refine Qvm (g:=g) (H:=H) hW (Q:=g.flaws) (λenv M hl h3 => ?_) g.is.length 0 _ [] [] (by omega) (by simp) rfl (by simp) (by simp) (by simp) (by simp[Gm.setsV]) (by simp);simp -implicitDefEqProofs[h3];refine Qi 3 hcl rfl ?_;simp[fr,QeX,VB,fs];exact VA (by rw[QeX]; omega)
end
section
variable {H:Ws} {g:Gm}
theorem Qpu {f:Fl} (hf:f∈g.flaws):0<=f.i/\f.i<g.is.length:=by
 have hsk:∀ (r:List Int) (i:Nat) (pl n0:Int) (first:List (Int×Int)) (l:List Fl),i<g.is.length->(∀ f∈l,0<=f.i/\f.i<g.is.length)->∀ f∈(Qap g (λ_ _=>true) nxF i pl n0 first r l).2,0<=f.i/\f.i<g.is.length:=by
  intro r
  induction r with
  |nil=>intro i pl n0 first l hi hl; simpa[Qap]using hl
  |cons v r ih =>
   intro i pl n0 first l hi hl
   rw[Qjm];refine ih i pl n0 first _ hi (λf hf => ?_)
   unfold QcC at hf;have key:∀ f∈(if 0<=g.deep v.toNat pl i then l++[⟨1,v,i,g.deep v.toNat pl i⟩]else l),0<=f.i/\f.i<g.is.length:=by
    intro f hf;split at hf
    . rcases Vk.1 hf with h|h
      . exact hl f h
      . simp only[Z6]at h; subst h; simp only; omega
    . exact hl f hf
   split at hf
   . exact key f hf
   . rcases Vk.1 hf with h|h
     . exact key f h
     . simp only[Z6]at h; subst h; simp only; omega
 have:∀ (n i:Nat) (l:List Fl),(∀ f∈l,0<=f.i/\f.i<g.is.length)->∀ f∈QaX g (λ_ _=>true) nxF (λ_=>true) false n i l,0<=f.i/\f.i<g.is.length:=by
  intro n
  induction n with
  |zero=>intro i l hl; simpa[QaX]using hl
  |succ n ih =>
   intro i l hl;unfold QaX;by_cases hls:i<g.sets.length
   . have hlt:i<g.is.length:=by rw[<-QaT]; exact hls
     rw[Vb hls,Vb hlt];simp only[We];rw[Wa (by simp)];exact ih _ _ (hsk _ _ _ _ _ _ hlt hl)
   . rw[Vl (by omega)];exact hl
 exact this _ _ _ (by simp) f hf
theorem QmA:∀ {l:List Fl} {k:Nat} (h:k<l.length),(fls l).drop (4*k)=i64 l[k].k::i64 l[k].n::i64 l[k].i::i64 l[k].o::fls (l.drop (k+1))
 |[],k,h=>by simp at h
 |x::r,0,h=>rfl
 |x::r,k+1,h=>by
  rw[show 4*(k+1)=4*k+4 by omega];simp only[fls,Zl];rw[QmA (l:=r) (k:=k) (by simpa using h)];simp
theorem Qra {l:List Fl} {k:Nat} (h:k<l.length):(fls l).drop (k*4)=i64 l[k].k::i64 l[k].n::i64 l[k].i::i64 l[k].o::fls (l.drop (k+1)):=by rw[VB,QmA h]
theorem Qv7 {l:List Fl} {k:Nat} (h:k<l.length):(fls l)[k*4+2]? = some (i64 l[k].i):=by
 rw[<-Vs,Qra h]; rfl
def QdD (g:Gm) (i:Int):Int:=match g.is[i.toNat]? with|some x=>x.1|none=>0
def Gm.perfR (g:Gm) (pl:Int):Bool:=decide (¬ ∃ f∈g.flaws,QdD g f.i=pl)
set_option maxRecDepth 10000 in
theorem Qv6 {l:List Fl} (hl:l.length<=1000000) (hin:∀ f∈l,0<=f.i/\f.i<g.is.length) {pl:Int} {N:Nat} {K:Wr}
 (hret:(∃ f∈l,QdD g f.i=pl)->∀ env,env.get 4=bl false->K .ret env (H++[Qd g])) (hexit:(¬ ∃ f∈l,QdD g f.i=pl)->∀ env,K (.exit 0) env (H++[Qd g])) :
 ∀ (n k:Nat) (env:Env),k+n=l.length->(∀ t (h:t<l.length),t<k->QdD g l[t].i≠pl)->env.get 1=i64 pl->env.get 2=.ptr (.own H.length 0 0 0 0) 0->env.get 5=fs l->env.get 6=i64 k ->
  LI Tryz.prog N Qb QhP env (H++[Qd g]) K:=by
 intro n
 induction n with
 |zero =>
  intro k env hk hp h1 h2 h5 h6;refine Qc hm QhP.eq_1 ?_;have e:k=l.length:=by omega
  subst e;simp -implicitDefEqProofs[h1,h2,h5,h6,fs];refine hexit ?_ _;rintro⟨f,hf,hh⟩;obtain⟨t,ht,rfl⟩:=VH hf;exact hp t ht ht hh
 |succ n ih =>
  intro k env hk hp h1 h2 h5 h6;refine Qc hm QhP.eq_1 ?_;have hlt:k<l.length:=by omega
  have w1:IntKind.i64.wrap ((k:Int)+1)=((k+1:Nat):Int):=QaF (by omega);have hi:=hin _ (Vf hlt);have hit:l[k].i.toNat<g.is.length:=by omega
  have hpa:QdD g l[k].i=g.is[l[k].i.toNat].1:=by unfold QdD; rw[Vb hit]
  simp -implicitDefEqProofs[h1,h2,h5,h6,fs,hlt,Qd,Qv7 hlt,QeX,hi.1,hi.2,Qge hit,Qa0];refine⟨by omega,by omega,?_⟩;by_cases hc:g.is[l[k].i.toNat].1=pl
  . rw[Wb hc];exact hret ⟨_,Vf hlt,by rw[hpa]; exact hc⟩ _ (by simp)
  . rw[Wa hc,w1];refine ih (k+1) _ (by omega) ?_ ?_ ?_ ?_ ?_
    rotate_left
    . simp
    . simp
    . simp[fs]
    . simp
    intro t ht htk;by_cases e:t=k
    . subst e; rw[hpa]; exact hc
    . exact hp t ht (by omega)
theorem ok96 (hW:Wg g) (pl:Int):Ok Tryz.prog 96 [.agg g.cells,i64 pl] H (.ret (bl (g.perfR pl))) H:=by
 refine Ql hm Tryz.func96 c96 (by simp) λhcl => ?_;simp -implicitDefEqProofs[i96,r96,Gm.cells];have hh:=λH=>Qwc (H:=H) hW;simp only[Gm.cells]at hh;refine Qh (hh _) ?_;simp -implicitDefEqProofs;refine Qv6 (g:=g) (l:=g.flaws) (QqE hW) (λf hf=>Qpu hf) (pl:=pl) (λhx env h4 => ?_) (λhx env => ?_) g.flaws.length 0 _ (by omega) (by omega) (by simp) (by simp) (by simp) (by simp)
 . simp -implicitDefEqProofs[h4];refine Qi 1 hcl rfl ?_;simp only[Gm.perfR,decide_not,hx,decide_true,Bool.not_true];simp
 . simp -implicitDefEqProofs;refine Qi 1 hcl rfl ?_;simp only[Gm.perfR,decide_not,hx,decide_false,Bool.not_false];simp
end
section
variable {g:Gm}
def upf (g:Gm) (pl:Int) (f node:Nat) (l:List (Int×Int)):List (Int×Int):=abv g pl (λ_ _ _=>true) (λl k a=>l++[(Qbq g k,a)]) f node l
theorem Qjz (hW:Wg g) {pl:Int} {f:Nat} {l:List (Int×Int)}:upf g pl (f+1) 0 l=l:=by
 unfold upf abv; rw[Wb (by rw[hW.wf.p0]; omega)]
theorem Qml (hW:Wg g) {pl:Int}:∀ (f node:Nat) (l:List (Int×Int)),node<f->node<g.ns.length->upf g pl f node l=l++upf g pl f node []
 |0,node,l,h,_=>by omega
 |f+1,node,l,h,hn=>by
  rcases Yh node with hz|hz
  . subst hz; rw[Qjz hW,Qjz hW]; simp
  . obtain⟨p,hp,k1,k2,k3⟩:=hW.wf.pf node hz hn;unfold upf;rw[Qfd hW hp k1,Qfd hW hp k1];have h1:=Qml hW (pl:=pl) f p;unfold upf at h1;by_cases hc:g.ns[p].k=2/\g.ns[p].p=pl
    . rw[Wb hc,Wb hc,h1 _ (by omega) hp,h1 ([]++_) (by omega) hp];simp
    . rw[Wa hc,Wa hc,h1 _ (by omega) hp]
theorem QoE (hW:Wg g) {pl:Int}:∀ (f f' node:Nat) (l:List (Int×Int)),node<f->node<f'->node<g.ns.length->upf g pl f node l=upf g pl f' node l
 |0,f',node,l,h,_,_=>by omega
 |f+1,0,node,l,_,h,_=>by omega
 |f+1,f'+1,node,l,h,h',hn=>by
  rcases Yh node with hz|hz
  . subst hz; rw[Qjz hW,Qjz hW]
  . obtain⟨p,hp,k1,k2,k3⟩:=hW.wf.pf node hz hn;unfold upf;rw[Qfd hW hp k1,Qfd hW hp k1];exact QoE hW f f' p _ (by omega) (by omega) hp
theorem Qou (hW:Wg g) {pl:Int} {node:Nat} (hn:node<g.ns.length) (f:Nat) (hf:node<f):(g.way node pl).length=(upf g pl f node []).length:=by
 unfold Gm.way Gm.up;rw[ZU];show(upf g pl g.ns.length node []).length=_;rw[QoE hW g.ns.length f node [] hn hf hn]
theorem QpL (hW:Wg g) {info:Nat} (hinfo:info<g.is.length):∀ (f node:Nat),node<f->node<g.ns.length->0<=dq g g.is[info].1 info f node ->
 ∃ p,∃ h:p<g.ns.length,p<node/\g.ns[p].k=2/\g.ns[p].i=info/\(g.way p g.is[info].1).length<(g.way node g.is[info].1).length
 |0,node,h,_,_=>by omega
 |f+1,node,h,hn,hd=>by
  rcases Yh node with hz|hz
  . subst hz; rw[Qnp (by rw[hW.wf.p0]; omega)]at hd; omega
  . obtain⟨p,hp,k1,k2,k3⟩:=hW.wf.pf node hz hn;rw[Qnh hW hinfo hp k1]at hd;have hlen:(g.way node g.is[info].1).length=(if g.ns[p].k=2/\g.ns[p].p=g.is[info].1 then 1 else 0)+(g.way p g.is[info].1).length:=by
     rw[Qou hW hn (node+1+1) (by omega),Qou hW hp (node+1) (by omega)];have:upf g g.is[info].1 (node+1+1) node []=upf g g.is[info].1 (node+1) p (if g.ns[p].k=2/\g.ns[p].p=g.is[info].1 then []++[(g.ns[p].i,Qch node g.ns[p].nx)]else []):=Qfd hW hp k1;rw[this,Qml hW _ _ _ (by omega) hp];split<;>simp<;>omega
    by_cases hc:g.ns[p].k=2/\g.ns[p].i=info
    . have hty:=hW.ty (Vf hp) hc.1;rw[hc.2,show((info:Nat):Int).toNat=info by omega,Vb hinfo]at hty;simp only[Option.some.injEq]at hty;refine⟨p,hp,k2,hc.1,hc.2,?_⟩;rw[hlen,Wb ⟨hc.1,by rw[hty]⟩]; omega
    . rw[Wa hc]at hd;obtain⟨q,hq,m1,m2,m3,m4⟩:=QpL hW hinfo f p (by omega) hp hd;refine⟨q,hq,by omega,m2,m3,?_⟩;omega
theorem QoO {s:Nat}:∀ {l:List Nd} {o t:Nat} (ht:t<l.length),l[t].k=2->l[t].i.toNat=s->((o+t:Nat):Int)∈occ s l o
 |[],o,t,ht,_,_=>by simp at ht
 |x::r,o,0,ht,h1,h2=>by
  unfold occ;rw[Wb ⟨h1,h2⟩];simp
 |x::r,o,t+1,ht,h1,h2=>by
  have:=QoO (s:=s) (l:=r) (o:=o+1) (t:=t) (by simpa using ht) h1 h2;rw[show o+1+t=o+(t+1)by omega]at this;unfold occ;split
  . exact VJ _ this
  . exact this
def Bad (g:Gm) (i:Nat):Prop:=∃ h:i<g.sets.length,∃ h':i<g.is.length,∃ v∈g.sets[i],g.way v.toNat g.is[i].1≠g.way (g.sets[i].headD 0).toNat g.is[i].1
theorem QsW (hW:Wg g) {i:Nat} (hs:i<g.sets.length) (hi:i<g.is.length) {v:Int} (hv:v∈g.sets[i]) (hd:0<=g.deep v.toNat g.is[i].1 i):Bad g i:=by
 have hr:=QhG hs hv;obtain⟨p,hp,k1,k2,k3,k4⟩:=QpL hW hi g.ns.length v.toNat (by omega) (by omega) hd;have hpm:((p:Nat):Int)∈g.sets[i]:=by
  rw[QhX hs];have:=QoO (s:=i) (l:=g.ns) (o:=0) (t:=p) hp k2 (by omega);simpa using this
 by_cases h1:g.way v.toNat g.is[i].1=g.way (g.sets[i].headD 0).toNat g.is[i].1
 . refine⟨hs,hi,p,hpm,λh2 => ?_⟩;rw[show((p:Nat):Int).toNat=p by omega]at h2;rw[h1,h2]at k4; omega
 . exact⟨hs,hi,v,hv,h1⟩
theorem Qox {i:Nat} {pl n0:Int} {first:List (Int×Int)}:∀ (l:List Int),Qap g nxP nxP i pl n0 first l true=if ∃ v∈l,g.way v.toNat pl≠first then(false,false)else(true,true)
 |[]=>by simp[Qap]
 |v::r=>by
  have e1:nxP true ⟨1,v,i,g.deep v.toNat pl i⟩=true:=by simp[nxP]
  have e2:∀ b,nxP b ⟨2,v,i,n0⟩=false:=λb=>by simp[nxP]
  unfold Qap;simp only;rw[Wa (by rw[e1]; simp),e1];have e3:(if 0<=g.deep v.toNat pl i then true else true)=true:=by split<;>rfl
  rw[e3];by_cases hw:g.way v.toNat pl=first
  . rw[Wb hw,Qox r];by_cases hx:∃ u∈r,g.way u.toNat pl≠first
    . obtain⟨u,hu,hh⟩:=hx;rw[Wb ⟨u,hu,hh⟩,Wb ⟨u,VJ _ hu,hh⟩]
    . rw[Wa hx,Wa];rintro⟨u,hu,hh⟩;rcases Vi.1 hu with rfl|hu
      . exact hh hw
      . exact hx ⟨u,hu,hh⟩
  . rw[Wa hw,e2,Wa (by simp),Wb ⟨v,ZY,hw⟩]
theorem Qo4 (hW:Wg g) {pl:Int}:∀ (n i:Nat),i+n=g.is.length->(QaX g nxP nxP (λp=>decide (p=pl)) true n i true=true↔∀ t,i<=t->(h:t<g.is.length)->g.is[t].1=pl->¬ Bad g t)
 |0,i,hi=>by
  simp only[QaX,true_iff];intro t h1 h2; omega
 |n+1,i,hi=>by
  have hlt:i<g.is.length:=by omega
  have hls:i<g.sets.length:=by rw[QaT]; exact hlt
  unfold QaX;rw[Vb hlt,Vb hls];simp only;have ih:=Qo4 hW (pl:=pl) n (i+1) (by omega);by_cases hp:g.is[i].1=pl
  . rw[Wb (by simpa using hp),Qox];by_cases hb:∃ v∈g.sets[i],g.way v.toNat g.is[i].1≠g.way (g.sets[i].headD 0).toNat g.is[i].1
    . rw[Wb hb];simp only[and_self,We];constructor
      . intro h; cases h
      . intro h; exact(h i (Vc _) hlt hp ⟨hls,hlt,hb⟩).elim
    . rw[Wa hb];rw[Wa (by simp),ih];constructor
      . intro h t h1 h2 h3;by_cases e:t=i
        . subst e; rintro⟨_,_,h4⟩; exact hb h4
        . exact h t (by omega) h2 h3
      . intro h t h1 h2 h3; exact h t (by omega) h2 h3
  . rw[Wa (by simpa using hp),ih];constructor
    . intro h t h1 h2 h3;by_cases e:t=i
      . subst e; exact(hp h3).elim
      . exact h t (by omega) h2 h3
    . intro h t h1 h2 h3; exact h t (by omega) h2 h3
theorem Qoj {i:Nat} {pl n0:Int} {first:List (Int×Int)}:∀ (r:List Int) (l:List Fl) (f:Fl),f∈(Qap g (λ_ _=>true) nxF i pl n0 first r l).2↔f∈l\/∃ v∈r,(0<=g.deep v.toNat pl i/\f=⟨1,v,i,g.deep v.toNat pl i⟩)\/(g.way v.toNat pl≠first/\f=⟨2,v,i,n0⟩)
 |[],l,f=>by simp[Qap]
 |v::r,l,f=>by
  rw[Qjm,Qoj r];have:f∈QcC g pl i n0 first v l↔f∈l\/(0<=g.deep v.toNat pl i/\f=⟨1,v,i,g.deep v.toNat pl i⟩)\/(g.way v.toNat pl≠first/\f=⟨2,v,i,n0⟩):=by
   unfold QcC;by_cases hw:g.way v.toNat pl=first
   . rw[Wb hw];by_cases hd:0<=g.deep v.toNat pl i
     . rw[Wb hd]; simp[hw,hd]
     . rw[Wa hd]; simp[hw,hd]
   . rw[Wa hw];by_cases hd:0<=g.deep v.toNat pl i
     . rw[Wb hd]; simp[hw,hd]
     . rw[Wa hd]; simp[hw,hd]
  rw[this];simp only[Vi,exists_eq_or_imp,or_assoc]
theorem Qj2 (hW:Wg g):∀ (n i:Nat) (l:List Fl),i+n=g.is.length->∀ f,f∈QaX g (λ_ _=>true) nxF (λ_=>true) false n i l↔f∈l\/∃ t,i<=t/\∃ h:t<g.is.length,∃ h':t<g.sets.length,∃ v∈g.sets[t],
     (0<=g.deep v.toNat g.is[t].1 t/\f=⟨1,v,t,g.deep v.toNat g.is[t].1 t⟩)\/(g.way v.toNat g.is[t].1≠g.way (g.sets[t].headD 0).toNat g.is[t].1/\f=⟨2,v,t,g.sets[t].headD 0⟩)
 |0,i,l,hi,f=>by
   simp only[QaX];constructor
   . exact .inl
   . rintro(h|⟨t,h1,h2,_⟩)
     . exact h
     . omega
 |n+1,i,l,hi,f=>by
   have hlt:i<g.is.length:=by omega
   have hls:i<g.sets.length:=by rw[QaT]; exact hlt
   unfold QaX;rw[Vb hlt,Vb hls];simp only[We];rw[Wa (by simp),Qj2 hW n (i+1) _ (by omega),Qoj];constructor
   . rintro((h|h)|⟨t,h1,h2⟩)
     . exact .inl h
     . exact .inr ⟨i,Vc _,hlt,hls,h⟩
     . exact .inr ⟨t,by omega,h2⟩
   . rintro(h|⟨t,h1,h2,h3,h4⟩)
     . exact .inl (.inl h)
     . by_cases e:t=i
       . subst e; exact .inl (.inr h4)
       . exact .inr ⟨t,by omega,h2,h3,h4⟩
theorem QnH (hW:Wg g) {t:Nat} (ht:t<g.is.length):(∃ f∈g.flaws,f.i=(t:Int))↔Bad g t:=by
 have hs:t<g.sets.length:=by rw[QaT]; exact ht
 constructor
 . rintro⟨f,hf,hi⟩;unfold Gm.flaws at hf;rw[Qj2 hW _ _ _ (by omega)]at hf;rcases hf with hf|⟨u,_,h2,h3,v,hv,⟨h4,h5⟩|⟨h4,h5⟩⟩
   . simp at hf
   . have:u=t:=by rw[h5]at hi; simp only at hi; omega
     subst this;exact QsW hW h3 h2 hv h4
   . have:u=t:=by rw[h5]at hi; simp only at hi; omega
     subst this;exact⟨h3,h2,v,hv,h4⟩
 . rintro⟨h3,h2,v,hv,h4⟩;refine⟨⟨2,v,t,g.sets[t].headD 0⟩,?_,rfl⟩;unfold Gm.flaws;rw[Qj2 hW _ _ _ (by omega)];exact .inr ⟨t,by omega,h2,h3,v,hv,.inr ⟨h4,rfl⟩⟩
theorem QtT (hW:Wg g) {pl:Int}:g.perf pl=true↔∀ t,(h:t<g.is.length)->g.is[t].1=pl->¬ Bad g t:=by
 unfold Gm.perf;rw[Qo4 hW _ _ (by omega)];constructor
 . intro h t h1 h2; exact h t (by omega) h1 h2
 . intro h t _ h1 h2; exact h t h1 h2
theorem QvW (hW:Wg g) {pl:Int}:g.perf pl=g.perfR pl:=by
 rw[ZG,QtT hW];unfold Gm.perfR;rw[Wo];constructor
 . rintro h ⟨f,hf,hp⟩;have hr:=Qpu hf;have ht:f.i.toNat<g.is.length:=by omega
   have e:QdD g f.i=g.is[f.i.toNat].1:=by unfold QdD; rw[Vb ht]
   exact h f.i.toNat ht (by rw[<-e]; exact hp) ((QnH hW ht).1 ⟨f,hf,by omega⟩)
 . intro h t ht hp hb;obtain⟨f,hf,hi⟩:=(QnH hW ht).2 hb;refine h ⟨f,hf,?_⟩;unfold QdD;rw[hi,show((t:Nat):Int).toNat=t by omega,Vb ht];exact hp
end
end Go.Proofs.YtogjmpkehjfecaaGreatDoor.Rc
namespace Go.Proofs.YtogjmpkehjfecaaGreatDoor.Rc
open Go.Ab Go.Ab.Shr
structure TS where
 rnd:Int
 seed:Int
 A:Nat->List Int
 P:Nat->List Int
 S:Nat->List Int
 V:List Int
 R:List Int
 O:List Int
 ord:List Int
structure TC where
 M:List Int
 F:List Int
def pAo (H:Ws) (_g:Gm):Nat:=H.length
def pA (H:Ws) (_g:Gm) (i:Nat):Nat:=H.length+1+i
def pPo (H:Ws) (g:Gm):Nat:=H.length+1+g.is.length
def pP (H:Ws) (g:Gm) (i:Nat):Nat:=H.length+2+g.is.length+i
def pM (H:Ws) (g:Gm):Nat:=H.length+4+2*g.is.length
def pF (H:Ws) (g:Gm):Nat:=H.length+5+2*g.is.length
def pSo (H:Ws) (g:Gm):Nat:=H.length+7+2*g.is.length
def pS (H:Ws) (g:Gm) (i:Nat):Nat:=H.length+9+2*g.is.length+2*i
def pW (H:Ws) (g:Gm):Nat:=H.length+8+4*g.is.length
def pV (H:Ws) (g:Gm):Nat:=H.length+9+4*g.is.length
def pR (H:Ws) (g:Gm):Nat:=H.length+10+4*g.is.length
def pO (H:Ws) (g:Gm):Nat:=H.length+11+4*g.is.length
def pE (H:Ws) (g:Gm):Nat:=H.length+12+4*g.is.length
def Qx (I:Nat) (p:Nat->Nat) (n:Nat->Nat) (ver:Nat):Wt:=(List.range I).map λi=>.own (p i) 0 (n i) 1 ver
def QA (g:Gm) (H:Ws) (s:TS):Wt :=
 [i64 g.pl,.slc (nds g.ns) g.ns.length,.slc (Qu g.is) g.is.length,.own (pM H g) 0 g.ns.length 1 1,.own (pF H g) 0 g.is.length 1 1,i64 s.rnd,i64 s.seed,.own (pAo H g) 0 g.is.length 1 0,.own (pPo H g) 0 g.is.length 1 0,.own (pSo H g) 0 g.is.length 1 0,
  .own (pV H g) 0 g.ns.length 4 1,.own (pR H g) 0 g.ns.length 4 1,.own (pO H g) 0 g.ns.length 4 1]
def QbQ (g:Gm) (H:Ws) (s:TS):AO:=oI (QA g H s) s.ord [] 73 0
def Gm.acts (g:Gm) (i:Nat):Nat:=((g.is.getD i (0,0)).2).toNat
structure TL (g:Gm) (c:TC) (s:TS):Prop where
 A:∀ i,i<g.is.length->(s.A i).length=g.acts i
 P:∀ i,i<g.is.length->(s.P i).length=g.acts i
 S:∀ i,i<g.is.length->(s.S i).length=g.acts i
 V:s.V.length=4*g.ns.length
 R:s.R.length=4*g.ns.length
 O:s.O.length=4*g.ns.length
 ord:s.ord.length=10
 M:c.M.length=g.ns.length
 F:c.F.length=g.is.length
structure TW (g:Gm) (H:Ws) (c:TC) (s:TS) (G:Ws):Prop where
 l:TL g c s
 len:G.length=pE H g
 low:∀ i,i<H.length->G[i]? = H[i]?
 cl:closed G
 w:G[pW H g]? = some (QbQ g H s)
 m:G[pM H g]? = some ⟨Qa c.M,3,1,true⟩
 f:G[pF H g]? = some ⟨Qa c.F,3,1,true⟩
 ao:G[pAo H g]? = some ⟨Qx g.is.length (pA H g) g.acts 1,45,0,true⟩
 a:∀ i,i<g.is.length->G[pA H g i]? = some ⟨Qa (s.A i),3,1,true⟩
 po:G[pPo H g]? = some ⟨Qx g.is.length (pP H g) g.acts 1,45,0,true⟩
 p:∀ i,i<g.is.length->G[pP H g i]? = some ⟨Qa (s.P i),3,1,true⟩
 so:G[pSo H g]? = some ⟨Qx g.is.length (pS H g) g.acts 0,45,0,true⟩
 ss:∀ i,i<g.is.length->G[pS H g i]? = some ⟨Qa (s.S i),3,0,true⟩
 v:G[pV H g]? = some ⟨Qa s.V,105,1,true⟩
 r:G[pR H g]? = some ⟨Qa s.R,105,1,true⟩
 o:G[pO H g]? = some ⟨Qa s.O,105,1,true⟩
section
variable {g:Gm} {H G:Ws} {c:TC} {s:TS}
theorem TW.setV (h:TW g H c s G) {V:List Int} (hV:V.length=4*g.ns.length):TW g H c { s with V:=V } (G.set (pV H g) ⟨Qa V,105,1,true⟩):=by
 have hlt:=Qg h.v;have ne:∀ {j:Nat} {x:Option AO},pV H g≠j->G[j]? = x->(G.set (pV H g) ⟨Qa V,105,1,true⟩)[j]? = x:=λhn hx=>by rw[Vd hn]; exact hx
 constructor;case l=>exact⟨h.l.A,h.l.P,h.l.S,hV,h.l.R,h.l.O,h.l.ord,h.l.M,h.l.F⟩
 case len=>simpa using h.len
 case cl=>exact QcF h.cl _ (by simp)
 case v=>rw[Vg hlt]
 case low=>intro i hi; exact ne (by unfold pV; omega) (h.low i hi)
 case a=>intro i hi; exact ne (by unfold pV pA; omega) (h.a i hi)
 case p=>intro i hi; exact ne (by unfold pV pP; omega) (h.p i hi)
 case ss=>intro i hi; exact ne (by unfold pV pS; omega) (h.ss i hi)
 case w=>exact ne (by unfold pV pW; omega) h.w
 case m=>exact ne (by unfold pV pM; omega) h.m
 case f=>exact ne (by unfold pV pF; omega) h.f
 case ao=>exact ne (by unfold pV pAo; omega) h.ao
 case po=>exact ne (by unfold pV pPo; omega) h.po
 case so=>exact ne (by unfold pV pSo; omega) h.so
 case r=>exact ne (by unfold pV pR; omega) h.r
 case o=>exact ne (by unfold pV pO; omega) h.o
theorem TW.setR (h:TW g H c s G) {X:List Int} (hV:X.length=4*g.ns.length):TW g H c { s with R:=X } (G.set (pR H g) ⟨Qa X,105,1,true⟩):=by
 have hlt:=Qg h.r;have ne:∀ {j:Nat} {x:Option AO},pR H g≠j->G[j]? = x->(G.set (pR H g) ⟨Qa X,105,1,true⟩)[j]? = x:=λhn hx=>by rw[Vd hn]; exact hx
 constructor;case l=>exact⟨h.l.A,h.l.P,h.l.S,h.l.V,hV,h.l.O,h.l.ord,h.l.M,h.l.F⟩
 case len=>simpa using h.len
 case cl=>exact QcF h.cl _ (by simp)
 case r=>rw[Vg hlt]
 case low=>intro i hi; exact ne (by unfold pR; omega) (h.low i hi)
 case a=>intro i hi; exact ne (by unfold pR pA; omega) (h.a i hi)
 case p=>intro i hi; exact ne (by unfold pR pP; omega) (h.p i hi)
 case ss=>intro i hi; exact ne (by unfold pR pS; omega) (h.ss i hi)
 case w=>exact ne (by unfold pR pW; omega) h.w
 case m=>exact ne (by unfold pR pM; omega) h.m
 case f=>exact ne (by unfold pR pF; omega) h.f
 case ao=>exact ne (by unfold pR pAo; omega) h.ao
 case po=>exact ne (by unfold pR pPo; omega) h.po
 case so=>exact ne (by unfold pR pSo; omega) h.so
 case v=>exact ne (by unfold pR pV; omega) h.v
 case o=>exact ne (by unfold pR pO; omega) h.o
theorem TW.setO (h:TW g H c s G) {X:List Int} (hV:X.length=4*g.ns.length):TW g H c { s with O:=X } (G.set (pO H g) ⟨Qa X,105,1,true⟩):=by
 have hlt:=Qg h.o;have ne:∀ {j:Nat} {x:Option AO},pO H g≠j->G[j]? = x->(G.set (pO H g) ⟨Qa X,105,1,true⟩)[j]? = x:=λhn hx=>by rw[Vd hn]; exact hx
 constructor;case l=>exact⟨h.l.A,h.l.P,h.l.S,h.l.V,h.l.R,hV,h.l.ord,h.l.M,h.l.F⟩
 case len=>simpa using h.len
 case cl=>exact QcF h.cl _ (by simp)
 case o=>rw[Vg hlt]
 case low=>intro i hi; exact ne (by unfold pO; omega) (h.low i hi)
 case a=>intro i hi; exact ne (by unfold pO pA; omega) (h.a i hi)
 case p=>intro i hi; exact ne (by unfold pO pP; omega) (h.p i hi)
 case ss=>intro i hi; exact ne (by unfold pO pS; omega) (h.ss i hi)
 case w=>exact ne (by unfold pO pW; omega) h.w
 case m=>exact ne (by unfold pO pM; omega) h.m
 case f=>exact ne (by unfold pO pF; omega) h.f
 case ao=>exact ne (by unfold pO pAo; omega) h.ao
 case po=>exact ne (by unfold pO pPo; omega) h.po
 case so=>exact ne (by unfold pO pSo; omega) h.so
 case r=>exact ne (by unfold pO pR; omega) h.r
 case v=>exact ne (by unfold pO pV; omega) h.v
end
theorem QC {G:Ws} {p:Nat} {c:Wt} {T:Ww} {v:Nat} (h:G[p]? = some ⟨c,T,v,true⟩) (L:Ws):Qf (G++L) p v=c:=by
 rw[Qeg L (Qg h)]; exact Qak (o:=⟨c,T,v,true⟩) h rfl
theorem Qcj {G:Ws} {p:Nat} {o:AO} (h:G[p]? = some o) (L:Ws) (f:AO->AO):Ab.setObj (G++L) p f=G.set p (f o)++L:=by
 have hlt:=Qg h;rw[QY (o:=o) (by rw[Ve hlt]; exact h),Yj _ _ hlt]
theorem Qdc {I:Nat} {p n:Nat->Nat} {ver i:Nat} (h:i<I):(Qx I p n ver)[i]?.getD .any=.own (p i) 0 (n i) 1 ver:=by simp[Qx,h]
@[simp] theorem Qyg {I:Nat} {p n:Nat->Nat} {ver i:Nat} (h:i<(Qx I p n ver).length):(Qx I p n ver)[i]'h=.own (p i) 0 (n i) 1 ver:=by simp[Qx]
@[simp] theorem Qn5 (I:Nat) (p n:Nat->Nat) (ver:Nat):(Qx I p n ver).length=I:=by simp[Qx]
theorem Qbz {l:List Int} {i:Nat} (h:i<l.length):(Qa l)[i]?.getD .any=i64 (l.getD i 0):=by simp[Qa,h]
section
variable {l:List Nd} {i:Nat}
theorem nd0 (h:i<l.length):(nds l)[i*6]?.getD .any=i64 l[i].k:=by have:=Qds (t:=0) h (by omega); rw[Yc]at this; rw[this]; rfl
theorem nd1 (h:i<l.length):(nds l)[i*6+1]?.getD .any=i64 l[i].p:=by rw[Qds h (by omega)]; rfl
theorem nd2 (h:i<l.length):(nds l)[i*6+2]?.getD .any=i64 l[i].i:=by rw[Qds h (by omega)]; rfl
theorem nd3 (h:i<l.length):(nds l)[i*6+3]?.getD .any=.slc (Qa l[i].nx) l[i].nx.length:=by rw[Qds h (by omega)]; rfl
theorem nd4 (h:i<l.length):(nds l)[i*6+4]?.getD .any=.slc (Qa l[i].ws) l[i].ws.length:=by rw[Qds h (by omega)]; rfl
theorem nd5 (h:i<l.length):(nds l)[i*6+5]?.getD .any=.slc (Qa l[i].ps) l[i].ps.length:=by rw[Qds h (by omega)]; rfl
end
def brP (g:Gm) (S:Nat->List Int) (i k:Nat):Int:=match g.ns[i]? with
 |none=>0
 |some x=>if x.k=1 then x.ws.getD k 0 else(S x.i.toNat).getD k 0
def brW (g:Gm) (M:List Int) (i:Nat):Int:=match g.ns[i]? with
 |none=>0
 |some x=>if x.k=1 then M.getD i 0 else 65536
section
variable {g:Gm} {H G:Ws} {c:TC} {s:TS}
theorem TW.cw (h:TW g H c s G) (L:Ws):Qf (G++L) (pW H g) 0=QA g H s++(Qa s.ord++[]):=QC h.w L
theorem TW.ltw (h:TW g H c s G):pW H g<G.length:=Qg h.w
theorem QbE (hW:Wg g) {i:Nat} (hi:i<g.ns.length) (hk:g.ns[i].k=2):g.ns[i].i.toNat<g.is.length/\(g.ns[i].i.toNat:Int)=g.ns[i].i/\g.acts g.ns[i].i.toNat=g.ns[i].nx.length/\1<=g.ns[i].nx.length/\g.ns[i].nx.length<=10:=by
 have h1:=hW.gd.inf (Vf hi) hk;have h2:=hW.ty (Vf hi) hk;have h3:=hW.gd.e _ (Vf hi);refine⟨by omega,by omega,?_,?_⟩
 . simp[Gm.acts,h2]
 . unfold Nd.err Nd.move at h3;rw[Wa (by omega),Wa (by omega),Wb hk]at h3;split at h3
   . omega
   . omega
theorem Qd0 (hW:Wg g) {i:Nat} (hi:i<g.ns.length) (hk:g.ns[i].k=1):g.ns[i].ws.length=g.ns[i].nx.length/\1<=g.ns[i].nx.length/\g.ns[i].nx.length<=60/\∀ w∈g.ns[i].ws,1<=w/\w<=1000:=by
 have h3:=hW.gd.e _ (Vf hi);unfold Nd.err Nd.chance at h3;rw[Wa (by omega),Wb hk]at h3;split at h3
 . omega
 . rename_i hn;refine⟨by omega,by omega,by omega,λw hw => ?_⟩;unfold Qaj at h3;split at h3
   . omega
   . rename_i ha;simp only[V5,not_exists,not_and,Qav,V9,Wd]at ha;have:=ha w hw;omega
theorem QeC (hW:Wg g) {i:Nat} (hi:i<g.ns.length) (hk:g.ns[i].k=3):g.ns[i].nx=[]/\(g.ns[i].ps.length:Int)=g.pl/\∀ w∈g.ns[i].ps,-1000000<=w/\w<=1000000:=by
 have h3:=hW.gd.e _ (Vf hi);unfold Nd.err Nd.end at h3;rw[Wa (by omega),Wa (by omega),Wa (by omega)]at h3;split at h3
 . omega
 . rename_i hn;refine⟨Vx (by omega),by omega,λw hw => ?_⟩;unfold Qaj at h3;split at h3
   . omega
   . rename_i ha;simp only[V5,not_exists,not_and,Qav,V9,Wd]at ha;have:=ha w hw;omega
theorem QdR (hW:Wg g) {i:Nat} (hi:i<g.ns.length):g.ns[i].k=1\/g.ns[i].k=2\/g.ns[i].k=3:=by
 have h3:=hW.gd.e _ (Vf hi);unfold Nd.err at h3;split at h3
 . omega
 . omega
set_option maxRecDepth 10000 in
theorem ok89 (hW:Wg g) (h:TW g H c s G) (L:Ws) {i k:Nat} (hi:i<g.ns.length) (hk:k<g.ns[i].nx.length) :
 Ok Tryz.prog 89 [.ptr (.own (pW H g) 0 0 0 0) 0,i64 i,i64 k] (G++L) (.ret (.tup [i64 (brP g s.S i k),i64 (brW g c.M i)])) (G++L):=by
 have hw:=h.cw L;have hlt:=h.ltw;refine Ql hm Tryz.func89 c89 (by simp[show pW H g<G.length+L.length by omega]) λhcl => ?_;have hx:g.ns[i]? = some g.ns[i]:=Vb hi;have hn:=hW.gd.n;have hg3:g.ns[i].k=1\/g.ns[i].k=2:=by
  rcases QdR hW hi with h|h|h
  . exact .inl h
  . exact .inr h
  . have:=(QeC hW hi h).1;rw[this]at hk; simp at hk
 rcases hg3 with hk1|hk2
 . obtain⟨a1,a2,a3,a4⟩:=Qd0 hW hi hk1;have hm0:=QC h.m L;have hmi:i<c.M.length:=by rw[h.l.M]; exact hi
   have e1:brP g s.S i k=g.ns[i].ws.getD k 0:=by simp[brP,hx,hk1]
   have e2:brW g c.M i=c.M.getD i 0:=by simp[brW,hx,hk1]
   have hkw:k<g.ns[i].ws.length:=by omega
   rw[e1,e2];simp -implicitDefEqProofs[i89,r89,hw,QA,hi,nd0 hi,nd4 hi,Qam,hk1,hkw,hm0,hmi,Qbz hmi];repeat (refine⟨by omega,?_⟩)
   exact Qo
 . obtain⟨a1,a2,a3,a4,a5⟩:=QbE hW hi hk2;have hso:=QC h.so L;have hs:=QC (h.ss _ a1) L;have hl:=h.l.S _ a1;have e1:brP g s.S i k=(s.S g.ns[i].i.toNat).getD k 0:=by simp[brP,hx,hk2]
   have e2:brW g c.M i=65536:=by simp[brW,hx,hk2]
   have hks:k<(s.S g.ns[i].i.toNat).length:=by omega
   rw[e1,e2];simp -implicitDefEqProofs[i89,r89,hw,QA,hi,nd0 hi,nd2 hi,Qam,hk2,hso,Qdc a1,a1,hs,hks,Qbz hks,a3,hk];repeat (refine⟨by omega,?_⟩)
   exact Qo
end
def QT (g:Gm) (S:Nat->List Int) (V nx:List Int) (i q:Nat):Nat->Int
 |0=>0
 |k+1=>IntKind.i64.wrap (QT g S V nx i q k+IntKind.i64.wrap (V.getD ((nx.getD k 0).toNat*4+q) 0*brP g S i k))
def QbD (g:Gm) (M:List Int) (S:Nat->List Int) (V:List Int) (i q:Nat):Int:=match g.ns[i]? with
 |none=>0
 |some x=>if x.k=3 then IntKind.i64.wrap (x.ps.getD q 0*1024)else IntKind.i64.wrap ((QT g S V x.nx i q x.nx.length).tdiv (brW g M i))
def plF (g:Gm) (f:Nat->Int):Nat->Int:=λq=>if(q:Int)<g.pl then f q else 0
def Qt (q:Nat) (a b:Nat->Int):Nat->Int:=λx=>if x<q then a x else b x
theorem QcS (a b:Nat->Int):Qt 0 a b=b:=by funext x; simp[Qt]
theorem Qdg (q:Nat) (a b:Nat->Int):put (Qt q a b) q (a q)=Qt (q+1) a b:=by
 funext x;unfold put Qt;by_cases h1:x=q
 . subst h1; simp
 . rw[Wa h1];by_cases h2:x<q
   . rw[Wb h2,Wb (by omega)]
   . rw[Wa h2,Wa (by omega)]
theorem Qfk (q:Nat) (a b:Nat->Int):Qt q a b q=b q:=by simp[Qt]
theorem Qlu {g:Gm} {n:Nat} (h:(n:Int)=g.pl) (a b:Nat->Int):Qt n (plF g a) (plF g b)=plF g a:=by
 funext x;unfold Qt plF;by_cases h1:x<n
 . rw[Wb h1]
 . rw[Wa h1,Wa (by omega),Wa (by omega)]
def Qy (V:List Int) (i:Nat) (f:Nat->Int):List Int:=V.take (i*4)++(Qe 4 f++V.drop (i*4+4))
theorem Qbo {V:List Int} {i n:Nat} (hV:V.length=4*n) (hi:i<n) (f:Nat->Int):(Qy V i f).length=4*n:=by
 simp[Qy]; omega
theorem Qgo {G:Ws} (L:Ws) (f:Nat->Int):Qf (G++⟨Qa (Qe 4 f),105,0,true⟩::L) G.length 0=Qa (Qe 4 f):=by
 rw[Qf8]; exact Qak (o:=⟨Qa (Qe 4 f),105,0,true⟩) rfl rfl
section
variable {g:Gm} {H G:Ws} {c:TC} {s:TS}
set_option maxRecDepth 10000 in
theorem Qtv (hW:Wg g) (h:TW g H c s G) {i k ch:Nat} {nx:List Int} (hc:ch<g.ns.length) (hnx:nx.getD k 0=ch) {x1 x12 x53 x54:SV} {N:Nat} {K:Wr}
 (hexit:∀ env,env.get 0=.ptr (.own (pW H g) 0 0 0 0) 0->env.get 1=x1->env.get 5=.ptr (.own G.length 0 0 0 0) 0->env.get 12=x12->env.get 53=x53->env.get 54=x54->env.get 55=i64 k ->
  K (.exit 4) env (G++[⟨Qa (Qe 4 (plF g λq=>QT g s.S s.V nx i q (k+1))),105,0,true⟩])) :
 ∀ (m q:Nat) (env:Env),((q+m:Nat):Int)=g.pl->env.get 0=.ptr (.own (pW H g) 0 0 0 0) 0->env.get 1=x1->env.get 5=.ptr (.own G.length 0 0 0 0) 0->env.get 10=i64 ch->env.get 11=i64 (brP g s.S i k)->env.get 12=x12 ->
  env.get 53=x53->env.get 54=x54->env.get 55=i64 k->env.get 71=i64 g.pl->env.get 72=i64 q ->
  LI Tryz.prog N Qb Qja env (G++[⟨Qa (Qe 4 (Qt q (plF g λq=>QT g s.S s.V nx i q (k+1)) (plF g λq=>QT g s.S s.V nx i q k))),105,0,true⟩]) K:=by
 intro m
 induction m with
 |zero =>
  intro q env hq h0 h1 h5 h10 h11 h12 h53 h54 h55 h71 h72;refine Qc hm Qja.eq_1 ?_;simp -implicitDefEqProofs[h71,h72,show ¬ (q:Int)<g.pl by omega];rw[Qlu (by omega)];exact hexit _ (by simp[h0]) (by simp[h1]) (by simp[h5]) (by simp[h12]) (by simp[h53]) (by simp[h54]) (by simp[h55])
 |succ m ih =>
  intro q env hq h0 h1 h5 h10 h11 h12 h53 h54 h55 h71 h72;refine Qc hm Qja.eq_1 ?_;have hp4:=hW.gd.p4;have hq4:q<4:=by omega
  have hqp:(q:Int)<g.pl:=by omega
  have hw:=λL=>h.cw L;have hv:=λL=>QC h.v L;have hl:=h.l.V;have hcq:ch*4+q<s.V.length:=by omega
  have hG:=h.len;have e1:QT g s.S s.V nx i q (k+1)=IntKind.i64.wrap (QT g s.S s.V nx i q k+IntKind.i64.wrap (s.V.getD (ch*4+q) 0*brP g s.S i k)):=by simp only[QT,hnx]; simp
  have e2:(plF g λq=>QT g s.S s.V nx i q k) q=QT g s.S s.V nx i q k:=by simp[plF,hqp]
  have e3:(plF g λq=>QT g s.S s.V nx i q (k+1)) q=QT g s.S s.V nx i q (k+1):=by simp[plF,hqp]
  have e4:∀ f:Nat->Int,(Qa (Qe 4 f))[q]?.getD .any=i64 (f q):=λf=>by rw[Qbz (by simpa using hq4),Qb9 hq4]
  have e5:∀ (f:Nat->Int) (y:Int),List.take q (Qa (Qe 4 f))++i64 y::List.drop (q+1) (Qa (Qe 4 f))=Qa (Qe 4 (put f q y)):=λf y=>by rw[Qar (by simpa using hq4),Qco]
  have e6:=Qdg q (plF g λq=>QT g s.S s.V nx i q (k+1)) (plF g λq=>QT g s.S s.V nx i q k);have eV:s.V.getD (ch*4+q) 0=s.V[ch*4+q]:=by simp[hcq]
  rw[e3,e1,eV]at e6;have e7:=Qfk q (plF g λq=>QT g s.S s.V nx i q (k+1)) (plF g λq=>QT g s.S s.V nx i q k);rw[e2]at e7;generalize Qt q (plF g λq=>QT g s.S s.V nx i q (k+1)) (plF g λq=>QT g s.S s.V nx i q k)=f at *;have hov:=λ(f:Nat->Int)=>Qgo (G:=G) [] f;simp -implicitDefEqProofs[h0,h1,h5,h10,h11,h12,h71,h72,hqp,hw,QA,hv,hc,hcq,hq4,hov,e4,e5,e7,Qa2 hq4];repeat (refine⟨by omega,?_⟩)
  rw[e6];refine ih (q+1) _ (by omega) ?_ ?_ ?_ ?_ ?_ ?_ ?_ ?_ ?_ ?_ ?_
  . simp
  . simp
  . simp
  . simp
  . simp
  . simp
  . simp[h53]
  . simp[h54]
  . simp[h55]
  . simp
  . simp[Qw (show q<9223372036854775807 by omega)]
set_option maxRecDepth 10000 in
theorem QsC (hW:Wg g) (h:TW g H c s G) {i:Nat} (hi:i<g.ns.length) {N:Nat} {K:Wr}
 (hexit:∀ env,env.get 0=.ptr (.own (pW H g) 0 0 0 0) 0->env.get 1=i64 i->env.get 5=.ptr (.own G.length 0 0 0 0) 0->env.get 8=i64 (brW g c.M i) ->
  K (.exit 2) env (G++[⟨Qa (Qe 4 (plF g λq=>QT g s.S s.V g.ns[i].nx i q g.ns[i].nx.length)),105,0,true⟩])) :
 ∀ (m k:Nat) (env:Env),k+m=g.ns[i].nx.length->(k≠0->env.get 8=i64 (brW g c.M i))->(m=0->k≠0)->env.get 0=.ptr (.own (pW H g) 0 0 0 0) 0->env.get 1=i64 i->env.get 5=.ptr (.own G.length 0 0 0 0) 0 ->
  env.get 53=.slc (Qa g.ns[i].nx) g.ns[i].nx.length->env.get 54=i64 g.ns[i].nx.length->env.get 55=i64 k ->
  LI Tryz.prog N Qb Qjt env (G++[⟨Qa (Qe 4 (plF g λq=>QT g s.S s.V g.ns[i].nx i q k)),105,0,true⟩]) K:=by
 have hnx60:g.ns[i].nx.length<=60:=Qc7 (hW.gd.e _ (Vf hi));intro m
 induction m with
 |zero =>
  intro k env hk h8 hk0 h0 h1 h5 h53 h54 h55;refine Qc hm Qjt.eq_1 ?_;have e:k=g.ns[i].nx.length:=by omega
  subst e;simp -implicitDefEqProofs[h54,h55];exact hexit _ (by simp[h0]) (by simp[h1]) (by simp[h5]) (by simp[h8 (hk0 rfl)])
 |succ m ih =>
  intro k env hk h8 hk0 h0 h1 h5 h53 h54 h55;refine Qc hm Qjt.eq_1 ?_;have hkl:k<g.ns[i].nx.length:=by omega
  have hch:=(hW.wf.nf i hi).ch _ (Vf hkl);have hw:=λL=>h.cw L;simp -implicitDefEqProofs[h0,h1,h5,h53,h54,h55,hkl];refine⟨by omega,Qh (ok89 hW h _ hi hkl) ?_⟩;simp -implicitDefEqProofs[h0,h1,h5,h53,h54,h55,hw,QA];have hcn:((g.ns[i].nx[k].toNat:Nat):Int)=g.ns[i].nx[k]:=by omega
  have e0:=QcS (plF g λq=>QT g s.S s.V g.ns[i].nx i q (k+1)) (plF g λq=>QT g s.S s.V g.ns[i].nx i q k);rw[<-e0];have hp:=hW.gd.p1;refine Qtv hW h (i:=i) (k:=k) (ch:=g.ns[i].nx[k].toNat) (nx:=g.ns[i].nx) (by omega) (by simp[hkl,hcn]) (x1:=i64 i) (x12:=i64 (brW g c.M i)) (x53:=.slc (Qa g.ns[i].nx) g.ns[i].nx.length) (x54:=i64 g.ns[i].nx.length) (λenv g0 g1 g5 g12 g53 g54 g55 => ?_) g.pl.toNat 0 _ (by omega) (by simp) (by simp) (by simp) (by simp[hcn]) (by simp) (by simp) (by simp) (by simp) (by simp) (by simp) (by simp);simp -implicitDefEqProofs[g0,g1,g5,g12,g53,g54,g55];refine ih (k+1) _ (by omega) (λ_=>by simp) (λ_=>by omega) ?_ ?_ ?_ ?_ ?_ ?_
  . simp[g0]
  . simp[g1]
  . simp[g5]
  . simp[g53]
  . simp[g54]
  . simp[Qw (show k<9223372036854775807 by omega)]
set_option maxRecDepth 10000 in
theorem QrX (hW:Wg g) {d:Int} (hd:d≠0) {f:Nat->Int} {x1:SV} {N:Nat} {K:Wr}
 (hexit:∀ env,env.get 0=.ptr (.own (pW H g) 0 0 0 0) 0->env.get 1=x1->env.get 5=.ptr (.own G.length 0 0 0 0) 0 ->
  K (.exit 6) env (G++[⟨Qa (Qe 4 (plF g λq=>IntKind.i64.wrap ((f q).tdiv d))),105,0,true⟩])) :
 ∀ (m q:Nat) (env:Env),((q+m:Nat):Int)=g.pl->env.get 0=.ptr (.own (pW H g) 0 0 0 0) 0->env.get 1=x1->env.get 5=.ptr (.own G.length 0 0 0 0) 0->env.get 8=i64 d->env.get 98=i64 g.pl->env.get 99=i64 q ->
  LI Tryz.prog N Qb QiV env (G++[⟨Qa (Qe 4 (Qt q (plF g λq=>IntKind.i64.wrap ((f q).tdiv d)) (plF g f))),105,0,true⟩]) K:=by
 have hp4:=hW.gd.p4;intro m
 induction m with
 |zero =>
  intro q env hq h0 h1 h5 h8 h98 h99;refine Qc hm QiV.eq_1 ?_;simp -implicitDefEqProofs[h98,h99,show ¬ (q:Int)<g.pl by omega];rw[Qlu (by omega)];exact hexit _ (by simp[h0]) (by simp[h1]) (by simp[h5])
 |succ m ih =>
  intro q env hq h0 h1 h5 h8 h98 h99;refine Qc hm QiV.eq_1 ?_;have hq4:q<4:=by omega
  have hqp:(q:Int)<g.pl:=by omega
  have e4:∀ f:Nat->Int,(Qa (Qe 4 f))[q]?.getD .any=i64 (f q):=λf=>by rw[Qbz (by simpa using hq4),Qb9 hq4]
  have e5:∀ (f:Nat->Int) (y:Int),List.take q (Qa (Qe 4 f))++i64 y::List.drop (q+1) (Qa (Qe 4 f))=Qa (Qe 4 (put f q y)):=λf y=>by rw[Qar (by simpa using hq4),Qco]
  have e6:=Qdg q (plF g λq=>IntKind.i64.wrap ((f q).tdiv d)) (plF g f);have e3:(plF g λq=>IntKind.i64.wrap ((f q).tdiv d)) q=IntKind.i64.wrap ((f q).tdiv d):=by simp[plF,hqp]
  rw[e3]at e6;have e7:=Qfk q (plF g λq=>IntKind.i64.wrap ((f q).tdiv d)) (plF g f);have e2:(plF g f) q=f q:=by simp[plF,hqp]
  rw[e2]at e7;generalize Qt q (plF g λq=>IntKind.i64.wrap ((f q).tdiv d)) (plF g f)=F at *;have hov:=λ(f:Nat->Int)=>Qgo (G:=G) [] f;simp -implicitDefEqProofs[h0,h1,h5,h8,h98,h99,hqp,hq4,hov,e4,e5,e7,Qa2 hq4,hd];repeat (refine⟨by omega,?_⟩)
  rw[e6];refine ih (q+1) _ (by omega) ?_ ?_ ?_ ?_ ?_ ?_
  . simp[h0]
  . simp[h1]
  . simp
  . simp
  . simp
  . simp[Qw (show q<9223372036854775807 by omega)]
set_option maxRecDepth 10000 in
theorem QsI (hW:Wg g) {ps:List Int} (hps:(ps.length:Int)=g.pl) {x1:SV} {N:Nat} {K:Wr}
 (hexit:∀ env,env.get 0=.ptr (.own (pW H g) 0 0 0 0) 0->env.get 1=x1->env.get 5=.ptr (.own G.length 0 0 0 0) 0 ->
  K (.exit 0) env (G++[⟨Qa (Qe 4 (plF g λq=>IntKind.i64.wrap (ps.getD q 0*1024))),105,0,true⟩])) :
 ∀ (m q:Nat) (env:Env),((q+m:Nat):Int)=g.pl->env.get 0=.ptr (.own (pW H g) 0 0 0 0) 0->env.get 1=x1->env.get 5=.ptr (.own G.length 0 0 0 0) 0->env.get 31=.slc (Qa ps) ps.length->env.get 32=i64 ps.length->env.get 33=i64 q ->
  LI Tryz.prog N Qb Qib env (G++[⟨Qa (Qe 4 (Qt q (plF g λq=>IntKind.i64.wrap (ps.getD q 0*1024)) (plF g λ_=>0))),105,0,true⟩]) K:=by
 have hp4:=hW.gd.p4;intro m
 induction m with
 |zero =>
  intro q env hq h0 h1 h5 h31 h32 h33;refine Qc hm Qib.eq_1 ?_;have e:q=ps.length:=by omega
  subst e;simp -implicitDefEqProofs[h32,h33];rw[Qlu (by omega)];exact hexit _ (by simp[h0]) (by simp[h1]) (by simp[h5])
 |succ m ih =>
  intro q env hq h0 h1 h5 h31 h32 h33;refine Qc hm Qib.eq_1 ?_;have hq4:q<4:=by omega
  have hqp:(q:Int)<g.pl:=by omega
  have hql:q<ps.length:=by omega
  have e5:∀ (f:Nat->Int) (y:Int),List.take q (Qa (Qe 4 f))++i64 y::List.drop (q+1) (Qa (Qe 4 f))=Qa (Qe 4 (put f q y)):=λf y=>by rw[Qar (by simpa using hq4),Qco]
  have e6:=Qdg q (plF g λq=>IntKind.i64.wrap (ps.getD q 0*1024)) (plF g λ_=>0);have e3:(plF g λq=>IntKind.i64.wrap (ps.getD q 0*1024)) q=IntKind.i64.wrap (ps[q]*1024):=by simp[plF,hqp,hql]
  rw[e3]at e6;generalize Qt q (plF g λq=>IntKind.i64.wrap (ps.getD q 0*1024)) (plF g λ_=>0)=F at *;have hov:=λ(f:Nat->Int)=>Qgo (G:=G) [] f;simp -implicitDefEqProofs[h0,h1,h5,h31,h32,h33,hql,hq4,hov,e5];repeat (refine⟨by omega,?_⟩)
  rw[e6];refine ih (q+1) _ (by omega) ?_ ?_ ?_ ?_ ?_ ?_
  . simp[h0]
  . simp[h1]
  . simp
  . simp
  . simp
  . simp[Qw (show q<9223372036854775807 by omega)]
end
structure TC.Ok (g:Gm) (c:TC):Prop where
 m:∀ i (h:i<g.ns.length),g.ns[i].k=1->0<c.M.getD i 0
 f:∀ i,i<g.is.length->0<=c.F.getD i 0/\c.F.getD i 0<g.ns.length
theorem Qnc {g:Gm} {c:TC} (h:c.Ok g) {i:Nat} (hi:i<g.ns.length):brW g c.M i≠0:=by
 have hx:g.ns[i]? = some g.ns[i]:=Vb hi;simp only[brW,hx];split
 . rename_i hk; have:=h.m i hi hk; omega
 . decide
section
variable {g:Gm} {H G:Ws} {c:TC} {s:TS}
theorem TW.cw0 (h:TW g H c s G):Qf G (pW H g) 0=QA g H s++(Qa s.ord++[]):=by have:=h.cw []; rwa [Vr]at this
theorem TW.fin (h:TW g H c s G) {L:Ws}:Cv G.length (.tup []) (G++L) (.tup []) G:=QfQ rfl (Vc _) h.cl rfl
theorem Qu1 (V:List Int) (i:Nat) (f:Nat->Int):List.take (i*4) (Qa V)++(Qa (Qe 4 f)++List.drop (i*4+4) (Qa V))=Qa (Qy V i f):=by simp[Qa,Qy]
theorem QmF (h:TW g H c s G) {i:Nat} (hi:i<g.ns.length) {f:Nat->Int} {L:Ws} :
 Qb7 G.length (λout G'=>out=.ret (.tup [])/\TW g H c { s with V:=Qy s.V i f } G') (.tup []) (G.set (pV H g) ⟨List.take (i*4) (Qa s.V)++(Qa (Qe 4 f)++List.drop (i*4+4) (Qa s.V)),105,1,true⟩++L):=by
 rw[Qu1];have h2:=h.setV (Qbo h.l.V hi f);have h3:=h2.fin (L:=L);rw[VY]at h3;exact⟨_,_,⟨rfl,h2⟩,h3⟩
set_option maxRecDepth 10000 in
theorem ok57 (hW:Wg g) (h:TW g H c s G) (hc:c.Ok g) {i:Nat} (hi:i<g.ns.length) :
 OkP Tryz.prog 57 [.ptr (.own (pW H g) 0 0 0 0) 0,i64 i] G λout G'=>out=.ret (.tup [])/\TW g H c { s with V:=Qy s.V i (plF g (QbD g c.M s.S s.V i)) } G':=by
 have hlt:=h.ltw;have hx:g.ns[i]? = some g.ns[i]:=Vb hi;have hw:=λL=>h.cw L;have hw0:=h.cw0;have hn:=hW.gd.n;have hp:=hW.gd.p1;have hVl:=h.l.V;have hcv:=λL=>QC h.v L;have hsv:=λL f=>Qcj h.v L f;refine Qce hm Tryz.func57 c57 (by simp[hlt]) λhcl => ?_;have hk12:g.ns[i].k≠3->1<=g.ns[i].nx.length:=λh3=>by
  rcases QdR hW hi with h|h|h
  . exact(Qd0 hW hi h).2.1
  . exact(QbE hW hi h).2.2.2.1
  . exact absurd h h3
 by_cases hk:g.ns[i].k≠3
 . have ep:(λq=>IntKind.i64.wrap ((QT g s.S s.V g.ns[i].nx i q g.ns[i].nx.length).tdiv (brW g c.M i)))=QbD g c.M s.S s.V i:=by funext q; simp[QbD,hx,hk]
   simp -implicitDefEqProofs[i57,r57,hw,hw0,QA,hi,nd0 hi,nd3 hi,Qam,hk];repeat (refine⟨by omega,?_⟩)
   have e0:[i64 0,i64 0,i64 0,i64 0]=Qa (Qe 4 (plF g λq=>QT g s.S s.V g.ns[i].nx i q 0)):=by
    simp[QT,plF,Qe,Qa,Zh]
   rw[e0];refine QsC hW h hi (λenv g0 g1 g5 g8 => ?_) g.ns[i].nx.length 0 _ (by omega) (λh=>absurd rfl h) (λh=>by have:=hk12 hk; omega) (by simp) (by simp) (by simp) (by simp) (by simp) (by simp);simp -implicitDefEqProofs[g0,g1,g5,g8,hw,QA];have e1:=QcS (plF g λq=>IntKind.i64.wrap ((QT g s.S s.V g.ns[i].nx i q g.ns[i].nx.length).tdiv (brW g c.M i))) (plF g λq=>QT g s.S s.V g.ns[i].nx i q g.ns[i].nx.length);rw[<-e1];refine QrX (H:=H) hW (Qnc hc hi) (x1:=i64 i) (λenv g0 g1 g5 => ?_) g.pl.toNat 0 _ (by omega) (by simp[g0]) (by simp[g1]) (by simp[g5]) (by simp[g8]) (by simp) (by simp);rw[ep];simp -implicitDefEqProofs[g0,g1,g5,hw,QA,Qgo,hcv,hsv,hi];exact⟨by omega,QmF h hi⟩
 . have hk:g.ns[i].k=3:=by omega
   obtain⟨a1,a2,a3⟩:=QeC hW hi hk;have ep:(λq=>IntKind.i64.wrap (g.ns[i].ps.getD q 0*1024))=QbD g c.M s.S s.V i:=by funext q; simp[QbD,hx,hk]
   simp -implicitDefEqProofs[i57,r57,hw,hw0,QA,hi,nd0 hi,nd5 hi,Qam,hk];repeat (refine⟨by omega,?_⟩)
   have e0:[i64 0,i64 0,i64 0,i64 0]=Qa (Qe 4 (Qt 0 (plF g λq=>IntKind.i64.wrap (g.ns[i].ps.getD q 0*1024)) (plF g λ_=>0))):=by
    rw[QcS]; simp[plF,Qe,Qa,Zh]
   rw[e0];refine QsI (H:=H) hW a2 (x1:=i64 i) (λenv g0 g1 g5 => ?_) g.pl.toNat 0 _ (by omega) (by simp) (by simp) (by simp) (by simp) (by simp) (by simp);rw[ep];simp -implicitDefEqProofs[g0,g1,g5,hw,QA,Qgo,hcv,hsv,hi];exact⟨by omega,QmF h hi⟩
end
end Go.Proofs.YtogjmpkehjfecaaGreatDoor.Rc
namespace Go.Ab.Lm
theorem QkN:∀ {l:List Nat} {j:Nat} (h:j<l.length) (x:Nat),val (l.set j x)+l[j]*B ^ j=val l+x*B ^ j
 |[],j,h,x=>by simp at h
 |y::r,0,h,x=>by simp[val]; omega
 |y::r,j+1,h,x=>by
  have ih:=QkN (l:=r) (j:=j) (by simpa using h) x;simp only[Yt,List.getElem_cons_succ,val,V3];have h1:B*(val (r.set j x)+r[j]'(by simpa using h)*B ^ j)=B*(val r+x*B ^ j):=by rw[ih]
  rw[Ys,Ys]at h1;have e1:B*(r[j]'(by simpa using h)*B ^ j)=r[j]'(by simpa using h)*(B ^ j*B):=by rw[VB,Yg]
  have e2:B*(x*B ^ j)=x*(B ^ j*B):=by rw[VB,Yg]
  rw[e1,e2]at h1;omega
theorem Dig.set {l:List Nat} {j x:Nat} (h:Dig l) (hx:x<B):Dig (l.set j x):=λy hy=>by
 rcases List.mem_or_eq_of_mem_set hy with h1|h1
 . exact h y h1
 . rw[h1]; exact hx
theorem Qpm:∀ n:Nat,val (List.replicate n 0)=0
 |0=>rfl
 |n+1=>by rw[YO,val,Qpm n,ZM]
theorem QoP {l:List Nat} {k:Nat} (h:k<l.length):val (l.take (k+1))=val (l.take k)+l[k]*B ^ k:=by
 rw[YK h,QhT];have:(l.take k).length=k:=by simp; omega
 rw[this];simp[val,VB]
end Go.Ab.Lm
namespace Go.Proofs.YtogjmpkehjfecaaGreatDoor.Rc
open Go.Ab Go.Ab.Lm
section
variable {H:Ws} {a b:Nat}
theorem Qg2 {o:List Nat} {j:Nat} (h:j<o.length) (x:Nat):List.take j (us o)++.val (.int .u32 (x:Int))::List.drop (j+1) (us o)=us (o.set j x):=by
 unfold us;rw[List.map_set,YA,Wb (by simpa using h)];rfl
set_option maxRecDepth 10000 in
theorem Qvg {x y o0:List Nat} {i n:Nat} (hx:Dig x) (hy:Dig y) (hi:i<x.length) (hn:n=x.length+y.length) (hnb:n<1000000) {N:Nat} {K:Wr}
 (hexit:∀ env o c,o.length=n->Dig o->c<B->val o+c*B ^ (i+y.length)=val o0+x[i]*val y*B ^ i->o.drop (i+y.length)=o0.drop (i+y.length) ->
  env.get 0=.slc (us x) x.length->env.get 1=.slc (us y) y.length->env.get 5=.own H.length 0 n 1 0->env.get 6=i64 i->env.get 7=.val (.int .u64 (c:Nat))->K (.exit 2) env (H++[⟨us o,114,0,true⟩])) :
 ∀ (m k:Nat) (o:List Nat) (c:Nat) (env:Env),k+m=y.length->o.length=n->Dig o->c<B->val o+c*B ^ (i+k)=val o0+x[i]*val (y.take k)*B ^ i->o.drop (i+k)=o0.drop (i+k) ->
  env.get 0=.slc (us x) x.length->env.get 1=.slc (us y) y.length->env.get 5=.own H.length 0 n 1 0->env.get 6=i64 i->env.get 7=.val (.int .u64 (c:Nat))->env.get 8=i64 k ->
  LI Tryz.prog N Qb Qhc env (H++[⟨us o,114,0,true⟩]) K:=by
 have hB:B=1000000000:=rfl;intro m
 induction m with
 |zero =>
  intro k o c env hk ho hd hc hv ht h0 h1 h5 h6 h7 h8;refine Qc hm' Qhc.eq_1 ?_;have e:k=y.length:=by omega
  subst e;rw[Yq]at hv;simp -implicitDefEqProofs[h0,h1,h5,h6,h7,h8];exact hexit _ o c ho hd hc hv ht (by simp[h0]) (by simp[h1]) (by simp[h5]) (by simp[h6]) (by simp[h7])
 |succ m ih =>
  intro k o c env hk ho hd hc hv ht h0 h1 h5 h6 h7 h8;refine Qc hm' Qhc.eq_1 ?_;have hky:k<y.length:=by omega
  have hik:i+k<o.length:=by omega
  have dx:=hx _ (Vf hi);have dy:=hy _ (Vf hky);have dO:=hd _ (Vf hik);have w1:IntKind.i64.wrap ((k:Int)+1)=((k+1:Nat):Int):=QaF (by omega);have wi:IntKind.i64.wrap ((i:Int)+k)=((i+k:Nat):Int):=by rw[Qp (by omega) (by omega)]; omega
  have gx:(us x)[i]?.getD .any=.val (.int .u32 x[i]):=QbM hi;have gx':∀ h,(us x)[i]'h=.val (.int .u32 x[i]):=λh=>Qcv hi h;have gy:(us y)[k]?.getD .any=.val (.int .u32 y[k]):=QbM hky;have gy':∀ h,(us y)[k]'h=.val (.int .u32 y[k]):=λh=>Qcv hky h;obtain⟨j,hj⟩:∃ j,j=i+k:=⟨_,rfl⟩;have hjo:j<o.length:=by omega
  have gO:(us o)[j]?.getD .any=.val (.int .u32 o[j]):=QbM hjo;have gO':∀ h,(us o)[j]'h=.val (.int .u32 o[j]):=λh=>Qcv hjo h;obtain⟨pm,hpm⟩:∃ pm,pm=x[i]*y[k]:=⟨_,rfl⟩;have hpb:pm<=999999999*999999999:=by rw[hpm]; exact Nat.mul_le_mul (by omega) (by omega)
  have dO':o[j]<B:=hd _ (Vf hjo);obtain⟨s1,hs1⟩:∃ s1,s1=c+o[j]:=⟨_,rfl⟩;obtain⟨t,hts⟩:∃ t,t=s1+pm:=⟨_,rfl⟩;have wo:=Q9 (n:=o[j]) (by omega);have wx:=Q9 (n:=x[i]) (by omega);have wy:=Q9 (n:=y[k]) (by omega);have wm:IntKind.u64.wrap (((x[i]:Nat):Int)*((y[k]:Nat):Int))=(pm:Int):=by
   rw[show((x[i]:Nat):Int)*((y[k]:Nat):Int)=((pm:Nat):Int)by rw[hpm]; simp,Q9 (by omega)]
  have wa:IntKind.u64.wrap ((c:Int)+((o[j]:Nat):Int))=(s1:Int):=by rw[show(c:Int)+((o[j]:Nat):Int)=((s1:Nat):Int)by omega,Q9 (by omega)]
  have wt:IntKind.u64.wrap ((s1:Int)+(pm:Int))=(t:Int):=by rw[show(s1:Int)+(pm:Int)=((t:Nat):Int)by omega,Q9 (by omega)]
  have tm:∀ t:Nat,((t:Int)).tmod 1000000000=((t % 1000000000:Nat):Int):=λt=>rfl;have td:∀ t:Nat,((t:Int)).tdiv 1000000000=((t / 1000000000:Nat):Int):=λt=>rfl;obtain⟨q,hq⟩:∃ q,q=t / 1000000000:=⟨_,rfl⟩;obtain⟨r,hr⟩:∃ r,r=t % 1000000000:=⟨_,rfl⟩;have eq0:((t / 1000000000:Nat):Int)=(q:Int):=by rw[hq]
  have er:((t % 1000000000:Nat):Int)=(r:Int):=by rw[hr]
  have hqb:q<B:=by rw[hq,hB]; omega
  have hrb:r<B:=by rw[hr,hB]; omega
  have wq:=Q9 (n:=q) (by omega);have wr:=Qcl (n:=r) (by omega);have hset:=Qg2 hjo r;have hvs:=QkN hjo r;have hln:(us o).length=n:=by rw[Qab,ho]
  have hih:=ih (k+1) (o.set j r) q;rw[<-hj]at wi;simp -implicitDefEqProofs[h0,h1,h5,h6,h7,h8,hky,Qab,ho,hln,gx,gx',gy,gy',gO,gO',wi,wo,wx,wy,wm,wa,wt,tm,td,eq0,er,wq,wr,hset,show(i:Int)<x.length by omega,show(k:Int)<y.length by omega];repeat (refine⟨by omega,?_⟩)
  refine⟨rfl,?_⟩;repeat (refine⟨by omega,?_⟩)
  refine hih _ (by omega) (by rw[VY]; exact ho) (hd.set hrb) hqb ?_ ?_ ?_ ?_ ?_ ?_ ?_ ?_
  . have hP:B ^ (i+(k+1))=B ^ j*B:=by rw[<-Yn,<- hj,V3]
    have hP2:B ^ k*B ^ i=B ^ j:=by rw[<-Nat.pow_add,hj,Nat.add_comm]
    rw[<-hj]at hv;rw[hP,QoP hky];have h4:x[i]*(val (y.take k)+y[k]*B ^ k)*B ^ i=x[i]*val (y.take k)*B ^ i+pm*B ^ j:=by
     rw[Ys,V2,<- Yg,Yg (x[i]*y[k]),hP2,hpm]
    rw[h4];generalize B ^ j=P at *;have h1:t=q*B+r:=by rw[hq,hr,hB]; omega
    have h2:t*P=q*B*P+r*P:=by rw[h1,V2]
    have h3:t*P=c*P+o[j]*P+pm*P:=by rw[hts,hs1,V2,V2]
    have h5:q*(P*B)=q*B*P:=by rw[VB P B,Yg]
    rw[h5];omega
  . rw[<-Yn,<- hj];apply Vv;intro u;have h1:=Wn (λl=>l[u+1]?) ht;simp only[Vs]at h1;rw[Vs,Vs,Vd (by omega)];rw[hj,show i+k+1+u=i+k+(u+1)by omega];exact h1
  . simp
  . simp
  . simp
  . simp
  . simp
  . simp[w1]
set_option maxRecDepth 10000 in
theorem Qs2 {x y:List Nat} {n:Nat} (hx:Dig x) (hy:Dig y) (hn:n=x.length+y.length) (hnb:n<1000000) {N:Nat} {K:Wr}
 (hexit:∀ env o,o.length=n->Dig o->val o=val x*val y->env.get 5=.own H.length 0 n 1 0->K (.exit 0) env (H++[⟨us o,114,0,true⟩])) :
 ∀ (m i:Nat) (o:List Nat) (env:Env),i+m=x.length->o.length=n->Dig o->val o=val (x.take i)*val y->o.drop (i+y.length)=List.replicate (x.length-i) 0 ->
  env.get 0=.slc (us x) x.length->env.get 1=.slc (us y) y.length->env.get 5=.own H.length 0 n 1 0->env.get 6=i64 i ->
  LI Tryz.prog N Qb Qgy env (H++[⟨us o,114,0,true⟩]) K:=by
 have hB:B=1000000000:=rfl;intro m
 induction m with
 |zero =>
  intro i o env hi ho hd hv ht h0 h1 h5 h6;refine Qc hm' Qgy.eq_1 ?_;have e:i=x.length:=by omega
  subst e;rw[Yq]at hv;simp -implicitDefEqProofs[h0,h1,h5,h6];exact hexit _ o ho hd hv (by simp[h5])
 |succ m ih =>
  intro i o env hi ho hd hv ht h0 h1 h5 h6;refine Qc hm' Qgy.eq_1 ?_;have hix:i<x.length:=by omega
  have w1:IntKind.i64.wrap ((i:Int)+1)=((i+1:Nat):Int):=QaF (by omega);simp -implicitDefEqProofs[h0,h1,h5,h6,hix];refine Qvg (o0:=o) hx hy hix hn hnb (λenv o2 c ho2 hd2 hc hv2 ht2 k0 k1 k5 k6 k7 => ?_) y.length 0 o 0 _ (by omega) ho hd (by decide) (by simp[val]) rfl ?_ ?_ ?_ ?_ ?_ ?_
  . have wi:IntKind.i64.wrap ((i:Int)+y.length)=((i+y.length:Nat):Int):=by rw[Qp (by omega) (by omega)]; omega
    have wc:=Qcl (n:=c) (by omega);obtain⟨j,hj⟩:∃ j,j=i+y.length:=⟨_,rfl⟩;rw[<-hj]at wi hv2 ht2 ht;have hjo:j<o2.length:=by omega
    have hset:=Qg2 hjo c;have hvs:=QkN hjo c;have hln:(us o2).length=n:=by rw[Qab,ho2]
    have hz:o2[j]=0:=by
     have h1:=Wn (λl=>l[0]?) (ht2.trans ht);simp only[Vs,Yc]at h1;rw[Vb hjo]at h1;simpa[show 0<x.length-i by omega]using h1
    rw[hz,Yb,Yc]at hvs;simp -implicitDefEqProofs[k0,k1,k5,k6,k7,wi,wc,hset,hln];repeat (refine⟨by omega,?_⟩)
    refine⟨rfl,?_⟩;repeat (refine⟨by omega,?_⟩)
    refine ih (i+1) (o2.set j c) _ (by omega) (by rw[VY]; exact ho2) (hd2.set hc) ?_ ?_ ?_ ?_ ?_ ?_
    . rw[hvs,hv2,hv,QoP hix,V2];congr 1;rw[Yg,Yg,VB (val y)]
    . rw[show i+1+y.length=j+1 by omega];apply Vv;intro u;have h1:=Wn (λl=>l[u+1]?) (ht2.trans ht);simp only[Vs]at h1;rw[Vs,Vd (by omega),show j+1+u=j+(u+1)by omega,h1,Z7,Z7];by_cases hu:u+1<x.length-i
      . rw[Wb hu,Wb (by omega)]
      . rw[Wa hu,Wa (by omega)]
    . simp[k0]
    . simp[k1]
    . simp[k5]
    . simp[w1]
  . simp[h0]
  . simp
  . simp[h5]
  . simp
  . simp
  . simp
theorem Qgc (hl:(lim a).length+(lim b).length<1000000):Ok Tryz.prog 103 [nS a,nS b] H (.ret (nS (a*b))) H:=by
 refine Ql hm' Tryz.func103 c103 (by simp[nS,QbW]) λhcl => ?_;have wl:IntKind.i64.wrap (((lim a).length:Int)+(lim b).length)=(((lim a).length+(lim b).length:Nat):Int):=by rw[Qp (by omega) (by omega)]; omega
 obtain⟨n,hn⟩:∃ n,n=(lim a).length+(lim b).length:=⟨_,rfl⟩;rw[<-hn]at wl;simp -implicitDefEqProofs[i103,r103,nS,wl];repeat (refine⟨by omega,?_⟩)
 have e0:List.replicate n (SV.val (.int .u32 0))=us (List.replicate n 0):=by simp[us,u32]
 rw[e0];refine Qs2 (H:=H) (Qbn a) (Qbn b) hn (by omega) (λenv o ho hd hv h5 => ?_) (lim a).length 0 (List.replicate n 0) _ (by omega) (by simp) (λz hz=>by simp[Zz]at hz; rw[hz.2]; decide) (by rw[Qpm]; simp[val]) ?_ ?_ ?_ ?_ ?_
 . rw[Qcy,Qcy]at hv;have ht:=Qev hd;rw[hv]at ht;simp -implicitDefEqProofs[h5];have h69:=Qln (X:=H++[⟨us o,114,0,true⟩]) (l:=o) (k:=H.length) (v:=0) (by simp) (by omega);rw[ho]at h69;refine QbL h69 ?_;rintro o' G' ⟨rfl,hG⟩;rw[hG];simp -implicitDefEqProofs;have hf:=Qm1 (n:=H.length) (L:=[⟨us o,114,0,true⟩]) (z:=o) (k:=0) (d:=0) (v:=0) (by simp);rw[ht,Yc]at hf;rw[ht];exact Qi 2 hcl rfl hf
 . simp[hn]
 . simp
 . simp
 . simp
 . simp
end
end Go.Proofs.YtogjmpkehjfecaaGreatDoor.Rc
