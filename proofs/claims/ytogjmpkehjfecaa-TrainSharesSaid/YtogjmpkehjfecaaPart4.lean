/- Steps of the proof. -/
import Derived.Test.YtogjmpkehjfecaaPart3
import Derived.Test.YtogjmpkehjfecaaCore5
set_option linter.all false
namespace Go.Proofs.Ytogjmpkehjfecaa.Rc
open Go.Ab Go.Ab.Shr
def QeZ (own share:Int):Int:=IntKind.i64.wrap ((IntKind.i64.wrap (own*share)).tdiv 65536)
def QaG (own:Int) (P S:List Int) (a:Nat):Int:=IntKind.i64.wrap (P.getD a 0+QeZ own (S.getD a 0))
def QbA (g:Gm) (F O:List Int) (i:Nat):Int:=O.getD ((F.getD i 0).toNat*4+(g.is.getD i (0,0)).1.toNat) 0
def Qbg (g:Gm) (F O:List Int) (S P:Nat->List Int):Nat->Nat->List Int
 |0=>P
 |i+1=>upA (Qbg g F O S P i) i (Qf (g.acts i) (QaG (QbA g F O i) (P i) (S i)))
theorem Qor (g:Gm) (F O:List Int) (S P:Nat->List Int) (j:Nat):∀ i,Qbg g F O S P i j=if j<i then Qf (g.acts j) (QaG (QbA g F O j) (P j) (S j))else P j
 |0=>by simp[Qbg]
 |i+1=>by
  simp only[Qbg,upA];by_cases e:j=i
  . subst e; simp
  . rw[Wa e,Qor g F O S P j i];by_cases h:j<i
    . rw[Wb h,Wb (by omega)]
    . rw[Wa h,Wa (by omega)]
theorem QqY {g:Gm} (hW:Wg g) {i:Nat} (hi:i<g.is.length):0<=g.is[i].1/\g.is[i].1<g.pl:=by
 obtain⟨t,ht,_,h2,h3,_⟩:=fn_of hW hi;have h4:=hW.ty (Vg ht) h2;obtain⟨p1,p2⟩:=QeH hW ht h2;rw[h3,Vb hi]at h4
 cases hh:g.is[i]with
 |mk a b=>rw[hh]at h4; cases h4; exact⟨p1,p2⟩
section
variable {g:Gm} {H G:Wu} {c:TC} {s:TS}
set_option maxRecDepth 10000 in
theorem QrU (hW:Wg g) {i:Nat} (hi:i<g.is.length) {own:Int} {P:Nat->List Int} (hP:(P i).length=g.acts i) {x106 x107:SV} {N:Nat} {K:Wt}
 (hexit:∀ env G',TW g H c { s with P:=upA P i (Qf (g.acts i) (QaG own (P i) (s.S i))) } G'->env.get 0=.ptr (.own (pW H g) 0 0 0 0) 0->env.get 106=x106->env.get 107=x107->env.get 108=i64 i->K (.exit 12) env G') :
 ∀ (m a:Nat) (env:Env) (G:Wu),a+m=g.acts i->TW g H c { s with P:=upA P i (Qf (g.acts i) (Qo a (QaG own (P i) (s.S i)) λa=>(P i).getD a 0)) } G ->
  env.get 0=.ptr (.own (pW H g) 0 0 0 0) 0->env.get 8=i64 i->env.get 10=i64 own->env.get 106=x106->env.get 107=x107->env.get 108=i64 i->env.get 136=.own (pS H g i) 0 (g.acts i) 1 0->env.get 137=i64 (g.acts i)->env.get 138=i64 a ->
  LI Try.prog N Qh Qgo env G K:=by
 have hac:=Qby hW hi;intro m
 induction m with
 |zero =>
  intro a env G ha h h0 h8 h10 h106 h107 h108 h136 h137 h138;refine Qc hm Qgo.eq_1 ?_;have e:a=g.acts i:=by omega
  subst e;simp -implicitDefEqProofs[h137,h138];have e2:Qf (g.acts i) (Qo (g.acts i) (QaG own (P i) (s.S i)) λa=>(P i).getD a 0)=Qf (g.acts i) (QaG own (P i) (s.S i)):=by
   unfold Qf;apply VA;intro x hx;simp only[VI]at hx;simp only[Qo,Wb hx]
  rw[e2]at h;exact hexit _ _ h (by simp[h0]) (by simp[h106]) (by simp[h107]) (by simp[h108])
 |succ m ih =>
  intro a env G ha h h0 h8 h10 h106 h107 h108 h136 h137 h138;refine Qc hm Qgo.eq_1 ?_;have hal:a<g.acts i:=by omega
  have hw:=h.cw0;have hS:=oc0 (h.ss _ hi);have hPr:=oc0 (h.p _ hi);have hpo:=oc0 h.po;have hst:=QU (h.p _ hi);have lS:=h.l.S _ hi;have eP:=QcO a (QaG own (P i) (s.S i)) λa=>(P i).getD a 0;have eM:=QfF a (QaG own (P i) (s.S i)) λa=>(P i).getD a 0;have hP2:=h.setP hi (X:=Qf (g.acts i) (Qo (a+1) (QaG own (P i) (s.S i)) λa=>(P i).getD a 0)) (by simp);have w1:=QR (show a<9223372036854775807 by omega);simp only[Qmu]at hPr hst;simp only[QoO]at hP2;simp only at lS hS;have bS:a<(s.S i).length:=by omega
  have ih2:=λ(env:Env) (G:Wu)=>ih (a+1) env G (by omega);have eD:QaG own (P i) (s.S i) a=IntKind.i64.wrap ((P i).getD a 0+IntKind.i64.wrap ((IntKind.i64.wrap (own*(s.S i)[a])).tdiv 65536)):=by simp[QaG,QeZ,bS]
  rw[<-eP]at hP2 ih2;rw[eD]at hP2 ih2;generalize Qo a (QaG own (P i) (s.S i)) (λa=>(P i).getD a 0)=F at *;have e3:∀ y:Int,List.take a (Qa (Qf (g.acts i) F))++i64 y::List.drop (a+1) (Qa (Qf (g.acts i) F))=Qa (Qf (g.acts i) (put F a y)):=λy=>by rw[Qa1 (by simpa using hal),QdL]
  have e4:(Qa (Qf (g.acts i) F))[a]?.getD .any=i64 (F a):=by rw[Qdc (by simpa using hal),Qcr hal]
  rw[<-eM]at hP2 ih2;simp -implicitDefEqProofs[h0,h8,h10,h106,h107,h108,h136,h137,h138,hal,hw,hS,hPr,hpo,Qv,QcU hi,hi,bS,hst,e3,e4,QcP hal];repeat (refine⟨by omega,?_⟩)
  refine ih2 _ _ hP2 ?_ ?_ ?_ ?_ ?_ ?_ ?_ ?_ ?_
  . simp
  . simp
  . simp
  . simp[h106]
  . simp[h107]
  . simp[h108]
  . simp
  . simp
  . simp[w1]
set_option maxRecDepth 10000 in
theorem QoY (hW:Wg g) (hc:c.Ok g) {P:Nat->List Int} (hP:∀ i,i<g.is.length->(P i).length=g.acts i) {N:Nat} {K:Wt}
 (hexit:∀ env G,env.get 0=.ptr (.own (pW H g) 0 0 0 0) 0->TW g H c { s with P:=Qbg g c.F s.O s.S P g.is.length } G->K (.exit 10) env G) :
 ∀ (m i:Nat) (env:Env) (G:Wu),i+m=g.is.length->TW g H c { s with P:=Qbg g c.F s.O s.S P i } G->env.get 0=.ptr (.own (pW H g) 0 0 0 0) 0->env.get 106=.own (pSo H g) 0 g.is.length 1 0->env.get 107=i64 g.is.length->env.get 108=i64 i ->
  LI Try.prog N Qh Qg7 env G K:=by
 have hil:=hW.gd.i;have hn:=hW.gd.n;have hp4:=hW.gd.p4;intro m
 induction m with
 |zero =>
  intro i env G hi h h0 h106 h107 h108;refine Qc hm Qg7.eq_1 ?_;have e:i=g.is.length:=by omega
  subst e;simp -implicitDefEqProofs[h107,h108];exact hexit _ _ (by simp[h0]) h
 |succ m ih =>
  intro i env G hi h h0 h106 h107 h108;refine Qc hm Qg7.eq_1 ?_;have hii:i<g.is.length:=by omega
  have hac:=Qby hW hii;have hw:=h.cw0;have hso:=oc0 h.so;have ho:=oc0 h.o;have hf:=oc0 h.f;have lO:=h.l.O;have lF:=h.l.F;obtain⟨f1,f2⟩:=hc.f i hii;obtain⟨q1,q2⟩:=QqY hW hii;have bF:i<c.F.length:=by omega
  have gF:c.F.getD i 0=c.F[i]:=by simp[bF]
  rw[gF]at f1 f2;simp only at lO ho;have bO:c.F[i].toNat*4+g.is[i].1.toNat<s.O.length:=by omega
  have eO:QbA g c.F s.O i=s.O[c.F[i].toNat*4+g.is[i].1.toNat]:=by
   have e1:g.is.getD i (0,0)=g.is[i]:=by simp[hii]
   unfold QbA;rw[gF,e1];simp[bO]
  have w1:=QR (show i<9223372036854775807 by omega);have hPi:Qbg g c.F s.O s.S P i i=P i:=by rw[Qor]; simp
  have hst:TW g H c { s with P:=upA (Qbg g c.F s.O s.S P i) i (Qf (g.acts i) (Qo 0 (QaG (QbA g c.F s.O i) (Qbg g c.F s.O s.S P i i) (s.S i)) λa=>(Qbg g c.F s.O s.S P i i).getD a 0)) } G:=by
   rw[QcA,hPi,<- hP i hii,Qnp,<- hPi,Qn4]; exact h
  simp -implicitDefEqProofs[h0,h106,h107,h108,hii,hw,hso,ho,hf,Qv,QcU hii,QbH hii,Qge hii,Qfq hii,bF,bO];repeat (refine⟨by omega,?_⟩)
  rw[<-eO];refine QrU (s:=s) (P:=Qbg g c.F s.O s.S P i) hW hii (by rw[hPi]; exact hP i hii) (x106:=.own (pSo H g) 0 g.is.length 1 0) (x107:=i64 g.is.length) (λenv G' hG' g0 g106 g107 g108 => ?_) (g.acts i) 0 _ _ (by omega) hst (by simp) (by simp) (by simp) (by simp) (by simp) (by simp) (by simp) (by simp) (by simp);simp -implicitDefEqProofs[g0,g106,g107,g108];rw[hPi]at hG';refine ih (i+1) _ _ (by omega) hG' ?_ ?_ ?_ ?_
  . simp[g0]
  . simp[g106]
  . simp[g107]
  . simp[w1]
theorem TW.setN (h:TW g H c s G) (n:Int):TW g H c { s with rnd:=n } (G.set (pW H g) (QbK g H { s with rnd:=n })):=by
 have hlt:=h.ltw;have ne:∀ {k:Nat} {x:Option AO},pW H g≠k->G[k]? = x->(G.set (pW H g) (QbK g H { s with rnd:=n }))[k]? = x:=λhn hx=>by rw[Ve hn]; exact hx
 constructor;case l=>exact⟨h.l.A,h.l.P,h.l.S,h.l.V,h.l.R,h.l.O,h.l.ord,h.l.M,h.l.F⟩
 case len=>simpa using h.len
 case cl =>
  refine Qcq h.cl _ ?_;have:=h.len;simp only[QbK,oI,SV.underL_append,Qv,Va];unfold pE at this;unfold pM pF pAo pPo pSo pV pR pO;refine⟨?_,by simp⟩;simp[Qbe,Qbj];omega
 case w=>rw[Vh hlt]
 case ss=>intro i hi; exact ne (by unfold pW pS; omega) (h.ss i hi)
 case a=>intro i hi; exact ne (by unfold pW pA; omega) (h.a i hi)
 case low=>intro i hi; exact ne (by unfold pW; omega) (h.low i hi)
 case p=>intro i hi; exact ne (by unfold pW pP; omega) (h.p i hi)
 case m=>exact ne (by unfold pW pM; omega) h.m
 case f=>exact ne (by unfold pW pF; omega) h.f
 case ao=>exact ne (by unfold pW pAo; omega) h.ao
 case po=>exact ne (by unfold pW pPo; omega) h.po
 case so=>exact ne (by unfold pW pSo; omega) h.so
 case v=>exact ne (by unfold pW pV; omega) h.v
 case r=>exact ne (by unfold pW pR; omega) h.r
 case o=>exact ne (by unfold pW pO; omega) h.o
def Qai (g:Gm) (c:TC) (s:TS):TS :=
 let s1:=shL s g.is.length
 let s2:TS:={ s1 with V:=Qb4 g c.M s1.S s1.V g.ns.length }
 let s3:TS:={ s2 with R:=Qu s2.R 0 (Qo g.pl.toNat (λ_=>1073741824) (Qz s2.R 0)),O:=Qu s2.O 0 (Qo g.pl.toNat (λ_=>1073741824) (Qz s2.O 0)) }
 let s4:TS:={ s3 with R:=Qa0 g false s3.S c.M s3.R g.ns.length,O:=Qa0 g true s3.S c.M s3.O g.ns.length }
 let s5:TS:={ s4 with A:=Qay g s4.V s4.R s4.A g.ns.length }
 let s6:TS:={ s5 with P:=Qbg g c.F s5.O s5.S s5.P g.is.length }
 { s6 with rnd:=IntKind.i64.wrap (s6.rnd+1) }
set_option maxRecDepth 10000 in
theorem ok30 (hW:Wg g) (hc:c.Ok g) (h:TW g H c s G) (hk:QaE g s) :
 OkP Try.prog 30 [.ptr (.own (pW H g) 0 0 0 0) 0] G λout G'=>TW g H c (Qai g c s) G'/\((QaE g (Qai g c s)/\out=.ret (.tup []))\/(¬ QaE g (Qai g c s)/\out=.pan QdI)):=by
 have hlt:=h.ltw;have hw:=h.cw0;have hn:=hW.gd.n;have hn1:=hW.gd.n1;have hp1:=hW.gd.p1;refine QaU hm Try.func30 c30 (by simp[hlt]) λhcl => ?_;unfold Qai;simp -implicitDefEqProofs[i30,r30,hw,Qv];refine Qpa (s:=s) hW hk (λenv G1 g0 h1 => ?_) g.is.length 0 _ _ (by omega) h (by simp) (by simp) (by simp) (by simp);generalize shL s g.is.length=s1 at *;have hw1:=h1.cw0;have w1:IntKind.i64.wrap ((g.ns.length:Int)-1)=(g.ns.length:Int)-1-(0:Nat):=by rw[Qi (by omega) (by omega)]; omega
 simp -implicitDefEqProofs[g0,hw1,Qv];refine Qqq (s:=s1) (V:=s1.V) hW hc (λenv G2 g0 h2 => ?_) g.ns.length 0 _ _ (by omega) h1 (by simp[g0]) (by simp[w1]);generalize Qb4 g c.M s1.S s1.V g.ns.length=V1 at *;have hw2:=h2.cw0;simp -implicitDefEqProofs[g0,hw2,Qv];have h20:TW g H c { s1 with V:=V1,R:=Qu s1.R 0 (Qo 0 (λ_=>1073741824) (Qz s1.R 0)),O:=Qu s1.O 0 (Qo 0 (λ_=>1073741824) (Qz s1.O 0)) } G2:=by
  rw[QcA,QcA];have e:∀ X:List Int,X.length=4*g.ns.length->Qu X 0 (Qz X 0)=X:=λX hX=>by
   have e1:Qf 4 (Qz X 0)=X.take 4:=by
    apply Vx;intro q;by_cases hq:q<4
    . rw[Vb (by simpa using hq),QcP hq,YG hq,Vb (by omega)];simp[Qz,show q<X.length by omega]
    . rw[Vp (by simp; omega),Vp (by simp; omega)]
   unfold Qu;rw[e1]; simp
  rw[e _ h2.l.R,e _ h2.l.O];exact h2
 refine QqA (s:={ s1 with V:=V1 }) (R:=s1.R) (O:=s1.O) hW h2.l.R h2.l.O (λenv G3 g0 h3 => ?_) g.pl.toNat 0 _ _ (by omega) h20 (by simp[g0]) (by simp) (by simp);generalize Qu s1.R 0 (Qo g.pl.toNat (λ_=>1073741824) (Qz s1.R 0))=R3 at *;generalize Qu s1.O 0 (Qo g.pl.toNat (λ_=>1073741824) (Qz s1.O 0))=O3 at *;have hw3:=h3.cw0;simp -implicitDefEqProofs[g0,hw3,Qv];refine Qsb (s:={ s1 with V:=V1 }) (R:=R3) (O:=O3) hW hc (λenv G4 g0 h4 => ?_) g.ns.length 0 _ _ (by omega) h3 (by simp[g0]) (by simp) (by simp);simp only at h4;generalize Qa0 g false s1.S c.M R3 g.ns.length=R4 at *;generalize Qa0 g true s1.S c.M O3 g.ns.length=O4 at *;have hw4:=h4.cw0;simp -implicitDefEqProofs[g0,hw4,Qv];refine Qsn (s:={ s1 with V:=V1,R:=R4,O:=O4 }) (A:=s1.A) hW (λenv G5 g0 h5 => ?_) g.ns.length 0 _ _ (by omega) h4 (by simp[g0]) (by simp) (by simp);simp only at h5;generalize Qay g V1 R4 s1.A g.ns.length=A5 at *;have hw5:=h5.cw0;simp -implicitDefEqProofs[g0,hw5,Qv];refine QoY (s:={ s1 with V:=V1,R:=R4,O:=O4,A:=A5 }) (P:=s1.P) hW hc h5.l.P (λenv G6 g0 h6 => ?_) g.is.length 0 _ _ (by omega) h5 (by simp[g0]) (by simp) (by simp) (by simp);simp only at h6;generalize Qbg g c.F O4 s1.S s1.P g.is.length=P6 at *;have hw6:=h6.cw0;have hst:=QU h6.w;have h7:=h6.setN (IntKind.i64.wrap (s1.rnd+1));simp only[QbK,Qv]at hst;simp -implicitDefEqProofs[g0,hw6,Qv,hst,oI]
 refine Q6 (OkP.cast rfl (by simp[QbK,oI,Qv]) (ok53 hW h7)) λout G' hP => ?_;obtain⟨rfl,hP|hP⟩:=hP
 . obtain⟨hk2,rfl⟩:=hP;simp -implicitDefEqProofs;exact⟨_,_,⟨h7,.inl ⟨hk2,rfl⟩⟩,Qn⟩
 . obtain⟨hk2,rfl⟩:=hP;simp -implicitDefEqProofs;exact⟨_,_,⟨h7,.inr ⟨hk2,rfl⟩⟩,Qn⟩
end
def Qaf (v:Nat) (l:List Int):AO:=⟨Qa l,3,v,true⟩
section
variable {H:Wu}
theorem ok49 {l:List Int} (h0:l≠[]) (hl:l.length<=1000000):Ok Try.prog 49 [sl l] H (.ret (.own H.length 0 l.length 1 1)) (H++[Qaf 1 l]):=by
 have hl0:l.length≠0:=λh=>h0 (Vu h);refine Qq hm Try.func49 c49 (by simp[sl]) λhcl => ?_;simp -implicitDefEqProofs[i49,r49,sl,hl0];exact⟨by omega,by omega,Qn⟩
def Qba (h I i:Nat) (n:Nat->Nat):Wv:=(List.range I).map λj=>if j<i then .own (h+1+j) 0 (n j) 1 1 else .val (.slice none 0 0)
theorem Qqa {h I i:Nat} {n:Nat->Nat} (hi:i<I):List.take i (Qba h I i n)++SV.own (h+1+i) 0 (n i) 1 1::List.drop (i+1) (Qba h I i n)=Qba h I (i+1) n:=by
 have hl:i<(Qba h I i n).length:=by simp[Qba,hi]
 have:=Y1 (l:=Qba h I i n) (i:=i) (a:=SV.own (h+1+i) 0 (n i) 1 1);rw[Wb hl]at this;rw[<-this];apply Vx;intro j;by_cases e:i=j
 . subst e; rw[Vh hl]; simp[Qba,hi]
 . rw[Ve e];by_cases hj:j<I
   . have:(j<i)=(j<i+1):=by simp; omega
     simp[Qba,hj,this]
   . rw[Vp (by simp[Qba]; omega),Vp (by simp[Qba]; omega)]
@[simp] theorem QyP {h I i:Nat} {n:Nat->Nat}:(Qba h I i n).length=I:=by simp[Qba]
def Qag (L:List (List Int)) (i:Nat):Nat:=(L.getD i []).length
theorem Qfb {L:List (List Int)} {i:Nat} (h:i<L.length):Qag L i=L[i].length:=by simp[Qag,h]
def sls (L:List (List Int)):Wv:=L.map sl
@[simp] theorem Qzk (L:List (List Int)):(sls L).length=L.length:=by simp[sls]
theorem QbY {L:List (List Int)} {i:Nat} (h:i<L.length):(sls L)[i]'(by simpa using h)=sl L[i]:=by simp[sls]
theorem QcT (n:Nat) (L:List (List Int)):SV.underL n (sls L)=true:=by
 rw[SV.underL_iff];intro x hx;simp only[sls,Vm]at hx;obtain⟨l,_,rfl⟩:=hx;simp[sl]
set_option maxRecDepth 10000 in
theorem QpQ {L:List (List Int)} (hL:∀ l∈L,l≠[]/\l.length<=1000000) (hL2:L.length<=1000000) {N:Nat} {K:Wt}
 (hexit:∀ env,env.get 3=.own H.length 0 L.length 1 0->K (.exit 0) env (H++⟨Qba H.length L.length L.length (Qag L),36,0,true⟩::L.map (Qaf 1))) :
 ∀ (m i:Nat) (env:Env),i+m=L.length->env.get 3=.own H.length 0 L.length 1 0->env.get 9=.slc (sls L) L.length->env.get 10=i64 L.length->env.get 11=i64 i ->
  LI Try.prog N Qh QhA env (H++⟨Qba H.length L.length i (Qag L),36,0,true⟩::(L.map (Qaf 1)).take i) K:=by
 intro m
 induction m with
 |zero =>
  intro i env hi h3 h9 h10 h11;refine Qc hm QhA.eq_1 ?_;have e:i=L.length:=by omega
  subst e;have e0:(L.map (Qaf 1)).take L.length=L.map (Qaf 1):=VE (by simp);rw[e0];simp -implicitDefEqProofs[h10,h11];exact hexit _ (by simp[h3])
 |succ m ih =>
  intro i env hi h3 h9 h10 h11;refine Qc hm QhA.eq_1 ?_;have hii:i<L.length:=by omega
  obtain⟨n1,n2⟩:=hL _ (Vg hii);have w1:=QR (show i<9223372036854775807 by omega);have hg:L.getD i []=L[i]:=by simp[hii]
  have es:=Qqa (h:=H.length) (I:=L.length) (n:=Qag L) hii;rw[Qfb hii]at es;have et:(L.map (Qaf 1)).take (i+1)=(L.map (Qaf 1)).take i++[Qaf 1 L[i]]:=by rw[List.take_succ_eq_append_getElem (by simpa using hii)]; simp
  have em:min i L.length=i:=by omega
  have ep:H.length+(i+1)=H.length+1+i:=by omega
  simp -implicitDefEqProofs[h3,h9,h10,h11,hii,QbY hii];refine⟨by omega,Qj (ok49 n1 n2) ?_⟩;simp -implicitDefEqProofs[h3,h9,h10,h11,hii,em];refine⟨by omega,?_⟩;rw[ep,es,<- et];refine ih (i+1) _ (by omega) ?_ ?_ ?_ ?_
  . simp
  . simp
  . simp
  . simp[w1]
theorem Qs9 (h I:Nat) (n:Nat->Nat):Qba h I I n=QJ I (λi=>h+1+i) n 1:=by
 unfold Qba QJ;apply VA;intro j hj;simp only[VI]at hj;rw[Wb hj]
set_option maxRecDepth 10000 in
theorem ok29 {L:List (List Int)} (hL:∀ l∈L,l≠[]/\l.length<=1000000) (hL2:L.length<=1000000) :
 Ok Try.prog 29 [.slc (sls L) L.length] H (.ret (.own H.length 0 L.length 1 0)) (H++⟨QJ L.length (λi=>H.length+1+i) (Qag L) 1,36,0,true⟩::L.map (Qaf 1)):=by
 refine Qq hm Try.func29 c29 (by simp[QcT]) λhcl => ?_;simp -implicitDefEqProofs[i29,r29];refine⟨by omega,by omega,?_⟩;have e:List.replicate L.length (SV.val (.slice none 0 0))=Qba H.length L.length 0 (Qag L):=by simp[Qba,List.map_const']
 rw[e];refine QpQ hL hL2 (λenv g3 => ?_) L.length 0 _ (by omega) (by simp) (by simp) (by simp) (by simp);simp -implicitDefEqProofs[g3];rw[Qs9];exact Qn
end
def QbP (p:Nat->Nat) (n:Nat->Nat) (ver I i:Nat):Wv:=(List.range I).map λj=>if j<i then .own (p j) 0 (n j) 1 ver else .val (.slice none 0 0)
@[simp] theorem Qx9 {p n:Nat->Nat} {ver I i:Nat}:(QbP p n ver I i).length=I:=by simp[QbP]
theorem Qqi {p n:Nat->Nat} {ver I i:Nat} (hi:i<I):List.take i (QbP p n ver I i)++SV.own (p i) 0 (n i) 1 ver::List.drop (i+1) (QbP p n ver I i)=QbP p n ver I (i+1):=by
 have hl:i<(QbP p n ver I i).length:=by simp[hi]
 have:=Y1 (l:=QbP p n ver I i) (i:=i) (a:=SV.own (p i) 0 (n i) 1 ver);rw[Wb hl]at this;rw[<-this];apply Vx;intro j;by_cases e:i=j
 . subst e; rw[Vh hl]; simp[QbP,hi]
 . rw[Ve e];by_cases hj:j<I
   . have:(j<i)=(j<i+1):=by simp; omega
     simp[QbP,hj,this]
   . rw[Vp (by simp; omega),Vp (by simp; omega)]
theorem Qr4 (p n:Nat->Nat) (ver I:Nat):QbP p n ver I 0=List.replicate I (.val (.slice none 0 0)):=by simp[QbP,List.map_const']
theorem Qps (p n:Nat->Nat) (ver I:Nat):QbP p n ver I I=QJ I p n ver:=by
 unfold QbP QJ;apply VA;intro j hj;simp only[VI]at hj;rw[Wb hj]
def Qt (n:Nat):List Int:=List.replicate n 0
@[simp] theorem QwP (n:Nat):(Qt n).length=n:=by simp[Qt]
def Qax (g:Gm):Nat->Wu
 |0=>[]
 |k+1=>Qax g k++[⟨[i64 (g.is.getD k (0,0)).1,i64 (g.is.getD k (0,0)).2],45,0,true⟩,Qaf 0 (Qt (g.acts k))]
theorem Qep (g:Gm):∀ k,(Qax g k).length=2*k
 |0=>rfl
 |k+1=>by simp[Qax,Qep g k]; omega
section
variable {H:Wu} {g:Gm}
def pB (h i:Nat):Nat:=h+3+2*i
set_option maxRecDepth 10000 in
theorem Qqr (hW:Wg g) {N:Nat} {K:Wt}
 (hexit:∀ env,env.get 3=.own (H.length+1) 0 g.is.length 1 0->K (.exit 0) env (H++QG g::⟨QbP (pB H.length) g.acts 0 g.is.length g.is.length,36,0,true⟩::Qax g g.is.length)) :
 ∀ (m i:Nat) (env:Env),i+m=g.is.length->env.get 3=.own (H.length+1) 0 g.is.length 1 0->env.get 11=.slc (Qy g.is) g.is.length->env.get 12=i64 g.is.length->env.get 13=i64 i ->
  LI Try.prog N Qh QiD env (H++QG g::⟨QbP (pB H.length) g.acts 0 g.is.length i,36,0,true⟩::Qax g i) K:=by
 have hil:=hW.gd.i;intro m
 induction m with
 |zero =>
  intro i env hi h3 h11 h12 h13;refine Qc hm QiD.eq_1 ?_;have e:i=g.is.length:=by omega
  subst e;simp -implicitDefEqProofs[h12,h13];exact hexit _ (by simp[h3])
 |succ m ih =>
  intro i env hi h3 h11 h12 h13;refine Qc hm QiD.eq_1 ?_;have hii:i<g.is.length:=by omega
  obtain⟨n1,n2⟩:=Qby hW hii;have hg:g.is.getD i (0,0)=g.is[i]:=by simp[hii]
  have ha:(g.acts i:Int)=g.is[i].2:=by unfold Gm.acts; rw[hg]; unfold Gm.acts at n1; rw[hg]at n1; omega
  have w1:=QR (show i<9223372036854775807 by omega);have es:=Qqi (p:=pB H.length) (n:=g.acts) (ver:=0) (I:=g.is.length) hii;have eb:Qax g (i+1)=Qax g i++[⟨[i64 g.is[i].1,i64 g.is[i].2],45,0,true⟩,Qaf 0 (Qt (g.acts i))]:=by simp only[Qax,hg]
  have hMl:=Qep g i;rw[<-ha]at eb;have ih2:=ih (i+1);rw[eb]at ih2;generalize Qax g i=M at *;simp -implicitDefEqProofs[h3,h11,h12,h13,hii,QbH hii,Qge hii,Qfq hii,<- ha];repeat (refine⟨by omega,?_⟩)
  have e1:H.length+(M.length+3)=pB H.length i:=by unfold pB; omega
  have e2:List.replicate (g.acts i) (i64 0)=Qa (Qt (g.acts i)):=by simp[Qa,Qt]
  rw[e1,es,e2];refine ih2 _ (by omega) ?_ ?_ ?_ ?_
  . simp
  . simp
  . simp
  . simp[w1]
theorem Qjz (hW:Wg g):Ok Try.prog 37 [.agg g.cells] H (.ret (.own (H.length+1) 0 g.is.length 1 0)) (H++QG g::⟨QJ g.is.length (pB H.length) g.acts 0,36,0,true⟩::Qax g g.is.length):=by
 have hil:=hW.gd.i;refine Qq hm Try.func37 c37 (by simp[Gm.cells,Qbe,Qbj]) λhcl => ?_;simp -implicitDefEqProofs[i37,r37,Gm.cells];refine⟨by omega,by omega,?_⟩;rw[<-Qr4 (pB H.length) g.acts 0];refine Qqr hW (λenv g3 => ?_) g.is.length 0 _ (by omega) (by simp) (by simp) (by simp) (by simp);simp -implicitDefEqProofs[g3];rw[Qps];exact Qn
end
@[simp ↓] theorem QxV (n:Nat) (f:Od) (l:List Od):(E.calln f l).rs n=.calln f l:=rfl
@[simp ↓] theorem QtA (n:Nat) (ws:List Nat) (k:Nat) (p x:Od):(E.stw ws k p x).rs n=.stw ws k p x:=rfl
section
variable {g:Gm} {H G:Wu} {c:TC} {s:TS}
theorem TW.setM (h:TW g H c s G) {X:List Int} (hV:X.length=g.ns.length):TW g H { c with M:=X } s (G.set (pM H g) ⟨Qa X,3,1,true⟩):=by
 have hlt:=Qb h.m;have ne:∀ {j:Nat} {x:Option AO},pM H g≠j->G[j]? = x->(G.set (pM H g) ⟨Qa X,3,1,true⟩)[j]? = x:=λhn hx=>by rw[Ve hn]; exact hx
 constructor;case l=>exact⟨h.l.A,h.l.P,h.l.S,h.l.V,h.l.R,h.l.O,h.l.ord,hV,h.l.F⟩
 case len=>simpa using h.len
 case cl=>exact Qcq h.cl _ (by simp)
 case m=>rw[Vh hlt]
 case low=>intro i hi; exact ne (by unfold pM; omega) (h.low i hi)
 case a=>intro i hi; exact ne (by unfold pM pA; omega) (h.a i hi)
 case p=>intro i hi; exact ne (by unfold pM pP; omega) (h.p i hi)
 case ss=>intro i hi; exact ne (by unfold pM pS; omega) (h.ss i hi)
 case w=>exact ne (by unfold pM pW; omega) h.w
 case v=>exact ne (by unfold pM pV; omega) h.v
 case f=>exact ne (by unfold pM pF; omega) h.f
 case ao=>exact ne (by unfold pM pAo; omega) h.ao
 case po=>exact ne (by unfold pM pPo; omega) h.po
 case so=>exact ne (by unfold pM pSo; omega) h.so
 case r=>exact ne (by unfold pM pR; omega) h.r
 case o=>exact ne (by unfold pM pO; omega) h.o
theorem TW.setF (h:TW g H c s G) {X:List Int} (hV:X.length=g.is.length):TW g H { c with F:=X } s (G.set (pF H g) ⟨Qa X,3,1,true⟩):=by
 have hlt:=Qb h.f;have ne:∀ {j:Nat} {x:Option AO},pF H g≠j->G[j]? = x->(G.set (pF H g) ⟨Qa X,3,1,true⟩)[j]? = x:=λhn hx=>by rw[Ve hn]; exact hx
 constructor;case l=>exact⟨h.l.A,h.l.P,h.l.S,h.l.V,h.l.R,h.l.O,h.l.ord,h.l.M,hV⟩
 case len=>simpa using h.len
 case cl=>exact Qcq h.cl _ (by simp)
 case f=>rw[Vh hlt]
 case low=>intro i hi; exact ne (by unfold pF; omega) (h.low i hi)
 case a=>intro i hi; exact ne (by unfold pF pA; omega) (h.a i hi)
 case p=>intro i hi; exact ne (by unfold pF pP; omega) (h.p i hi)
 case ss=>intro i hi; exact ne (by unfold pF pS; omega) (h.ss i hi)
 case w=>exact ne (by unfold pF pW; omega) h.w
 case m=>exact ne (by unfold pF pM; omega) h.m
 case v=>exact ne (by unfold pF pV; omega) h.v
 case ao=>exact ne (by unfold pF pAo; omega) h.ao
 case po=>exact ne (by unfold pF pPo; omega) h.po
 case so=>exact ne (by unfold pF pSo; omega) h.so
 case r=>exact ne (by unfold pF pR; omega) h.r
 case o=>exact ne (by unfold pF pO; omega) h.o
end
def wsK (ws:List Int):Nat->Int
 |0=>0
 |k+1=>IntKind.i64.wrap (wsK ws k+ws.getD k 0)
def Qbz (ws:List Int):Int:=wsK ws ws.length
theorem QdV {ws:List Int} (h:∀ w∈ws,1<=w/\w<=1000) (hl:ws.length<=60):∀ k,k<=ws.length->(k:Int)<=wsK ws k/\wsK ws k<=1000*k
 |0,_=>by simp[wsK]
 |k+1,hk=>by
  have h1:=QdV h hl k (by omega);have h2:=h _ (Vg (show k<ws.length by omega));have h3:ws.getD k 0=ws[k]:=by simp[show k<ws.length by omega]
  simp only[wsK,h3];rw[Qi (by omega) (by omega)];omega
def wtF (g:Gm) (i:Nat):Int:=match g.ns[i]? with
 |none=>0
 |some x=>Qbz x.ws
def wtM (g:Gm) (j:Nat) (i:Nat):Int:=if j<=i then wtF g i else 0
def fsL (g:Gm):Nat->List Int
 |0=>Qt g.is.length
 |m+1=>match g.ns[g.ns.length-1-m]? with
  |none=>fsL g m
  |some x=>if x.k=2 then(fsL g m).set x.i.toNat ((g.ns.length-1-m:Nat):Int)else fsL g m
@[simp] theorem Qia (g:Gm):∀ m,(fsL g m).length=g.is.length
 |0=>by simp[fsL]
 |m+1=>by
  simp only[fsL];split
  . exact Qia g m
  . split
    . simp[Qia g m]
    . exact Qia g m
theorem Qkd {g:Gm} {i t:Nat} (hi:i<g.is.length) (ht:t<g.ns.length) (h2:g.ns[t].k=2) (h3:g.ns[t].i.toNat=i) (h4:∀ u (hu:u<t),¬ (g.ns[u].k=2/\g.ns[u].i.toNat=i)) :
 ∀ m,m<=g.ns.length->g.ns.length-m<=t->(fsL g m).getD i 0=t
 |0,hm,hg=>by omega
 |m+1,hm,hg=>by
  have hx:g.ns[g.ns.length-1-m]? = some (g.ns[g.ns.length-1-m]'(by omega)):=Vb (by omega);simp only[fsL,hx];by_cases e:g.ns.length-1-m=t
  . subst e;rw[Wb h2,h3];simp[hi]
  . have ih:=Qkd hi ht h2 h3 h4 m (by omega);by_cases e2:g.ns.length-m<=t
    . split
      . rename_i hk;have hne:¬ (g.ns[g.ns.length-1-m]'(by omega)).i.toNat=i:=λhh=>h4 (g.ns.length-1-m) (by omega) ⟨hk,hh⟩;have:=ih e2;simp only[Vr]at this ⊢;rw[Ve hne]; exact this
      . exact ih e2
    . omega
def cTC (g:Gm):TC:=⟨Qf g.ns.length (wtF g),fsL g g.ns.length⟩
theorem Qn3 {g:Gm} (hW:Wg g):(cTC g).Ok g where
 m:=λi hi hk=>by
  obtain⟨a1,a2,a3,a4⟩:=QeO hW hi hk;have hx:g.ns[i]? = some g.ns[i]:=Vb hi;simp only[cTC];rw[Qcr hi];simp only[wtF,hx,Qbz];have:=QdV a4 (by omega) g.ns[i].ws.length (Vc _);omega
 f:=λi hi=>by
  obtain⟨t,ht,_,h2,h3,h4⟩:=fn_of hW hi;have:=Qkd hi ht h2 h3 h4 g.ns.length (Vc _) (by omega);simp only[cTC];rw[this]; omega
def pGb (H:Wu) (g:Gm):Nat:=H.length+2+2*g.is.length
theorem Qp9 (f:Nat->Int) (i:Nat) (x y:Int):put (put f i x) i y=put f i y:=by funext k; unfold put; split<;>rfl
theorem Qs6 (f:Nat->Int) (i:Nat):put f i (f i)=f:=by funext k; unfold put; split; rename_i e; rw[e]; rfl
theorem Qq0 (g:Gm) (i:Nat):put (wtM g (i+1)) i (wtF g i)=wtM g i:=by
 funext k;unfold put wtM;by_cases e:k=i
 . subst e; simp
 . rw[Wa e];by_cases h:i<=k
   . rw[Wb h,Wb (by omega)]
   . rw[Wa h,Wa (by omega)]
section
variable {g:Gm} {H G:Wu} {c:TC} {s:TS}
theorem Qoy (h:TW g H c s G) (hb:G[pGb H g]? = some (QG g)) {p:Nat} (hp:p≠pGb H g) (o:AO):(G.set p o)[pGb H g]? = some (QG g):=by rw[Ve hp]; exact hb
set_option maxRecDepth 10000 in
theorem QrE (hW:Wg g) {i:Nat} (hi:i<g.ns.length) {f:Nat->Int} {F:List Int} {N:Nat} {K:Wt}
 (hexit:∀ env G,env.get 2=.ptr (.own (pGb H g) 0 0 0 0) 0->env.get 6=.ptr (.own (pW H g) 0 0 0 0) 0->env.get 7=i64 i->TW g H ⟨Qf g.ns.length (put f i (Qbz g.ns[i].ws)),F⟩ s G->G[pGb H g]? = some (QG g)->K (.exit 2) env G) :
 ∀ (m k:Nat) (env:Env) (G:Wu),k+m=g.ns[i].ws.length->TW g H ⟨Qf g.ns.length (put f i (wsK g.ns[i].ws k)),F⟩ s G->G[pGb H g]? = some (QG g) ->
  env.get 2=.ptr (.own (pGb H g) 0 0 0 0) 0->env.get 6=.ptr (.own (pW H g) 0 0 0 0) 0->env.get 7=i64 i->env.get 51=.slc (Qa g.ns[i].ws) g.ns[i].ws.length->env.get 52=i64 g.ns[i].ws.length->env.get 53=i64 k->g.ns[i].ws.length<=60 ->
  LI Try.prog N Qh Qg1 env G K:=by
 intro m
 induction m with
 |zero =>
  intro k env G hk h hb h2 h6 h7 h51 h52 h53 hl;refine Qc hm Qg1.eq_1 ?_;have e:k=g.ns[i].ws.length:=by omega
  subst e;simp -implicitDefEqProofs[h52,h53];exact hexit _ _ (by simp[h2]) (by simp[h6]) (by simp[h7]) h hb
 |succ m ih =>
  intro k env G hk h hb h2 h6 h7 h51 h52 h53 hl;refine Qc hm Qg1.eq_1 ?_;have hkl:k<g.ns[i].ws.length:=by omega
  have hw:=h.cw0;have hM:=oc0 h.m;have hst:=QU h.m;have w1:=QR (show k<9223372036854775807 by omega);have eK:wsK g.ns[i].ws (k+1)=IntKind.i64.wrap (wsK g.ns[i].ws k+g.ns[i].ws[k]):=by simp[wsK,hkl]
  have h5:=h.setM (X:=Qf g.ns.length (put f i (wsK g.ns[i].ws (k+1)))) (by simp);have hb5:=Qoy h hb (p:=pM H g) (by unfold pM pGb; omega) ⟨Qa (Qf g.ns.length (put f i (wsK g.ns[i].ws (k+1)))),3,1,true⟩;have ea:(put f i (wsK g.ns[i].ws k)) i=wsK g.ns[i].ws k:=by simp[put]
  have e4:(Qa (Qf g.ns.length (put f i (wsK g.ns[i].ws k))))[i]?.getD .any=i64 (wsK g.ns[i].ws k):=by rw[Qdc (by simpa using hi),Qcr hi,ea]
  have e3:∀ y:Int,List.take i (Qa (Qf g.ns.length (put f i (wsK g.ns[i].ws k))))++i64 y::List.drop (i+1) (Qa (Qf g.ns.length (put f i (wsK g.ns[i].ws k))))=Qa (Qf g.ns.length (put f i y)):=λy=>by rw[Qa1 (by simpa using hi),QdL,Qp9]
  have e5:(Qf g.ns.length (put f i (wsK g.ns[i].ws k)))[i]'(by simpa using hi)=wsK g.ns[i].ws k:=by rw[QcP hi,ea]
  rw[eK]at h5 hb5;simp -implicitDefEqProofs[h2,h6,h7,h51,h52,h53,hkl,hw,Qv,hM,hi,hst,e3,e4,e5];repeat (refine⟨by omega,?_⟩)
  refine ih (k+1) _ _ (by omega) (by rw[eK]; exact h5) hb5 ?_ ?_ ?_ ?_ ?_ ?_ hl
  . simp[h2]
  . simp
  . simp
  . simp
  . simp
  . simp[w1]
set_option maxRecDepth 10000 in
theorem QsI (hW:Wg g) {N:Nat} {K:Wt}
 (hexit:∀ env G,env.get 6=.ptr (.own (pW H g) 0 0 0 0) 0->TW g H (cTC g) s G->K (.exit 0) env G) :
 ∀ (m:Nat) (env:Env) (G:Wu),m<=g.ns.length->TW g H ⟨Qf g.ns.length (wtM g m),fsL g (g.ns.length-m)⟩ s G->G[pGb H g]? = some (QG g) ->
  env.get 2=.ptr (.own (pGb H g) 0 0 0 0) 0->env.get 6=.ptr (.own (pW H g) 0 0 0 0) 0->env.get 7=i64 ((m:Int)-1) ->
  LI Try.prog N Qh QgR env G K:=by
 have hn:=hW.gd.n;intro m
 induction m with
 |zero =>
  intro env G hm' h hb h2 h6 h7;refine Qc hm QgR.eq_1 ?_;have e:((0:Nat):Int)-1 = -1:=by omega
  rw[e]at h7;simp -implicitDefEqProofs[h7];refine hexit _ _ (by simp[h6]) ?_;have e2:wtM g 0=wtF g:=by funext k; simp[wtM]
  rw[e2,Nat.sub_zero]at h;exact h
 |succ i ih =>
  intro env G hm' h hb h2 h6 h7;refine Qc hm QgR.eq_1 ?_;have hi:i<g.ns.length:=by omega
  have hx:g.ns[i]? = some g.ns[i]:=Vb hi;have e:((i+1:Nat):Int)-1=(i:Int):=by omega
  rw[e]at h7;have hgb:Qd G (pGb H g) 0=[i64 g.pl,.slc (nds g.ns) g.ns.length,.slc (Qy g.is) g.is.length]:=oc0 (T:=25) hb;have hws:g.ns[i].ws.length<=60:=by
   rcases Qej hW hi with hk|hk|hk
   . have:=QeO hW hi hk; omega
   . have h3:=hW.gd.e _ (Vg hi);unfold Nd.err Nd.move at h3;rw[Wa (by omega),Wa (by omega),Wb hk]at h3;split at h3
     . omega
     . omega
   . have h3:=hW.gd.e _ (Vg hi);unfold Nd.err Nd.end at h3;rw[Wa (by omega),Wa (by omega),Wa (by omega)]at h3;split at h3
     . omega
     . omega
  have h0:TW g H ⟨Qf g.ns.length (put (wtM g (i+1)) i (wsK g.ns[i].ws 0)),fsL g (g.ns.length-(i+1))⟩ s G:=by
   have e0:put (wtM g (i+1)) i (wsK g.ns[i].ws 0)=wtM g (i+1):=by
    have:wsK g.ns[i].ws 0=wtM g (i+1) i:=by simp only[wsK,wtM]; rw[Wa (by omega)]
    rw[this,Qs6]
   rw[e0]; exact h
  have w1:IntKind.i64.wrap ((i:Int)-1)=(i:Int)-1:=Qi (by omega) (by omega);simp -implicitDefEqProofs[h2,h6,h7,hgb,hi,nd4 hi,QaK];repeat (refine⟨by omega,?_⟩)
  refine QrE (H:=H) (s:=s) hW hi (λenv G1 g2 g6 g7 h1 hb1 => ?_) g.ns[i].ws.length 0 _ _ (by omega) h0 hb (by simp[h2]) (by simp[h6]) (by simp[h7]) (by simp) (by simp) (by simp) hws;have eW:put (wtM g (i+1)) i (Qbz g.ns[i].ws)=wtM g i:=by
   have:Qbz g.ns[i].ws=wtF g i:=by simp only[wtF,hx]
   rw[this,Qq0]
  rw[eW]at h1;have hgb1:Qd G1 (pGb H g) 0=[i64 g.pl,.slc (nds g.ns) g.ns.length,.slc (Qy g.is) g.is.length]:=oc0 (T:=25) hb1;have hw1:=h1.cw0;have efs:g.ns.length-i=(g.ns.length-(i+1))+1:=by omega
  have efi:g.ns.length-1-(g.ns.length-(i+1))=i:=by omega
  have hx2:g.ns[g.ns.length-1-(g.ns.length-(i+1))]? = some g.ns[i]:=by rw[efi]; exact hx
  by_cases hk:g.ns[i].k=2
  . obtain⟨a1,a2,a3,a4,a5⟩:=QbD hW hi hk;have eF:fsL g (g.ns.length-i)=(fsL g (g.ns.length-(i+1))).set g.ns[i].i.toNat (i:Int):=by
     rw[efs]; simp only[fsL,hx2]; rw[Wb hk,efi]
    have hF:=oc0 h1.f;have hst:=QU h1.f;have h5:=h1.setF (X:=fsL g (g.ns.length-i)) (by simp);have hb5:=Qoy h1 hb1 (p:=pF H g) (by unfold pF pGb; omega) ⟨Qa (fsL g (g.ns.length-i)),3,1,true⟩;have e3:List.take g.ns[i].i.toNat (Qa (fsL g (g.ns.length-(i+1))))++i64 (i:Int)::List.drop (g.ns[i].i.toNat+1) (Qa (fsL g (g.ns.length-(i+1))))=Qa (fsL g (g.ns.length-i)):=by rw[Qa1 (by rw[Qia]; exact a1),eF]
    simp -implicitDefEqProofs[g2,g6,g7,hgb1,hw1,Qv,hi,nd0 hi,nd2 hi,QaK,hk,hF,hst,e3,a1];repeat (refine⟨by omega,?_⟩)
    refine ih _ _ (by omega) h5 hb5 ?_ ?_ ?_
    . simp[g2]
    . simp[g6]
    . simp[w1]
  . have eF:fsL g (g.ns.length-i)=fsL g (g.ns.length-(i+1)):=by
     rw[efs]; simp only[fsL,hx2,Wa hk]
    simp -implicitDefEqProofs[g2,g6,g7,hgb1,hw1,Qv,hi,nd0 hi,QaK,hk];repeat (refine⟨by omega,?_⟩)
    refine ih _ _ (by omega) (by rw[eF]; exact h1) hb1 ?_ ?_ ?_
    . simp[g2]
    . simp[g6]
    . simp[w1]
end
theorem Qhg (g:Gm):∀ (k i:Nat),i<k->(Qax g k)[2*i+1]? = some (Qaf 0 (Qt (g.acts i)))
 |0,i,h=>by omega
 |k+1,i,h=>by
  have hl:=Qep g k;by_cases e:i=k
  . subst e;simp only[Qax];rw[Vf (by omega),hl,show 2*i+1-2*i=1 by omega];rfl
  . simp only[Qax];rw[Vd (by omega)];exact Qhg g k i (by omega)
theorem QpG (n:Nat):(List.replicate n [i64 0,i64 0,i64 0,i64 0]).flatten=Qa (Qt (4*n)):=by
 have h:[i64 0,i64 0,i64 0,i64 0]=List.replicate 4 (i64 0):=rfl;rw[h,List.flatten_replicate_replicate];simp[Qa,Qt,VT]
def s0T (g:Gm) (rnd seed:Int) (LA LP:List (List Int)):TS:=⟨rnd,seed,λi=>LA.getD i [],λi=>LP.getD i [],λi=>Qt (g.acts i),Qt (4*g.ns.length),Qt (4*g.ns.length),Qt (4*g.ns.length),Qt 10⟩
def c0T (g:Gm):TC:=⟨Qt g.ns.length,Qt g.is.length⟩
def Qa2 (H:Wu) (LA LP:List (List Int)):Wu :=
 (H++(⟨QJ LA.length (λi=>H.length+1+i) (Qag LA) 1,36,0,true⟩::LA.map (Qaf 1)))++(⟨QJ LP.length (λi=>H.length+1+LA.length+1+i) (Qag LP) 1,36,0,true⟩::LP.map (Qaf 1))
def Qbt (g:Gm) (H:Wu) (rnd seed:Int) (LA LP:List (List Int)):Wu :=
 Qa2 H LA LP++([QG g,⟨[i64 rnd,i64 seed,.own H.length 0 g.is.length 1 0,.own (H.length+1+g.is.length) 0 g.is.length 1 0],28,0,true⟩,⟨Qa (Qt g.ns.length),3,1,true⟩,⟨Qa (Qt g.is.length),3,1,true⟩,
  QG g,⟨QJ g.is.length (pS H g) g.acts 0,36,0,true⟩]++(Qax g g.is.length++[QbK g H (s0T g rnd seed LA LP),⟨Qa (Qt (4*g.ns.length)),101,1,true⟩,⟨Qa (Qt (4*g.ns.length)),101,1,true⟩,⟨Qa (Qt (4*g.ns.length)),101,1,true⟩]))
section
variable {g:Gm} {H:Wu} {rnd seed:Int} {LA LP:List (List Int)}
theorem Qub (hA:LA.length=g.is.length) (hP:LP.length=g.is.length):(Qbt g H rnd seed LA LP)[pGb H g]? = some (QG g):=by
 have hB:(Qa2 H LA LP).length=H.length+2+2*g.is.length:=by simp[Qa2]; omega
 unfold Qbt;rw[Vf (by unfold pGb; omega),hB,show pGb H g-(H.length+2+2*g.is.length)=0 by unfold pGb; omega];rfl
set_option maxRecDepth 10000 in
theorem TW.init (hcl:closed H) (hA:LA.length=g.is.length) (hP:LP.length=g.is.length) (hlA:∀ i,i<g.is.length->Qag LA i=g.acts i) (hlP:∀ i,i<g.is.length->Qag LP i=g.acts i) :
 TW g H (c0T g) (s0T g rnd seed LA LP) (Qbt g H rnd seed LA LP):=by
 have hB:(Qa2 H LA LP).length=H.length+2+2*g.is.length:=by simp[Qa2]; omega
 have hbl:=Qep g g.is.length;have up:∀ k:Nat,(Qbt g H rnd seed LA LP)[H.length+2+2*g.is.length+k]? = ([QG g,⟨[i64 rnd,i64 seed,.own H.length 0 g.is.length 1 0,.own (H.length+1+g.is.length) 0 g.is.length 1 0],28,0,true⟩,⟨Qa (Qt g.ns.length),3,1,true⟩,⟨Qa (Qt g.is.length),3,1,true⟩,
  QG g,⟨QJ g.is.length (pS H g) g.acts 0,36,0,true⟩]++(Qax g g.is.length++[QbK g H (s0T g rnd seed LA LP),⟨Qa (Qt (4*g.ns.length)),101,1,true⟩,⟨Qa (Qt (4*g.ns.length)),101,1,true⟩,⟨Qa (Qt (4*g.ns.length)),101,1,true⟩]))[k]? := λk=>by
  unfold Qbt;rw[Vf (by omega),hB];congr 1; omega
 have up6:∀ k:Nat,(Qbt g H rnd seed LA LP)[H.length+8+2*g.is.length+k]? = (Qax g g.is.length++[QbK g H (s0T g rnd seed LA LP),⟨Qa (Qt (4*g.ns.length)),101,1,true⟩,⟨Qa (Qt (4*g.ns.length)),101,1,true⟩,⟨Qa (Qt (4*g.ns.length)),101,1,true⟩])[k]? := λk=>by
  rw[show H.length+8+2*g.is.length+k=H.length+2+2*g.is.length+(6+k)by omega,up,Vf (by simp)];congr 1; simp
 have upE:∀ k:Nat,(Qbt g H rnd seed LA LP)[H.length+8+4*g.is.length+k]? = [QbK g H (s0T g rnd seed LA LP),⟨Qa (Qt (4*g.ns.length)),101,1,true⟩,⟨Qa (Qt (4*g.ns.length)),101,1,true⟩,⟨Qa (Qt (4*g.ns.length)),101,1,true⟩][k]? := λk=>by
  rw[show H.length+8+4*g.is.length+k=H.length+8+2*g.is.length+(2*g.is.length+k)by omega,up6,Vf (by omega),hbl];congr 1; omega
 have dn:∀ k:Nat,k<(Qa2 H LA LP).length->(Qbt g H rnd seed LA LP)[k]? = (Qa2 H LA LP)[k]? := λk hk=>by
  unfold Qbt;rw[Vd hk]
 have b1:∀ k:Nat,k<H.length+1+g.is.length->(Qa2 H LA LP)[k]? = (H++(⟨QJ LA.length (λi=>H.length+1+i) (Qag LA) 1,36,0,true⟩::LA.map (Qaf 1)))[k]? := λk hk=>by
  unfold Qa2;rw[Vd (by simp; omega)]
 have b2:∀ k:Nat,(Qa2 H LA LP)[H.length+1+g.is.length+k]? = ((⟨QJ LP.length (λi=>H.length+1+LA.length+1+i) (Qag LP) 1,36,0,true⟩::LP.map (Qaf 1)):Wu)[k]? := λk=>by
  unfold Qa2;rw[Vf (by simp; omega)];congr 1; simp; omega
 have outs_c:∀ {I J:Nat} {p q n m:Nat->Nat},I=J->(∀ i,i<J->p i=q i)->(∀ i,i<J->n i=m i)->QJ I p n 1=QJ J q m 1:=λ{I J p q n m} hI hp hn=>by
  subst hI;unfold QJ;apply VA;intro j hj;simp only[VI]at hj;rw[hp j hj,hn j hj]
 have hgd:∀ (L:List (List Int)) (i:Nat),(s0T g rnd seed LA LP).A=(λi=>LA.getD i []):=λ_ _=>rfl;constructor;case l =>
  refine⟨λi hi => ?_,λi hi => ?_,λi hi=>by simp[s0T],by simp[s0T],by simp[s0T],by simp[s0T],by simp[s0T],by simp[c0T],by simp[c0T]⟩
  . have:=hlA i hi; simpa[s0T,Qag]using this
  . have:=hlP i hi; simpa[s0T,Qag]using this
 case len=>simp[Qbt,hB,hbl,pE]; omega
 case low =>
  intro i hi;rw[dn i (by omega),b1 i (by omega),Vd hi]
 case m=>rw[show pM H g=H.length+2+2*g.is.length+2 by unfold pM; omega,up]; rfl
 case f=>rw[show pF H g=H.length+2+2*g.is.length+3 by unfold pF; omega,up]; rfl
 case so=>rw[show pSo H g=H.length+2+2*g.is.length+5 by unfold pSo; omega,up]; rfl
 case ss=>intro i hi; rw[show pS H g i=H.length+8+2*g.is.length+(2*i+1)by unfold pS; omega,up6,Vd (by omega),Qhg g _ i hi]; rfl
 case w=>rw[show pW H g=H.length+8+4*g.is.length+0 by unfold pW; omega,upE]; rfl
 case v=>rw[show pV H g=H.length+8+4*g.is.length+1 by unfold pV; omega,upE]; rfl
 case r=>rw[show pR H g=H.length+8+4*g.is.length+2 by unfold pR; omega,upE]; rfl
 case o=>rw[show pO H g=H.length+8+4*g.is.length+3 by unfold pO; omega,upE]; rfl
 case ao =>
  unfold pAo;rw[dn _ (by omega),b1 _ (by omega),Vf (by omega)];simp only[ZP,Yo];have:=outs_c (q:=pA H g) (m:=g.acts) hA (λi _=>by unfold pA; omega) hlA (p:=λi=>H.length+1+i);rw[this]
 case a =>
  intro i hi;rw[show pA H g i=H.length+(i+1)by unfold pA; omega,dn _ (by omega),b1 _ (by omega),Vf (by omega),show H.length+(i+1)-H.length=i+1 by omega];simp[s0T,Qaf,hA,hi]
 case po =>
  rw[show pPo H g=H.length+1+g.is.length+0 by unfold pPo; omega,dn _ (by omega),b2];simp only[Yo];have:=outs_c (q:=pP H g) (m:=g.acts) hP (λi _=>by unfold pP; omega) hlP (p:=λi=>H.length+1+LA.length+1+i);rw[this]
 case p =>
  intro i hi;rw[show pP H g i=H.length+1+g.is.length+(i+1)by unfold pP; omega,dn _ (by omega),b2];simp[s0T,Qaf,hP,hi]
 case cl =>
  have hlen:(Qbt g H rnd seed LA LP).length=pE H g:=by simp[Qbt,hB,hbl,pE]; omega
  have hou:∀ (I:Nat) (p n:Nat->Nat) (v:Nat),(∀ i,i<I->p i<pE H g)->∀ x∈QJ I p n v,x.under (pE H g)=true:=λI p n v hp x hx=>by
   simp only[QJ,Vm,VI]at hx;obtain⟨i,hi,rfl⟩:=hx;simpa using hp i hi
  have hin:∀ (l:List Int),∀ x∈Qa l,x.under (pE H g)=true:=λl x hx=>by
   simp only[Qa,Vm]at hx;obtain⟨n,_,rfl⟩:=hx;rfl
  have hbk:∀ (k:Nat),∀ o∈Qax g k,∀ x∈o.cells,x.under (pE H g)=true:=λk=>by
   induction k with
   |zero=>intro o ho; simp[Qax]at ho
   |succ k ih =>
    intro o ho x hx;simp only[Qax,Vj,Vi,VL,Wi]at ho;rcases ho with ho|rfl|rfl
    . exact ih o ho x hx
    . simp at hx; rcases hx with rfl|rfl<;>rfl
    . exact hin _ x hx
  have hgb:∀ x∈(QG g).cells,x.under (pE H g)=true:=λx hx=>by
   simp only[QG,Vi,VL,Wi]at hx;rcases hx with rfl|rfl|rfl
   . rfl
   . simp[Qbe]
   . simp[Qbj]
  have hwb:∀ x∈(QbK g H (s0T g rnd seed LA LP)).cells,x.under (pE H g)=true:=by
   rw[<-SV.underL_iff];simp only[QbK,oI,SV.underL_append,Qv,Va];unfold pM pF pAo pPo pSo pV pR pO pE;refine⟨?_,by simp⟩;simp[Qbe,Qbj];omega
  intro i o ho x hx;rw[hlen];have hm:o∈Qbt g H rnd seed LA LP:=Vn ho;unfold Qbt Qa2 at hm;simp only[Vj,Vi,VL,Wi,Vm]at hm;rcases hm with ((hm|rfl|⟨l,_,rfl⟩)|rfl|⟨l,_,rfl⟩)|(rfl|rfl|rfl|rfl|rfl|rfl)|hm|rfl|rfl|rfl|rfl
  . obtain⟨j,hj⟩:=Vk hm;exact SV.under_mono (by unfold pE; omega) x (hcl j o hj x hx)
  . exact hou _ _ _ _ (λi hi=>by unfold pE; omega) x hx
  . exact hin _ x hx
  . exact hou _ _ _ _ (λi hi=>by unfold pE; omega) x hx
  . exact hin _ x hx
  . exact hgb x hx
  . simp only[Vi,VL,Wi]at hx;rcases hx with rfl|rfl|rfl|rfl
    . rfl
    . rfl
    . show decide (_<_)=true;rw[Wq]; unfold pE; omega
    . show decide (_<_)=true;rw[Wq]; unfold pE; omega
  . exact hin _ x hx
  . exact hin _ x hx
  . exact hgb x hx
  . exact hou _ _ _ _ (λi hi=>by unfold pS pE; omega) x hx
  . exact hbk _ o hm x hx
  . exact hwb x hx
  . exact hin _ x hx
  . exact hin _ x hx
  . exact hin _ x hx
end
section
variable {H:Wu} {g:Gm} {rnd seed:Int} {LA LP:List (List Int)}
set_option maxRecDepth 10000 in
theorem ok28 (hW:Wg g) (hcl0:closed H) (hA:LA.length=g.is.length) (hP:LP.length=g.is.length) (hlA:∀ i,i<g.is.length->Qag LA i=g.acts i) (hlP:∀ i,i<g.is.length->Qag LP i=g.acts i) :
 OkP Try.prog 28 [.agg g.cells,.agg [i64 rnd,i64 seed,.own H.length 0 g.is.length 1 0,.own (H.length+1+g.is.length) 0 g.is.length 1 0]] (Qa2 H LA LP) λout G' =>
  out=.ret (.ptr (.own (pW H g) 0 0 0 0) 0)/\TW g H (cTC g) (s0T g rnd seed LA LP) G':=by
 have hn:=hW.gd.n;have hil:=hW.gd.i;have hB:(Qa2 H LA LP).length=H.length+2+2*g.is.length:=by simp[Qa2]; omega
 have hti:=TW.init (rnd:=rnd) (seed:=seed) hcl0 hA hP hlA hlP;have htb:=Qub (rnd:=rnd) (seed:=seed) (H:=H) hA hP;have hin:Qbt g H rnd seed LA LP=Qa2 H LA LP++([QG g,⟨[i64 rnd,i64 seed,.own H.length 0 g.is.length 1 0,.own (H.length+1+g.is.length) 0 g.is.length 1 0],28,0,true⟩,⟨Qa (Qt g.ns.length),3,1,true⟩,⟨Qa (Qt g.is.length),3,1,true⟩,
  QG g,⟨QJ g.is.length (pS H g) g.acts 0,36,0,true⟩]++(Qax g g.is.length++[QbK g H (s0T g rnd seed LA LP),⟨Qa (Qt (4*g.ns.length)),101,1,true⟩,⟨Qa (Qt (4*g.ns.length)),101,1,true⟩,⟨Qa (Qt (4*g.ns.length)),101,1,true⟩])):=rfl
 generalize Qa2 H LA LP=B at *;refine QaU hm Try.func28 c28 (by simp[Gm.cells,Qbe,Qbj]; try omega) λhcl => ?_
 have h37:=λH'=>Qjz (H:=H') hW;simp only[Gm.cells]at h37;simp -implicitDefEqProofs[i28,r28,Gm.cells];repeat (refine⟨by omega,?_⟩)
 refine Qug (L:=QG g::⟨QJ g.is.length (pB (B.length+4)) g.acts 0,36,0,true⟩::Qax g g.is.length) (r:=.own (B.length+4+1) 0 g.is.length 1 0) (λH' hl => ?_) ?_
 . have:=h37 H';simp at hl;rw[hl]at this;exact this
 have hbl:=Qep g g.is.length;generalize Qax g g.is.length=M at *;simp -implicitDefEqProofs[QG];refine⟨rfl,by omega,by omega,by omega,by omega,by omega,by omega,?_⟩;have w1:IntKind.i64.wrap ((g.ns.length:Int)-1)=(g.ns.length:Int)-1:=Qi (by omega) (by omega);have p6:B.length+(M.length+6)=pW H g:=by unfold pW; omega
 have p7:B.length+(M.length+7)=pV H g:=by unfold pV; omega
 have p8:B.length+(M.length+8)=pR H g:=by unfold pR; omega
 have p9:B.length+(M.length+9)=pO H g:=by unfold pO; omega
 have p2:B.length+2=pM H g:=by unfold pM; omega
 have p3:B.length+3=pF H g:=by unfold pF; omega
 have p5:B.length+5=pSo H g:=by unfold pSo; omega
 have p0:B.length=pGb H g:=by unfold pGb; omega
 have ps:pB (B.length+4)=pS H g:=by funext i; unfold pB pS; omega
 refine LI.cong (H':=Qbt g H rnd seed LA LP) ?_ ?_
 . rw[hin,p7,p8,p9,p2,p3,p5,ps];simp[QbK,oI,Qv,s0T,QG,QpG,Qa,Qt,pAo,pPo]
 . rw[p6,p0];refine QsI (s:=s0T g rnd seed LA LP) hW (λenv G g6 h => ?_) g.ns.length _ _ (Vc _) ?_ htb (by simp) (by simp) (by simp[w1])
   . simp -implicitDefEqProofs[g6];exact⟨_,_,⟨rfl,h⟩,Qn⟩
   . have e1:Qf g.ns.length (wtM g g.ns.length)=Qt g.ns.length:=by
      apply Vx;intro i;by_cases hi:i<g.ns.length
      . simp[Qf,Qt,wtM,hi]; omega
      . rw[Vp (by simp; omega),Vp (by simp; omega)]
     rw[e1,ZP];exact hti
end
def Qaz (f:Nat->Int):Nat->Nat->Int
 |0,_=>0
 |m+1,i=>if f i≠0 then f i else Qaz f m (i+1)
theorem Qgj {f:Nat->Int}:∀ (m i:Nat),Qaz f m i=0↔∀ j,i<=j->j<i+m->f j=0
 |0,i=>by simp only[Qaz,true_iff]; intro j h1 h2; omega
 |m+1,i=>by
  simp only[Qaz];by_cases h:f i=0
  . rw[Wa (by simpa using h),Qgj m (i+1)];constructor
    . intro hh j h1 h2;by_cases e:j=i
      . subst e; exact h
      . exact hh j (by omega) (by omega)
    . intro hh j h1 h2; exact hh j (by omega) (by omega)
  . rw[Wb h];constructor
    . intro e; exact absurd e h
    . intro hh; exact hh i (Vc _) (by omega)
def Qcv (g:Gm) (p:Nat):Int:=if g.perf p=true then 0 else 13
def Gm.prpE (g:Gm):Int:=if g.formE≠0 then g.formE else Qaz (Qcv g) g.pl.toNat 0
section
variable {g:Gm} {H:Wu}
theorem Quo (hf:g.formE=0) {p:Nat} (hp:(p:Int)<g.pl):g.perfV p=g.perf p/\g.perfE p=0:=by
 have h1:g.perfE p=0:=by
  unfold Gm.perfE;rw[Wa (by simpa using hf),Wa (by omega)]
 exact⟨by unfold Gm.perfV; rw[Wb h1],h1⟩
theorem QuB (hf:g.formE=0) {B:Wu} (hB:Qd B H.length 0=g.cells) {N:Nat} {K:Wt}
 (hret:∀ e env,Qaz (Qcv g) g.pl.toNat 0=e->e≠0->env.get 2=i64 e->K .ret env B) (hexit:Qaz (Qcv g) g.pl.toNat 0=0->∀ env,K (.exit 0) env B) :
 ∀ (m p:Nat) (env:Env),((p+m:Nat):Int)=g.pl->Qaz (Qcv g) m p=Qaz (Qcv g) g.pl.toNat 0->env.get 1=.ptr (.own H.length 0 0 0 0) 0->env.get 13=i64 g.pl->env.get 14=i64 p->LI Try.prog N Qh Qgq env B K:=by
 have hW:=Qfk hf;have hp4:=hW.gd.p4;intro m
 induction m with
 |zero =>
  intro p env hp hE h1 h13 h14;refine Qc hm Qgq.eq_1 ?_;simp -implicitDefEqProofs[h13,h14,show ¬ (p:Int)<g.pl by omega];exact hexit hE.symm _
 |succ m ih =>
  intro p env hp hE h1 h13 h14;refine Qc hm Qgq.eq_1 ?_;have hpp:(p:Int)<g.pl:=by omega
  obtain⟨q1,q2⟩:=Quo hf hpp;have h63:=λH=>ok63 (H:=H) (g:=g) p;rw[q1,q2]at h63;simp only[Gm.cells]at h63 hB;have w1:=QR (show p<9223372036854775807 by omega);simp -implicitDefEqProofs[h1,h13,h14,hpp,hB];refine Qj (h63 _) ?_;by_cases hq:g.perf p=true
  . have hE2:Qaz (Qcv g) m (p+1)=Qaz (Qcv g) g.pl.toNat 0:=by rw[<-hE]; simp[Qaz,Qcv,hq]
    simp -implicitDefEqProofs[hq,h1,h13,h14];refine ih (p+1) _ (by omega) hE2 ?_ ?_ ?_
    . simp
    . simp
    . simp[w1]
  . have hE2:Qaz (Qcv g) g.pl.toNat 0=13:=by rw[<-hE]; simp[Qaz,Qcv,hq]
    have hq':g.perf p=false:=by simpa using hq
    simp -implicitDefEqProofs[hq'];exact hret 13 _ hE2 (by decide) (by simp)
theorem ok36:Ok Try.prog 36 [.agg g.cells] H (.ret (i64 g.prpE)) H:=by
 refine Qq hm Try.func36 c36 (by simp[Gm.cells,Qbe,Qbj]) λhcl => ?_;have h62:=λH=>ok62 (H:=H) (g:=g);simp only[Gm.cells]at h62;simp -implicitDefEqProofs[i36,r36,Gm.cells];refine Qj (h62 _) ?_;by_cases hf:g.formE=0
 . have e:g.prpE=Qaz (Qcv g) g.pl.toNat 0:=by unfold Gm.prpE; rw[Wa (by simpa using hf)]
   have hp:=(Qfk hf).gd.p1;simp -implicitDefEqProofs[hf];rw[e];refine QuB (H:=H) hf (by simp[Gm.cells]) (λe env he hne h2 => ?_) (λhe env => ?_) g.pl.toNat 0 _ (by omega) rfl (by simp) (by simp) (by simp)
   . simp -implicitDefEqProofs[h2];rw[he];exact Ql 1 hcl rfl (by simp)
   . simp -implicitDefEqProofs;rw[he];exact Ql 1 hcl rfl (by simp)
 . have e:g.prpE=g.formE:=by unfold Gm.prpE; rw[Wb hf]
   simp -implicitDefEqProofs[hf,e];exact Ql 1 hcl rfl (by simp)
end
def Qck (g:Gm) (L:List (List Int)) (least:Int) (i:Nat):Int :=
 if((Qag L i:Nat):Int)≠(g.is.getD i (0,0)).2 then 3 else if(L.getD i []).any (λx=>decide (x<least)||decide (70368744177664<x))=true then 2 else 0
def Qbd (g:Gm) (L:List (List Int)) (least:Int):Int:=if L.length≠g.is.length then 3 else Qaz (Qck g L least) g.is.length 0
section
variable {g:Gm} {H B:Wu} {L:List (List Int)} {least:Int}
set_option maxRecDepth 10000 in
theorem Qq4 {l:List Int} (hl:l.length<=10) {x17 x18 x19:SV} {N:Nat} {K:Wt}
 (hret:l.any (λx=>decide (x<least)||decide (70368744177664<x))=true->∀ env,env.get 6=i64 2->K .ret env B)
 (hexit:l.any (λx=>decide (x<least)||decide (70368744177664<x))=false->∀ env,env.get 2=i64 least->env.get 3=.ptr (.own H.length 0 0 0 0) 0->env.get 17=x17->env.get 18=x18->env.get 19=x19->K (.exit 2) env B) :
 ∀ (m i:Nat) (env:Env),i+m=l.length->(∀ j (h:j<l.length),j<i->¬ (l[j]<least\/70368744177664<l[j]))->env.get 2=i64 least->env.get 3=.ptr (.own H.length 0 0 0 0) 0->env.get 17=x17->env.get 18=x18->env.get 19=x19 ->
  env.get 33=sl l->env.get 34=i64 l.length->env.get 35=i64 i->LI Try.prog N Qh QgZ env B K:=by
 intro m
 induction m with
 |zero =>
  intro i env hi hp h2 h3 h17 h18 h19 h33 h34 h35;refine Qc hm QgZ.eq_1 ?_;have e:i=l.length:=by omega
  subst e;simp -implicitDefEqProofs[h34,h35];refine hexit ?_ _ (by simp[h2]) (by simp[h3]) (by simp[h17]) (by simp[h18]) (by simp[h19]);rw[List.any_eq_false];intro x hx;obtain⟨k,hk,rfl⟩:=VX hx;simpa using hp k hk hk
 |succ m ih =>
  intro i env hi hp h2 h3 h17 h18 h19 h33 h34 h35;refine Qc hm QgZ.eq_1 ?_;have hil:i<l.length:=by omega
  have w1:=QR (show i<9223372036854775807 by omega);have bad:(l[i]<least\/70368744177664<l[i])->l.any (λx=>decide (x<least)||decide (70368744177664<x))=true:=λhb=>by
   rw[Yi];exact⟨l[i],Vg hil,by simpa using hb⟩
  by_cases c1:l[i]<least
  . simp -implicitDefEqProofs[h2,h3,h17,h18,h19,h33,h34,h35,hil,sl,c1];exact⟨by omega,hret (bad (.inl c1)) _ (by simp)⟩
  . by_cases c2:70368744177664<l[i]
    . simp -implicitDefEqProofs[h2,h3,h17,h18,h19,h33,h34,h35,hil,sl,c1,c2];exact⟨by omega,hret (bad (.inr c2)) _ (by simp)⟩
    . simp -implicitDefEqProofs[h2,h3,h17,h18,h19,h33,h34,h35,hil,sl,c1,c2];refine⟨by omega,ih (i+1) _ (by omega) (λj hj hji => ?_) ?_ ?_ ?_ ?_ ?_ ?_ ?_ ?_⟩
      rotate_left
      . simp
      . simp[h3]
      . simp[h17]
      . simp[h18]
      . simp[h19]
      . simp[sl]
      . simp
      . simp[w1]
      by_cases e:j=i
      . subst e; exact λh=>h.elim c1 c2
      . exact hp j hj (by omega)
set_option maxRecDepth 10000 in
theorem QpH (hW:Wg g) (hB:Qd B H.length 0=g.cells) (hLl:L.length=g.is.length) {N:Nat} {K:Wt}
 (hret:∀ e env,Qaz (Qck g L least) g.is.length 0=e->env.get 6=i64 e->K .ret env B) (hexit:Qaz (Qck g L least) g.is.length 0=0->∀ env,K (.exit 0) env B) :
 ∀ (m i:Nat) (env:Env),i+m=g.is.length->Qaz (Qck g L least) m i=Qaz (Qck g L least) g.is.length 0->env.get 2=i64 least->env.get 3=.ptr (.own H.length 0 0 0 0) 0->env.get 17=.slc (sls L) L.length->env.get 18=i64 L.length->env.get 19=i64 i ->
  LI Try.prog N Qh QhE env B K:=by
 have hil:=hW.gd.i;intro m
 induction m with
 |zero =>
  intro i env hi hE h2 h3 h17 h18 h19;refine Qc hm QhE.eq_1 ?_;have e:i=L.length:=by omega
  subst e;simp -implicitDefEqProofs[h18,h19];exact hexit hE.symm _
 |succ m ih =>
  intro i env hi hE h2 h3 h17 h18 h19;refine Qc hm QhE.eq_1 ?_;have hii:i<g.is.length:=by omega
  have hiL:i<L.length:=by omega
  have hgi:g.is.getD i (0,0)=g.is[i]:=by simp[hii]
  have hgL:L.getD i []=L[i]:=by simp[hiL]
  have hac:=Qby hW hii;have ha:(g.acts i:Int)=g.is[i].2:=by unfold Gm.acts at hac ⊢; rw[hgi]at hac ⊢; omega
  have w1:=QR (show i<9223372036854775807 by omega);have hig:QbH hii=QbH hii:=rfl;have i2:(Qy g.is)[i*2+1]?.getD .any=i64 g.is[i].2:=by
   rw[<-Vq,QbH hii]; rfl
  have i3:(Qy g.is).length=2*g.is.length:=Qch _;simp only[Gm.cells]at hB;by_cases hl:(L[i].length:Int)=g.is[i].2
  . have hR:Qck g L least i=if L[i].any (λx=>decide (x<least)||decide (70368744177664<x))=true then 2 else 0:=by
     unfold Qck;rw[Qfb hiL,hgi,Wa (by simpa using hl),hgL]
    simp -implicitDefEqProofs[h2,h3,h17,h18,h19,hiL,hii,QbY hiL,hB,i2,i3,hl,sl];repeat (refine⟨by omega,?_⟩)
    refine Qq4 (H:=H) (l:=L[i]) (least:=least) (by omega) (x17:=.slc (sls L) L.length) (x18:=i64 L.length) (x19:=i64 i) (λhb env g6 => ?_) (λhb env g2 g3 g17 g18 g19 => ?_) L[i].length 0 _ (by omega) (λj hj hj0=>by omega) (by simp[h2]) (by simp[h3]) (by simp[h17]) (by simp[h18]) (by simp[h19]) (by simp[sl]) (by simp[hl]) (by simp)
    . simp -implicitDefEqProofs;refine hret 2 _ ?_ g6;rw[<-hE]; simp[Qaz,hR,hb]
    . simp -implicitDefEqProofs[g2,g3,g17,g18,g19];refine ih (i+1) _ (by omega) (by rw[<-hE]; simp[Qaz,hR,hb]) ?_ ?_ ?_ ?_ ?_
      . simp[g2]
      . simp[g3]
      . simp[g17]
      . simp[g18]
      . simp[w1]
  . have hR:Qck g L least i=3:=by
     unfold Qck;rw[Qfb hiL,hgi,Wb hl]
    simp -implicitDefEqProofs[h2,h3,h17,h18,h19,hiL,hii,QbY hiL,hB,i2,i3,hl,sl];repeat (refine⟨by omega,?_⟩)
    refine hret 3 _ ?_ (by simp);rw[<-hE]; simp[Qaz,hR]
theorem ok39 (hW:Wg g):Ok Try.prog 39 [.agg g.cells,.slc (sls L) L.length,i64 least] H (.ret (i64 (Qbd g L least))) H:=by
 refine Qq hm Try.func39 c39 (by simp[Gm.cells,Qbe,Qbj,QcT]) λhcl => ?_;simp -implicitDefEqProofs[i39,r39,Gm.cells];by_cases hl:L.length=g.is.length
 . have e:Qbd g L least=Qaz (Qck g L least) g.is.length 0:=by unfold Qbd; rw[Wa (by simpa using hl)]
   rw[e];simp -implicitDefEqProofs[hl];refine QpH (H:=H) (least:=least) (L:=L) hW (by simp[Gm.cells]) hl (λe env he h6 => ?_) (λhe env => ?_) g.is.length 0 _ (by omega) rfl (by simp) (by simp) (by simp[hl]) (by simp[hl]) (by simp)
   . simp -implicitDefEqProofs[h6];rw[he];exact Ql 1 hcl rfl (by simp)
   . simp -implicitDefEqProofs;rw[he];exact Ql 1 hcl rfl (by simp)
 . have e:Qbd g L least=3:=by unfold Qbd; rw[Wb hl]
   rw[e];have hl2:¬ (L.length:Int)=g.is.length:=by omega
   simp -implicitDefEqProofs[hl2,hl];exact Ql 1 hcl rfl (by simp)
end
structure Tin where
 rnd:Int
 seed:Int
 A:List (List Int)
 P:List (List Int)
def Tin.cells (t:Tin):Wv:=[i64 t.rnd,i64 t.seed,.slc (sls t.A) t.A.length,.slc (sls t.P) t.P.length]
def Qcn (g:Gm) (t:Tin):Int:=if t.rnd<0\/1000000<t.rnd\/t.seed<0\/2147483646<t.seed then 2 else if Qbd g t.A (-70368744177664)≠0 then Qbd g t.A (-70368744177664)else Qbd g t.P 0
def Qao (g:Gm) (t:Tin):Int:=if g.prpE≠0 then g.prpE else Qcn g t
theorem Qi4 {g:Gm} (h:g.prpE=0):Wg g:=by
 unfold Gm.prpE at h;by_cases hf:g.formE=0
 . exact Qfk hf
 . rw[Wb hf]at h; exact absurd h hf
section
variable {g:Gm} {H:Wu} {t:Tin}
set_option maxRecDepth 10000 in
theorem QiC:Ok Try.prog 16 [.agg g.cells,.agg t.cells] H (.ret (i64 (Qao g t))) H:=by
 refine Qq hm Try.func16 c16 (by simp[Gm.cells,Qbe,Qbj,Tin.cells,QcT]) λhcl => ?_;have h36:=λH=>ok36 (H:=H) (g:=g);have h39:=λH L le hW=>ok39 (H:=H) (g:=g) (L:=L) (least:=le) hW;simp only[Gm.cells]at h36 h39;simp -implicitDefEqProofs[i16,r16,Gm.cells,Tin.cells];refine Qj (h36 _) ?_;by_cases hp:g.prpE=0
 . have hW:=Qi4 hp;have e:Qao g t=Qcn g t:=by unfold Qao; rw[Wa (by simpa using hp)]
   rw[e];by_cases c1:t.rnd<0
   . simp -implicitDefEqProofs[hp,c1];exact Ql 1 hcl rfl (by simp[Qcn,c1])
   . by_cases c2:1000000<t.rnd
     . simp -implicitDefEqProofs[hp,c1,c2];exact Ql 1 hcl rfl (by simp[Qcn,c1,c2])
     . by_cases c3:t.seed<0
       . simp -implicitDefEqProofs[hp,c1,c2,c3];exact Ql 1 hcl rfl (by simp[Qcn,c1,c2,c3])
       . by_cases c4:2147483646<t.seed
         . simp -implicitDefEqProofs[hp,c1,c2,c3,c4];exact Ql 1 hcl rfl (by simp[Qcn,c1,c2,c3,c4])
         . simp -implicitDefEqProofs[hp,c1,c2,c3,c4];refine Qj (h39 _ _ _ hW) ?_;by_cases c5:Qbd g t.A (-70368744177664)=0
           . simp -implicitDefEqProofs[c5];refine Qj (h39 _ _ _ hW) ?_;simp -implicitDefEqProofs;exact Ql 1 hcl rfl (by simp[Qcn,c1,c2,c3,c4,c5])
           . simp -implicitDefEqProofs[c5];exact Ql 1 hcl rfl (by simp[Qcn,c1,c2,c3,c4,c5])
 . have e:Qao g t=g.prpE:=by unfold Qao; rw[Wb hp]
   rw[e];simp -implicitDefEqProofs[hp];exact Ql 1 hcl rfl (by simp)
end
abbrev rpt (f:Nat):SV:=.ptr (.own f 0 0 0 0) 0
def zT:AO:=⟨[i64 0,i64 0,nl,nl],28,0,true⟩
def eT (e:Int):AO:=⟨[i64 e],31,0,true⟩
section
variable {H:Wu}
theorem QsU {f g:Nat} (hf:f<H.length) (hg:g<H.length):OkD Try.prog 27 [rpt f,rpt g] H none (λH'=>H'=H):=by
 refine Ql2 hm Try.func27 c27 (by rfl) λhcl => ?_;simp -implicitDefEqProofs[QjW,i27,rvD,SV.isIf,SV.ifNil];exact Qn
theorem QpY {f g:Nat} {c1 c2:Wv} (hf:H[f]? = some ⟨c1,28,0,true⟩) (hc1:c1.length=4) (hg:H[g]? = some ⟨c2,31,0,true⟩) (hc2:c2.length=1) (hne:f≠g) :
 OkD Try.prog 27 [rpt f,rpt g] H (some QdI) (λH'=>H'=(H.set f zT).set g (eT 5)):=by
 have hj:=Qb hf;have hjg:=Qb hg;have e1:∀ L,Qd (H++L) f 0=c1:=λL=>Qce hf L;have e10:Qd H f 0=c1:=oc0 hf;have e2:∀ (L:Wu) (h:AO->AO),Ab.setObj (H++L) f h=H.set f (h ⟨c1,28,0,true⟩)++L:=λL h=>QiB hf L h;have hg':(H.set f zT)[g]? = some ⟨c2,31,0,true⟩:=by rw[Ve hne]; exact hg
 have hg2:((H.set f zT).set g (eT 13))[g]? = some (eT 13):=by rw[Vh (by simpa using hjg)]
 have d1:List.drop 4 c1=[]:=ZF (by omega);have d2:List.drop 1 c2=[]:=ZF (by omega);have d3:c2.tail=[]:=by rw[<-List.drop_one]; exact d2
 have s1:∀ h:AO->AO,Ab.setObj H f h=H.set f (h ⟨c1,28,0,true⟩):=λh=>QU hf h;have o1:Qd (H.set f zT) g 0=c2:=oc0 hg';have s2:∀ h:AO->AO,Ab.setObj (H.set f zT) g h=(H.set f zT).set g (h ⟨c2,31,0,true⟩):=λh=>QU hg' h;have o2:∀ L,Qd ((H.set f zT).set g (eT 13)++L) g 0=[i64 13]:=λL=>Qce hg2 L;have s3:∀ (L:Wu) (h:AO->AO),Ab.setObj ((H.set f zT).set g (eT 13)++L) g h=((H.set f zT).set g (eT 13)).set g (h (eT 13))++L:=λL h=>QiB hg2 L h;have n1:∀ (L:Wu) (v:Nat),Qd ((H.set f zT).set g (eT 13)++L) H.length v=Qd L 0 v:=λL v=>Qc5 (H:=H) (L:=L) (a:=f) (k:=g) (o:=zT) (p:=eT 13) v;have n2:∀ (L:Wu) (h:AO->AO),Ab.setObj ((H.set f zT).set g (eT 13)++L) H.length h=(H.set f zT).set g (eT 13)++Ab.setObj L 0 h:=λL h=>by
  have:=Qc8 (H:=H) (L:=L) (a:=f) (k:=g) (o:=zT) (p:=eT 13) 0 h;simpa[G2]using this
 have hcz:closed H->closed ((H.set f zT).set g (eT 5)):=λhcl=>Qcq (Qcq hcl f (o:=zT) (by simp[zT])) g (by simp[eT]);simp only[zT,eT]at o1 s2 o2 s3 n1 n2;refine Ql2 hm Try.func27 c27 (by rfl) λhcl => ?_;simp -implicitDefEqProofs[QjW,i27,rvD,SV.isIf,SV.ifNil,QdI,e10,s1,hc1,d1,o1,s2,hc2,d2,d3,o2,s3,SV.ifIs,SV.ifVal,n1,n2];refine⟨rfl,?_⟩;exact Qfo rfl (by simp) (by simpa[zT,eT]using hcz hcl) rfl
end
def okB (g:Gm) (s:TS):Bool:=(List.range g.is.length).all λi=>(List.range (g.acts i)).all λa => !(decide ((s.A i).getD a 0 < -70368744177664)) && !(decide (70368744177664<(s.A i).getD a 0)) && !(decide (70368744177664<(s.P i).getD a 0))
theorem QiN {g:Gm} {s:TS}:okB g s=true↔QaE g s:=by
 unfold okB QaE Qa5;simp only[Vv,VI,Va,VH,Wo];constructor
 . intro h i hi a ha; have:=h i hi a ha; exact⟨this.1.1,this.1.2,this.2⟩
 . intro h i hi a ha; have:=h i hi a ha; exact⟨⟨this.1,this.2.1⟩,this.2.2⟩
def Qbq (g:Gm):Nat->TS->Option TS
 |0,s=>some s
 |n+1,s=>if okB g (Qai g (cTC g) s)=true then Qbq g n (Qai g (cTC g) s)else none
def Tin.zero:Tin:=⟨0,0,[],[]⟩
def QQ (g:Gm) (s:TS):Tin:=⟨s.rnd,s.seed,(List.range g.is.length).map s.A,(List.range g.is.length).map s.P⟩
def QaB (g:Gm) (t:Tin) (n:Int):Tin×Int :=
 if Qao g t≠0 then(.zero,Qao g t)else if n<0\/20000<n\/1000000<t.rnd+n then(.zero,2)else
  match Qbq g n.toNat (s0T g t.rnd t.seed t.A t.P)with
  |none=>(.zero,5)
  |some s=>(QQ g s,0)
theorem Qb3 {g:Gm} (hW:Wg g) {L:List (List Int)} {least:Int} (h:Qbd g L least=0):L.length=g.is.length/\∀ i,i<g.is.length->Qag L i=g.acts i/\∀ x∈L.getD i [],least<=x/\x<=70368744177664:=by
 unfold Qbd at h;by_cases hl:L.length=g.is.length
 . rw[Wa (by simpa using hl),Qgj]at h;refine⟨hl,λi hi => ?_⟩;have hr:=h i (YE _) (by omega);have hgi:g.is.getD i (0,0)=g.is[i]:=by simp[hi]
   have hac:=Qby hW hi;have ha:(g.acts i:Int)=g.is[i].2:=by unfold Gm.acts at hac ⊢; rw[hgi]at hac ⊢; omega
   unfold Qck at hr;rw[hgi]at hr;by_cases h1:((Qag L i:Nat):Int)=g.is[i].2
   . rw[Wa (by simpa using h1)]at hr;refine⟨by omega,λx hx => ?_⟩;split at hr
     . cases hr
     . rename_i h2;simp only[Yi,not_exists,not_and,VY,Wd]at h2;have:=h2 x hx;omega
   . rw[Wb h1]at hr; cases hr
 . rw[Wb hl]at h; cases h
theorem QdG {g:Gm} {t:Tin} (h:Qao g t=0):Wg g/\0<=t.rnd/\t.rnd<=1000000/\Qbd g t.A (-70368744177664)=0/\Qbd g t.P 0=0:=by
 unfold Qao at h;by_cases hp:g.prpE=0
 . rw[Wa (by simpa using hp)]at h;unfold Qcn at h;split at h
   . cases h
   . split at h
     . rename_i h1 h2; exact absurd h h2
     . rename_i h1 h2;exact⟨Qi4 hp,by omega,by omega,by simpa using h2,h⟩
 . rw[Wb hp]at h; exact absurd h hp
theorem QmN {g:Gm} {t:Tin} (h:Qao g t=0):QaE g (s0T g t.rnd t.seed t.A t.P):=by
 obtain⟨hW,h1,h2,h3,h4⟩:=QdG h;obtain⟨a1,a2⟩:=Qb3 hW h3;obtain⟨p1,p2⟩:=Qb3 hW h4;intro i hi a ha;have la:a<(t.A.getD i []).length:=by have:=(a2 i hi).1; unfold Qag at this; omega
 have lp:a<(t.P.getD i []).length:=by have:=(p2 i hi).1; unfold Qag at this; omega
 have e1:(t.A.getD i []).getD a 0=(t.A.getD i [])[a]:=by rw[Vr,Vb la]; rfl
 have e2:(t.P.getD i []).getD a 0=(t.P.getD i [])[a]:=by rw[Vr,Vb lp]; rfl
 have q1:=(a2 i hi).2 _ (Vg la);have q2:=(p2 i hi).2 _ (Vg lp);unfold Qa5;simp only[s0T,e1,e2];omega
section
variable {H G:Wu}
theorem Qly {p:Nat} (hp:H.length<=p) {l:List Int} {T:Wy} {v:Nat} (h:G[p]? = some ⟨Qa l,T,v,true⟩) (d:Nat):SV.fz H.length [] (G.drop H.length) (d+2) (.own p 0 l.length 1 v)=sl l:=by
 have hg:(G.drop H.length)[p-H.length]? = some ⟨Qa l,T,v,true⟩:=by rw[Vq,show H.length+(p-H.length)=p by omega]; exact h
 unfold SV.fz;rw[Wa (by simp[SV.under]; omega)];simp only[hg,QY];simp[sl]
theorem QoW {g:Gm} {p:Nat} (hp:H.length<=p) {q:Nat->Nat} {n:Nat->Nat} {A:Nat->List Int} {v w:Nat} {T:Wy} (h:G[p]? = some ⟨QJ g.is.length q n v,T,w,true⟩)
 (hq:∀ i,i<g.is.length->H.length<=q i/\G[q i]? = some ⟨Qa (A i),3,v,true⟩/\(A i).length=n i) (d:Nat) :
 SV.fz H.length [] (G.drop H.length) (d+3) (.own p 0 g.is.length 1 w)=.slc (sls ((List.range g.is.length).map A)) g.is.length:=by
 have hg:(G.drop H.length)[p-H.length]? = some ⟨QJ g.is.length q n v,T,w,true⟩:=by rw[Vq,show H.length+(p-H.length)=p by omega]; exact h
 unfold SV.fz;rw[Wa (by simp[SV.under]; omega)];simp only[hg,QY];simp only[Qnu,Yc,VZ,Vc,and_self,We,Y0];congr 1;have e:List.take g.is.length (QJ g.is.length q n v)=QJ g.is.length q n v:=VE (by simp);rw[e];simp only[QJ,sls,YS];apply VA;intro i hi;simp only[VI]at hi;obtain⟨q1,q2,q3⟩:=hq i hi;simp only[Function.comp_apply];rw[<-q3];exact Qly q1 q2 d
end
section
variable {H:Wu} {g:Gm}
def hb8 (H:Wu) (g:Gm) (t:Tin):Wu:=H++[QG g,⟨t.cells,28,0,true⟩,zT,eT 0]
@[simp] theorem QtO (t:Tin):(hb8 H g t).length=H.length+4:=by simp[hb8]
theorem QjK {t:Tin} {i:Nat} (h:i<H.length):(hb8 H g t)[i]? = H[i]? := by unfold hb8; rw[Vd h]
theorem Qdq {t:Tin} (k:Nat):(hb8 H g t)[H.length+k]? = [QG g,⟨t.cells,28,0,true⟩,zT,eT 0][k]? := by
 unfold hb8; rw[Vf (by omega)]; congr 1; omega
theorem Qut {t:Tin} (hcl:closed H):closed (hb8 H g t):=by
 intro i o ho s hs;rw[QtO];by_cases hi:i<H.length
 . rw[QjK hi]at ho;exact SV.under_mono (by omega) s (hcl i o ho s hs)
 . obtain⟨k,rfl⟩:∃ k,i=H.length+k:=⟨i-H.length,by omega⟩;rw[Qdq]at ho;have hm:=Vn ho;simp only[Vi,VL,Wi]at hm;have:SV.underL (H.length+4) o.cells=true:=by
    rcases hm with rfl|rfl|rfl|rfl
    . simp[QG,Qbe,Qbj]
    . simp[Tin.cells,QcT]
    . simp[zT]
    . simp[eT]
   exact(SV.underL_iff _ _).1 this s hs
set_option maxRecDepth 10000 in
theorem Qqt (hW:Wg g) {B:Wu} {x6 x7:SV} {nn:Nat} (hn:nn<=20000) {s0:TS} {N:Nat} {K:Wt}
 (hpan:Qbq g nn s0=none->∀ env G s,TW g B (cTC g) s G->env.get 6=x6->env.get 7=x7->K (.panic QdI) env G)
 (hexit:∀ s,Qbq g nn s0=some s->∀ env G,TW g B (cTC g) s G->env.get 6=x6->env.get 7=x7->env.get 9=.ptr (.own (pW B g) 0 0 0 0) 0->K (.exit 0) env G) :
 ∀ (m j:Nat) (env:Env) (G:Wu) (s:TS),j+m=nn->QaE g s->Qbq g m s=Qbq g nn s0->TW g B (cTC g) s G->env.get 6=x6->env.get 7=x7->env.get 9=.ptr (.own (pW B g) 0 0 0 0) 0->env.get 45=i64 nn->env.get 46=i64 j ->
  LI Try.prog N Qh Qgm env G K:=by
 intro m
 induction m with
 |zero =>
  intro j env G s hj hk hr h h6 h7 h9 h45 h46;refine Qc hm Qgm.eq_1 ?_;have e:j=nn:=by omega
  subst e;simp -implicitDefEqProofs[h45,h46];exact hexit s hr.symm _ _ h (by simp[h6]) (by simp[h7]) (by simp[h9])
 |succ m ih =>
  intro j env G s hj hk hr h h6 h7 h9 h45 h46;refine Qc hm Qgm.eq_1 ?_;have hjn:j<nn:=by omega
  have w1:=QR (show j<9223372036854775807 by omega);simp -implicitDefEqProofs[h9,h45,h46,hjn];refine Q6 (ok30 hW (Qn3 hW) h hk) λout G' hP => ?_;obtain⟨h2,⟨hk2,rfl⟩|⟨hk2,rfl⟩⟩:=hP
  . simp -implicitDefEqProofs[h6,h7,h9,h45,h46];refine ih (j+1) _ _ _ (by omega) hk2 ?_ h2 ?_ ?_ ?_ ?_ ?_
    . rw[<-hr]; simp[Qbq,QiN.2 hk2]
    . simp[h6]
    . simp[h7]
    . simp
    . simp
    . simp[w1]
  . simp -implicitDefEqProofs;refine hpan ?_ _ _ _ h2 (by simp[h6]) (by simp[h7]);rw[<-hr];have:¬ okB g (Qai g (cTC g) s)=true:=λhb=>hk2 (QiN.1 hb);simp[Qbq,this]
theorem QpA {t:Tin} {n:Int} (hcl:closed H) (he:QaB g t n=(.zero,5)) {s:TS} {G:Wu} {env:Env} (h:TW g (hb8 H g t) (cTC g) s G) (h6:env.get 6=rpt (H.length+2)) (h7:env.get 7=rpt (H.length+3)) :
 QhK Try.prog H.length r8 (λo h=>o=.ret (.tup [.agg (QaB g t n).1.cells,i64 (QaB g t n).2])/\h=H) 27 [rpt (H.length+2),rpt (H.length+3)] (.panic QdI) env G:=by
 have g2:G[H.length+2]? = some ⟨[i64 0,i64 0,nl,nl],28,0,true⟩:=by rw[h.low _ (by simp),Qdq]; rfl
 have g3:G[H.length+3]? = some ⟨[i64 0],31,0,true⟩:=by rw[h.low _ (by simp),Qdq]; rfl
 refine⟨_,QpY g2 rfl g3 rfl (by omega),?_⟩;rintro H4 rfl;have l2:=Qb g2;have l3:=Qb g3;have e2:Qd ((G.set (H.length+2) zT).set (H.length+3) (eT 5)) (H.length+2) 0=[i64 0,i64 0,nl,nl]:=oc0 (T:=28) (by rw[Ve (by omega),Vh l2]; rfl);have e3:Qd ((G.set (H.length+2) zT).set (H.length+3) (eT 5)) (H.length+3) 0=[i64 5]:=oc0 (T:=31) (by rw[Vh (by simpa using l3)]; rfl);obtain⟨L,hL⟩:∃ L,(G.set (H.length+2) zT).set (H.length+3) (eT 5)=H++L:=by
  refine⟨((G.set (H.length+2) zT).set (H.length+3) (eT 5)).drop H.length,?_⟩;apply Vx;intro i;by_cases hi:i<H.length
  . rw[Ve (by omega),Ve (by omega),h.low i (by simp; omega),QjK hi,Vd hi]
  . rw[Vf (by omega),Vq];congr 1; omega
 refine⟨?_,_,H,⟨rfl,rfl⟩,?_⟩
 . intro s hs;simp only[r8,Vi,VL,Wi]at hs;rcases hs with rfl|rfl
   . simp[RS.side,h6,rpt,e2]
   . simp[RS.side,h7,rpt,e3]
 . have hr:QaL env ((G.set (H.length+2) zT).set (H.length+3) (eT 5)) r8=.tup [.agg [i64 0,i64 0,nl,nl],i64 5]:=by
    simp[QaL,r8,RS.ev,h6,h7,rpt,e2,e3]
   rw[hr,hL,he];refine Cv.le (Ql (r:=.tup [.agg [i64 0,i64 0,nl,nl],i64 5]) 3 hcl rfl (Qap rfl)) ?_;refine QiX (leL.cons (Qfs (leL.cons (SV.le.refl _) (leL.cons (SV.le.refl _) (leL.cons Qdv (leL.cons Qdv leL.nil))))) (leL.refl _))
end
section
variable {H:Wu} {g:Gm}
theorem zero_le (e:Int):SV.le (.tup [.agg [i64 0,i64 0,nl,nl],i64 e]) (.tup [.agg Tin.zero.cells,i64 e]) :=
 QiX (leL.cons (Qfs (leL.cons (SV.le.refl _) (leL.cons (SV.le.refl _) (leL.cons Qdv (leL.cons Qdv leL.nil))))) (leL.refl _))
theorem Qj1 (hcl:closed H) (e:Int) (L:Wu):Cv H.length (.tup [.agg [i64 0,i64 0,nl,nl],i64 e]) (H++L) (.tup [.agg Tin.zero.cells,i64 e]) H :=
 Cv.le (Ql (r:=.tup [.agg [i64 0,i64 0,nl,nl],i64 e]) 3 hcl rfl (Qap rfl)) (zero_le e)
theorem Qp3 {t:Tin} {n:Int} (hcl:closed H) {s:TS} (he:QaB g t n=(QQ g s,0)) {G:Wu} {env:Env} (h:TW g (hb8 H g t) (cTC g) s G) (h6:env.get 6=rpt (H.length+2)) (h7:env.get 7=rpt (H.length+3)) :
 QhK Try.prog H.length r8 (λo h=>o=.ret (.tup [.agg (QaB g t n).1.cells,i64 (QaB g t n).2])/\h=H) 27 [rpt (H.length+2),rpt (H.length+3)] .ret env
  ((G.set (H.length+2) ⟨[i64 s.rnd,i64 s.seed,.own (pAo (hb8 H g t) g) 0 g.is.length 1 0,.own (pPo (hb8 H g t) g) 0 g.is.length 1 0],28,0,true⟩).set (H.length+3) (eT 0)):=by
 have g2:G[H.length+2]? = some ⟨[i64 0,i64 0,nl,nl],28,0,true⟩:=by rw[h.low _ (by simp),Qdq]; rfl
 have g3:G[H.length+3]? = some ⟨[i64 0],31,0,true⟩:=by rw[h.low _ (by simp),Qdq]; rfl
 have l2:=Qb g2;have l3:=Qb g3;refine⟨_,QsU (by simpa using l2) (by simpa using l3),?_⟩;rintro H4 rfl;generalize hG2:(G.set (H.length+2) ⟨[i64 s.rnd,i64 s.seed,.own (pAo (hb8 H g t) g) 0 g.is.length 1 0,.own (pPo (hb8 H g t) g) 0 g.is.length 1 0],28,0,true⟩).set (H.length+3) (eT 0)=G2;have e2:Qd G2 (H.length+2) 0=[i64 s.rnd,i64 s.seed,.own (pAo (hb8 H g t) g) 0 g.is.length 1 0,.own (pPo (hb8 H g t) g) 0 g.is.length 1 0]:=oc0 (T:=28) (by rw[<-hG2,Ve (by omega),Vh l2]);have e3:Qd G2 (H.length+3) 0=[i64 0]:=oc0 (T:=31) (by rw[<-hG2,Vh (by simpa using l3)]; rfl);have up:∀ i,H.length+4<=i->G2[i]? = G[i]? := λi hi=>by rw[<-hG2,Ve (by omega),Ve (by omega)]
 have hL:G2=H++G2.drop H.length:=by
  apply Vx;intro i;by_cases hi:i<H.length
  . rw[Vd hi,<- hG2,Ve (by omega),Ve (by omega),h.low i (by simp; omega),QjK hi]
  . rw[Vf (by omega),Vq];congr 1; omega
 refine⟨?_,_,H,⟨rfl,rfl⟩,?_⟩
 . intro s hs;simp only[r8,Vi,VL,Wi]at hs;rcases hs with rfl|rfl
   . simp[RS.side,h6,rpt,e2]
   . simp[RS.side,h7,rpt,e3]
 . have hr:QaL env G2 r8=.tup [.agg [i64 s.rnd,i64 s.seed,.own (pAo (hb8 H g t) g) 0 g.is.length 1 0,.own (pPo (hb8 H g t) g) 0 g.is.length 1 0],i64 0]:=by
    simp[QaL,r8,RS.ev,h6,h7,rpt,e2,e3]
   rw[hr,he];have hA:=QoW (H:=H) (G:=G2) (g:=g) (p:=pAo (hb8 H g t) g) (by unfold pAo; simp) (A:=s.A) (by rw[up _ (by unfold pAo; simp)]; exact h.ao) (λi hi=>⟨by unfold pA; simp; omega,by rw[up _ (by unfold pA; simp; omega)]; exact h.a i hi,h.l.A i hi⟩) 1;have hP:=QoW (H:=H) (G:=G2) (g:=g) (p:=pPo (hb8 H g t) g) (by unfold pPo; simp; omega) (A:=s.P) (by rw[up _ (by unfold pPo; simp; omega)]; exact h.po) (λi hi=>⟨by unfold pP; simp; omega,by rw[up _ (by unfold pP; simp; omega)]; exact h.p i hi,h.l.P i hi⟩) 1;have hfz:SV.fz H.length [] (G2.drop H.length) 6 (.tup [.agg [i64 s.rnd,i64 s.seed,.own (pAo (hb8 H g t) g) 0 g.is.length 1 0,.own (pPo (hb8 H g t) g) 0 g.is.length 1 0],i64 0])=.tup [.agg (QQ g s).cells,i64 0]:=by
    rw[QhF];simp only[Vs,V3,Qcd];rw[QkZ];simp only[Vs,V3,Qcd];rw[hA,hP];simp[QQ,Tin.cells]
   have:=Ql (n0:=H.length) (H:=H) (L:=G2.drop H.length) 6 hcl rfl hfz;rw[<-hL]at this;exact this
theorem ok8 (t:Tin) (n:Int) (hn : -9223372036854775808<=n/\n<=9223372036854775807):Ok Try.prog 8 [.agg g.cells,.agg t.cells,i64 n] H (.ret (.tup [.agg (QaB g t n).1.cells,i64 (QaB g t n).2])) H:=by
 refine OkP.toOk (QrP hm Try.func8 c8 (by rfl) λhcl => ?_);have h16:=λH=>QiC (H:=H) (g:=g) (t:=t);simp only[Gm.cells,Tin.cells]at h16;simp -implicitDefEqProofs[XL,i8p,i8a0,i8a1,i8a2,Gm.cells,Tin.cells];refine Qj (h16 _) ?_;by_cases hc:Qao g t=0
 . obtain⟨hW,r1,r2,r3,r4⟩:=QdG hc;by_cases hb:n<0\/20000<n\/1000000<t.rnd+n
   . have e:QaB g t n=(.zero,2):=by unfold QaB; rw[Wa (by simpa using hc),Wb hb]
     have fin:Qbf H.length (λo h=>o=.ret (.tup [.agg (QaB g t n).1.cells,i64 (QaB g t n).2])/\h=H) (.tup [.agg [i64 0,i64 0,nl,nl],i64 2]) (H++[⟨[i64 g.pl,.slc (nds g.ns) g.ns.length,.slc (Qy g.is) g.is.length],25,0,true⟩,⟨[i64 t.rnd,i64 t.seed,.slc (sls t.A) t.A.length,.slc (sls t.P) t.P.length],28,0,true⟩,⟨[i64 0,i64 0,nl,nl],28,0,true⟩,⟨[i64 2],31,0,true⟩]):=by
      rw[e];exact⟨_,_,⟨rfl,rfl⟩,Qj1 hcl _ _⟩
     by_cases b1:n<0
     . simp -implicitDefEqProofs[hc,XL,Qec,r8,b1];exact⟨rfl,fin⟩
     . by_cases b2:20000<n
       . simp -implicitDefEqProofs[hc,XL,Qec,r8,b1,b2];exact⟨rfl,fin⟩
       . have b3:1000000<t.rnd+n:=by omega
         have w1:IntKind.i64.wrap (t.rnd+n)=t.rnd+n:=Qi (by omega) (by omega);simp -implicitDefEqProofs[hc,XL,Qec,r8,b1,b2,w1,b3];exact⟨rfl,fin⟩
   . have b1:¬ n<0:=by omega
     have b2:¬ 20000<n:=by omega
     have b3:¬ 1000000<t.rnd+n:=by omega
     have w1:IntKind.i64.wrap (t.rnd+n)=t.rnd+n:=Qi (by omega) (by omega);obtain⟨a1,a2⟩:=Qb3 hW r3;obtain⟨p1,p2⟩:=Qb3 hW r4;have hil:=hW.gd.i;have rw_ok:∀ (L:List (List Int)),L.length=g.is.length->(∀ i,i<g.is.length->Qag L i=g.acts i)->∀ l∈L,l≠[]/\l.length<=1000000:=λL hL hl l hm=>by
      obtain⟨k,hk,rfl⟩:=VX hm;have h1:=hl k (by omega);rw[Qfb hk]at h1;have h2:=Qby hW (show k<g.is.length by omega);exact⟨λe=>by rw[e]at h1; simp at h1; omega,by omega⟩
     have hA:=rw_ok t.A a1 λi hi=>(a2 i hi).1;have hP:=rw_ok t.P p1 λi hi=>(p2 i hi).1;simp -implicitDefEqProofs[hc,XL,Qec,r8,b1,b2,w1,b3,i8s,i8f,i8];refine⟨27,_,⟨rfl,rfl⟩,Qj (ok29 hA (by omega)) ?_⟩;simp -implicitDefEqProofs;refine Qj (ok29 hP (by omega)) ?_;simp -implicitDefEqProofs[a1,p1];have h28:=ok28 (H:=hb8 H g t) (rnd:=t.rnd) (seed:=t.seed) hW (Qut hcl) a1 p1 (λi hi=>(a2 i hi).1) (λi hi=>(p2 i hi).1);have q1:H.length+(g.is.length+1+1+1+1+1)=(hb8 H g t).length+1+g.is.length:=by simp; omega
     have q2:(λi=>H.length+(g.is.length+1+1+1+1+1+1)+i)=λi=>(hb8 H g t).length+1+t.A.length+1+i:=by funext i; simp; omega
     have q3:(λi=>H.length+5+i)=λi=>(hb8 H g t).length+1+i:=by funext i; simp
     have q4:H.length+4=(hb8 H g t).length:=by simp
     have hHeap:(H ++
     ⟨[i64 g.pl,.slc (nds g.ns) g.ns.length,.slc (Qy g.is) g.is.length],25,0,true⟩ ::
      ⟨[i64 t.rnd,i64 t.seed,.slc (sls t.A) g.is.length,.slc (sls t.P) g.is.length],28,0,true⟩ ::
       ⟨[i64 0,i64 0,.val (.slice none 0 0),.val (.slice none 0 0)],28,0,true⟩ ::
        ⟨[i64 0],31,0,true⟩ ::
         ⟨QJ g.is.length (λi=>H.length+5+i) (Qag t.A) 1,36,0,true⟩ ::
          (List.map (Qaf 1) t.A ++
           ⟨QJ g.is.length (λi=>H.length+(g.is.length+1+1+1+1+1+1)+i) (Qag t.P) 1,36,0,true⟩ ::
            List.map (Qaf 1) t.P))=Qa2 (hb8 H g t) t.A t.P:=by
      rw[q2,q3];unfold Qa2;rw[a1,p1];simp only[hb8,QG,zT,eT,Tin.cells,VF,V0,Ye,a1,p1]
     rw[hHeap,q1,q4];simp only[Gm.cells]at h28;refine Q6 h28 λout G1 hP => ?_;obtain⟨rfl,h⟩:=hP;have hgb:Qd G1 H.length 0=[i64 g.pl,.slc (nds g.ns) g.ns.length,.slc (Qy g.is) g.is.length]:=oc0 (T:=25) (by rw[h.low _ (by simp)]; have:=Qdq (H:=H) (g:=g) (t:=t) 0; rw[Yd]at this; rw[this]; rfl);have htb:Qd G1 (H.length+1) 0=t.cells:=oc0 (T:=28) (by rw[h.low _ (by simp),Qdq]; rfl);simp only[Tin.cells]at htb;have hrun:∀ o,Qbq g n.toNat (s0T g t.rnd t.seed t.A t.P)=o->QaB g t n=(match o with|none=>(.zero,5)|some s=>(QQ g s,0)):=λo ho=>by
      unfold QaB;rw[Wa (by simpa using hc),Wa hb,ho];all_goals (cases o<;>rfl)
     simp -implicitDefEqProofs[hgb,htb];have hnn:((n.toNat:Nat):Int)=n:=by omega
     refine Qqt (nn:=n.toNat) hW (x6:=rpt (H.length+2)) (x7:=rpt (H.length+3)) (by omega) (λhr env G s hG g6 g7 => ?_) (λs hr env G hG g6 g7 g9 => ?_) n.toNat 0 _ _ _ (by omega) (QmN hc) rfl h (by simp) (by simp) (by simp) (by simp[hnn]) (by simp)
     . exact QpA hcl (hrun _ hr) hG g6 g7
     . have hwc:=hG.cw0;have k2:G[H.length+2]? = some ⟨[i64 0,i64 0,nl,nl],28,0,true⟩:=by rw[hG.low _ (by simp),Qdq]; rfl
       have k3:G[H.length+3]? = some ⟨[i64 0],31,0,true⟩:=by rw[hG.low _ (by simp),Qdq]; rfl
       have o2:=oc0 k2;have s2:=QU k2;have k4:(G.set (H.length+2) ⟨[i64 s.rnd,i64 s.seed,.own (pAo (hb8 H g t) g) 0 g.is.length 1 0,.own (pPo (hb8 H g t) g) 0 g.is.length 1 0],28,0,true⟩)[H.length+3]? = some ⟨[i64 0],31,0,true⟩:=by rw[Ve (by omega)]; exact k3
       have o3:=oc0 k4;have s3:=QU k4;simp -implicitDefEqProofs[g6,g7,g9,hwc,Qv,o2,s2,o3,s3];exact Qp3 hcl (hrun _ hr) hG (by simp[g6]) (by simp[g7])
 . have e:QaB g t n=(.zero,Qao g t):=by unfold QaB; rw[Wb hc]
   simp -implicitDefEqProofs[hc,XL,Qec,r8];rw[e];exact⟨rfl,_,_,⟨rfl,rfl⟩,Qj1 hcl _ _⟩
end
section
variable {H:Wu}
def ShO (l:List Int):Prop:=l.length<=10/\0<l.length/\∀ v∈l,-70368744177664<=v/\v<=70368744177664
def tB (t:Tin):AO:=⟨t.cells,28,0,true⟩
end
def Qc1 (h:Nat) (g:Gm):Nat->Wu
 |0=>[]
 |k+1=>Qc1 h g k++[Qaf 0 (Qt (g.acts k)),⟨[.own (h+2+2*k) 0 (g.acts k) 1 0],36,0,true⟩]
theorem Qgw (h:Nat) (g:Gm):∀ k,(Qc1 h g k).length=2*k
 |0=>rfl
 |k+1=>by simp[Qc1,Qgw h g k]; omega
theorem Qjy (h:Nat) (g:Gm):∀ (k i:Nat),i<k->(Qc1 h g k)[2*i]? = some (Qaf 0 (Qt (g.acts i)))
 |0,i,hi=>absurd hi (by omega)
 |k+1,i,hi=>by
  have hl:=Qgw h g k;by_cases e:i=k
  . subst e;simp only[Qc1];rw[Vf (by omega),hl];simp
  . simp only[Qc1];rw[Vd (by omega)];exact Qjy h g k i (by omega)
def rowP (g:Gm) (V:List Int) (j:Nat):List Int:=Qf g.pl.toNat λp=>V.getD (j*4+p) 0
def qV (h n j:Nat):Nat:=h+3+2*(n-1-j)
def Qjx (h n i m:Nat):Wv:=(List.range n).map λj=>if j<i then .val (.slice none 0 0)else .own (qV h n j) 0 m 1 0
structure VN (g:Gm) (H:Wu) (V:List Int) (i:Nat) (f:Nat->Int) (X:Wu):Prop where
 b:X[H.length]? = some (QG g)
 o:X[H.length+1]? = some ⟨Qjx H.length g.ns.length i g.pl.toNat,36,0,true⟩
 n:∀ h:i<g.ns.length,X[H.length+2+2*(g.ns.length-1-i)]? = some ⟨g.ns[i].cells,59,0,true⟩
 r0:i<g.ns.length->X[qV H.length g.ns.length i]? = some (Qaf 0 (Qf g.pl.toNat f))
 r:∀ j,i<j->j<g.ns.length->X[qV H.length g.ns.length j]? = some (Qaf 0 (rowP g V j))
 len:X.length=H.length+2+2*(g.ns.length-i)
 low:∀ j,j<H.length->X[j]? = H[j]?
structure QdH (g:Gm) (M:List Int) (S:Nat->List Int) (V:List Int):Prop where
 eq:∀ i q:Nat,i<g.ns.length->(q:Int)<g.pl->V.getD (i*4+q) 0=Qbv g M S V i q
 m:∀ i (h:i<g.ns.length),g.ns[i].k=1->M.getD i 0=Qbz g.ns[i].ws/\0<M.getD i 0
section
variable {H X:Wu} {g:Gm} {V M:List Int} {S:List (List Int)}
theorem Qdh {L:List (List Int)} {i:Nat} (h:i<L.length):(sls L)[i]?.getD .any=sl L[i]:=by simp[sls,h]
end
section
variable {H X:Wu} {g:Gm} {V M:List Int} {S:List (List Int)} {i:Nat} {f f':Nat->Int}
theorem VN.setF (h:VN g H V i f X) (hi:i<g.ns.length) (f':Nat->Int):VN g H V i f' (X.set (qV H.length g.ns.length i) (Qaf 0 (Qf g.pl.toNat f'))):=by
 have hl:=h.len;refine⟨?_,?_,λh1 => ?_,λ_ => ?_,λj hj hj2 => ?_,by simp[hl],λj hj => ?_⟩
 . rw[Ve (by unfold qV; omega)]; exact h.b
 . rw[Ve (by unfold qV; omega)]; exact h.o
 . rw[Ve (by unfold qV; omega)]; exact h.n h1
 . rw[Vh (by rw[hl]; unfold qV; omega)]
 . rw[Ve (by unfold qV; omega)]; exact h.r j hj hj2
 . rw[Ve (by unfold qV; omega)]; exact h.low j hj
structure VM (g:Gm) (H:Wu) (V:List Int) (i:Nat) (X:Wu):Prop where
 b:X[H.length]? = some (QG g)
 o:X[H.length+1]? = some ⟨Qjx H.length g.ns.length i g.pl.toNat,36,0,true⟩
 r:∀ j,i<=j->j<g.ns.length->X[qV H.length g.ns.length j]? = some (Qaf 0 (rowP g V j))
 len:X.length=H.length+2+2*(g.ns.length-i)
 low:∀ j,j<H.length->X[j]? = H[j]?
theorem VM.next (h:VM g H V (i+1) X) (hi:i<g.ns.length) (f:Nat->Int):VN g H V i f (X.set (H.length+1) ⟨Qjx H.length g.ns.length i g.pl.toNat,36,0,true⟩++[⟨g.ns[i].cells,59,0,true⟩,Qaf 0 (Qf g.pl.toNat f)]):=by
 have hl:=h.len;refine⟨?_,?_,λh1 => ?_,λ_ => ?_,λj hj hj2 => ?_,by simp[hl]; omega,λj hj => ?_⟩
 . rw[Vd (by simp; omega),Ve (by omega)]; exact h.b
 . rw[Vd (by simp; omega),Vh (by omega)]
 . rw[Vf (by simp; omega)];rw[show H.length+2+2*(g.ns.length-1-i)-(X.set (H.length+1) _).length=0 by simp; omega]; rfl
 . rw[Vf (by simp; unfold qV; omega)];rw[show qV H.length g.ns.length i-(X.set (H.length+1) _).length=1 by simp; unfold qV; omega]; rfl
 . rw[Vd (by simp; unfold qV; omega),Ve (by unfold qV; omega)]; exact h.r j (by omega) hj2
 . rw[Vd (by simp; omega),Ve (by omega)]; exact h.low j hj
theorem VN.done (h:VN g H V i (λp=>V.getD (i*4+p) 0) X):VM g H V i X :=
 ⟨h.b,h.o,λj hj hj2=>by
  by_cases e:i=j
  . subst e; exact h.r0 hj2
  . exact h.r j (by omega) hj2,h.len,h.low⟩
end
section
variable {H X G:Wu} {g:Gm} {V M:List Int} {S:List (List Int)}
theorem Qgy {I:Nat} {p:Nat} (hp:H.length<=p) {q:Nat->Nat} {n:Nat->Nat} {A:Nat->List Int} {v w:Nat} {T:Wy} (h:G[p]? = some ⟨QJ I q n v,T,w,true⟩)
 (hq:∀ i,i<I->H.length<=q i/\G[q i]? = some ⟨Qa (A i),3,v,true⟩/\(A i).length=n i) (d:Nat) :
 SV.fz H.length [] (G.drop H.length) (d+3) (.own p 0 I 1 w)=.slc (sls ((List.range I).map A)) I:=by
 have hg:(G.drop H.length)[p-H.length]? = some ⟨QJ I q n v,T,w,true⟩:=by rw[Vq,show H.length+(p-H.length)=p by omega]; exact h
 unfold SV.fz;rw[Wa (by simp[SV.under]; omega)];simp only[hg,QY];simp only[Qnu,Yc,VZ,Vc,and_self,We,Y0];congr 1;have e:List.take I (QJ I q n v)=QJ I q n v:=VE (by simp);rw[e];simp only[QJ,sls,YS];apply VA;intro i hi;simp only[VI]at hi;obtain⟨q1,q2,q3⟩:=hq i hi;simp only[Function.comp_apply];rw[<-q3];exact Qly q1 q2 d
theorem QeG (hlow:∀ j,j<H.length->X[j]? = H[j]?):X=H++X.drop H.length:=by
 apply Vx;intro i;by_cases hi:i<H.length
 . rw[Vd hi,hlow i hi]
 . rw[Vf (by omega),Vq];congr 1; omega
end
end Go.Proofs.Ytogjmpkehjfecaa.Rc
namespace Go.Proofs.Ytogjmpkehjfecaa.Rc
open Go.Ab Go.Ab.Lm
section
variable {H:Wu} {a b:Nat}
theorem QjI (hb:0<b) (ha:(lim a).length<10000) (hbn:(lim b).length<10000):Ok Try.prog 68 [nS a,nS b] H (.ret (.tup [nS (a / b),nS (a % b)])) H:=by
 have hB:B=1000000000:=rfl;refine Qq hm' Try.func68 c68 (by simp[nS,QbV]) λhcl => ?_;by_cases hab:a<b
 . have h44:=λH=>QeX (H:=H) (a:=a) (b:=b) (by omega) (by omega);have e:Qal a b<0:=by unfold Qal; rw[Wb hab]; decide
   have q1:a / b=0:=YL hab;have q2:a % b=a:=YU hab;have n0:nS 0=.slc [] 0:=by rw[nS,Qan]; rfl
   rw[q1,q2,n0];simp only[nS]at h44;simp -implicitDefEqProofs[i68,r68,nS];refine Qj (h44 _) ?_;simp -implicitDefEqProofs[e];refine Cv.le (r:=.tup [nl,nS a]) (Ql 2 hcl rfl (Qap (by simp[nS,SV.under,SV.underL,QbV]))) ?_;exact QiX (leL.cons Qdv (leL.refl _))
 . have hba:b<=a:=by omega
   have hlb:=QcN hba;have h44:=λH=>QeX (H:=H) (a:=a) (b:=b) (by omega) (by omega);have e:Qal a b≥0:=by unfold Qal; rw[Wa hab]; split<;>simp
   simp -implicitDefEqProofs[i68,r68];refine Qj (h44 _) ?_;have hbl:(lim b).length≠0:=λh=>by
    have:=QdD.1 (Vu h);omega
   have hkl:(lim b).length-1<(lim b).length:=by omega
   obtain⟨t1,t2,t3⟩:=Qoz (n:=b) (by omega) hkl;obtain⟨tb,htb⟩:∃ tb,tb=(lim b)[(lim b).length-1]:=⟨_,rfl⟩;obtain⟨kb,hkb⟩:∃ kb,(lim b).length=kb+1:=⟨(lim b).length-1,by omega⟩;have wkb:IntKind.i64.wrap ((kb:Int))=kb:=QcJ (by omega);have gb:(us (lim b))[kb]?.getD .any=.val (.int .u32 tb):=by
    rw[Qbh (by omega),htb]; simp only[hkb,ZH]; rfl
   have gb':∀ h,(us (lim b))[kb]'h=.val (.int .u32 tb):=λh=>by
    have:=gb;rw[Vb h]at this;simpa using this
   have htbB:tb<B:=by rw[htb]; exact QaY b _ (Vg _)
   obtain⟨f,hf⟩:∃ f,f=1000000000 / (tb+1):=⟨_,rfl⟩;have hf0:0<f:=by rw[hf]; exact Nat.div_pos (by omega) (by omega)
   have hfB:f<B:=by
    rw[hf,hB];apply YB (by omega);rw[<-htb]at t1;omega
   have w1:=QaF (n:=tb) (by omega);have w2:IntKind.u64.wrap ((tb:Int)+1)=((tb+1:Nat):Int):=by rw[show(tb:Int)+1=((tb+1:Nat):Int)by omega,QaF (by omega)]
   have td:(1000000000:Int).tdiv ((tb+1:Nat):Int)=(f:Int):=by rw[hf]; rfl
   have w3:=QaF (n:=f) (by omega);have w4:=QaV (n:=f) (by omega);have hne:¬ (tb:Int)+1=0:=by omega
   obtain⟨tb1,htb1⟩:∃ tb1,tb1=tb+1:=⟨_,rfl⟩;rw[<-htb1]at w2 td;have hne1:¬ tb1=0:=by omega
   simp -implicitDefEqProofs[i68,r68,e,show ¬ Qal a b<0 by omega,nS,hkb,wkb,gb,gb',QZ,w1,w2,td,w3,w4,hne1];refine⟨by omega,Qj (QhD hfB) ?_⟩;have hfl:(lim f).length<=1:=Qco (by simpa using hfB);have h42a:=λH=>QcV (H:=H) (a:=a) (b:=f) (by omega);have h42b:=λH=>QcV (H:=H) (a:=b) (b:=f) (by omega);simp -implicitDefEqProofs;refine Qj (h42a _) ?_;simp -implicitDefEqProofs;refine Qj (h42b _) ?_;have hb':0<b*f:=Zu hb hf0;have hab':b*f<=a*f:=Yz f hba;have hla:(lim (a*f)).length<=(lim a).length+1:=Qco (by
    rw[Ya];exact Nat.mul_lt_mul'' (Qcf a) hfB)
   have hQ:a*f / (b*f)=a / b:=Nat.mul_div_mul_right a b hf0;have hRm:a*f % (b*f) / f=a % b:=by
    rw[Nat.mul_mod_mul_right,Nat.mul_div_cancel _ hf0]
   generalize a*f=a' at *;generalize b*f=b' at *;have hlb':=QcN hab';have hbl':(lim b').length≠0:=λh=>by
    have:=QdD.1 (Vu h);omega
   obtain⟨u1,u2,u3⟩:=Qoz (n:=b') (by omega) (by omega);obtain⟨n,hn⟩:∃ n,(lim b').length=n+1:=⟨(lim b').length-1,by omega⟩;obtain⟨gq,hgq⟩:∃ gq,(lim a').length=n+1+gq:=⟨(lim a').length-(n+1),by omega⟩;obtain⟨top,htop⟩:∃ top,top=b' / B ^ n:=⟨_,rfl⟩;have wn:IntKind.i64.wrap ((n:Int))=n:=QcJ (by omega);have gt:(us (lim b'))[n]?.getD .any=.val (.int .u32 top):=by
    rw[Qbh (by omega),htop,<- (by simpa[hn]using u1:(lim b')[n]=b' / B ^ n)]; rfl
   have gt':∀ h,(us (lim b'))[n]'h=.val (.int .u32 top):=λh=>by
    have:=gt;rw[Vb h]at this;simpa using this
   have htopB:top<B:=by rw[htop]; simpa[hn]using u3
   have htop0:0<top:=by rw[htop]; simpa[hn]using u2
   have w5:=QaF (n:=top) (by omega);have w6:IntKind.i64.wrap ((n:Int)+1+gq-(n+1))=gq:=by rw[Qi (by omega) (by omega)]; omega
   have w7:IntKind.i64.wrap ((gq:Int)+1)=((gq+1:Nat):Int):=QaQ (by omega);simp -implicitDefEqProofs[nS,hn,hgq,wn,gt,gt',QZ,w5,w6,w7];repeat (refine⟨by omega,?_⟩)
   have en:n+1+gq-(gq+1)=n:=by omega
   rw[en];have hal:=Qcf a';rw[hgq]at hal;have hap:a' / B ^ (gq+1)<B ^ n:=by
    apply Y5;rw[<-Nat.pow_add,show gq+1+n=n+1+gq by omega];exact hal
   have hbp:B ^ n<=b':=by
    have:=Qjs (n:=b') (by omega);rw[hn]at this;simpa using this
   have ed:List.take n (List.drop (gq+1) (us (lim a')))=us (lim (a' / B ^ (gq+1))):=by
    unfold us;rw[<-List.map_drop,QfC,<- ZK,VE];rw[<-QfC];simp[hgq]; omega
   have edl:(lim (a' / B ^ (gq+1))).length=n:=by rw[<-QfC]; simp[hgq]; omega
   have ett:List.take n (us (lim (a' / B ^ (gq+1))))=us (lim (a' / B ^ (gq+1))):=VE (by rw[QZ]; omega);rw[ed,ett];have hcu:∀ l:List Nat,Qw (us l):=λl y hy=>by
    obtain⟨z,_,rfl⟩:=Vm.1 hy;rfl
   refine⟨hcu _,by omega,by omega,?_⟩;have erp:List.replicate (gq+1) (SV.val (.int .u32 0))=us (List.replicate (gq+1) 0):=by simp[us,u32]
   rw[erp];have hz1:a' / B ^ (gq+1) / b'=0:=YL (by omega);have hz2:a' / B ^ (gq+1) % b'=a' / B ^ (gq+1):=YU (by omega);have hDV:DV H gq (gq+1) a' b' H.length 1 (H++[⟨us (lim (a' / B ^ (gq+1))),93,1,true⟩,⟨us (List.replicate (gq+1) 0),93,1,true⟩]):=by
    refine⟨λi hi=>by rw[Vd hi],⟨List.replicate (gq+1) 0,?_,by simp,λz hz=>by simp[ZB]at hz; rw[hz]; decide,?_⟩,⟨[],?_⟩,by omega,by omega⟩
    . rw[Vf (by omega),show H.length+1-H.length=1 by omega]; rfl
    . rw[hz1]; simp[val]
    . rw[hz2,VQ]; simp
   refine QrM (H:=H) (A:=a') (bb:=b') (gq:=gq) (n:=n) (top:=top) (x6:=nS f) hb' hn hgq (by omega) htop htop0 htopB (λenv X k v hD k4 k5 k6 => ?_) (gq+1) _ _ H.length 1 (Vc _) hDV ?_ ?_ ?_ ?_ ?_ ?_ ?_
   . obtain⟨s,hs⟩:=hD.hr;obtain⟨qs,hq1,hq2,hq3,hq4⟩:=hD.hq;obtain⟨hk1,hk2⟩:=hD.hk;have hlow:=hD.low;simp only[Nat.pow_zero,Nat.div_one,Y0]at hs hq4;rw[hQ]at hq4;have hRb:a' % b'<b':=Yr _ hb';have hRlen:=QcN (YQ hRb);generalize a' % b'=R at *;have wR:IntKind.i64.wrap (((lim R).length:Int)-1)=((lim R).length:Int)-1:=Qi (by omega) (by omega);simp -implicitDefEqProofs[k4,k5,k6,wR];have hz0:R / B ^ (lim R).length=0:=YL (Qcf R);refine Qpx (R:=R) (f:=f) (k:=k) (v:=v) (A:=X) (x4:=.own (H.length+1) 0 (gq+1) 1 1) (n:=0) hf0 hfB (by omega) (λenv X2 l hX2 ho hXl hm g4 g5 => ?_) (lim R).length _ X (lim R++s) s (lim R) (Vc _) hs (λ_ _=>rfl) rfl rfl rfl rfl (QaY R) (by rw[hz0]; simp[val]) ?_ ?_ ?_ ?_ ?_
     . obtain⟨s2,m2,e1,e2,e3,e4⟩:=hm;rw[hRm]at e4;have tr1:=Qd4 e3;rw[e4]at tr1;have tq1:=Qd4 hq3;rw[hq4]at tq1;have hq1':X2[H.length+1]? = some ⟨us qs,93,1,true⟩:=by rw[ho _ (λe=>hk2 e.symm)]; exact hq1
       have h69q:=Qox (X:=X2) (l:=qs) (m:=qs) (s:=[]) hq1' (by simp) (by omega);have h69r:=Qox (X:=X2) (l:=l) (m:=m2) (s:=s2) hX2 e1 (by omega);rw[hq2,tq1]at h69q;rw[e2,tr1]at h69r;simp -implicitDefEqProofs[g4,g5];refine Q6 h69q ?_;rintro o G' ⟨rfl,hG⟩;rw[hG];simp -implicitDefEqProofs[g4,g5];refine Q6 h69r ?_;rintro o G'' ⟨rfl,hG2⟩;rw[hG2];simp -implicitDefEqProofs[g4,g5];have hlow2:∀ j,j<H.length->X2[j]? = H[j]? := λj hj=>by rw[ho j (by omega)]; exact hlow j hj
       have ht:=QeG hlow2;have hdr:∀ k,(X2.drop H.length)[k]? = X2[H.length+k]? := λk=>by rw[Vq]
       have f1:=QnF (n:=H.length) (L:=X2.drop H.length) (l:=qs) (m:=qs) (s:=[]) (k:=1) (d:=1) (v:=1) (by simp) (by rw[hdr]; exact hq1');have f2:=QnF (n:=H.length) (L:=X2.drop H.length) (l:=l) (m:=m2) (s:=s2) (k:=k-H.length) (d:=1) (v:=v) e1 (by rw[hdr,show H.length+(k-H.length)=k by omega]; exact hX2);rw[tq1]at f1;rw[tr1,show H.length+(k-H.length)=k by omega]at f2;rw[ht];refine Ql 4 hcl rfl ?_;rw[QhF];simp only[Vs,V3,f1,f2];rfl
     . simp[k4]
     . simp[k5]
     . simp[k6]
     . simp[hz0]
     . simp
   all_goals simp[nS,hgq,hn,edl,hz2]
end
section
variable {H:Wu} {a b:Nat}
set_option maxRecDepth 10000 in
theorem QsY {g:Nat} {N:Nat} {K:Wt} (hexit:∀ env,env.get 0=nS g->K (.exit 0) env H) :
 ∀ (m x y:Nat) (env:Env),y<=m->(lim x).length<10000->(lim y).length<10000->Nat.gcd x y=g->env.get 0=nS x->env.get 1=nS y->LI Try.prog N Qh Qix env H K:=by
 intro m
 induction m with
 |zero =>
  intro x y env hm hx hy hg h0 h1;refine Qc hm' Qix.eq_1 ?_;have:y=0:=by omega
  subst this;simp only[nS,Qan,us,V3,Ys]at h1;simp -implicitDefEqProofs[h0,h1];refine hexit _ ?_;rw[Nat.gcd_zero_right]at hg;rw[<-hg]; simp[h0]
 |succ m ih =>
  intro x y env hm hx hy hg h0 h1;by_cases hz:y=0
  . exact ih x y env (by omega) hx hy hg h0 h1
  refine Qc hm' Qix.eq_1 ?_;have hl:0<(lim y).length:=by
   rcases Yp (lim y).length with e|e
   . exact absurd (QdD.1 (Vu e)) hz
   . exact e
  have h68:=λH=>QjI (H:=H) (a:=x) (b:=y) (by omega) hx hy;have hlt:x % y<y:=Yr _ (by omega);have hml:=QcN (YQ hlt);have hih:=ih y (x % y);simp only[nS]at h0 h1 h68 hih;simp -implicitDefEqProofs[h0,h1,hl];refine Qj (h68 _) ?_;simp -implicitDefEqProofs[h0,h1,hl];refine hih _ (by omega) hy (by omega) ?_ ?_ ?_
  . rw[<-hg,Nat.gcd_comm x y,Nat.gcd_rec y x];exact Nat.gcd_comm _ _
  . simp
  . simp
theorem ok67 (ha:(lim a).length<10000) (hb:(lim b).length<10000):Ok Try.prog 67 [nS a,nS b] H (.ret (nS (Nat.gcd a b))) H:=by
 refine Qq hm' Try.func67 c67 (by simp[nS,QbV]) λhcl => ?_;simp -implicitDefEqProofs[i67,r67];refine QsY (g:=Nat.gcd a b) (λenv h0 => ?_) b a b _ (Vc _) ha hb rfl (by simp) (by simp);simp -implicitDefEqProofs[h0];exact Qn
structure Qr where
 neg:Bool
 n:Nat
 d:Nat
def Qr.sv (q:Qr):SV:=.agg [bl q.neg,nS q.n,nS q.d]
def low (neg:Bool) (n d:Nat):Qr:=⟨neg&&decide (n≠0),n / Nat.gcd n d,d / Nat.gcd n d⟩
def qSv (neg:Bool) (n d:Nat):SV:=(⟨neg,n,d⟩:Qr).sv
def Qbw (neg:Bool) (n d:Nat):SV:=(low neg n d).sv
theorem Qbo (k n:Nat):(nS n).under k=true:=by simp[nS,SV.under,QbV]
theorem QeY (neg:Bool) (hb:0<b) (ha:(lim a).length<10000) (hbl:(lim b).length<10000):Ok Try.prog 40 [bl neg,nS a,nS b] H (.ret (Qbw neg a b)) H:=by
 refine Qq hm' Try.func40 c40 (by simp[Qbo]) λhcl => ?_;by_cases h0:a=0
 . subst h0;have e1:lim 1=[1]:=by rw[Qa4 (by decide),show 1 % B=1 by decide,show 1 / B=0 by decide,Qan]
   have e2:Qbw neg 0 b=.agg [bl false,.slc [] 0,.slc [.val (.int .u32 1)] 1]:=by
    have hd:b / b=1:=Nat.div_self hb;simp only[Qbw,low,Qr.sv,Nat.gcd_zero_left,Nat.zero_div,hd,nS,Qan,e1];simp[us,u32]
   rw[e2];simp -implicitDefEqProofs[i40,r40,nS,Qan,us];refine⟨⟨rfl,rfl,rfl⟩,rfl,rfl,?_⟩;refine Cv.le (r:=.agg [bl false,nl,.slc [.val (.int .u32 1)] 1]) (Ql 3 hcl rfl ?_) (Qfs (leL.cons (SV.le.refl _) (leL.cons Qdv (leL.refl _))));rw[QkZ];simp[QY]
 . have hl:¬ (lim a).length=0:=λe=>h0 (QdD.1 (Vu e));have hg:0<Nat.gcd a b:=Y8 _ hb;have hgl:=QcN (Nat.gcd_le_right a hb);have h67:=λH=>ok67 (H:=H) (a:=a) (b:=b) ha hbl;have h68:=λH=>QjI (H:=H) (a:=a) (b:=Nat.gcd a b) hg ha (by omega);have h68b:=λH=>QjI (H:=H) (a:=b) (b:=Nat.gcd a b) hg hbl (by omega);have hge:(Qbw neg a b)=qSv neg (a / Nat.gcd a b) (b / Nat.gcd a b):=by simp[Qbw,qSv,low,h0]
   rw[hge];generalize Nat.gcd a b=g at *;simp only[nS]at h67 h68 h68b;simp -implicitDefEqProofs[i40,r40,nS,hl];refine Qj (h67 _) ?_;simp -implicitDefEqProofs;refine Qj (h68 _) ?_;simp -implicitDefEqProofs;refine Qj (h68b _) ?_;simp -implicitDefEqProofs;exact Ql 3 hcl rfl (Qap (by simp[SV.under,SV.underL,QbV]))
def Qfl (x y:Int):SV:=Qbw (decide (x<0) != decide (y<0)) x.natAbs y.natAbs
theorem QkJ {n:Int} (hn : -9223372036854775808<=n/\n<=9223372036854775807):(lim n.natAbs).length<=3:=Qco (by
 have:B ^ 3=1000000000000000000000000000:=by decide
 omega)
theorem ok17 {x y:Int} (hx : -9223372036854775808<=x/\x<=9223372036854775807) (hy : -9223372036854775808<=y/\y<=9223372036854775807) (h0:y≠0):Ok Try.prog 17 [i64 x,i64 y] H (.ret (Qfl x y)) H:=by
 refine Qq hm' Try.func17 c17 (by simp) λhcl => ?_;have h41x:=λH=>QkO (H:=H) x hx;have h41y:=λH=>QkO (H:=H) y hy;have lx:=QkJ hx;have ly:=QkJ hy;have h40:=λH=>QeY (H:=H) (a:=x.natAbs) (b:=y.natAbs) (decide (x<0) != decide (y<0)) (by omega) (by omega) (by omega);simp -implicitDefEqProofs[i17,r17];refine Qj (h41x _) ?_;simp -implicitDefEqProofs;refine Qj (h41y _) ?_;simp -implicitDefEqProofs;refine Qj (h40 _) ?_;simp -implicitDefEqProofs[Qbw,low,Qr.sv];refine⟨⟨rfl,rfl⟩,?_⟩;have e:Qfl x y=.agg [bl ((decide (x<0) != decide (y<0)) && !decide (x=0)),nS (x.natAbs / x.natAbs.gcd y.natAbs),nS (y.natAbs / x.natAbs.gcd y.natAbs)]:=by
  simp[Qfl,Qbw,low,Qr.sv]
 rw[e];exact Ql 3 hcl rfl (Qap (by simp[SV.under,SV.underL,Qbo]))
theorem Qjt {x:Int} (hx : -9223372036854775808<=x/\x<=9223372036854775807):Ok Try.prog 19 [i64 x] H (.ret (Qbw (decide (x<0)) x.natAbs 1)) H:=by
 refine Qq hm' Try.func19 c19 (by simp) λhcl => ?_;have h41x:=λH=>QkO (H:=H) x hx;have lx:=QkJ hx;have e1:lim 1=[1]:=by rw[Qa4 (by decide),show 1 % B=1 by decide,show 1 / B=0 by decide,Qan]
 have n1:nS 1=.slc [.val (.int .u32 1)] 1:=by rw[nS,e1]; rfl
 have h40:=λH=>QeY (H:=H) (a:=x.natAbs) (b:=1) (decide (x<0)) (by omega) (by omega) (by rw[e1]; decide);rw[n1]at h40;simp -implicitDefEqProofs[i19,r19];refine Qj (h41x _) ?_;simp -implicitDefEqProofs;refine⟨⟨rfl,rfl,rfl⟩,rfl,?_⟩;refine QnP (H.length+1) 1 (o:=⟨[.val (.int .u32 1)],93,0,true⟩) (by simp[QbL]) rfl ?_ (h40 _) ?_
 . simp[nS]
 . simp only[Qbw];generalize low (decide (x<0)) x.natAbs 1=q;simp -implicitDefEqProofs[Qr.sv];refine⟨⟨rfl,rfl⟩,?_⟩;exact Ql 3 hcl rfl (Qap (by simp[SV.under,SV.underL,Qbo]))
theorem Qr.under (q:Qr) (k:Nat):q.sv.under k=true:=by simp[Qr.sv,SV.under,SV.underL,Qbo]
def Qr.mi (q:Qr):Qr:=⟨!q.neg&&decide (0<q.n),q.n,q.d⟩
def Qr.sz (q:Qr):Qr:=⟨false,q.n,q.d⟩
theorem ok20 (q:Qr):Ok Try.prog 20 [q.sv] H (.ret q.sz.sv) H:=by
 refine Qq hm' Try.func20 c20 (by simp[Qr.sv,Qbo]) λhcl => ?_;simp -implicitDefEqProofs[i20,r20,Qr.sv,Qr.sz];exact⟨⟨rfl,rfl⟩,Ql 3 hcl rfl (Qap (by simp[SV.under,SV.underL,Qbo]))⟩
theorem Qn7 {n:Nat}:(lim n).length=0↔n=0:=⟨λh=>QdD.1 (Vu h),λh=>by rw[h,Qan]; rfl⟩
theorem QrA {n:Nat}:0<(lim n).length↔0<n:=by
 have:=Qn7 (n:=n);omega
theorem ok22 (q:Qr):Ok Try.prog 22 [q.sv] H (.ret q.mi.sv) H:=by
 refine Qq hm' Try.func22 c22 (by simp[Qr.sv,Qbo]) λhcl => ?_
 cases hn:q.neg<;>simp -implicitDefEqProofs[i22,r22,Qr.sv,Qr.mi,hn]
 . have e:(nS q.n).ug.slen=(lim q.n).length:=rfl;have e2:decide (0<(lim q.n).length)=decide (0<q.n):=by simp[QrA]
   rw[e,e2];exact⟨⟨rfl,rfl⟩,⟨rfl,rfl⟩,⟨rfl,rfl⟩,Ql 3 hcl rfl (Qap (by simp[SV.under,SV.underL,Qbo]))⟩
 . exact⟨⟨rfl,rfl⟩,Ql 3 hcl rfl (Qap (by simp[SV.under,SV.underL,Qbo]))⟩
def Qr.few (q:Qr):Prop:=(lim q.n).length<=1000/\(lim q.d).length<=1000/\0<q.d
theorem Qf1 (x y:Nat):(lim (x*y)).length<=(lim x).length+(lim y).length:=Qco (by
 rw[Nat.pow_add];exact Nat.mul_lt_mul'' (Qcf x) (Qcf y))
theorem QsC (x y:Nat):(lim (x+y)).length<=(lim x).length+(lim y).length+1:=Qco (by
 have h1:=Qcf x;have h2:=Qcf y;have h3:B ^ (lim x).length<=B ^ ((lim x).length+(lim y).length):=Zk Qdr (by omega);have h4:B ^ (lim y).length<=B ^ ((lim x).length+(lim y).length):=Zk Qdr (by omega);rw[Ya];have:B ^ ((lim x).length+(lim y).length)*2<=B ^ ((lim x).length+(lim y).length)*B:=YM _ (by decide);omega)
def Qr.times (p q:Qr):Qr:=low (p.neg != q.neg) (p.n*q.n) (p.d*q.d)
def Qr.plus (p q:Qr):Qr:=if p.neg=q.neg then low p.neg (p.n*q.d+q.n*p.d) (p.d*q.d)else if q.n*p.d<=p.n*q.d then low p.neg (p.n*q.d-q.n*p.d) (p.d*q.d)else low q.neg (q.n*p.d-p.n*q.d) (p.d*q.d)
def Qr.ord (p q:Qr):Int:=if(p.plus q.mi).n=0 then 0 else if(p.plus q.mi).neg=true then -1 else 1
theorem ok18 {p q:Qr} (hp:p.few) (hq:q.few):Ok Try.prog 18 [p.sv,q.sv] H (.ret (p.times q).sv) H:=by
 refine Qq hm' Try.func18 c18 (by simp[Qr.sv,Qbo]) λhcl => ?_;obtain⟨p1,p2,p3⟩:=hp;obtain⟨q1,q2,q3⟩:=hq;have l1:=Qf1 p.n q.n;have l2:=Qf1 p.d q.d;have h42n:=λH=>QcV (H:=H) (a:=p.n) (b:=q.n) (by omega);have h42d:=λH=>QcV (H:=H) (a:=p.d) (b:=q.d) (by omega);have h40:=λH=>QeY (H:=H) (a:=p.n*q.n) (b:=p.d*q.d) (p.neg != q.neg) (Zu p3 q3) (by omega) (by omega);have e:Qbw (p.neg != q.neg) (p.n*q.n) (p.d*q.d)=(p.times q).sv:=rfl;rw[e]at h40;generalize p.times q=r at *;generalize p.n*q.n=x at *;generalize p.d*q.d=y at *;simp -implicitDefEqProofs[i18,r18,Qr.sv];refine⟨⟨rfl,rfl⟩,⟨rfl,rfl⟩,QN (λ_=>h42n _) ?_⟩;simp -implicitDefEqProofs;refine QN (λ_=>h42d _) ?_;simp -implicitDefEqProofs;refine QN (λ_=>h40 _) ?_;simp -implicitDefEqProofs[Qr.sv];exact⟨⟨rfl,rfl⟩,Ql 3 hcl rfl (Qap (by simp[SV.under,SV.underL,Qbo]))⟩
theorem ok21 {p q:Qr} (hp:p.few) (hq:q.few):Ok Try.prog 21 [p.sv,q.sv] H (.ret (p.plus q).sv) H:=by
 refine Qq hm' Try.func21 c21 (by simp[Qr.sv,Qbo]) λhcl => ?_;obtain⟨p1,p2,p3⟩:=hp;obtain⟨q1,q2,q3⟩:=hq;have l1:=Qf1 p.n q.d;have l2:=Qf1 q.n p.d;have l3:=Qf1 p.d q.d;have h42a:=λH=>QcV (H:=H) (a:=p.n) (b:=q.d) (by omega);have h42b:=λH=>QcV (H:=H) (a:=q.n) (b:=p.d) (by omega);have h42c:=λH=>QcV (H:=H) (a:=p.d) (b:=q.d) (by omega);have hd:=Zu p3 q3;by_cases hs:p.neg=q.neg
 . have e:(p.plus q)=low p.neg (p.n*q.d+q.n*p.d) (p.d*q.d):=by unfold Qr.plus; rw[Wb hs]
   rw[e];generalize p.n*q.d=x at *;generalize q.n*p.d=y at *;generalize p.d*q.d=d at *;have la:=QsC x y;have h43:=λH=>ok43 (H:=H) (a:=x) (b:=y) (by omega) (by omega) (by omega);have h40:=λH=>QeY (H:=H) (a:=x+y) (b:=d) p.neg hd (by omega) (by omega);simp only[Qbw]at h40;generalize low p.neg (x+y) d=r at *;simp -implicitDefEqProofs[i21,r21,Qr.sv];refine⟨⟨rfl,rfl⟩,⟨rfl,rfl⟩,QN (λ_=>h42a _) ?_⟩;simp -implicitDefEqProofs;refine QN (λ_=>h42b _) ?_;simp -implicitDefEqProofs;refine QN (λ_=>h42c _) ?_;simp -implicitDefEqProofs[hs];rw[<-hs];refine QN (λ_=>h43 _) ?_;simp -implicitDefEqProofs;refine QN (λ_=>h40 _) ?_;simp -implicitDefEqProofs[Qr.sv];exact⟨⟨rfl,rfl⟩,Ql 3 hcl rfl (Qap (by simp[SV.under,SV.underL,Qbo]))⟩
 . by_cases ho:q.n*p.d<=p.n*q.d
   . have e:(p.plus q)=low p.neg (p.n*q.d-q.n*p.d) (p.d*q.d):=by unfold Qr.plus; rw[Wa hs,Wb ho]
     rw[e];generalize p.n*q.d=x at *;generalize q.n*p.d=y at *;generalize p.d*q.d=d at *;have la:=QcN (Nat.sub_le x y);have h44:=λH=>QeX (H:=H) (a:=x) (b:=y) (by omega) (by omega);have h45:=λH=>ok45 (H:=H) (a:=x) (b:=y) ho (by omega) (by omega);have h40:=λH=>QeY (H:=H) (a:=x-y) (b:=d) p.neg hd (by omega) (by omega);have hor:0<=Qal x y:=by unfold Qal; rw[Wa (by omega)]; split<;>simp
     simp only[Qbw]at h40;generalize low p.neg (x-y) d=r at *;simp -implicitDefEqProofs[i21,r21,Qr.sv];refine⟨⟨rfl,rfl⟩,⟨rfl,rfl⟩,QN (λ_=>h42a _) ?_⟩;simp -implicitDefEqProofs;refine QN (λ_=>h42b _) ?_;simp -implicitDefEqProofs;refine QN (λ_=>h42c _) ?_;simp -implicitDefEqProofs[hs];refine Qj (h44 _) ?_;simp -implicitDefEqProofs[hor];refine QN (λ_=>h45 _) ?_;simp -implicitDefEqProofs;refine QN (λ_=>h40 _) ?_;simp -implicitDefEqProofs[Qr.sv];exact⟨⟨rfl,rfl⟩,Ql 3 hcl rfl (Qap (by simp[SV.under,SV.underL,Qbo]))⟩
   . have e:(p.plus q)=low q.neg (q.n*p.d-p.n*q.d) (p.d*q.d):=by unfold Qr.plus; rw[Wa hs,Wa ho]
     rw[e];generalize p.n*q.d=x at *;generalize q.n*p.d=y at *;generalize p.d*q.d=d at *;have la:=QcN (Nat.sub_le y x);have h44:=λH=>QeX (H:=H) (a:=x) (b:=y) (by omega) (by omega);have h45:=λH=>ok45 (H:=H) (a:=y) (b:=x) (by omega) (by omega) (by omega);have h40:=λH=>QeY (H:=H) (a:=y-x) (b:=d) q.neg hd (by omega) (by omega);have hor:¬ 0<=Qal x y:=by unfold Qal; rw[Wb (by omega)]; decide
     simp only[Qbw]at h40;generalize low q.neg (y-x) d=r at *;simp -implicitDefEqProofs[i21,r21,Qr.sv];refine⟨⟨rfl,rfl⟩,⟨rfl,rfl⟩,QN (λ_=>h42a _) ?_⟩;simp -implicitDefEqProofs;refine QN (λ_=>h42b _) ?_;simp -implicitDefEqProofs;refine QN (λ_=>h42c _) ?_;simp -implicitDefEqProofs[hs];refine Qj (h44 _) ?_;simp -implicitDefEqProofs[hor];refine QN (λ_=>h45 _) ?_;simp -implicitDefEqProofs;refine QN (λ_=>h40 _) ?_;simp -implicitDefEqProofs[Qr.sv];exact⟨⟨rfl,rfl⟩,Ql 3 hcl rfl (Qap (by simp[SV.under,SV.underL,Qbo]))⟩
theorem ok23 {p q:Qr} (hp:p.few) (hq:q.few):Ok Try.prog 23 [p.sv,q.sv] H (.ret (i64 (p.ord q))) H:=by
 refine Qq hm' Try.func23 c23 (by simp[Qr.sv,Qbo]) λhcl => ?_;have h22:=λH=>ok22 (H:=H) q;have hqm:q.mi.few:=hq;have h21:=λH=>ok21 (H:=H) hp hqm;have eo:p.ord q=if(p.plus q.mi).n=0 then 0 else if(p.plus q.mi).neg=true then -1 else 1:=rfl;generalize q.mi=qm at *;generalize p.plus qm=r at *;have hz:=Qn7 (n:=r.n);have hsl:(nS r.n).ug.slen=(lim r.n).length:=rfl;simp only[Qr.sv]at h22 h21;simp -implicitDefEqProofs[i23,r23,Qr.sv];refine⟨⟨rfl,rfl⟩,⟨rfl,rfl⟩,QN (λ_=>h22 _) ?_⟩;simp -implicitDefEqProofs;refine QN (λ_=>h21 _) ?_;simp -implicitDefEqProofs;refine⟨⟨⟨rfl,h21 _⟩,⟨rfl,h22 _⟩⟩,⟨rfl,rfl⟩,⟨rfl,rfl⟩,?_⟩;rw[hsl,eo];by_cases h0:r.n=0
 . rw[Wb (hz.2 h0),Wb h0];exact Ql 1 hcl rfl (Qcd _ _ _ _ _)
 . rw[Wa (λh=>h0 (hz.1 h)),Wa h0];by_cases h1:r.neg=true
   . rw[Wb h1,Wb h1];exact Ql 1 hcl rfl (Qcd _ _ _ _ _)
   . rw[Wa h1,Wa h1];exact Ql 1 hcl rfl (Qcd _ _ _ _ _)
end
theorem Qo9 (neg:Bool) {n1 d1 n2 d2:Nat} (h1:0<d1) (h2:0<d2) (h:n1*d2=n2*d1):low neg n1 d1=low neg n2 d2:=by
 have hz:n1=0↔n2=0:=by
  constructor
  . intro e;rw[e,Yb]at h;rcases Nat.mul_eq_zero.1 h.symm with h|h<;>omega
  . intro e;rw[e,Yb]at h;rcases Nat.mul_eq_zero.1 h with h|h<;>omega
 have g1:0<Nat.gcd n1 d1:=Y8 _ h1;have g2:0<Nat.gcd n2 d2:=Y8 _ h2;obtain⟨x1,ex1⟩:=ZQ n1 d1;obtain⟨y1,ey1⟩:=ZR n1 d1;obtain⟨x2,ex2⟩:=ZQ n2 d2;obtain⟨y2,ey2⟩:=ZR n2 d2;have c1:Nat.Coprime x1 y1:=by
  have:=Nat.gcd_mul_left (Nat.gcd n1 d1) x1 y1;rw[<-ex1,<- ey1]at this;exact ZS g1 (by rw[Yc]; exact this.symm)
 have c2:Nat.Coprime x2 y2:=by
  have:=Nat.gcd_mul_left (Nat.gcd n2 d2) x2 y2;rw[<-ex2,<- ey2]at this;exact ZS g2 (by rw[Yc]; exact this.symm)
 have hx:x1*y2=x2*y1:=by
  have e:(Nat.gcd n1 d1*Nat.gcd n2 d2)*(x1*y2)=(Nat.gcd n1 d1*Nat.gcd n2 d2)*(x2*y1):=by
   calc (Nat.gcd n1 d1*Nat.gcd n2 d2)*(x1*y2)=(Nat.gcd n1 d1*x1)*(Nat.gcd n2 d2*y2):=by ac_rfl
    _=n1*d2:=by rw[<-ex1,<- ey2]
    _=n2*d1:=h
    _=(Nat.gcd n2 d2*x2)*(Nat.gcd n1 d1*y1):=by rw[<-ex2,<- ey1]
    _=_:=by ac_rfl
  exact ZS (Zu g1 g2) e
 have d12:x1 ∣ x2:=c1.dvd_of_dvd_mul_right (hx ▸ Nat.dvd_mul_right x1 y2);have d21:x2 ∣ x1:=c2.dvd_of_dvd_mul_right (hx.symm ▸ Nat.dvd_mul_right x2 y1);have exx:x1=x2:=Nat.dvd_antisymm d12 d21;have f12:y1 ∣ y2:=c1.symm.dvd_of_dvd_mul_left (hx.symm ▸ Nat.dvd_mul_left y1 x2);have f21:y2 ∣ y1:=c2.symm.dvd_of_dvd_mul_left (hx ▸ Nat.dvd_mul_left y2 x1);have eyy:y1=y2:=Nat.dvd_antisymm f12 f21;have q1:n1 / Nat.gcd n1 d1=x1:=Y9 g1 ex1;have q2:d1 / Nat.gcd n1 d1=y1:=Y9 g1 ey1;have q3:n2 / Nat.gcd n2 d2=x2:=Y9 g2 ex2;have q4:d2 / Nat.gcd n2 d2=y2:=Y9 g2 ey2;unfold low;rw[q1,q2,q3,q4,exx,eyy,show decide (n1≠0)=decide (n2≠0)from decide_eq_decide.2 (not_congr hz)]
theorem Qkk (x:Nat) {S:Nat} (hS:0<S):∃ g,0<g/\x=g*(low false x S).n/\S=g*(low false x S).d/\0<(low false x S).d/\Nat.gcd (low false x S).n (low false x S).d=1:=by
 have g1:0<Nat.gcd x S:=Y8 _ hS;obtain⟨x1,ex1⟩:=ZQ x S;obtain⟨y1,ey1⟩:=ZR x S;have q1:x / Nat.gcd x S=x1:=Y9 g1 ex1;have q2:S / Nat.gcd x S=y1:=Y9 g1 ey1;have c1:Nat.Coprime x1 y1:=by
  have:=Nat.gcd_mul_left (Nat.gcd x S) x1 y1;rw[<-ex1,<- ey1]at this;exact ZS g1 (by rw[Yc]; exact this.symm)
 refine⟨Nat.gcd x S,g1,?_,?_,?_,?_⟩
 . simp only[low,q1]; exact ex1
 . simp only[low,q2]; exact ey1
 . simp only[low,q2];rcases Yp y1 with h|h
   . rw[h]at ey1; simp at ey1; omega
   . exact h
 . simp only[low,q1,q2]; exact c1
def QdC:Qr:=⟨false,1,1⟩
end Go.Proofs.Ytogjmpkehjfecaa.Rc
namespace Go.Proofs.Ytogjmpkehjfecaa.Rc
open Go.Ab Go.Ab.Shr
structure QfJ (g:Gm) (own:Bool) (M:List Int) (S:Nat->List Int) (R:List Int):Prop where
 z:∀ q:Nat,(q:Int)<g.pl->R.getD q 0=1073741824
 eq:∀ i k q:Nat,∀ h:i<g.ns.length,k<g.ns[i].nx.length->(q:Int)<g.pl->R.getD ((g.ns[i].nx.getD k 0).toNat*4+q) 0=QS g own S M R i k q
 m:∀ i (h:i<g.ns.length),g.ns[i].k=1->M.getD i 0=Qbz g.ns[i].ws/\0<M.getD i 0
def Dn (g:Gm) (R:List Int) (p i:Nat) (f:Nat->Int):Prop:=∀ j,j<g.ns.length->gi g.wk.2.P j<i->f j=R.getD (j*4+p) 0
theorem Dn.put {g:Gm} {R:List Int} {p i:Nat} {f:Nat->Int} (h:Dn g R p i f) (c:Nat):Dn g R p i (put f c (R.getD (c*4+p) 0)):=λj hj hp=>by
 unfold Shr.put;split
 . rename_i e; rw[e]
 . exact h j hj hp
theorem Dn.at {g:Gm} {R:List Int} {p i:Nat} {f:Nat->Int} (hW:Wg g) (h:Dn g R p i f) (hi:i<g.ns.length):f i=R.getD (i*4+p) 0:=by
 refine h i hi ?_;by_cases e:i=0
 . subst e; rw[hW.wf.p0]; omega
 . obtain⟨q,_,h1,h2,_⟩:=hW.wf.pf i (by omega) hi;omega
def qSo (h:Nat):Nat:=h+5
def qS (h i:Nat):Nat:=h+6+2*i
def qPo (h n:Nat):Nat:=h+7+2*n
def qP (h n i:Nat):Nat:=h+8+2*n+2*i
def qE (h n:Nat):Nat:=h+8+4*n
def nxO (g:Gm) (h:Nat) (r s:Int):AO:=⟨[i64 r,i64 s,.own (qSo h) 0 g.is.length 1 g.is.length,.own (qPo h g.is.length) 0 g.is.length 1 g.is.length],28,1,true⟩
structure PW (g:Gm) (H:Wu) (t:Tin) (rr:Int) (A P:Nat->List Int) (X:Wu):Prop where
 b:X[H.length]? = some (QG g)
 tb:X[H.length+1]? = some (tB t)
 rb:X[H.length+2]? = some ⟨[i64 0,i64 0,nl,nl],28,0,true⟩
 nx:X[H.length+3]? = some (nxO g H.length rr t.seed)
 so:X[qSo H.length]? = some ⟨QJ g.is.length (qS H.length) g.acts 0,36,g.is.length,true⟩
 po:X[qPo H.length g.is.length]? = some ⟨QJ g.is.length (qP H.length g.is.length) g.acts 0,36,g.is.length,true⟩
 s:∀ i,i<g.is.length->X[qS H.length i]? = some ⟨Qa (A i),3,0,true⟩
 p:∀ i,i<g.is.length->X[qP H.length g.is.length i]? = some ⟨Qa (P i),3,0,true⟩
 ls:∀ i,i<g.is.length->(A i).length=g.acts i
 lp:∀ i,i<g.is.length->(P i).length=g.acts i
 low:∀ j,j<H.length->X[j]? = H[j]?
 len:qE H.length g.is.length<=X.length
section
variable {g:Gm} {H X:Wu} {t:Tin} {rr:Int} {A P:Nat->List Int}
theorem PW.app (h:PW g H t rr A P X) (L:Wu):PW g H t rr A P (X++L):=by
 have up:∀ {i:Nat} {o:AO},X[i]? = some o->(X++L)[i]? = some o:=λh=>by rw[Vd (Qb h)]; exact h
 have hl:=h.len;exact⟨up h.b,up h.tb,up h.rb,up h.nx,up h.so,up h.po,λi hi=>up (h.s i hi),λi hi=>up (h.p i hi),h.ls,h.lp,λj hj=>by rw[Vd (by unfold qE at hl; omega)]; exact h.low j hj,by simp; omega⟩
theorem PW.setS (h:PW g H t rr A P X) {j:Nat} (hj:j<g.is.length) {l:List Int} (hl:l.length=g.acts j):PW g H t rr (upA A j l) P (X.set (qS H.length j) ⟨Qa l,3,0,true⟩):=by
 have ne:∀ {i:Nat} {o:AO},X[i]? = some o->i≠qS H.length j->(X.set (qS H.length j) ⟨Qa l,3,0,true⟩)[i]? = some o:=λh h2=>by rw[Ve (by omega)]; exact h
 have hlt:=Qb (h.s j hj);refine⟨ne h.b (by unfold qS; omega),ne h.tb (by unfold qS; omega),ne h.rb (by unfold qS; omega),ne h.nx (by unfold qS; omega),ne h.so (by unfold qS qSo; omega),ne h.po (by unfold qS qPo; omega),λi hi => ?_,λi hi=>ne (h.p i hi) (by unfold qS qP; omega),λi hi => ?_,h.lp,λi hi=>by rw[Ve (by unfold qS; omega)]; exact h.low i hi,by simp; exact h.len⟩
 . by_cases e:i=j
   . subst e; rw[Vh hlt]; simp[upA]
   . rw[Ve (by unfold qS; omega),h.s i hi]; simp[upA,e]
 . unfold upA; split
   . rename_i e; rw[e]; exact hl
   . exact h.ls i hi
theorem PW.setP (h:PW g H t rr A P X) {j:Nat} (hj:j<g.is.length) {l:List Int} (hl:l.length=g.acts j):PW g H t rr A (upA P j l) (X.set (qP H.length g.is.length j) ⟨Qa l,3,0,true⟩):=by
 have ne:∀ {i:Nat} {o:AO},X[i]? = some o->i≠qP H.length g.is.length j->(X.set (qP H.length g.is.length j) ⟨Qa l,3,0,true⟩)[i]? = some o:=λh h2=>by rw[Ve (by omega)]; exact h
 have hlt:=Qb (h.p j hj);refine⟨ne h.b (by unfold qP; omega),ne h.tb (by unfold qP; omega),ne h.rb (by unfold qP; omega),ne h.nx (by unfold qP; omega),ne h.so (by unfold qP qSo; omega),ne h.po (by unfold qP qPo; omega),λi hi=>ne (h.s i hi) (by unfold qS qP; omega),λi hi => ?_,h.ls,λi hi => ?_,λi hi=>by rw[Ve (by unfold qP; omega)]; exact h.low i hi,by simp; exact h.len⟩
 . by_cases e:i=j
   . subst e; rw[Vh hlt]; simp[upA]
   . rw[Ve (by unfold qP; omega),h.p i hi]; simp[upA,e]
 . unfold upA; split
   . rename_i e; rw[e]; exact hl
   . exact h.lp i hi
def Qad (g:Gm) (i:Nat):List Int:=Qt (g.acts i)
def QfH (g:Gm) (H:Wu) (t:Tin) (rr:Int):Wu :=
 H++(QG g::tB t::⟨[i64 0,i64 0,nl,nl],28,0,true⟩::nxO g H.length rr t.seed::QG g::⟨QJ g.is.length (qS H.length) g.acts 0,36,g.is.length,true⟩::(Qc1 (H.length+4) g g.is.length++(QG g::⟨QJ g.is.length (qP H.length g.is.length) g.acts 0,36,g.is.length,true⟩::Qc1 (H.length+6+2*g.is.length) g g.is.length)))
theorem PW.init:PW g H t rr (Qad g) (Qad g) (QfH g H t rr):=by
 have hb1:=Qgw (H.length+4) g g.is.length;have hb2:=Qgw (H.length+6+2*g.is.length) g g.is.length;have hz1:=λi hi=>Qjy (H.length+4) g g.is.length i hi;have hz2:=λi hi=>Qjy (H.length+6+2*g.is.length) g g.is.length i hi;have at':∀ k,(QfH g H t rr)[H.length+k]? = (QG g::tB t::⟨[i64 0,i64 0,nl,nl],28,0,true⟩::nxO g H.length rr t.seed::QG g::⟨QJ g.is.length (qS H.length) g.acts 0,36,g.is.length,true⟩::(Qc1 (H.length+4) g g.is.length++(QG g::⟨QJ g.is.length (qP H.length g.is.length) g.acts 0,36,g.is.length,true⟩::Qc1 (H.length+6+2*g.is.length) g g.is.length)))[k]? := λk=>by
  unfold QfH;rw[Vf (by omega)];congr 1; omega
 refine⟨at' 0,at' 1,at' 2,at' 3,?_,?_,λi hi => ?_,λi hi => ?_,λi _=>by simp[Qad,Qt],λi _=>by simp[Qad,Qt],λj hj=>by unfold QfH; rw[Vd hj],?_⟩
 . exact at' 5
 . have:=at' (7+2*g.is.length);rw[show qPo H.length g.is.length=H.length+(7+2*g.is.length)by unfold qPo; omega,this];rw[show 7+2*g.is.length=(1+2*g.is.length)+6 by omega];simp only[VS];rw[Vf (by omega),hb1,show 1+2*g.is.length-2*g.is.length=1 by omega];rfl
 . rw[show qS H.length i=H.length+(2*i+6)by unfold qS; omega,at'];simp only[VS];rw[Vd (by omega),hz1 i hi]; rfl
 . rw[show qP H.length g.is.length i=H.length+((2*g.is.length+(2*i+2))+6)by unfold qP; omega,at'];simp only[VS];rw[Vf (by omega),hb1,show 2*g.is.length+(2*i+2)-2*g.is.length=2*i+2 by omega];simp only[VS];rw[hz2 i hi]; rfl
 . unfold QfH qE;simp[hb1,hb2]; omega
end
def cpA (g:Gm) (L:List (List Int)):Nat->Nat->List Int
 |0=>Qad g
 |i+1=>upA (cpA g L i) i (L.getD i [])
section
variable {g:Gm} {H X:Wu} {t:Tin} {rr:Int} {A P:Nat->List Int}
structure QjU (g:Gm) (t:Tin):Prop where
 la:t.A.length=g.is.length
 lp:t.P.length=g.is.length
 a:∀ i (h:i<t.A.length),t.A[i].length=g.acts i
 p:∀ i (h:i<t.P.length),t.P[i].length=g.acts i
end
def bls (n:Nat) (s:Nat->Bool):Wv:=(List.range n).map λj=>bl (s j)
structure PX (g:Gm) (H:Wu) (t:Tin) (rr:Int) (A P:Nat->List Int) (ps:Nat) (sn:Nat->Bool) (pn i:Nat) (X:Wu):Prop where
 w:PW g H t rr A P X
 eps:qE H.length g.is.length<=ps
 epn:ps<pn
 sn:X[ps]? = some ⟨bls g.is.length sn,4,0,true⟩
 n:∀ h:i<g.ns.length,X[pn]? = some ⟨g.ns[i].cells,59,0,true⟩
section
variable {g:Gm} {H X:Wu} {t:Tin} {rr:Int} {A P:Nat->List Int} {ps pn i:Nat} {sn:Nat->Bool}
theorem PX.setS (h:PX g H t rr A P ps sn pn i X) {j:Nat} (hj:j<g.is.length) {l:List Int} (hl:l.length=g.acts j):PX g H t rr (upA A j l) P ps sn pn i (X.set (qS H.length j) ⟨Qa l,3,0,true⟩):=by
 have h1:=h.eps; have h2:=h.epn;refine⟨h.w.setS hj hl,h1,h2,?_,λhi => ?_⟩
 . rw[Ve (by unfold qE at h1; unfold qS; omega)]; exact h.sn
 . rw[Ve (by unfold qE at h1; unfold qS; omega)]; exact h.n hi
theorem PX.setP (h:PX g H t rr A P ps sn pn i X) {j:Nat} (hj:j<g.is.length) {l:List Int} (hl:l.length=g.acts j):PX g H t rr A (upA P j l) ps sn pn i (X.set (qP H.length g.is.length j) ⟨Qa l,3,0,true⟩):=by
 have h1:=h.eps; have h2:=h.epn;refine⟨h.w.setP hj hl,h1,h2,?_,λhi => ?_⟩
 . rw[Ve (by unfold qE at h1; unfold qP; omega)]; exact h.sn
 . rw[Ve (by unfold qE at h1; unfold qP; omega)]; exact h.n hi
def QhW (l:List Int) (f:Nat->Int) (k:Nat):List Int:=Qf l.length λa=>if a<k then f a else l.getD a 0
theorem QrQ (l:List Int) (f:Nat->Int):QhW l f l.length=Qf l.length f:=by
 apply VA;intro a ha;simp only[VI]at ha;rw[Wb ha]
end
section
variable {g:Gm} {H X:Wu} {t:Tin} {rr:Int} {A P:Nat->List Int} {ps pn i p j:Nat} {sn:Nat->Bool} {V R O:List Int} {S:List (List Int)}
def lrF (g:Gm) (V R:List Int) (A:List Int) (i a:Nat):Int:=IntKind.i64.wrap (A.getD a 0+QaP g V R i a)
def plK (sn:Nat->Bool) (P:Nat->List Int) (S:List (List Int)) (o:Int) (j k:Nat):Nat->List Int:=if sn j=true then P else upA P j (QhW (P j) (QaG o (P j) (S.getD j [])) k)
end
def mvQ (g:Gm) (p i:Nat):Option Nat:=match g.ns[i]? with
 |none=>none
 |some x=>if x.k=2/\x.p=p then some x.i.toNat else none
def nxl (g:Gm) (i:Nat):Nat:=match g.ns[i]? with|none=>0|some x=>x.nx.length
def rfA (g:Gm) (V R:List Int) (p:Nat) (A:Nat->List Int):Nat->Nat->List Int
 |0=>A
 |i+1=>match mvQ g p i with
  |none=>rfA g V R p A i
  |some j=>upA (rfA g V R p A i) j (QhW (rfA g V R p A i j) (lrF g V R (rfA g V R p A i j) i) (nxl g i))
def rfS (g:Gm) (p:Nat):Nat->Nat->Bool
 |0=>λ_=>false
 |i+1=>match mvQ g p i with
  |none=>rfS g p i
  |some j=>λk=>if k=j then true else rfS g p i k
def rfP (g:Gm) (O:List Int) (S:List (List Int)) (p:Nat) (P:Nat->List Int):Nat->Nat->List Int
 |0=>P
 |i+1=>match mvQ g p i with
  |none=>rfP g O S p P i
  |some j=>plK (rfS g p i) (rfP g O S p P i) S (O.getD (i*4+p) 0) j (nxl g i)
structure PY (g:Gm) (H:Wu) (t:Tin) (rr:Int) (A P:Nat->List Int) (ps:Nat) (sn:Nat->Bool) (X:Wu):Prop where
 w:PW g H t rr A P X
 eps:qE H.length g.is.length<=ps
 sn:X[ps]? = some ⟨bls g.is.length sn,4,0,true⟩
section
variable {g:Gm} {H X:Wu} {t:Tin} {rr:Int} {A P:Nat->List Int} {ps pn i p j:Nat} {sn:Nat->Bool} {V R O:List Int} {S:List (List Int)}
theorem PY.node (h:PY g H t rr A P ps sn X) (hi:i<g.ns.length):PX g H t rr A P ps sn X.length i (X++[⟨g.ns[i].cells,59,0,true⟩]):=by
 have hl:=Qb h.sn;refine⟨h.w.app _,h.eps,hl,by rw[Vd hl]; exact h.sn,λ_ => ?_⟩;rw[Vf (Vc _)]; simp
theorem PX.y (h:PX g H t rr A P ps sn pn i X):PY g H t rr A P ps sn X:=⟨h.w,h.eps,h.sn⟩
theorem PW.setN (h:PW g H t rr A P X) {q:Nat} (hq:qE H.length g.is.length<=q) (o:AO):PW g H t rr A P (X.set q o):=by
 have ne:∀ {i:Nat} {o':AO},X[i]? = some o'->i<qE H.length g.is.length->(X.set q o)[i]? = some o':=λh h2=>by rw[Ve (by omega)]; exact h
 have hl:=h.len;exact⟨ne h.b (by unfold qE; omega),ne h.tb (by unfold qE; omega),ne h.rb (by unfold qE; omega),ne h.nx (by unfold qE; omega),ne h.so (by unfold qE qSo; omega),ne h.po (by unfold qE qPo; omega),λi hi=>ne (h.s i hi) (by unfold qE qS; omega),λi hi=>ne (h.p i hi) (by unfold qE qP; omega),h.ls,h.lp,λi hi=>by rw[Ve (by unfold qE at hq; omega)]; exact h.low i hi,by simp; exact hl⟩
theorem PY.set (h:PY g H t rr A P ps sn X) (j:Nat):PY g H t rr A P ps (λk=>if k=j then true else sn k) (X.set ps ⟨bls g.is.length (λk=>if k=j then true else sn k),4,0,true⟩) :=
 ⟨h.w.setN h.eps _,h.eps,by rw[Vh (Qb h.sn)]⟩
end
def plA (g:Gm) (V R:List Int) (A:Nat->List Int):Nat->Nat->List Int
 |0=>A
 |p+1=>rfA g V R p (plA g V R A p) g.ns.length
def plP (g:Gm) (O:List Int) (S:List (List Int)) (P:Nat->List Int):Nat->Nat->List Int
 |0=>P
 |p+1=>rfP g O S p (plP g O S P p) g.ns.length
section
variable {g:Gm} {H X:Wu} {t:Tin} {rr:Int} {A P:Nat->List Int} {ps pn i p j:Nat} {sn:Nat->Bool} {V R O M:List Int} {S:List (List Int)}
theorem PW.seen (h:PW g H t rr A P X):PY g H t rr A P X.length (λ_=>false) (X++[⟨bls g.is.length λ_=>false,4,0,true⟩]):=by
 refine⟨h.app _,h.len,?_⟩;rw[Vf (Vc _)]; simp
def plyT (g:Gm) (t:Tin) (V R O:List Int):Tin:=⟨t.rnd+1,t.seed,(List.range g.is.length).map (plA g V R (cpA g t.A g.is.length) g.pl.toNat),(List.range g.is.length).map (plP g O (t.A.map Qp) (cpA g t.P g.is.length) g.pl.toNat)⟩
end
section
variable {g:Gm} {M:List Int} {S S':Nat->List Int}
theorem QoF {V V' nx:List Int} {i q:Nat} (hS:∀ k,k<nx.length->brP g S i k=brP g S' i k) (hV:∀ k,k<nx.length->V.getD ((nx.getD k 0).toNat*4+q) 0=V'.getD ((nx.getD k 0).toNat*4+q) 0):∀ k,k<=nx.length->QV g S V nx i q k=QV g S' V' nx i q k
 |0,_=>rfl
 |k+1,hk=>by
  simp only[QV];rw[QoF hS hV k (by omega),hS k (by omega),hV k (by omega)]
theorem Qof (hW:Wg g) {i:Nat} (hi:i<g.ns.length) (hS:∀ j,j<g.is.length->S j=S' j) (k:Nat) (hk:k<g.ns[i].nx.length):brP g S i k=brP g S' i k:=by
 have hx:g.ns[i]? = some g.ns[i]:=Vb hi;simp only[brP,hx];rcases Qej hW hi with h|h|h
 . rw[Wb h,Wb h]
 . rw[Wa (by omega),Wa (by omega),hS _ (QbD hW hi h).1]
 . rw[(Qfa hW hi h).1]at hk; simp at hk
theorem Qlk (hW:Wg g) {i q:Nat} (hi:i<g.ns.length) {V V':List Int} (hS:∀ j,j<g.is.length->S j=S' j) (hV:∀ c,i<c->c<g.ns.length->V.getD (c*4+q) 0=V'.getD (c*4+q) 0):Qbv g M S V i q=Qbv g M S' V' i q:=by
 have hx:g.ns[i]? = some g.ns[i]:=Vb hi;simp only[Qbv,hx];rw[QoF (S':=S') (V':=V') (λk hk=>Qof hW hi hS k hk) (λk hk => ?_) _ (Vc _)];have hch:=(hW.wf.nf i hi).ch _ (Vg hk);have e:g.ns[i].nx.getD k 0=g.ns[i].nx[k]:=by simp[hk]
 rw[e];exact hV _ (by omega) (by omega)
theorem Qjq (V:List Int) (hV:V.length=4*g.ns.length):∀ m,m<=g.ns.length->(Qb4 g M S V m).length=4*g.ns.length
 |0,_=>hV
 |m+1,h=>Qa8 (Qjq V hV m (by omega)) (by omega) _
theorem QoM (hW:Wg g) (V:List Int) (hV:V.length=4*g.ns.length):∀ m,m<=g.ns.length->∀ i q:Nat,g.ns.length-m<=i->i<g.ns.length->(q:Int)<g.pl->(Qb4 g M S V m).getD (i*4+q) 0=Qbv g M S (Qb4 g M S V m) i q
 |0,_,i,q,h1,h2,_=>absurd h1 (by omega)
 |m+1,hm,i,q,h1,h2,hq=>by
  have hp4:=hW.gd.p4;have hl:=Qjq (g:=g) (M:=M) (S:=S) V hV m (by omega);have ih:=QoM hW V hV m (by omega);simp only[Qb4];generalize Qb4 g M S V m=W at *;have hcg:∀ i,g.ns.length-1-m<=i->i<g.ns.length->Qbv g M S (Qu W (g.ns.length-1-m) (plF g (Qbv g M S W (g.ns.length-1-m)))) i q=Qbv g M S W i q:=λi hi1 hi2 =>
   Qlk hW hi2 (λ_ _=>rfl) λc hc1 hc2=>Qd8 hl (by omega) hc2 (by omega) (by omega) _
  rw[hcg i (by omega) h2];by_cases e:i=g.ns.length-1-m
  . subst e;rw[Qlc hl (by omega) (by omega)];simp[plF,hq]
  . rw[Qd8 hl (by omega) h2 (by omega) e];exact ih i q (by omega) h2 hq
end
section
variable {g:Gm} {M:List Int} {S S':Nat->List Int} {own:Bool}
theorem Qtx {R R':List Int} {i k q:Nat} (h:R.getD (i*4+q) 0=R'.getD (i*4+q) 0):QS g own S M R i k q=QS g own S M R' i k q:=by
 unfold QS; rw[h]
theorem Qqe (hW:Wg g) {R:List Int} {i k q:Nat} (hi:i<g.ns.length) (hk:k<g.ns[i].nx.length) (hS:∀ j,j<g.is.length->S j=S' j):QS g own S M R i k q=QS g own S' M R i k q:=by
 unfold QS; rw[Qof hW hi hS k hk]
structure Qb7 (g:Gm) (own:Bool) (M:List Int) (S:Nat->List Int) (i k:Nat) (R:List Int):Prop where
 len:R.length=4*g.ns.length
 z:∀ q:Nat,(q:Int)<g.pl->R.getD (0*4+q) 0=1073741824
 eq:∀ a t q:Nat,∀ h:a<g.ns.length,(ht:t<g.ns[a].nx.length)->(q:Int)<g.pl->(a<i\/a=i/\t<k)->R.getD (g.ns[a].nx[t].toNat*4+q) 0=QS g own S M R a t q
theorem Qb7.step (hW:Wg g) {i k:Nat} {R:List Int} (h:Qb7 g own M S i k R) (hi:i<g.ns.length) (hk:k<g.ns[i].nx.length):Qb7 g own M S i (k+1) (chR g own S M R i k):=by
 have hp4:=hW.gd.p4;have hx:g.ns[i]? = some g.ns[i]:=Vb hi;have hch:=(hW.wf.nf i hi).ch _ (Vg hk);have hinc:=(hW.wf.nf i hi).inc;have e:g.ns[i].nx.getD k 0=g.ns[i].nx[k]:=by simp[hk]
 have er:chR g own S M R i k=Qu R g.ns[i].nx[k].toNat (Qo g.pl.toNat (QS g own S M R i k) (Qz R i)):=by
  simp only[chR,hx,e]
 rw[er];have hl:=h.len;have hcl:g.ns[i].nx[k].toNat<g.ns.length:=by omega
 refine⟨Qa8 hl hcl _,λq hq => ?_,λa t q ha ht hq hat => ?_⟩
 . rw[Qd8 hl hcl (by omega) (by omega) (by omega)]; exact h.z q hq
 . have hca:=(hW.wf.nf a ha).ch _ (Vg ht);have hai:a<=i:=by omega
   have hR:(Qu R g.ns[i].nx[k].toNat (Qo g.pl.toNat (QS g own S M R i k) (Qz R i))).getD (a*4+q) 0=R.getD (a*4+q) 0:=Qd8 hl hcl ha (by omega) (by omega) _;rw[Qtx hR];by_cases hs:a=i/\t=k
   . obtain⟨rfl,rfl⟩:=hs;rw[Qlc hl hcl (by omega)];unfold Qo;rw[Wb (by omega)]
   . have hne:g.ns[a].nx[t].toNat≠g.ns[i].nx[k].toNat:=by
      intro hh;by_cases hai2:a=i
      . subst hai2;have htk:t<k:=by omega
        have:=Yt.1 hinc t k ht hk htk;omega
      . have h1:=hca.2.2.1;have h2:=hch.2.2.1;rw[hh]at h1;omega
     rw[Qd8 hl hcl (by omega) (by omega) hne];exact h.eq a t q ha ht hq (by omega)
theorem Qb7.chs (hW:Wg g) {i:Nat} {R:List Int} (h:Qb7 g own M S i 0 R) (hi:i<g.ns.length):∀ k,k<=g.ns[i].nx.length->Qb7 g own M S i k (Qaq g own S M R i k)
 |0,_=>h
 |k+1,hk=>(Qb7.chs hW h hi k (by omega)).step hW hi (by omega)
theorem Qb7.des (hW:Wg g) {R:List Int} (h:Qb7 g own M S 0 0 R):∀ i,i<=g.ns.length->Qb7 g own M S i 0 (Qa0 g own S M R i)
 |0,_=>h
 |i+1,hi=>by
  have hii:i<g.ns.length:=by omega
  have hx:g.ns[i]? = some g.ns[i]:=Vb hii;have h1:=(Qb7.des hW h i (by omega)).chs hW hii g.ns[i].nx.length (Vc _);simp only[Qa0,hx];refine⟨h1.len,h1.z,λa t q ha ht hq hat=>h1.eq a t q ha ht hq ?_⟩;by_cases e:a=i
  . subst e; exact .inr ⟨rfl,ht⟩
  . omega
theorem QtR (hW:Wg g) {R:List Int} (hl:R.length=4*g.ns.length) (hm:∀ i (h:i<g.ns.length),g.ns[i].k=1->M.getD i 0=Qbz g.ns[i].ws/\0<M.getD i 0) (hS:∀ j,j<g.is.length->S j=S' j) :
 QfJ g own M S' (Qa0 g own S M (Qu R 0 (Qo g.pl.toNat (λ_=>1073741824) (Qz R 0))) g.ns.length):=by
 have hp4:=hW.gd.p4;have hn1:=hW.gd.n1;have h0:Qb7 g own M S 0 0 (Qu R 0 (Qo g.pl.toNat (λ_=>1073741824) (Qz R 0))):=by
  refine⟨Qa8 hl (by omega) _,λq hq => ?_,λa t q ha ht hq hat=>absurd hat (by omega)⟩;rw[Qlc hl (by omega) (by omega)];unfold Qo;rw[Wb (by omega)]
 have h1:=Qb7.des hW h0 g.ns.length (Vc _);refine⟨λq hq => ?_,λi k q hi hk hq => ?_,hm⟩
 . have:=h1.z q hq;simpa using this
 . have e:g.ns[i].nx.getD k 0=g.ns[i].nx[k]:=by simp[hk]
   rw[e,<- Qqe hW hi hk hS];exact h1.eq i k q hi hk hq (.inl hi)
theorem Qq1 (hW:Wg g) {V:List Int} (hl:V.length=4*g.ns.length) (hm:∀ i (h:i<g.ns.length),g.ns[i].k=1->M.getD i 0=Qbz g.ns[i].ws/\0<M.getD i 0) (hS:∀ j,j<g.is.length->S j=S' j) :
 QdH g M S' (Qb4 g M S V g.ns.length):=by
 refine⟨λi q hi hq => ?_,hm⟩;rw[QoM hW V hl g.ns.length (Vc _) i q (by omega) hi hq];exact Qlk hW hi hS λ_ _ _=>rfl
theorem QnK (hW:Wg g):∀ i (h:i<g.ns.length),g.ns[i].k=1->(cTC g).M.getD i 0=Qbz g.ns[i].ws/\0<(cTC g).M.getD i 0:=λi hi hk=>by
 have h1:=(Qn3 hW).m i hi hk;have hx:g.ns[i]? = some g.ns[i]:=Vb hi;refine⟨?_,h1⟩;simp only[cTC];rw[Qcr hi];simp only[wtF,hx]
end
def Qab (g:Gm) (j:Nat):Int:=(g.is.getD j (0,0)).1
section
variable {g:Gm} {V R O:List Int} {A P:Nat->List Int} {S:List (List Int)} {p:Nat}
theorem Qga (hW:Wg g) {i:Nat} (hi:i<g.ns.length) (hk:g.ns[i].k=2):Qab g g.ns[i].i.toNat=g.ns[i].p:=by
 have:=hW.ty (Vg hi) hk;simp[Qab,this]
theorem Qjw (hW:Wg g) (hA:∀ j,j<g.is.length->(A j).length=g.acts j):∀ i,i<=g.ns.length->∀ j,j<g.is.length->(Qay g V R A i j).length=g.acts j
 |0,_,j,hj=>hA j hj
 |i+1,hi,j,hj=>by
  have hii:i<g.ns.length:=by omega
  have hx:g.ns[i]? = some g.ns[i]:=Vb hii;have ih:=Qjw hW hA i (by omega) j hj;simp only[Qay,Qca,hx];split
  . rename_i hk;unfold upA;split
    . rename_i e;rw[e];simp[(QbD hW hii hk).2.2.1]
    . exact ih
  . exact ih
theorem Qoj {l:List Int} {f:Nat->Int} {k:Nat} (h:l.length=k):QhW l f k=Qf k f:=by subst h; exact QrQ l f
theorem Qoh (hW:Wg g) {B:Nat->List Int} (hA:∀ j,j<g.is.length->(A j).length=g.acts j) (hB:∀ j,j<g.is.length->Qab g j=p->B j=A j):∀ i,i<=g.ns.length->∀ j,j<g.is.length->rfA g V R p B i j=if Qab g j=p then Qay g V R A i j else B j
 |0,_,j,hj=>by
  simp only[rfA,Qay];split
  . rename_i h; exact hB j hj h
  . rfl
 |i+1,hi,j,hj=>by
  have hii:i<g.ns.length:=by omega
  have hx:g.ns[i]? = some g.ns[i]:=Vb hii;have ih:=λj hj=>Qoh hW hA hB i (by omega) j hj;by_cases hk:g.ns[i].k=2
  . obtain⟨b1,b2,b3,b4,b5⟩:=QbD hW hii hk;have ho:=Qga hW hii hk;by_cases hp:g.ns[i].p=p
    . have hmv:mvQ g p i=some g.ns[i].i.toNat:=by simp[mvQ,hx,hk,hp]
      have hxl:nxl g i=g.ns[i].nx.length:=by simp[nxl,hx]
      simp only[rfA,hmv,Qay,Qca,hx,Wb hk,hxl];have hj0:=ih _ b1;rw[Wb (by rw[ho]; exact hp)]at hj0;have hll:=Qjw (V:=V) (R:=R) hW hA i (by omega) _ b1;rw[b3]at hll;unfold upA;by_cases e:j=g.ns[i].i.toNat
      . rw[Wb e,Wb e,e,Wb (by rw[ho]; exact hp),hj0,Qoj hll];rfl
      . rw[Wa e,Wa e];exact ih j hj
    . have hmv:mvQ g p i=none:=by simp[mvQ,hx,hp]
      simp only[rfA,hmv,Qay,Qca,hx,Wb hk];rw[ih j hj];unfold upA;by_cases e:j=g.ns[i].i.toNat
      . rw[e,ho,Wa hp,Wa hp]
      . rw[Wa e]
  . have hmv:mvQ g p i=none:=by simp[mvQ,hx,hk]
    simp only[rfA,hmv,Qay,Qca,hx,Wa hk];exact ih j hj
theorem QoX (hW:Wg g) (hA:∀ j,j<g.is.length->(A j).length=g.acts j):∀ (p j:Nat),j<g.is.length->plA g V R A p j=if 0<=Qab g j/\Qab g j<p then Qay g V R A g.ns.length j else A j
 |0,j,hj=>by simp only[plA]; rw[Wa (by omega)]
 |p+1,j,hj=>by
  have ih:=λj hj=>QoX hW hA p j hj;simp only[plA];rw[Qoh hW hA (λj hj ho=>by rw[ih j hj,Wa (by omega)]) g.ns.length (Vc _) j hj,ih j hj];by_cases e:Qab g j=p
  . rw[Wb e,Wb (by omega)]
  . rw[Wa e];by_cases h:0<=Qab g j/\Qab g j<p
    . rw[Wb h,Wb (by omega)]
    . rw[Wa h,Wa (by omega)]
end
def frs (g:Gm) (j:Nat):Nat:=((cTC g).F.getD j 0).toNat
section
variable {g:Gm} {V R O:List Int} {A P B:Nat->List Int} {S:List (List Int)} {p:Nat}
theorem Qd0 (hW:Wg g) {j:Nat} (hj:j<g.is.length):∃ h:frs g j<g.ns.length,(cTC g).F.getD j 0=frs g j/\g.ns[frs g j].k=2/\g.ns[frs g j].i.toNat=j/\∀ u (hu:u<frs g j),¬ (g.ns[u].k=2/\g.ns[u].i.toNat=j):=by
 obtain⟨t,ht,_,h2,h3,h4⟩:=fn_of hW hj;have e:=Qkd hj ht h2 h3 h4 g.ns.length (Vc _) (by omega);have ef:frs g j=t:=by unfold frs cTC; rw[e]; omega
 subst ef;exact⟨ht,by unfold cTC; exact e,h2,h3,h4⟩
theorem Qf2 (hW:Wg g) {j i:Nat} (hj:j<g.is.length) (hi:i<g.ns.length) (e:frs g j=i):g.ns[i].k=2/\g.ns[i].i.toNat=j/\g.ns[i].p=Qab g j:=by
 subst e;obtain⟨h,_,h2,h3,_⟩:=Qd0 hW hj;have:=Qga hW h h2;rw[h3]at this;exact⟨h2,h3,this.symm⟩
theorem Qov (hW:Wg g) {i:Nat} (hi:i<g.ns.length) (hk:g.ns[i].k=2) (hj:g.ns[i].i.toNat<g.is.length):frs g g.ns[i].i.toNat<=i:=by
 obtain⟨h,_,_,_,h4⟩:=Qd0 hW hj;by_cases hlt:i<frs g g.ns[i].i.toNat
 . exact absurd ⟨hk,rfl⟩ (h4 i hlt)
 . omega
theorem QmF (hW:Wg g):∀ i,i<=g.ns.length->∀ j,j<g.is.length->(rfS g p i j=true↔(Qab g j=p/\frs g j<i))
 |0,_,j,hj=>by simp[rfS]
 |i+1,hi,j,hj=>by
  have hii:i<g.ns.length:=by omega
  have hx:g.ns[i]? = some g.ns[i]:=Vb hii;have ih:=QmF hW i (by omega) j hj;by_cases hk:g.ns[i].k=2/\g.ns[i].p=p
  . have hmv:mvQ g p i=some g.ns[i].i.toNat:=by simp[mvQ,hx,hk]
    have ho:=Qga hW hii hk.1;simp only[rfS,hmv];by_cases e:j=g.ns[i].i.toNat
    . rw[Wb e];have:=Qov hW hii hk.1 (by omega);rw[e,ho];simp[hk.2]; omega
    . rw[Wa e,ih];constructor
      . rintro⟨h1,h2⟩; exact⟨h1,by omega⟩
      . rintro⟨h1,h2⟩;refine⟨h1,?_⟩;by_cases e2:frs g j=i
        . exact absurd (Qf2 hW hj hii e2).2.1.symm e
        . omega
  . have hmv:mvQ g p i=none:=by simp only[mvQ,hx]; rw[Wa hk]
    simp only[rfS,hmv];rw[ih];constructor
    . rintro⟨h1,h2⟩; exact⟨h1,by omega⟩
    . rintro⟨h1,h2⟩;refine⟨h1,?_⟩;by_cases e2:frs g j=i
      . obtain⟨q1,q2,q3⟩:=Qf2 hW hj hii e2;exact absurd ⟨q1,q3.trans h1⟩ hk
      . omega
theorem Qn8 (hW:Wg g) (hB:∀ j,j<g.is.length->(B j).length=g.acts j):∀ i,i<=g.ns.length->∀ j,j<g.is.length ->
 rfP g O S p B i j=if Qab g j=p/\frs g j<i then Qf (g.acts j) (QaG (O.getD (frs g j*4+p) 0) (B j) (S.getD j []))else B j
 |0,_,j,hj=>by simp[rfP]
 |i+1,hi,j,hj=>by
  have hii:i<g.ns.length:=by omega
  have hx:g.ns[i]? = some g.ns[i]:=Vb hii;have ih:=λj hj=>Qn8 hW hB i (by omega) j hj;by_cases hk:g.ns[i].k=2/\g.ns[i].p=p
  . obtain⟨b1,b2,b3,b4,b5⟩:=QbD hW hii hk.1;have hmv:mvQ g p i=some g.ns[i].i.toNat:=by simp[mvQ,hx,hk]
    have hxl:nxl g i=g.ns[i].nx.length:=by simp[nxl,hx]
    have ho:=Qga hW hii hk.1;have hfl:=Qov hW hii hk.1 b1;have hs:=QmF (p:=p) hW i (by omega) g.ns[i].i.toNat b1;simp only[rfP,hmv,hxl];unfold plK;by_cases hsn:rfS g p i g.ns[i].i.toNat=true
    . rw[Wb hsn,ih j hj];obtain⟨s1,s2⟩:=hs.1 hsn;by_cases e:j=g.ns[i].i.toNat
      . rw[e,Wb ⟨s1,s2⟩,Wb ⟨s1,by omega⟩]
      . by_cases c:Qab g j=p/\frs g j<i
        . rw[Wb c,Wb ⟨c.1,by omega⟩]
        . have c2:¬ (Qab g j=p/\frs g j<i+1):=λ⟨h1,h2⟩=>by
           by_cases e2:frs g j=i
           . exact e (Qf2 hW hj hii e2).2.1.symm
           . exact c ⟨h1,by omega⟩
          rw[Wa c,Wa c2]
    . rw[Wa hsn];have hfi:frs g g.ns[i].i.toNat=i:=by
       by_cases h:frs g g.ns[i].i.toNat<i
       . exact absurd (hs.2 ⟨ho.trans hk.2,h⟩) hsn
       . omega
      unfold upA;by_cases e:j=g.ns[i].i.toNat
      . have h0:=ih _ b1;rw[hfi,Wa (by omega)]at h0;rw[Wb e,e,h0,hfi,Wb ⟨ho.trans hk.2,by omega⟩,Qoj (by rw[hB _ b1]; exact b3),b3]
      . rw[Wa e,ih j hj];by_cases c:Qab g j=p/\frs g j<i
        . rw[Wb c,Wb ⟨c.1,by omega⟩]
        . have c2:¬ (Qab g j=p/\frs g j<i+1):=λ⟨h1,h2⟩=>by
           by_cases e2:frs g j=i
           . exact e (Qf2 hW hj hii e2).2.1.symm
           . exact c ⟨h1,by omega⟩
          rw[Wa c,Wa c2]
  . have hmv:mvQ g p i=none:=by simp only[mvQ,hx]; rw[Wa hk]
    simp only[rfP,hmv];rw[ih j hj];by_cases c:Qab g j=p/\frs g j<i
    . rw[Wb c,Wb ⟨c.1,by omega⟩]
    . have c2:¬ (Qab g j=p/\frs g j<i+1):=λ⟨h1,h2⟩=>by
       by_cases e2:frs g j=i
       . obtain⟨q1,q2,q3⟩:=Qf2 hW hj hii e2;exact hk ⟨q1,q3.trans h1⟩
       . exact c ⟨h1,by omega⟩
      rw[Wa c,Wa c2]
theorem Qm4 (hW:Wg g) (hP:∀ j,j<g.is.length->(P j).length=g.acts j):∀ (p j:Nat),j<g.is.length ->
 plP g O S P p j=if 0<=Qab g j/\Qab g j<p then Qf (g.acts j) (QaG (O.getD (frs g j*4+(Qab g j).toNat) 0) (P j) (S.getD j []))else P j
 |0,j,hj=>by simp only[plP]; rw[Wa (by omega)]
 |p+1,j,hj=>by
  have ih:=λj hj=>Qm4 hW hP p j hj;simp only[plP];obtain⟨hf,_⟩:=Qd0 hW hj;have hB:∀ j,j<g.is.length->(plP g O S P p j).length=g.acts j:=λj hj=>by
   rw[ih j hj]; split
   . simp
   . exact hP j hj
  rw[Qn8 hW hB g.ns.length (Vc _) j hj];by_cases e:Qab g j=p
  . have h0:=ih j hj;rw[Wa (by omega)]at h0;rw[Wb ⟨e,hf⟩,Wb (by omega),h0];have:(Qab g j).toNat=p:=by omega
    rw[this]
  . rw[Wa (λh=>e h.1),ih j hj];by_cases h:0<=Qab g j/\Qab g j<p
    . rw[Wb h,Wb (by omega)]
    . rw[Wa h,Wa (by omega)]
end
theorem QgJ:∀ (l:List Nat) (f:Nat->Int) (i:Nat),f i<=Qam f l i/\Qam f l i<=f i+l.length
 |[],f,i=>by simp[Qam]
 |x::l,f,i=>by
  have h:=QgJ l (put f x (f x+1)) i;simp only[Qam,VV];unfold put at h ⊢;by_cases e:i=x
  . subst e;rw[Wb rfl]at h;omega
  . rw[Wa e]at h;omega
theorem Qgs {f:Nat->Int} (h:∀ i,0<=f i):∀ (n k:Nat),k<n->f k<=Qe f n/\0<=Qe f n
 |0,k,hk=>absurd hk (by omega)
 |n+1,k,hk=>by
  have h0:0<=Qe f n:=by
   cases n with
   |zero=>simp[Qe]
   |succ n=>exact(Qgs h (n+1) 0 (by omega)).2
  have hn:=h n;simp only[Qe];by_cases e:k=n
  . subst e; omega
  . have:=Qgs h n k (by omega);omega
theorem Qer {l:List Int} {k:Nat} (hk:k<l.length):0<=(Qp l).getD k 0/\(Qp l).getD k 0<=65536:=by
 have hl:=QgK (l:=l) (by omega);have e:(Qp l).getD k 0=Qam (QC l (Qg l)) ((QD l).take (QO l).toNat) k:=by simp[Qp,hk]
 rw[e];have h1:=QgJ ((QD l).take (QO l).toNat) (QC l (Qg l)) k;have h2:=Qgs (λi=>Qd9 l i) l.length k hk;have h3:((QD l).take (QO l).toNat).length<=(QO l).toNat:=by simp; omega
 have h4:QO l=65536-Qe (QC l (Qg l)) l.length:=rfl;have h5:=Qd9 l k;omega
theorem QpB {l:List Int} (h:∀ w∈l,1<=w/\w<=1000) (hl:l.length<=60) {k:Nat} (hk:k<l.length):l.getD k 0<=Qbz l:=by
 have h1:=QdV h hl l.length (Vc _);have key:∀ n,n<=l.length->∀ k,k<n->l.getD k 0<=wsK l n:=by
  intro n
  induction n with
  |zero=>intro _ k hk; omega
  |succ n ih =>
   intro hn k hk;have hr:=QdV h hl n (by omega);have hw:=h _ (Vg (show n<l.length by omega));have e:wsK l (n+1)=wsK l n+l[n]:=by
    have:wsK l (n+1)=IntKind.i64.wrap (wsK l n+l[n]):=by simp[wsK,show n<l.length by omega]
    rw[this]; exact Qi (by omega) (by omega)
   rw[e];by_cases ek:k=n
   . subst ek;have:l.getD k 0=l[k]:=by simp[show k<l.length by omega]
     omega
   . have:=ih (by omega) k (by omega);omega
 exact key l.length (Vc _) k hk
section
variable {g:Gm} {M O:List Int} {S:Nat->List Int} {own:Bool}
theorem Qht {a p w:Int} (ha:0<=a/\a<=1073741824) (hp:0<=p/\p<=w) (hw:0<w/\w<=65536):0<=qoF a p w/\qoF a p w<=1073741824:=by
 have h1:a*p<=1073741824*w:=Int.mul_le_mul ha.2 hp.2 hp.1 (by omega);have h0:0<=a*p:=Int.mul_nonneg ha.1 hp.1;have h2:IntKind.i64.wrap (a*p)=a*p:=Qi (by omega) (by omega);unfold qoF;rw[h2,ZN h0];have h3:a*p / w<=1073741824:=by
  apply Int.ediv_le_of_le_mul hw.1;omega
 have h4:0<=a*p / w:=ZM h0 (by omega);rw[Qi (by omega) (by omega)];exact⟨h4,h3⟩
theorem Qi5 (hW:Wg g) (hR:QfJ g own M S O) (hS:∀ j,j<g.is.length->∀ k,k<g.acts j->0<=(S j).getD k 0/\(S j).getD k 0<=65536):∀ (n i q:Nat),i<=n->i<g.ns.length->(q:Int)<g.pl->0<=O.getD (i*4+q) 0/\O.getD (i*4+q) 0<=1073741824:=by
 intro n
 induction n with
 |zero =>
  intro i q hi hl hq;have:i=0:=by omega
  subst this;have:=hR.z q hq;simp only[Yb,VZ];omega
 |succ n ih =>
  intro i q hi hl hq;rcases Yp i with e0|e0
  . exact ih i q (by omega) hl hq
  . obtain⟨a,ha,h1,h2,h3⟩:=hW.wf.pf i e0 hl;obtain⟨k,hk,h4⟩:=VX h3;have he:=hR.eq a k q ha hk hq;have e1:(g.ns[a].nx.getD k 0).toNat=i:=by simp[hk,h4]
    rw[e1]at he;rw[he];have hx:g.ns[a]? = some g.ns[a]:=Vb ha;have iha:=ih a q (by omega) ha hq;unfold QS;split
    . rcases Qej hW ha with hk1|hk2|hk3
      . obtain⟨a1,a2,a3,a4⟩:=QeO hW ha hk1;obtain⟨m1,m2⟩:=hR.m a ha hk1;have hkw:k<g.ns[a].ws.length:=by omega
        have hwl:=QpB a4 (by omega) hkw;have hw1:=a4 _ (Vg hkw);have eg:g.ns[a].ws.getD k 0=g.ns[a].ws[k]:=by simp[hkw]
        have hws:=QdV a4 (by omega) g.ns[a].ws.length (Vc _);have eB:brW g M a=Qbz g.ns[a].ws:=by simp only[brW,hx,hk1]; exact m1
        have eP:brP g S a k=g.ns[a].ws.getD k 0:=by simp only[brP,hx,hk1]; rfl
        rw[eB,eP];refine Qht iha ⟨by omega,hwl⟩ ⟨by omega,?_⟩;unfold Qbz;omega
      . obtain⟨b1,b2,b3,b4,b5⟩:=QbD hW ha hk2;have eP:brP g S a k=(S g.ns[a].i.toNat).getD k 0:=by simp[brP,hx,hk2]
        have eB:brW g M a=65536:=by simp[brW,hx,hk2]
        rw[eB,eP];exact Qht iha (hS _ b1 k (by omega)) (by omega)
      . rw[(Qfa hW ha hk3).1]at hk; simp at hk
    . exact iha
end
section
variable {g:Gm} {s:TS}
structure SOk (g:Gm) (s:TS):Prop where
 A:∀ i,i<g.is.length->(s.A i).length=g.acts i
 P:∀ i,i<g.is.length->(s.P i).length=g.acts i
 V:s.V.length=4*g.ns.length
 R:s.R.length=4*g.ns.length
 O:s.O.length=4*g.ns.length
 r0:0<=s.rnd
 r1:s.rnd<=1000000
 sd:0<=s.seed/\s.seed<=2147483646
 ok:QaE g s
 pn:∀ i,i<g.is.length->∀ a,0<=(s.P i).getD a 0
theorem QmQ {L:List (List Int)} {least:Int} (hW:Wg g) (h1:L.length=g.is.length) (h2:∀ i,i<g.is.length->Qag L i=g.acts i/\∀ x∈L.getD i [],least<=x/\x<=70368744177664):Qbd g L least=0:=by
 unfold Qbd;rw[Wa (by simpa using h1),Qgj];intro i _ hi;have hii:i<g.is.length:=by omega
 obtain⟨a1,a2⟩:=h2 i hii;have hgi:g.is.getD i (0,0)=g.is[i]:=by simp[hii]
 have hac:=Qby hW hii;have ha:(g.acts i:Int)=g.is[i].2:=by unfold Gm.acts at hac ⊢; rw[hgi]at hac ⊢; omega
 unfold Qck;rw[hgi,Wa (by rw[a1,ha]; simp),Wa];simp only[Yi,not_exists,not_and,VY,Wd];intro x hx;have:=a2 x hx;omega
theorem Qgk {f:Nat->List Int} {n i:Nat} (h:i<n):((List.range n).map f).getD i []=f i:=by simp[h]
theorem Qj0 {l:List Int} {x:Int} (h:x∈l):∃ a,a<l.length/\l.getD a 0=x:=by
 obtain⟨a,ha,e⟩:=VX h;exact⟨a,ha,by simp[ha,e]⟩
theorem Qot (hW:Wg g) (hA:∀ i,i<g.is.length->(s.A i).length=g.acts i) (hP:∀ i,i<g.is.length->(s.P i).length=g.acts i) (hr:0<=s.rnd/\s.rnd<=1000000) (hs:0<=s.seed/\s.seed<=2147483646) (hp:∀ i,i<g.is.length->∀ a,0<=(s.P i).getD a 0) :
 Qcn g (QQ g s)=0↔QaE g s:=by
 unfold Qcn;rw[Wa (by simp only[QQ]; omega)];constructor
 . intro h;split at h
   . rename_i h1; exact absurd h h1
   . rename_i h1;have h1:Qbd g (QQ g s).A (-70368744177664)=0:=by simpa using h1
     obtain⟨_,a2⟩:=Qb3 hW h1;obtain⟨_,p2⟩:=Qb3 hW h;intro i hi a ha;have e1:=(a2 i hi).2 ((s.A i).getD a 0) (by
      simp only[QQ]; rw[Qgk hi];have:a<(s.A i).length:=by rw[hA i hi]; exact ha
      simp[this])
     have e2:=(p2 i hi).2 ((s.P i).getD a 0) (by
      simp only[QQ]; rw[Qgk hi];have:a<(s.P i).length:=by rw[hP i hi]; exact ha
      simp[this])
     unfold Qa5;omega
 . intro h;have h1:Qbd g (QQ g s).A (-70368744177664)=0:=by
    refine QmQ hW (by simp[QQ]) λi hi => ?_;simp only[QQ,Qag];rw[Qgk hi];refine⟨hA i hi,λx hx => ?_⟩;obtain⟨a,ha,rfl⟩:=Qj0 hx;have:=h i hi a (by rw[<-hA i hi]; exact ha);unfold Qa5 at this;omega
   rw[Wa (by simpa using h1)];refine QmQ hW (by simp[QQ]) λi hi => ?_;simp only[QQ,Qag];rw[Qgk hi];refine⟨hP i hi,λx hx => ?_⟩;obtain⟨a,ha,rfl⟩:=Qj0 hx;have:=h i hi a (by rw[<-hP i hi]; exact ha);have:=hp i hi a;unfold Qa5 at *;omega
theorem QeB (s:TS):∀ (k j:Nat),j<k->(shL s k).S j=Qp (s.A j)
 |0,j,h=>absurd h (by omega)
 |k+1,j,h=>by
  simp only[shL,upA];by_cases e:j=k
  . rw[Wb e,e]
  . rw[Wa e]; exact QeB s k j (by omega)
def QgU (g:Gm) (s:TS):List Int:=Qb4 g (cTC g).M (shL s g.is.length).S s.V g.ns.length
def QaW (g:Gm) (own:Bool) (s:TS) (R:List Int):List Int:=Qa0 g own (shL s g.is.length).S (cTC g).M (Qu R 0 (Qo g.pl.toNat (λ_=>1073741824) (Qz R 0))) g.ns.length
theorem Qhi:(Qai g (cTC g) s).A=Qay g (QgU g s) (QaW g false s s.R) s.A g.ns.length:=by
 obtain⟨h1,h2,h3,h4,h5,h6,h7⟩:=Qei s g.is.length;simp only[Qai,QgU,QaW,h1,h3,h4]
theorem Qf6:(Qai g (cTC g) s).P=Qbg g (cTC g).F (QaW g true s s.O) (shL s g.is.length).S s.P g.is.length:=by
 obtain⟨h1,h2,h3,h4,h5,h6,h7⟩:=Qei s g.is.length;simp only[Qai,QaW,h2,h5]
theorem Qlg:(Qai g (cTC g) s).rnd=IntKind.i64.wrap (s.rnd+1)/\(Qai g (cTC g) s).seed=s.seed:=by
 obtain⟨h1,h2,h3,h4,h5,h6,h7⟩:=Qei s g.is.length;simp only[Qai,h6,h7,and_self]
theorem QeW {F O:List Int} {S P:Nat->List Int}:∀ (n j:Nat),Qbg g F O S P n j=if j<n then Qf (g.acts j) (QaG (QbA g F O j) (P j) (S j))else P j
 |0,j=>by simp[Qbg]
 |n+1,j=>by
  simp only[Qbg,upA];by_cases e:j=n
  . rw[Wb e,Wb (by omega),e]
  . rw[Wa e,QeW n j];by_cases h:j<n
    . rw[Wb h,Wb (by omega)]
    . rw[Wa h,Wa (by omega)]
end
section
variable {g:Gm} {s:TS}
theorem QhI (hW:Wg g) {j:Nat} (hj:j<g.is.length):0<=Qab g j/\Qab g j<g.pl:=by
 obtain⟨h,_,h2,h3,_⟩:=Qd0 hW hj;have h1:=QeH hW h h2;have h4:=Qga hW h h2;rw[h3]at h4;omega
theorem Qsi {j:Nat} (hj:j<g.is.length):((QQ g s).A.map Qp).getD j []=(shL s g.is.length).S j:=by
 rw[QeB s _ j hj];simp[QQ,hj]
theorem QkK {L:List (List Int)}:∀ (n j:Nat),j<n->cpA g L n j=L.getD j []
 |0,j,h=>absurd h (by omega)
 |n+1,j,h=>by
  simp only[cpA,upA];by_cases e:j=n
  . rw[Wb e,e]
  . rw[Wa e]; exact QkK n j (by omega)
theorem QlR (hW:Wg g) {V R:List Int} {A B:Nat->List Int} (h:∀ j,j<g.is.length->A j=B j):∀ i,i<=g.ns.length->∀ j,j<g.is.length->Qay g V R A i j=Qay g V R B i j
 |0,_,j,hj=>h j hj
 |i+1,hi,j,hj=>by
  have hii:i<g.ns.length:=by omega
  have hx:g.ns[i]? = some g.ns[i]:=Vb hii;have ih:=λj hj=>QlR (V:=V) (R:=R) hW h i (by omega) j hj;simp only[Qay,Qca,hx];by_cases hk:g.ns[i].k=2
  . obtain⟨b1,b2,b3,b4,b5⟩:=QbD hW hii hk;rw[Wb hk,Wb hk];unfold upA;by_cases e:j=g.ns[i].i.toNat
    . rw[Wb e,Wb e,ih _ b1]
    . rw[Wa e,Wa e]; exact ih j hj
  . rw[Wa hk,Wa hk]; exact ih j hj
theorem ply_eq (hW:Wg g) (h:SOk g s) (hr:s.rnd<1000000):plyT g (QQ g s) (QgU g s) (QaW g false s s.R) (QaW g true s s.O)=QQ g (Qai g (cTC g) s):=by
 obtain⟨e1,e2⟩:=Qlg (g:=g) (s:=s);have hr0:=h.r0;have w1:IntKind.i64.wrap (s.rnd+1)=s.rnd+1:=Qi (by omega) (by omega);have hcA:∀ j,j<g.is.length->cpA g (QQ g s).A g.is.length j=s.A j:=λj hj=>by rw[QkK _ _ hj]; simp[QQ,hj]
 have hcP:∀ j,j<g.is.length->cpA g (QQ g s).P g.is.length j=s.P j:=λj hj=>by rw[QkK _ _ hj]; simp[QQ,hj]
 unfold plyT;show Tin.mk _ _ _ _=Tin.mk _ _ _ _;congr 1
 . show s.rnd+1=_;rw[e1,w1]
 . exact e2.symm
 . apply VA;intro j hj;simp only[VI]at hj;have ho:=QhI hW hj;rw[QoX hW (λj hj=>by rw[hcA j hj]; exact h.A j hj) _ j hj,Wb (by omega),Qhi];exact QlR hW hcA _ (Vc _) j hj
 . apply VA;intro j hj;simp only[VI]at hj;have ho:=QhI hW hj;obtain⟨hf,hF,_⟩:=Qd0 hW hj;rw[Qm4 hW (λj hj=>by rw[hcP j hj]; exact h.P j hj) _ j hj,Wb (by omega),Qf6,QeW,Wb hj,hcP j hj,Qsi hj];rfl
theorem QrL (hW:Wg g) (h:SOk g s):∀ l∈(QQ g s).A,ShO l:=by
 intro l hl;simp only[QQ,Vm,VI]at hl;obtain⟨j,hj,rfl⟩:=hl;obtain⟨n1,n2⟩:=Qby hW hj;have hlen:=h.A j hj;refine⟨by omega,by omega,λv hv => ?_⟩;obtain⟨a,ha,rfl⟩:=Qj0 hv;have:=h.ok j hj a (by omega);unfold Qa5 at this;omega
theorem Qkb (hW:Wg g) {own:Bool} {R:List Int} (hl:R.length=4*g.ns.length):QfJ g own (cTC g).M (shL s g.is.length).S (QaW g own s R) :=
 QtR hW hl (QnK hW) λ_ _=>rfl
theorem Qk7 {own:Bool} {S:Nat->List Int} {M:List Int} (hW:Wg g) {R:List Int} (hl:R.length=4*g.ns.length):∀ i,i<=g.ns.length->(Qa0 g own S M R i).length=4*g.ns.length
 |0,_=>hl
 |i+1,hi=>by
  have hii:i<g.ns.length:=by omega
  have hx:g.ns[i]? = some g.ns[i]:=Vb hii;have ih:=Qk7 (own:=own) (S:=S) (M:=M) hW hl i (by omega);simp only[Qa0,hx];generalize Qa0 g own S M R i=R1 at *;have key:∀ k,k<=g.ns[i].nx.length->(Qaq g own S M R1 i k).length=4*g.ns.length:=by
   intro k
   induction k with
   |zero=>intro _; exact ih
   |succ k ihk =>
    intro hk;have hch:=(hW.wf.nf i hii).ch _ (Vg (show k<g.ns[i].nx.length by omega));have e:g.ns[i].nx.getD k 0=g.ns[i].nx[k]:=by simp[show k<g.ns[i].nx.length by omega]
    simp only[Qaq,chR,hx,e];exact Qa8 (ihk (by omega)) (by omega) _
  exact key _ (Vc _)
theorem Qtw (hW:Wg g) (h:SOk g s):∀ j,j<g.is.length->∀ a,0<=((Qai g (cTC g) s).P j).getD a 0:=by
 intro j hj a;have ho:=QhI hW hj;obtain⟨hf,hF,_⟩:=Qd0 hW hj;rw[Qf6,QeW,Wb hj];by_cases ha:a<g.acts j
 . have hO:=Qi5 hW (Qkb (s:=s) (own:=true) hW h.O) (λj hj k hk=>by
    rw[QeB s _ j hj]; exact Qer (by rw[h.A j hj]; exact hk)) (frs g j) (frs g j) (Qab g j).toNat (Vc _) hf (by omega)
   have hs:=Qer (l:=s.A j) (k:=a) (by rw[h.A j hj]; exact ha);have hpn:=h.pn j hj a;have hok:=h.ok j hj a ha;unfold Qa5 at hok;rw[Qcr ha];have eo:QbA g (cTC g).F (QaW g true s s.O) j=(QaW g true s s.O).getD (frs g j*4+(Qab g j).toNat) 0:=rfl;have hq:=Qht (a:=QbA g (cTC g).F (QaW g true s s.O) j) (p:=((shL s g.is.length).S j).getD a 0) (w:=65536) (by rw[eo]; exact hO) (by rw[QeB s _ j hj]; exact hs) (by omega);have e3:QeZ (QbA g (cTC g).F (QaW g true s s.O) j) (((shL s g.is.length).S j).getD a 0)=qoF (QbA g (cTC g).F (QaW g true s s.O) j) (((shL s g.is.length).S j).getD a 0) 65536:=rfl;unfold QaG;rw[e3,Qi (by omega) (by omega)];omega
 . have:(Qf (g.acts j) (QaG (QbA g (cTC g).F (QaW g true s s.O) j) (s.P j) ((shL s g.is.length).S j))).getD a 0=0:=by
    simp[Qf,ha]
   rw[this];exact V4 _
theorem Qsq (hW:Wg g) (h:SOk g s):(∀ i,i<g.is.length->((Qai g (cTC g) s).A i).length=g.acts i)/\(∀ i,i<g.is.length->((Qai g (cTC g) s).P i).length=g.acts i):=by
 refine⟨λi hi => ?_,λi hi => ?_⟩
 . rw[Qhi]; exact Qjw hW h.A _ (Vc _) i hi
 . rw[Qf6,QeW,Wb hi]; simp
theorem QmU (hW:Wg g) (h:SOk g s) (hr:s.rnd<1000000) (ho:QaE g (Qai g (cTC g) s)):SOk g (Qai g (cTC g) s):=by
 obtain⟨e1,e2⟩:=Qlg (g:=g) (s:=s);have hr0:=h.r0;have w1:IntKind.i64.wrap (s.rnd+1)=s.rnd+1:=Qi (by omega) (by omega);obtain⟨l1,l2⟩:=Qsq hW h;obtain⟨h1,h2,h3,h4,h5,h6,h7⟩:=Qei s g.is.length;refine⟨l1,l2,?_,?_,?_,by rw[e1,w1]; omega,by rw[e1,w1]; omega,by rw[e2]; exact h.sd,ho,Qtw hW h⟩
 . simp only[Qai,h3];exact Qjq _ h.V _ (Vc _)
 . simp only[Qai,h4];exact Qk7 hW (Qa8 h.R (by have:=hW.gd.n1; omega) _) _ (Vc _)
 . simp only[Qai,h5];exact Qk7 hW (Qa8 h.O (by have:=hW.gd.n1; omega) _) _ (Vc _)
theorem Qll {t:Tin} (h:Qao g t=0):SOk g (s0T g t.rnd t.seed t.A t.P):=by
 obtain⟨hW,h1,h2,h3,h4⟩:=QdG h;obtain⟨a1,a2⟩:=Qb3 hW h3;obtain⟨p1,p2⟩:=Qb3 hW h4;have hs:0<=t.seed/\t.seed<=2147483646:=by
  unfold Qao at h;by_cases hp:g.prpE=0
  . rw[Wa (by simpa using hp)]at h;unfold Qcn at h;by_cases hc:t.rnd<0\/1000000<t.rnd\/t.seed<0\/2147483646<t.seed
    . rw[Wb hc]at h; cases h
    . omega
  . rw[Wb hp]at h; exact absurd h hp
 refine⟨λi hi=>(a2 i hi).1,λi hi=>(p2 i hi).1,by simp[s0T,Qt],by simp[s0T,Qt],by simp[s0T,Qt],h1,h2,hs,QmN h,λi hi a => ?_⟩;simp only[s0T];by_cases ha:a<(t.P.getD i []).length
 . have e:(t.P.getD i []).getD a 0=(t.P.getD i [])[a]:=by rw[Vr,Vb ha]; rfl
   rw[e];exact((p2 i hi).2 _ (Vg ha)).1
 . have:(t.P.getD i []).getD a 0=0:=by rw[Vr,Vp (by omega)]; rfl
   rw[this]; exact V4 _
end
section
variable {g:Gm} {H X:Wu} {t:Tin} {s:TS}
def zO:AO:=⟨[i64 0,i64 0,nl,nl],28,0,true⟩
end
section
variable {g:Gm} {H X:Wu} {t:Tin} {rr:Int} {A P:Nat->List Int}
theorem PW.split (h:PW g H t rr A P X):X=(H++[QG g,tB t,zO,nxO g H.length rr t.seed])++X.drop (H.length+4):=by
 have ht:=QeG (H:=H++[QG g,tB t,zO,nxO g H.length rr t.seed]) (X:=X) λj hj=>by
  by_cases h1:j<H.length
  . rw[Vd h1]; exact h.low j h1
  . have h0:=h.b;have h1':=h.tb;have h2:=h.rb;have h3:=h.nx;rw[Vf (by omega)];have hj':j=H.length\/j=H.length+1\/j=H.length+2\/j=H.length+3:=by
     simp at hj; omega
    rcases hj' with rfl|rfl|rfl|rfl
    . rw[h0]; simp
    . rw[h1']; simp
    . rw[h2]; simp[zO]
    . rw[h3]; simp
 have e:(H++[QG g,tB t,zO,nxO g H.length rr t.seed]).length=H.length+4:=by simp
 rw[e]at ht;exact ht
end
section
variable {g:Gm} {H X:Wu}
theorem Qm6 {t:Tin} (h:Qao g t=0):QjU g t:=by
 obtain⟨hW,h1,h2,h3,h4⟩:=QdG h;obtain⟨a1,a2⟩:=Qb3 hW h3;obtain⟨p1,p2⟩:=Qb3 hW h4;refine⟨a1,p1,λi hi => ?_,λi hi => ?_⟩
 . have:=(a2 i (by omega)).1; rw[Qfb hi]at this; exact this
 . have:=(p2 i (by omega)).1; rw[Qfb hi]at this; exact this
end
end Go.Proofs.Ytogjmpkehjfecaa.Rc
namespace Go.Proofs.Ytogjmpkehjfecaa.Rc
open Go.Ab
end Go.Proofs.Ytogjmpkehjfecaa.Rc
namespace Go.Proofs.Ytogjmpkehjfecaa.Rc
open Go.Ab Go.Ab.Shr
section
variable {H:Wu} {g:Gm}
set_option maxRecDepth 10000 in
theorem Quz {A:List (List Int)} (hA:A.length<=1000) (hAl:∀ l∈A,l.length<=100000) {N:Nat} {K:Wt} (hexit:∀ env,K (.exit 0) env H) :
 ∀ (n i:Nat) (env:Env),i+n=A.length->env.get 0=.slc (sls A) A.length->env.get 1=.slc (sls A) A.length->env.get 5=i64 i->LI Try.prog N Qh Qil env H K:=by
 intro n
 induction n with
 |zero =>
  intro i env hi h0 h1 h5;refine Qc hm Qil.eq_1 ?_;have e:i=A.length:=by omega
  subst e;simp -implicitDefEqProofs[h0,h1,h5];exact hexit _
 |succ n ih =>
  intro i env hi h0 h1 h5;refine Qc hm Qil.eq_1 ?_;have hlt:i<A.length:=by omega
  have w1:=QR (show i<9223372036854775807 by omega);simp -implicitDefEqProofs[h0,h1,h5,hlt,QbY hlt];repeat (refine⟨by omega,?_⟩)
  refine QN (λ_=>QpV (isl H A[i]) (isl H A[i]) (by have:=hAl _ (Vg hlt); omega)) ?_;simp -implicitDefEqProofs[h5,w1];exact ih (i+1) _ (by omega) (by simp[h0]) (by simp[h1]) (by simp)
theorem QnS {A:List (List Int)} (hA:A.length<=1000) (hAl:∀ l∈A,l.length<=100000):Ok Try.prog 26 [.slc (sls A) A.length,.slc (sls A) A.length] H (.ret (bl true)) H:=by
 refine Qq hm Try.func26 c26 (by simp[QcT]) λhcl => ?_;simp -implicitDefEqProofs[i26,r26];refine Quz (A:=A) hA hAl (λenv => ?_) A.length 0 _ (by omega) (by simp) (by simp) (by simp);simp -implicitDefEqProofs;exact Qn
def Tin.small (T:Tin):Prop:=(T.A.length<=1000/\∀ l∈T.A,l.length<=100000)/\(T.P.length<=1000/\∀ l∈T.P,l.length<=100000)
end
end Go.Proofs.Ytogjmpkehjfecaa.Rc
