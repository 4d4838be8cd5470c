/- Steps of the proof. -/
import Derived.Test.YtogjmpkehjfecaaGreatDoorPart3
import Derived.Test.YtogjmpkehjfecaaGreatDoorCore5
set_option linter.all false
namespace Go.Proofs.YtogjmpkehjfecaaGreatDoor.Rc
open Go.Ab Go.Ab.Shr
def upA (A:Nat->List Int) (j:Nat) (X:List Int):Nat->List Int:=λk=>if k=j then X else A k
theorem Qon (A:Nat->List Int) (j:Nat) (X:List Int):upA A j X j=X:=by simp[upA]
theorem Qm0 (A:Nat->List Int) (j:Nat) (X Y:List Int):upA (upA A j X) j Y=upA A j Y:=by funext k; simp only[upA]; split<;>rfl
theorem QpJ (A:Nat->List Int) (j:Nat):upA A j (A j)=A:=by funext k; simp only[upA]; split; rename_i e; rw[e]; rfl
theorem Qm5 (l:List Int):Qh l.length (λa=>l.getD a 0)=l:=by
 apply Vz;intro j;by_cases h:j<l.length
 . rw[Vb (by simpa using h),Qc2 h,Vb h]; simp[h]
 . rw[Vq (by simp; omega),Vq (by omega)]
theorem Qe9 {g:Gm} (hW:Wg g) {i:Nat} (hi:i<g.ns.length) (hk:g.ns[i].k=2):0<=g.ns[i].p/\g.ns[i].p<g.pl:=by
 have h3:=hW.gd.e _ (Vf hi);unfold Nd.err Nd.move at h3;rw[Wa (by omega),Wa (by omega),Wb hk]at h3;split at h3
 . omega
 . split at h3
   . rename_i h4; exact absurd h3 h4
   . rename_i h4;rw[Qdv]at h4;split at h4
     . exact absurd (by decide) h4
     . omega
def Qa2 (g:Gm) (V R:List Int) (i a:Nat):Int:=match g.ns[i]? with
 |none=>0
 |some x=>IntKind.i64.wrap ((IntKind.i64.wrap (R.getD (i*4+x.p.toNat) 0*IntKind.i64.wrap (V.getD ((x.nx.getD a 0).toNat*4+x.p.toNat) 0-V.getD (i*4+x.p.toNat) 0))).tdiv 1073741824)
def Qdd (g:Gm) (V R:List Int) (A:Nat->List Int) (i:Nat):Nat->List Int:=match g.ns[i]? with
 |none=>A
 |some x=>if x.k=2 then upA A x.i.toNat (Qh x.nx.length λa=>IntKind.i64.wrap ((A x.i.toNat).getD a 0+Qa2 g V R i a))else A
section
variable {g:Gm} {H G:Ws} {c:TC} {s:TS}
theorem TW.setA (h:TW g H c s G) {j:Nat} (hj:j<g.is.length) {X:List Int} (hX:X.length=g.acts j):TW g H c { s with A:=upA s.A j X } (G.set (pA H g j) ⟨Qa X,3,1,true⟩):=by
 have hlt:=Qd (h.a j hj);have ne:∀ {k:Nat} {x:Option AO},pA H g j≠k->G[k]? = x->(G.set (pA H g j) ⟨Qa X,3,1,true⟩)[k]? = x:=λhn hx=>by rw[Ve hn]; exact hx
 constructor;case l=>exact⟨λi hi=>by simp only[upA]; split; rename_i e; rw[e]; exact hX; exact h.l.A i hi,h.l.P,h.l.S,h.l.V,h.l.R,h.l.O,h.l.ord,h.l.M,h.l.F⟩
 case len=>simpa using h.len
 case cl=>exact QcD h.cl _ (by simp)
 case a =>
  intro i hi; by_cases e:i=j
  . subst e; rw[Vh hlt]; simp[upA]
  . simp only[upA,Wa e]; exact ne (by unfold pA; omega) (h.a i hi)
 case low=>intro i hi; exact ne (by unfold pA; omega) (h.low i hi)
 case p=>intro i hi; exact ne (by unfold pA pP; omega) (h.p i hi)
 case ss=>intro i hi; exact ne (by unfold pA pS; omega) (h.ss i hi)
 case w=>exact ne (by unfold pA pW; omega) h.w
 case m=>exact ne (by unfold pA pM; omega) h.m
 case f=>exact ne (by unfold pA pF; omega) h.f
 case ao=>exact ne (by unfold pA pAo; omega) h.ao
 case po=>exact ne (by unfold pA pPo; omega) h.po
 case so=>exact ne (by unfold pA pSo; omega) h.so
 case v=>exact ne (by unfold pA pV; omega) h.v
 case r=>exact ne (by unfold pA pR; omega) h.r
 case o=>exact ne (by unfold pA pO; omega) h.o
theorem TW.setP (h:TW g H c s G) {j:Nat} (hj:j<g.is.length) {X:List Int} (hX:X.length=g.acts j):TW g H c { s with P:=upA s.P j X } (G.set (pP H g j) ⟨Qa X,3,1,true⟩):=by
 have hlt:=Qd (h.p j hj);have ne:∀ {k:Nat} {x:Option AO},pP H g j≠k->G[k]? = x->(G.set (pP H g j) ⟨Qa X,3,1,true⟩)[k]? = x:=λhn hx=>by rw[Ve hn]; exact hx
 constructor;case l=>exact⟨h.l.A,λi hi=>by simp only[upA]; split; rename_i e; rw[e]; exact hX; exact h.l.P i hi,h.l.S,h.l.V,h.l.R,h.l.O,h.l.ord,h.l.M,h.l.F⟩
 case len=>simpa using h.len
 case cl=>exact QcD h.cl _ (by simp)
 case p =>
  intro i hi; by_cases e:i=j
  . subst e; rw[Vh hlt]; simp[upA]
  . simp only[upA,Wa e]; exact ne (by unfold pP; omega) (h.p i hi)
 case low=>intro i hi; exact ne (by unfold pP; omega) (h.low i hi)
 case a=>intro i hi; exact ne (by unfold pA pP; omega) (h.a i hi)
 case ss=>intro i hi; exact ne (by unfold pP pS; omega) (h.ss i hi)
 case w=>exact ne (by unfold pP pW; omega) h.w
 case m=>exact ne (by unfold pP pM; omega) h.m
 case f=>exact ne (by unfold pP pF; omega) h.f
 case ao=>exact ne (by unfold pP pAo; omega) h.ao
 case po=>exact ne (by unfold pP pPo; omega) h.po
 case so=>exact ne (by unfold pP pSo; omega) h.so
 case v=>exact ne (by unfold pP pV; omega) h.v
 case r=>exact ne (by unfold pP pR; omega) h.r
 case o=>exact ne (by unfold pP pO; omega) h.o
set_option maxRecDepth 10000 in
theorem Qvi (hW:Wg g) {i:Nat} (hi:i<g.ns.length) (hk:g.ns[i].k=2) {A:Nat->List Int} (hA:(A g.ns[i].i.toNat).length=g.ns[i].nx.length) {N:Nat} {K:Wr}
 (hexit:∀ env G',TW g H c { s with A:=upA A g.ns[i].i.toNat (Qh g.ns[i].nx.length λa=>IntKind.i64.wrap ((A g.ns[i].i.toNat).getD a 0+Qa2 g s.V s.R i a)) } G'->K (.exit 0) env G') :
 ∀ (m a:Nat) (env:Env) (G:Ws),a+m=g.ns[i].nx.length ->
  TW g H c { s with A:=upA A g.ns[i].i.toNat (Qh g.ns[i].nx.length (Qq a (λa=>IntKind.i64.wrap ((A g.ns[i].i.toNat).getD a 0+Qa2 g s.V s.R i a)) λa=>(A g.ns[i].i.toNat).getD a 0)) } G ->
  env.get 0=.ptr (.own (pW H g) 0 0 0 0) 0->env.get 1=i64 i->env.get 5=.own (pA H g g.ns[i].i.toNat) 0 g.ns[i].nx.length 1 1->env.get 6=i64 g.ns[i].p->env.get 39=.slc (Qa g.ns[i].nx) g.ns[i].nx.length->env.get 40=i64 g.ns[i].nx.length->env.get 41=i64 a ->
  LI Tryz.prog N Qb QgL env G K:=by
 have hn:=hW.gd.n;have hx:g.ns[i]? = some g.ns[i]:=Vb hi;obtain⟨a1,a2,a3,a4,a5⟩:=QcK hW hi hk;obtain⟨p1,p2⟩:=Qe9 hW hi hk;have hp4:=hW.gd.p4;have hpn:((g.ns[i].p.toNat:Nat):Int)=g.ns[i].p:=by omega
 intro m
 induction m with
 |zero =>
  intro a env G ha h h0 h1 h5 h6 h39 h40 h41;refine Qc hm QgL.eq_1 ?_;have e:a=g.ns[i].nx.length:=by omega
  subst e;simp -implicitDefEqProofs[h40,h41];refine hexit _ _ ?_;have e2:Qh g.ns[i].nx.length (Qq g.ns[i].nx.length (λa=>IntKind.i64.wrap ((A g.ns[i].i.toNat).getD a 0+Qa2 g s.V s.R i a)) λa=>(A g.ns[i].i.toNat).getD a 0)=Qh g.ns[i].nx.length λa=>IntKind.i64.wrap ((A g.ns[i].i.toNat).getD a 0+Qa2 g s.V s.R i a):=by
   unfold Qh;apply VA;intro x hx;simp only[VJ]at hx;simp only[Qq,Wb hx]
  rw[e2]at h;exact h
 |succ m ih =>
  intro a env G ha h h0 h1 h5 h6 h39 h40 h41;refine Qc hm QgL.eq_1 ?_;have hal:a<g.ns[i].nx.length:=by omega
  have hch:=(hW.wf.nf i hi).ch _ (Vf hal);have hcn:((g.ns[i].nx[a].toNat:Nat):Int)=g.ns[i].nx[a]:=by omega
  have hw:=h.cw0;have hr:=oc0 h.r;have hv:=oc0 h.v;have hra:=oc0 (h.a _ a1);have hst:=QS (h.a _ a1);have eD:Qa2 g s.V s.R i a=IntKind.i64.wrap ((IntKind.i64.wrap (s.R.getD (i*4+g.ns[i].p.toNat) 0*IntKind.i64.wrap (s.V.getD (g.ns[i].nx[a].toNat*4+g.ns[i].p.toNat) 0-s.V.getD (i*4+g.ns[i].p.toNat) 0))).tdiv 1073741824):=by simp[Qa2,hx,hal]
  have eP:=QcU a (λa=>IntKind.i64.wrap ((A g.ns[i].i.toNat).getD a 0+Qa2 g s.V s.R i a)) λa=>(A g.ns[i].i.toNat).getD a 0;have eM:=QfA a (λa=>IntKind.i64.wrap ((A g.ns[i].i.toNat).getD a 0+Qa2 g s.V s.R i a)) λa=>(A g.ns[i].i.toNat).getD a 0;have hA2:=h.setA a1 (X:=Qh g.ns[i].nx.length (Qq (a+1) (λa=>IntKind.i64.wrap ((A g.ns[i].i.toNat).getD a 0+Qa2 g s.V s.R i a)) λa=>(A g.ns[i].i.toNat).getD a 0)) (by simp[a3]);have w1:=QO (show a<9223372036854775807 by omega);have hlV:=h.l.V;have hlR:=h.l.R;simp only[Qon]at hra hst;simp only[Qm0]at hA2;rw[<-eP]at hA2;have ih2:=λ(env:Env) (G:Ws)=>ih (a+1) env G (by omega);rw[<-eP]at ih2;generalize Qq a (λa=>IntKind.i64.wrap ((A g.ns[i].i.toNat).getD a 0+Qa2 g s.V s.R i a)) (λa=>(A g.ns[i].i.toNat).getD a 0)=F at *;have e3:∀ y:Int,List.take a (Qa (Qh g.ns[i].nx.length F))++i64 y::List.drop (a+1) (Qa (Qh g.ns[i].nx.length F))=Qa (Qh g.ns[i].nx.length (put F a y)):=λy=>by rw[Qa7 (by simpa using hal),Qd4]
  have e4:(Qa (Qh g.ns[i].nx.length F))[a]?.getD .any=i64 (F a):=by rw[QdA (by simpa using hal),Qdg hal]
  have b1:i*4+g.ns[i].p.toNat<s.R.length:=by simp only at hlR; omega
  have b2:i*4+g.ns[i].p.toNat<s.V.length:=by simp only at hlV; omega
  have b3:g.ns[i].nx[a].toNat*4+g.ns[i].p.toNat<s.V.length:=by simp only at hlV; omega
  simp only at hr hv;have eV1:s.V.getD (g.ns[i].nx[a].toNat*4+g.ns[i].p.toNat) 0=s.V[g.ns[i].nx[a].toNat*4+g.ns[i].p.toNat]:=by simp[b3]
  have eV2:s.V.getD (i*4+g.ns[i].p.toNat) 0=s.V[i*4+g.ns[i].p.toNat]:=by simp[b2]
  have eR1:s.R.getD (i*4+g.ns[i].p.toNat) 0=s.R[i*4+g.ns[i].p.toNat]:=by simp[b1]
  rw[eV1,eV2,eR1]at eD;simp -implicitDefEqProofs[h0,h1,h5,h6,h39,h40,h41,hal,hw,hr,hv,hra,Qw,hi,b1,b2,b3,hst,e3,e4,Qc2 hal];repeat (refine⟨by omega,?_⟩)
  rw[<-eD,eM];refine ih2 _ _ hA2 ?_ ?_ ?_ ?_ ?_ ?_ ?_
  . simp
  . simp
  . simp
  . simp
  . simp
  . simp
  . simp[w1]
set_option maxRecDepth 10000 in
theorem ok59 (hW:Wg g) (h:TW g H c s G) {i:Nat} (hi:i<g.ns.length) :
 OkP Tryz.prog 59 [.ptr (.own (pW H g) 0 0 0 0) 0,i64 i] G λout G'=>out=.ret (.tup [])/\TW g H c { s with A:=Qdd g s.V s.R s.A i } G':=by
 have hlt:=h.ltw;have hn:=hW.gd.n;have hw:=h.cw0;have hx:g.ns[i]? = some g.ns[i]:=Vb hi;refine QaY hm Tryz.func59 c59 (by simp[hlt]) λhcl => ?_;by_cases hk:g.ns[i].k=2
 . obtain⟨a1,a2,a3,a4,a5⟩:=QcK hW hi hk;obtain⟨p1,p2⟩:=Qe9 hW hi hk;have hao:=oc0 h.ao;have e:Qdd g s.V s.R s.A i=upA s.A g.ns[i].i.toNat (Qh g.ns[i].nx.length λa=>IntKind.i64.wrap ((s.A g.ns[i].i.toNat).getD a 0+Qa2 g s.V s.R i a)):=by simp only[Qdd,hx,Wb hk]
   have hl:(s.A g.ns[i].i.toNat).length=g.ns[i].nx.length:=by rw[h.l.A _ a1,a3]
   simp -implicitDefEqProofs[i59,r59,hw,Qw,hi,nd0 hi,nd1 hi,nd2 hi,nd3 hi,QaF,hk,hao,Qdh a1,a1,a2,a3];repeat (refine⟨by omega,?_⟩)
   rw[e];have h0:TW g H c { s with A:=upA s.A g.ns[i].i.toNat (Qh g.ns[i].nx.length (Qq 0 (λa=>IntKind.i64.wrap ((s.A g.ns[i].i.toNat).getD a 0+Qa2 g s.V s.R i a)) λa=>(s.A g.ns[i].i.toNat).getD a 0)) } G:=by
    rw[QcM,<- hl,Qm5,QpJ]; exact h
   refine Qvi (s:=s) hW hi hk hl (λenv G' hG' => ?_) g.ns[i].nx.length 0 _ _ (by omega) h0 (by simp) (by simp) (by simp) (by simp) (by simp) (by simp) (by simp);simp -implicitDefEqProofs;exact⟨_,_,⟨rfl,hG'⟩,Qn⟩
 . have e:Qdd g s.V s.R s.A i=s.A:=by simp only[Qdd,hx,Wa hk]
   rw[e];simp -implicitDefEqProofs[i59,r59,hw,Qw,hi,nd0 hi,QaF,hk];repeat (refine⟨by omega,?_⟩)
   exact⟨_,_,⟨rfl,h⟩,Qn⟩
end
def Qbx (s:TS) (i a:Nat):Prop:=¬ (s.A i).getD a 0 < -70368744177664/\¬ 70368744177664<(s.A i).getD a 0/\¬ 70368744177664<(s.P i).getD a 0
def QaA (g:Gm) (s:TS):Prop:=∀ i,i<g.is.length->∀ a,a<g.acts i->Qbx s i a
def QdS:SV:=.ifc 65 (.agg [i64 5])
theorem Ql6 {s:Nat}:∀ {l:List Nd} {o:Nat} {a:Int} {r:List Int},occ s l o=a::r->∃ t,∃ ht:t<l.length,a=((o+t:Nat):Int)/\l[t].k=2/\l[t].i.toNat=s/\∀ u (hu:u<t),¬ (l[u].k=2/\l[u].i.toNat=s)
 |[],o,a,r,h=>by simp[occ]at h
 |x::l,o,a,r,h=>by
  unfold occ at h;by_cases hc:x.k=2/\x.i.toNat=s
  . rw[Wb hc]at h
    cases h
    exact⟨0,by simp,by simp,hc.1,hc.2,λu hu=>by omega⟩
  . rw[Wa hc]at h;obtain⟨t,ht,h1,h2,h3,h4⟩:=Ql6 h;refine⟨t+1,by simp; omega,by rw[h1]; congr 1; omega,by simpa using h2,by simpa using h3,λu hu => ?_⟩
    cases u with
    |zero=>simpa using hc
    |succ u=>simpa using h4 u (by omega)
theorem fn_of {g:Gm} (hW:Wg g) {i:Nat} (hi:i<g.is.length):∃ t,∃ ht:t<g.ns.length,(g.sets.getD i []).head? = some (t:Int)/\g.ns[t].k=2/\g.ns[t].i.toNat=i/\∀ u (hu:u<t),¬ (g.ns[u].k=2/\g.ns[u].i.toNat=i):=by
 have hl:i<g.sets.length:=by rw[QbT]; exact hi
 have h0:=hW.ne i hl;rw[Qie hl]at h0
 cases h:occ i g.ns 0 with
 |nil=>exact absurd h h0
 |cons a r =>
  obtain⟨t,ht,h1,h2,h3,h4⟩:=Ql6 h;refine⟨t,ht,?_,h2,h3,h4⟩;rw[Qf4 hi,h,h1];simp
theorem Qa5 {g:Gm} (hW:Wg g) {i:Nat} (hi:i<g.is.length):1<=g.acts i/\g.acts i<=10:=by
 obtain⟨t,ht,_,h2,h3,_⟩:=fn_of hW hi;obtain⟨a1,a2,a3,a4,a5⟩:=QcK hW ht h2;rw[h3]at a3;omega
section
variable {g:Gm} {H G:Ws} {c:TC} {s:TS}
set_option maxRecDepth 10000 in
theorem QsV (hW:Wg g) (h:TW g H c s G) {i:Nat} (hi:i<g.is.length) {x10:SV} {N:Nat} {K:Wr}
 (hpan:¬ QaA g s->∀ env,K (.panic QdS) env G)
 (hexit:(∀ a,a<g.acts i->Qbx s i a)->∀ env,env.get 0=.ptr (.own (pW H g) 0 0 0 0) 0->env.get 10=x10->env.get 11=i64 i->K (.exit 2) env G) :
 ∀ (m a:Nat) (env:Env),a+m=g.acts i->(∀ b,b<a->Qbx s i b)->env.get 0=.ptr (.own (pW H g) 0 0 0 0) 0->env.get 2=i64 i->env.get 10=x10->env.get 11=i64 i ->
  env.get 21=.own (pA H g i) 0 (g.acts i) 1 1->env.get 22=i64 (g.acts i)->env.get 23=i64 a->LI Tryz.prog N Qb Qi9 env G K:=by
 have hac:=Qa5 hW hi;intro m
 induction m with
 |zero =>
  intro a env ha hb h0 h2 h10 h11 h21 h22 h23;refine Qc hm Qi9.eq_1 ?_;have e:a=g.acts i:=by omega
  subst e;simp -implicitDefEqProofs[h22,h23];exact hexit hb _ (by simp[h0]) (by simp[h10]) (by simp[h11])
 |succ m ih =>
  intro a env ha hb h0 h2 h10 h11 h21 h22 h23;refine Qc hm Qi9.eq_1 ?_;have hal:a<g.acts i:=by omega
  have hw:=h.cw0;have hA:=oc0 (h.a _ hi);have hP:=oc0 (h.p _ hi);have hpo:=oc0 h.po;have lA:=h.l.A _ hi;have lP:=h.l.P _ hi;have bA:a<(s.A i).length:=by omega
  have bP:a<(s.P i).length:=by omega
  have gA:(s.A i).getD a 0=(s.A i)[a]:=by simp[bA]
  have gP:(s.P i).getD a 0=(s.P i)[a]:=by simp[bP]
  have bad:¬ Qbx s i a->¬ QaA g s:=λhn hk=>hn (hk i hi a hal);have w1:=QO (show a<9223372036854775807 by omega);by_cases c1:(s.A i)[a] < -70368744177664
  . simp -implicitDefEqProofs[h0,h2,h10,h11,h21,h22,h23,hal,hw,hA,hP,hpo,Qw,bA,bP,c1,Qdh hi,hi];repeat (refine⟨by omega,?_⟩)
    exact hpan (bad λh=>h.1 (by rw[gA]; exact c1)) _
  . by_cases c2:70368744177664<(s.A i)[a]
    . simp -implicitDefEqProofs[h0,h2,h10,h11,h21,h22,h23,hal,hw,hA,hP,hpo,Qw,bA,bP,c1,c2,Qdh hi,hi];repeat (refine⟨by omega,?_⟩)
      exact hpan (bad λh=>h.2.1 (by rw[gA]; exact c2)) _
    . by_cases c3:70368744177664<(s.P i)[a]
      . simp -implicitDefEqProofs[h0,h2,h10,h11,h21,h22,h23,hal,hw,hA,hP,hpo,Qw,bA,bP,c1,c2,c3,Qdh hi,hi];repeat (refine⟨by omega,?_⟩)
        exact hpan (bad λh=>h.2.2 (by rw[gP]; exact c3)) _
      . simp -implicitDefEqProofs[h0,h2,h10,h11,h21,h22,h23,hal,hw,hA,hP,hpo,Qw,bA,bP,c1,c2,c3,Qdh hi,hi];repeat (refine⟨by omega,?_⟩)
        refine ih (a+1) _ (by omega) (λb hb' => ?_) ?_ ?_ ?_ ?_ ?_ ?_ ?_
        rotate_left
        . simp
        . simp
        . simp[h10]
        . simp[h11]
        . simp
        . simp
        . simp[w1]
        by_cases e:b=a
        . subst e; exact⟨by rw[gA]; exact c1,by rw[gA]; exact c2,by rw[gP]; exact c3⟩
        . exact hb b (by omega)
set_option maxRecDepth 10000 in
theorem QvA (hW:Wg g) (h:TW g H c s G) {N:Nat} {K:Wr}
 (hpan:¬ QaA g s->∀ env,K (.panic QdS) env G) (hexit:QaA g s->∀ env,K (.exit 0) env G) :
 ∀ (m i:Nat) (env:Env),i+m=g.is.length->(∀ j,j<i->∀ a,a<g.acts j->Qbx s j a)->env.get 0=.ptr (.own (pW H g) 0 0 0 0) 0->env.get 10=i64 g.is.length->env.get 11=i64 i->LI Tryz.prog N Qb QhJ env G K:=by
 have hil:=hW.gd.i;intro m
 induction m with
 |zero =>
  intro i env ha hb h0 h10 h11;refine Qc hm QhJ.eq_1 ?_;have e:i=g.is.length:=by omega
  subst e;simp -implicitDefEqProofs[h10,h11];exact hexit hb _
 |succ m ih =>
  intro i env ha hb h0 h10 h11;refine Qc hm QhJ.eq_1 ?_;have hi:i<g.is.length:=by omega
  have hw:=h.cw0;have hao:=oc0 h.ao;have w1:=QO (show i<9223372036854775807 by omega);have hac:=Qa5 hW hi;simp -implicitDefEqProofs[h0,h10,h11,hi,hw,hao,Qw,Qdh hi];repeat (refine⟨by omega,?_⟩)
  refine QsV hW h hi (x10:=i64 g.is.length) (λhn env => ?_) (λhk env g0 g10 g11 => ?_) (g.acts i) 0 _ (by omega) (λb hb=>by omega) (by simp) (by simp) (by simp[h10]) (by simp[h11]) (by simp) (by simp) (by simp)
  . exact hpan hn _
  . simp -implicitDefEqProofs[g0,g10,g11];refine ih (i+1) _ (by omega) (λj hj => ?_) ?_ ?_ ?_
    rotate_left
    . simp[g0]
    . simp[g10]
    . simp[w1]
    by_cases e:j=i
    . subst e; exact hk
    . exact hb j (by omega)
theorem ok60 (hW:Wg g) (h:TW g H c s G) :
 OkP Tryz.prog 60 [.ptr (.own (pW H g) 0 0 0 0) 0] G λout G'=>G'=G/\((QaA g s/\out=.ret (.tup []))\/(¬ QaA g s/\out=.pan QdS)):=by
 have hlt:=h.ltw;have hw:=h.cw0;refine QaY hm Tryz.func60 c60 (by simp[hlt]) λhcl => ?_;simp -implicitDefEqProofs[i60,r60,hw,Qw];refine QvA hW h (λhn env => ?_) (λhk env => ?_) g.is.length 0 _ (by omega) (λj hj=>by omega) (by simp) (by simp) (by simp)
 . simp -implicitDefEqProofs;exact⟨_,_,⟨rfl,.inr ⟨hn,rfl⟩⟩,Qn⟩
 . simp -implicitDefEqProofs;exact⟨_,_,⟨rfl,.inl ⟨hk,rfl⟩⟩,Qn⟩
end
def shL (s:TS):Nat->TS
 |0=>s
 |k+1=>{ shL s k with S:=upA (shL s k).S k (Qab (s.A k)),ord:=((QQ (s.A k)).map λ(n:Nat)=>(n:Int))++(shL s k).ord.drop (s.A k).length }
theorem Qed (s:TS):∀ k,(shL s k).A=s.A/\(shL s k).P=s.P/\(shL s k).V=s.V/\(shL s k).R=s.R/\(shL s k).O=s.O/\(shL s k).rnd=s.rnd/\(shL s k).seed=s.seed
 |0=>⟨rfl,rfl,rfl,rfl,rfl,rfl,rfl⟩
 |k+1=>Qed s k
theorem QjL (l:List Int):(QQ l).length=l.length:=by
 unfold QQ;split
 . exact Qhk _
 . simp
section
variable {g:Gm} {H G:Ws} {c:TC} {s:TS}
theorem TW.setS (h:TW g H c s G) {j:Nat} (hj:j<g.is.length) {X q:List Int} (hX:X.length=g.acts j) (hq:q.length=10):TW g H c { s with S:=upA s.S j X,ord:=q } (G2 G (pS H g j) (pW H g) ⟨Qa X,3,0,true⟩ (oI (Qw g H s) q [] 73 0)):=by
 have hlt:=Qd (h.ss j hj);have hlw:=h.ltw;have hne:pS H g j≠pW H g:=by unfold pS pW; omega
 have ne:∀ {k:Nat} {x:Option AO},pS H g j≠k->pW H g≠k->G[k]? = x->(G2 G (pS H g j) (pW H g) ⟨Qa X,3,0,true⟩ (oI (Qw g H s) q [] 73 0))[k]? = x:=λhn hn2 hx=>by unfold G2; rw[Ve hn2,Ve hn]; exact hx
 constructor;case l=>exact⟨h.l.A,h.l.P,λi hi=>by simp only[upA]; split; rename_i e; rw[e]; exact hX; exact h.l.S i hi,h.l.V,h.l.R,h.l.O,hq,h.l.M,h.l.F⟩
 case len=>simpa using h.len
 case cl =>
  refine Qoy h.cl (by simp) ?_;have:=h.len;simp only[oI,SV.underL_append,Qw,Va];unfold pE at this;unfold pM pF pAo pPo pSo pV pR pO;refine⟨?_,by simp⟩;simp[QaP,QaS];omega
 case ss =>
  intro i hi; by_cases e:i=j
  . subst e; have:=QiK (L:=[]) hlt hne (o:=⟨Qa X,3,0,true⟩) (p:=oI (Qw g H s) q [] 73 0); rw[VV]at this; rw[this]; simp[upA]
  . simp only[upA,Wa e]; exact ne (by unfold pS; omega) (by unfold pW pS; omega) (h.ss i hi)
 case w=>have:=QiE (L:=[]) hlw (a:=pS H g j) (o:=⟨Qa X,3,0,true⟩) (p:=oI (Qw g H s) q [] 73 0); rw[VV]at this; exact this
 case a=>intro i hi; exact ne (by unfold pS pA; omega) (by unfold pW pA; omega) (h.a i hi)
 case low=>intro i hi; exact ne (by unfold pS; omega) (by unfold pW; omega) (h.low i hi)
 case p=>intro i hi; exact ne (by unfold pS pP; omega) (by unfold pW pP; omega) (h.p i hi)
 case m=>exact ne (by unfold pS pM; omega) (by unfold pW pM; omega) h.m
 case f=>exact ne (by unfold pS pF; omega) (by unfold pW pF; omega) h.f
 case ao=>exact ne (by unfold pS pAo; omega) (by unfold pW pAo; omega) h.ao
 case po=>exact ne (by unfold pS pPo; omega) (by unfold pW pPo; omega) h.po
 case so=>exact ne (by unfold pS pSo; omega) (by unfold pW pSo; omega) h.so
 case v=>exact ne (by unfold pS pV; omega) (by unfold pW pV; omega) h.v
 case r=>exact ne (by unfold pS pR; omega) (by unfold pW pR; omega) h.r
 case o=>exact ne (by unfold pS pO; omega) (by unfold pW pO; omega) h.o
theorem Qpi {k a:Nat} {o p:AO} (ho:G[a]? = some o) (hp:G[k]? = some p):G2 G a k o p=G:=by
 have h1:G.set a o=G:=by
  apply Vz;intro i;by_cases e:a=i
  . subst e; rw[Vh (Qd ho),ho]
  . rw[Ve e]
 unfold G2;rw[h1];apply Vz;intro i;by_cases e:k=i
 . subst e; rw[Vh (Qd hp),hp]
 . rw[Ve e]
theorem QsK (hW:Wg g) (h:TW g H c s G) (hk:QaA g s) {j:Nat} (hj:j<g.is.length) {A:Nat->List Int} (hA:s.A j=A j) :
 OkP Tryz.prog 31 [.own (pA H g j) 0 (g.acts j) 1 1,.own (pS H g j) 0 (g.acts j) 1 0,.own (pW H g) 13 (g.acts j) 1 0] G λout G'=>out=.ret (.tup []) /\
  TW g H c { s with S:=upA s.S j (Qab (A j)),ord:=((QQ (A j)).map λ(n:Nat)=>(n:Int))++s.ord.drop (A j).length } G':=by
 have hac:=Qa5 hW hj;have hl:=h.l.A j hj;have hlo:=h.l.ord;have hlS:=h.l.S j hj;have hne:pS H g j≠pW H g:=by unfold pS pW; omega
 have hl2:(A j).length=g.acts j:=by rw[<-hA]; exact hl
 have hP:P2 G (pS H g j) (pW H g):=⟨Qd (h.ss j hj),h.ltw,hne⟩;have hG:G2 G (pS H g j) (pW H g) ⟨Qa (s.S j),3,0,true⟩ (oI (Qw g H s) (s.ord.take (g.acts j)) (Qa (s.ord.drop (g.acts j))) 73 0)=G:=by
  refine Qpi (h.ss j hj) ?_;rw[h.w];have e:Qa s.ord++[]=Qa (s.ord.take (g.acts j))++Qa (s.ord.drop (g.acts j)):=by
   simp only[VV,Qa,<- YM,Yn]
  unfold QbQ oI;rw[e]
 have hu:=h.setS hj (X:=s.S j) (q:=s.ord) hlS hlo;have hcu:=h.len;have hC:SV.underL G.length (Qw g H s)=true:=by
  simp only[Qw];unfold pE at hcu;unfold pM pF pAo pPo pSo pV pR pO;simp[QaP,QaS];omega
 have hx:∀ (o p:List Int) (L:Ws),IsI (G2 G (pS H g j) (pW H g) ⟨Qa o,3,0,true⟩ (oI (Qw g H s) p (Qa (s.ord.drop (g.acts j))) 73 0)++L) (.own (pA H g j) 0 (g.acts j) 1 1) (s.A j):=λo p L=>by
  have hat:(G2 G (pS H g j) (pW H g) ⟨Qa o,3,0,true⟩ (oI (Qw g H s) p (Qa (s.ord.drop (g.acts j))) 73 0)++L)[pA H g j]? = some ⟨Qa (s.A j),3,1,true⟩:=by
   rw[Vd (by rw[Qfw]; exact Qd (h.a j hj))];unfold G2;rw[Ve (by unfold pW pA; omega),Ve (by unfold pS pA; omega)];exact h.a j hj
  have:=IsI.whole (H:=[]) (L:=G2 G (pS H g j) (pW H g) ⟨Qa o,3,0,true⟩ (oI (Qw g H s) p (Qa (s.ord.drop (g.acts j))) 73 0)++L) (k:=pA H g j) (n:=g.acts j) hat hl.symm;simpa using this
 have hr:∀ v∈s.A j,-70368744177664<=v/\v<=70368744177664:=λv hv=>by
  obtain⟨a,ha,rfl⟩:=VG hv;have h1:=hk j hj a (by omega);have h2:(s.A j).getD a 0=(s.A j)[a]:=by simp[ha]
  unfold Qbx at h1;rw[h2]at h1;omega
 have key:=ok31 (va:=0) (v:=0) (T:=73) (D:=Qa (s.ord.drop (g.acts j))) (o0:=s.S j) (p0:=s.ord.take (g.acts j)) hP ⟨hC,by simp⟩ hx (by omega) (by omega) hr (by rw[hlS,hl]) (by rw[YB,hl]; omega);rw[hG,hl]at key;have hX:=h.setS hj (X:=Qab (A j)) (q:=((QQ (A j)).map λ(n:Nat)=>(n:Int))++s.ord.drop (A j).length) (by rw[QmQ,hl2]) (by simp[QjL,hl2]; omega);have e:oN (Qw g H s) (QQ (s.A j)) (Qa (s.ord.drop (g.acts j))) 73 0=oI (Qw g H s) (((QQ (A j)).map λ(n:Nat)=>(n:Int))++s.ord.drop (A j).length) [] 73 0:=by
  rw[hA,hl2];simp[oN,oI,QaV,Qa]
 rw[e,hA]at key;exact key.toP.mono λout G' hP=>by
  obtain⟨rfl,rfl⟩:=hP;exact⟨rfl,hX⟩
end
theorem QqC {g:Gm} {s:TS} (h:QaA g s) (k:Nat):QaA g (shL s k):=λi hi a ha=>by
 obtain⟨h1,h2,_⟩:=Qed s k;have:=h i hi a ha;unfold Qbx at this ⊢;rw[h1,h2]; exact this
def Qcp (g:Gm) (M:List Int) (S:Nat->List Int) (V:List Int):Nat->List Int
 |0=>V
 |m+1=>Qv (Qcp g M S V m) (g.ns.length-1-m) (plF g (QbB g M S (Qcp g M S V m) (g.ns.length-1-m)))
def Qa6 (g:Gm) (own:Bool) (S:Nat->List Int) (M R:List Int):Nat->List Int
 |0=>R
 |i+1=>Qax g own S M (Qa6 g own S M R i) i (match g.ns[i]? with|none=>0|some x=>x.nx.length)
def Qa9 (g:Gm) (V R:List Int) (A:Nat->List Int):Nat->Nat->List Int
 |0=>A
 |i+1=>Qdd g V R (Qa9 g V R A i) i
section
variable {g:Gm} {H G:Ws} {c:TC} {s:TS}
set_option maxRecDepth 10000 in
theorem QpO (hW:Wg g) (hk:QaA g s) {N:Nat} {K:Wr}
 (hexit:∀ env G,env.get 0=.ptr (.own (pW H g) 0 0 0 0) 0->TW g H c (shL s g.is.length) G->K (.exit 0) env G) :
 ∀ (m i:Nat) (env:Env) (G:Ws),i+m=g.is.length->TW g H c (shL s i) G->env.get 0=.ptr (.own (pW H g) 0 0 0 0) 0->env.get 16=.own (pSo H g) 0 g.is.length 1 0->env.get 17=i64 g.is.length->env.get 18=i64 i->LI Tryz.prog N Qb Qgr env G K:=by
 have hil:=hW.gd.i;intro m
 induction m with
 |zero =>
  intro i env G hi h h0 h16 h17 h18;refine Qc hm Qgr.eq_1 ?_;have e:i=g.is.length:=by omega
  subst e;simp -implicitDefEqProofs[h17,h18];exact hexit _ _ (by simp[h0]) h
 |succ m ih =>
  intro i env G hi h h0 h16 h17 h18;refine Qc hm Qgr.eq_1 ?_;have hii:i<g.is.length:=by omega
  have hw:=h.cw0;have hao:=oc0 h.ao;have hso:=oc0 h.so;have hac:=Qa5 hW hii;have w1:=QO (show i<9223372036854775807 by omega);have hlo:=h.l.ord;have hca:SV.cutA 1 0 (g.acts i) (.ptr (.own (pW H g) 0 0 0 0) 13)=.own (pW H g) 13 (g.acts i) 1 0:=by simp[SV.cutA]
  simp -implicitDefEqProofs[h0,h16,h17,h18,hii,hw,hao,hso,Qw,Qdh hii,hca];refine⟨by omega,by omega,Q4 (QsK hW h (QqC hk i) hii (A:=s.A) (by rw[(Qed s i).1])) λout G' hP => ?_⟩;obtain⟨rfl,h2⟩:=hP;have hw2:=h2.cw0;simp -implicitDefEqProofs[h0,h16,h17,h18,hii,hw2,Qw];refine ih (i+1) _ _ (by omega) h2 ?_ ?_ ?_ ?_
  . simp
  . simp
  . simp
  . simp[w1]
set_option maxRecDepth 10000 in
theorem QsM (hW:Wg g) (hc:c.Ok g) {V:List Int} {N:Nat} {K:Wr}
 (hexit:∀ env G,env.get 0=.ptr (.own (pW H g) 0 0 0 0) 0->TW g H c { s with V:=Qcp g c.M s.S V g.ns.length } G->K (.exit 2) env G) :
 ∀ (m i:Nat) (env:Env) (G:Ws),i+m=g.ns.length->TW g H c { s with V:=Qcp g c.M s.S V i } G->env.get 0=.ptr (.own (pW H g) 0 0 0 0) 0->env.get 4=i64 ((g.ns.length:Int)-1-i)->LI Tryz.prog N Qb QiP env G K:=by
 have hn:=hW.gd.n;intro m
 induction m with
 |zero =>
  intro i env G hi h h0 h4;refine Qc hm QiP.eq_1 ?_;have e:i=g.ns.length:=by omega
  subst e;have e2:((g.ns.length:Int)-1-g.ns.length) = -1:=by omega
  rw[e2]at h4;simp -implicitDefEqProofs[h4];exact hexit _ _ (by simp[h0]) h
 |succ m ih =>
  intro i env G hi h h0 h4;refine Qc hm QiP.eq_1 ?_;have hii:g.ns.length-1-i<g.ns.length:=by omega
  have e2:((g.ns.length:Int)-1-i)=((g.ns.length-1-i:Nat):Int):=by omega
  rw[e2]at h4;have w1:IntKind.i64.wrap (((g.ns.length-1-i:Nat):Int)-1)=(g.ns.length:Int)-1-((i+1:Nat):Int):=by rw[Qj (by omega) (by omega)]; omega
  simp -implicitDefEqProofs[h0,h4];refine Q4 (ok57 hW h hc hii) λout G' hP => ?_;obtain⟨rfl,h2⟩:=hP;simp -implicitDefEqProofs[h0,h4];refine ih (i+1) _ _ (by omega) h2 ?_ ?_
  . simp
  . simp[w1]
set_option maxRecDepth 10000 in
theorem QqY (hW:Wg g) {R O:List Int} (hR:R.length=4*g.ns.length) (hO:O.length=4*g.ns.length) {N:Nat} {K:Wr}
 (hexit:∀ env G,env.get 0=.ptr (.own (pW H g) 0 0 0 0) 0->TW g H c { s with R:=Qv R 0 (Qq g.pl.toNat (λ_=>1073741824) (QA R 0)),O:=Qv O 0 (Qq g.pl.toNat (λ_=>1073741824) (QA O 0)) } G->K (.exit 4) env G) :
 ∀ (m q:Nat) (env:Env) (G:Ws),((q+m:Nat):Int)=g.pl->TW g H c { s with R:=Qv R 0 (Qq q (λ_=>1073741824) (QA R 0)),O:=Qv O 0 (Qq q (λ_=>1073741824) (QA O 0)) } G->env.get 0=.ptr (.own (pW H g) 0 0 0 0) 0->env.get 58=i64 g.pl->env.get 59=i64 q->LI Tryz.prog N Qb QiJ env G K:=by
 have hp4:=hW.gd.p4;have hn1:=hW.gd.n1;intro m
 induction m with
 |zero =>
  intro q env G hq h h0 h58 h59;refine Qc hm QiJ.eq_1 ?_;have e:q=g.pl.toNat:=by omega
  rw[e]at h;simp -implicitDefEqProofs[h58,h59,show ¬ (q:Int)<g.pl by omega];exact hexit _ _ (by simp[h0]) h
 |succ m ih =>
  intro q env G hq h h0 h58 h59;refine Qc hm QiJ.eq_1 ?_;have hq4:q<4:=by omega
  have hqp:(q:Int)<g.pl:=by omega
  have hw:=h.cw0;have eP:=QcU q (λ_=>(1073741824:Int)) (QA R 0);have eP2:=QcU q (λ_=>(1073741824:Int)) (QA O 0);have lR:=Qbb hR hn1 (Qq q (λ_=>(1073741824:Int)) (QA R 0));have lO:=Qbb hO hn1 (Qq q (λ_=>(1073741824:Int)) (QA O 0));have sR:=Qib hR hn1 hq4 (Qq q (λ_=>(1073741824:Int)) (QA R 0)) 1073741824;have sO:=Qib hO hn1 hq4 (Qq q (λ_=>(1073741824:Int)) (QA O 0)) 1073741824;rw[eP,Yc,VX]at sR;rw[eP2,Yc,VX]at sO;have hR2:=oc0 h.r;have hs1:=QS h.r;have hA:=h.setR (X:=Qv R 0 (Qq (q+1) (λ_=>(1073741824:Int)) (QA R 0))) (Qbb hR hn1 _);have hs2:=QS hA.o;have hO3:=oc0 hA.o;have hB:=hA.setO (X:=Qv O 0 (Qq (q+1) (λ_=>(1073741824:Int)) (QA O 0))) (Qbb hO hn1 _);have w1:=QO (show q<9223372036854775807 by omega);have ih2:=λ(env:Env) (G:Ws)=>ih (q+1) env G (by omega);generalize Qq (q+1) (λ_=>(1073741824:Int)) (QA R 0)=F1 at *;generalize Qq (q+1) (λ_=>(1073741824:Int)) (QA O 0)=F2 at *;generalize Qq q (λ_=>(1073741824:Int)) (QA R 0)=F3 at *;generalize Qq q (λ_=>(1073741824:Int)) (QA O 0)=F4 at *;have e3:List.take q (Qa (Qv R 0 F3))++i64 1073741824::List.drop (q+1) (Qa (Qv R 0 F3))=Qa (Qv R 0 F1):=by rw[Qa7 (by omega),sR]
  have e4:List.take q (Qa (Qv O 0 F4))++i64 1073741824::List.drop (q+1) (Qa (Qv O 0 F4))=Qa (Qv O 0 F2):=by rw[Qa7 (by omega),sO]
  simp -implicitDefEqProofs[h0,h58,h59,hqp,hw,Qw,hR2,hO3,hs1,hs2,e3,e4,hq4,lR,lO];repeat (refine⟨by omega,?_⟩)
  refine ih2 _ _ hB ?_ ?_ ?_
  . simp
  . simp
  . simp[w1]
set_option maxRecDepth 10000 in
theorem QtV (hW:Wg g) (hc:c.Ok g) {R O:List Int} {N:Nat} {K:Wr}
 (hexit:∀ env G,env.get 0=.ptr (.own (pW H g) 0 0 0 0) 0->TW g H c { s with R:=Qa6 g false s.S c.M R g.ns.length,O:=Qa6 g true s.S c.M O g.ns.length } G->K (.exit 6) env G) :
 ∀ (m i:Nat) (env:Env) (G:Ws),i+m=g.ns.length->TW g H c { s with R:=Qa6 g false s.S c.M R i,O:=Qa6 g true s.S c.M O i } G->env.get 0=.ptr (.own (pW H g) 0 0 0 0) 0->env.get 82=i64 g.ns.length->env.get 83=i64 i->LI Tryz.prog N Qb Qhi env G K:=by
 have hn:=hW.gd.n;intro m
 induction m with
 |zero =>
  intro i env G hi h h0 h82 h83;refine Qc hm Qhi.eq_1 ?_;have e:i=g.ns.length:=by omega
  subst e;simp -implicitDefEqProofs[h82,h83];exact hexit _ _ (by simp[h0]) h
 |succ m ih =>
  intro i env G hi h h0 h82 h83;refine Qc hm Qhi.eq_1 ?_;have hii:i<g.ns.length:=by omega
  have hx:g.ns[i]? = some g.ns[i]:=Vb hii;have w1:=QO (show i<9223372036854775807 by omega);simp -implicitDefEqProofs[h0,h82,h83,hii];refine Q4 (ok58 hW hc h hii) λout G' hP => ?_;obtain⟨rfl,h2⟩:=hP;simp -implicitDefEqProofs[h0,h82,h83];have e1:∀ own X,Qa6 g own s.S c.M X (i+1)=Qax g own s.S c.M (Qa6 g own s.S c.M X i) i g.ns[i].nx.length:=λown X=>by simp only[Qa6,hx]
  refine ih (i+1) _ _ (by omega) (by rw[e1,e1]; exact h2) ?_ ?_ ?_
  . simp
  . simp
  . simp[w1]
set_option maxRecDepth 10000 in
theorem Qt0 (hW:Wg g) {A:Nat->List Int} {N:Nat} {K:Wr}
 (hexit:∀ env G,env.get 0=.ptr (.own (pW H g) 0 0 0 0) 0->TW g H c { s with A:=Qa9 g s.V s.R A g.ns.length } G->K (.exit 8) env G) :
 ∀ (m i:Nat) (env:Env) (G:Ws),i+m=g.ns.length->TW g H c { s with A:=Qa9 g s.V s.R A i } G->env.get 0=.ptr (.own (pW H g) 0 0 0 0) 0->env.get 95=i64 g.ns.length->env.get 96=i64 i->LI Tryz.prog N Qb QhV env G K:=by
 have hn:=hW.gd.n;intro m
 induction m with
 |zero =>
  intro i env G hi h h0 h95 h96;refine Qc hm QhV.eq_1 ?_;have e:i=g.ns.length:=by omega
  subst e;simp -implicitDefEqProofs[h95,h96];exact hexit _ _ (by simp[h0]) h
 |succ m ih =>
  intro i env G hi h h0 h95 h96;refine Qc hm QhV.eq_1 ?_;have hii:i<g.ns.length:=by omega
  have w1:=QO (show i<9223372036854775807 by omega);simp -implicitDefEqProofs[h0,h95,h96,hii];refine Q4 (ok59 hW h hii) λout G' hP => ?_;obtain⟨rfl,h2⟩:=hP;simp -implicitDefEqProofs[h0,h95,h96];refine ih (i+1) _ _ (by omega) h2 ?_ ?_ ?_
  . simp
  . simp
  . simp[w1]
end
def Qhb (own share:Int):Int:=IntKind.i64.wrap ((IntKind.i64.wrap (own*share)).tdiv 65536)
def Qbf (own:Int) (P S:List Int) (a:Nat):Int:=IntKind.i64.wrap (P.getD a 0+Qhb own (S.getD a 0))
def Qbe (g:Gm) (F O:List Int) (i:Nat):Int:=O.getD ((F.getD i 0).toNat*4+(g.is.getD i (0,0)).1.toNat) 0
def Qbj (g:Gm) (F O:List Int) (S P:Nat->List Int):Nat->Nat->List Int
 |0=>P
 |i+1=>upA (Qbj g F O S P i) i (Qh (g.acts i) (Qbf (Qbe g F O i) (P i) (S i)))
theorem QlW (g:Gm) (F O:List Int) (S P:Nat->List Int) (j:Nat):∀ i,Qbj g F O S P i j=if j<i then Qh (g.acts j) (Qbf (Qbe g F O j) (P j) (S j))else P j
 |0=>by simp[Qbj]
 |i+1=>by
  simp only[Qbj,upA];by_cases e:j=i
  . subst e; simp
  . rw[Wa e,QlW g F O S P j i];by_cases h:j<i
    . rw[Wb h,Wb (by omega)]
    . rw[Wa h,Wa (by omega)]
theorem QqK {g:Gm} (hW:Wg g) {i:Nat} (hi:i<g.is.length):0<=g.is[i].1/\g.is[i].1<g.pl:=by
 obtain⟨t,ht,_,h2,h3,_⟩:=fn_of hW hi;have h4:=hW.ty (Vf ht) h2;obtain⟨p1,p2⟩:=Qe9 hW ht h2;rw[h3,Vb hi]at h4
 cases hh:g.is[i]with
 |mk a b=>rw[hh]at h4; cases h4; exact⟨p1,p2⟩
section
variable {g:Gm} {H G:Ws} {c:TC} {s:TS}
set_option maxRecDepth 10000 in
theorem QsX (hW:Wg g) {i:Nat} (hi:i<g.is.length) {own:Int} {P:Nat->List Int} (hP:(P i).length=g.acts i) {x106 x107:SV} {N:Nat} {K:Wr}
 (hexit:∀ env G',TW g H c { s with P:=upA P i (Qh (g.acts i) (Qbf own (P i) (s.S i))) } G'->env.get 0=.ptr (.own (pW H g) 0 0 0 0) 0->env.get 106=x106->env.get 107=x107->env.get 108=i64 i->K (.exit 12) env G') :
 ∀ (m a:Nat) (env:Env) (G:Ws),a+m=g.acts i->TW g H c { s with P:=upA P i (Qh (g.acts i) (Qq a (Qbf own (P i) (s.S i)) λa=>(P i).getD a 0)) } G ->
  env.get 0=.ptr (.own (pW H g) 0 0 0 0) 0->env.get 8=i64 i->env.get 10=i64 own->env.get 106=x106->env.get 107=x107->env.get 108=i64 i->env.get 136=.own (pS H g i) 0 (g.acts i) 1 0->env.get 137=i64 (g.acts i)->env.get 138=i64 a ->
  LI Tryz.prog N Qb QhZ env G K:=by
 have hac:=Qa5 hW hi;intro m
 induction m with
 |zero =>
  intro a env G ha h h0 h8 h10 h106 h107 h108 h136 h137 h138;refine Qc hm QhZ.eq_1 ?_;have e:a=g.acts i:=by omega
  subst e;simp -implicitDefEqProofs[h137,h138];have e2:Qh (g.acts i) (Qq (g.acts i) (Qbf own (P i) (s.S i)) λa=>(P i).getD a 0)=Qh (g.acts i) (Qbf own (P i) (s.S i)):=by
   unfold Qh;apply VA;intro x hx;simp only[VJ]at hx;simp only[Qq,Wb hx]
  rw[e2]at h;exact hexit _ _ h (by simp[h0]) (by simp[h106]) (by simp[h107]) (by simp[h108])
 |succ m ih =>
  intro a env G ha h h0 h8 h10 h106 h107 h108 h136 h137 h138;refine Qc hm QhZ.eq_1 ?_;have hal:a<g.acts i:=by omega
  have hw:=h.cw0;have hS:=oc0 (h.ss _ hi);have hPr:=oc0 (h.p _ hi);have hpo:=oc0 h.po;have hst:=QS (h.p _ hi);have lS:=h.l.S _ hi;have eP:=QcU a (Qbf own (P i) (s.S i)) λa=>(P i).getD a 0;have eM:=QfA a (Qbf own (P i) (s.S i)) λa=>(P i).getD a 0;have hP2:=h.setP hi (X:=Qh (g.acts i) (Qq (a+1) (Qbf own (P i) (s.S i)) λa=>(P i).getD a 0)) (by simp);have w1:=QO (show a<9223372036854775807 by omega);simp only[Qon]at hPr hst;simp only[Qm0]at hP2;simp only at lS hS;have bS:a<(s.S i).length:=by omega
  have ih2:=λ(env:Env) (G:Ws)=>ih (a+1) env G (by omega);have eD:Qbf own (P i) (s.S i) a=IntKind.i64.wrap ((P i).getD a 0+IntKind.i64.wrap ((IntKind.i64.wrap (own*(s.S i)[a])).tdiv 65536)):=by simp[Qbf,Qhb,bS]
  rw[<-eP]at hP2 ih2;rw[eD]at hP2 ih2;generalize Qq a (Qbf own (P i) (s.S i)) (λa=>(P i).getD a 0)=F at *;have e3:∀ y:Int,List.take a (Qa (Qh (g.acts i) F))++i64 y::List.drop (a+1) (Qa (Qh (g.acts i) F))=Qa (Qh (g.acts i) (put F a y)):=λy=>by rw[Qa7 (by simpa using hal),Qd4]
  have e4:(Qa (Qh (g.acts i) F))[a]?.getD .any=i64 (F a):=by rw[QdA (by simpa using hal),Qdg hal]
  rw[<-eM]at hP2 ih2;simp -implicitDefEqProofs[h0,h8,h10,h106,h107,h108,h136,h137,h138,hal,hw,hS,hPr,hpo,Qw,Qdh hi,hi,bS,hst,e3,e4,Qc2 hal];repeat (refine⟨by omega,?_⟩)
  refine ih2 _ _ hP2 ?_ ?_ ?_ ?_ ?_ ?_ ?_ ?_ ?_
  . simp
  . simp
  . simp
  . simp[h106]
  . simp[h107]
  . simp[h108]
  . simp
  . simp
  . simp[w1]
set_option maxRecDepth 10000 in
theorem QvE (hW:Wg g) (hc:c.Ok g) {P:Nat->List Int} (hP:∀ i,i<g.is.length->(P i).length=g.acts i) {N:Nat} {K:Wr}
 (hexit:∀ env G,env.get 0=.ptr (.own (pW H g) 0 0 0 0) 0->TW g H c { s with P:=Qbj g c.F s.O s.S P g.is.length } G->K (.exit 10) env G) :
 ∀ (m i:Nat) (env:Env) (G:Ws),i+m=g.is.length->TW g H c { s with P:=Qbj g c.F s.O s.S P i } G->env.get 0=.ptr (.own (pW H g) 0 0 0 0) 0->env.get 106=.own (pSo H g) 0 g.is.length 1 0->env.get 107=i64 g.is.length->env.get 108=i64 i ->
  LI Tryz.prog N Qb Qi7 env G K:=by
 have hil:=hW.gd.i;have hn:=hW.gd.n;have hp4:=hW.gd.p4;intro m
 induction m with
 |zero =>
  intro i env G hi h h0 h106 h107 h108;refine Qc hm Qi7.eq_1 ?_;have e:i=g.is.length:=by omega
  subst e;simp -implicitDefEqProofs[h107,h108];exact hexit _ _ (by simp[h0]) h
 |succ m ih =>
  intro i env G hi h h0 h106 h107 h108;refine Qc hm Qi7.eq_1 ?_;have hii:i<g.is.length:=by omega
  have hac:=Qa5 hW hii;have hw:=h.cw0;have hso:=oc0 h.so;have ho:=oc0 h.o;have hf:=oc0 h.f;have lO:=h.l.O;have lF:=h.l.F;obtain⟨f1,f2⟩:=hc.f i hii;obtain⟨q1,q2⟩:=QqK hW hii;have bF:i<c.F.length:=by omega
  have gF:c.F.getD i 0=c.F[i]:=by simp[bF]
  rw[gF]at f1 f2;simp only at lO ho;have bO:c.F[i].toNat*4+g.is[i].1.toNat<s.O.length:=by omega
  have eO:Qbe g c.F s.O i=s.O[c.F[i].toNat*4+g.is[i].1.toNat]:=by
   have e1:g.is.getD i (0,0)=g.is[i]:=by simp[hii]
   unfold Qbe;rw[gF,e1];simp[bO]
  have w1:=QO (show i<9223372036854775807 by omega);have hPi:Qbj g c.F s.O s.S P i i=P i:=by rw[QlW]; simp
  have hst:TW g H c { s with P:=upA (Qbj g c.F s.O s.S P i) i (Qh (g.acts i) (Qq 0 (Qbf (Qbe g c.F s.O i) (Qbj g c.F s.O s.S P i i) (s.S i)) λa=>(Qbj g c.F s.O s.S P i i).getD a 0)) } G:=by
   rw[QcM,hPi,<- hP i hii,Qm5,<- hPi,QpJ]; exact h
  simp -implicitDefEqProofs[h0,h106,h107,h108,hii,hw,hso,ho,hf,Qw,Qdh hii,Qbo hii,Qgc hii,QfO hii,bF,bO];repeat (refine⟨by omega,?_⟩)
  rw[<-eO];refine QsX (s:=s) (P:=Qbj g c.F s.O s.S P i) hW hii (by rw[hPi]; exact hP i hii) (x106:=.own (pSo H g) 0 g.is.length 1 0) (x107:=i64 g.is.length) (λenv G' hG' g0 g106 g107 g108 => ?_) (g.acts i) 0 _ _ (by omega) hst (by simp) (by simp) (by simp) (by simp) (by simp) (by simp) (by simp) (by simp) (by simp);simp -implicitDefEqProofs[g0,g106,g107,g108];rw[hPi]at hG';refine ih (i+1) _ _ (by omega) hG' ?_ ?_ ?_ ?_
  . simp[g0]
  . simp[g106]
  . simp[g107]
  . simp[w1]
theorem TW.setN (h:TW g H c s G) (n:Int):TW g H c { s with rnd:=n } (G.set (pW H g) (QbQ g H { s with rnd:=n })):=by
 have hlt:=h.ltw;have ne:∀ {k:Nat} {x:Option AO},pW H g≠k->G[k]? = x->(G.set (pW H g) (QbQ g H { s with rnd:=n }))[k]? = x:=λhn hx=>by rw[Ve hn]; exact hx
 constructor;case l=>exact⟨h.l.A,h.l.P,h.l.S,h.l.V,h.l.R,h.l.O,h.l.ord,h.l.M,h.l.F⟩
 case len=>simpa using h.len
 case cl =>
  refine QcD h.cl _ ?_;have:=h.len;simp only[QbQ,oI,SV.underL_append,Qw,Va];unfold pE at this;unfold pM pF pAo pPo pSo pV pR pO;refine⟨?_,by simp⟩;simp[QaP,QaS];omega
 case w=>rw[Vh hlt]
 case ss=>intro i hi; exact ne (by unfold pW pS; omega) (h.ss i hi)
 case a=>intro i hi; exact ne (by unfold pW pA; omega) (h.a i hi)
 case low=>intro i hi; exact ne (by unfold pW; omega) (h.low i hi)
 case p=>intro i hi; exact ne (by unfold pW pP; omega) (h.p i hi)
 case m=>exact ne (by unfold pW pM; omega) h.m
 case f=>exact ne (by unfold pW pF; omega) h.f
 case ao=>exact ne (by unfold pW pAo; omega) h.ao
 case po=>exact ne (by unfold pW pPo; omega) h.po
 case so=>exact ne (by unfold pW pSo; omega) h.so
 case v=>exact ne (by unfold pW pV; omega) h.v
 case r=>exact ne (by unfold pW pR; omega) h.r
 case o=>exact ne (by unfold pW pO; omega) h.o
def Q7 (g:Gm) (c:TC) (s:TS):TS :=
 let s1:=shL s g.is.length
 let s2:TS:={ s1 with V:=Qcp g c.M s1.S s1.V g.ns.length }
 let s3:TS:={ s2 with R:=Qv s2.R 0 (Qq g.pl.toNat (λ_=>1073741824) (QA s2.R 0)),O:=Qv s2.O 0 (Qq g.pl.toNat (λ_=>1073741824) (QA s2.O 0)) }
 let s4:TS:={ s3 with R:=Qa6 g false s3.S c.M s3.R g.ns.length,O:=Qa6 g true s3.S c.M s3.O g.ns.length }
 let s5:TS:={ s4 with A:=Qa9 g s4.V s4.R s4.A g.ns.length }
 let s6:TS:={ s5 with P:=Qbj g c.F s5.O s5.S s5.P g.is.length }
 { s6 with rnd:=IntKind.i64.wrap (s6.rnd+1) }
set_option maxRecDepth 10000 in
theorem ok35 (hW:Wg g) (hc:c.Ok g) (h:TW g H c s G) (hk:QaA g s) :
 OkP Tryz.prog 35 [.ptr (.own (pW H g) 0 0 0 0) 0] G λout G'=>TW g H c (Q7 g c s) G'/\((QaA g (Q7 g c s)/\out=.ret (.tup []))\/(¬ QaA g (Q7 g c s)/\out=.pan QdS)):=by
 have hlt:=h.ltw;have hw:=h.cw0;have hn:=hW.gd.n;have hn1:=hW.gd.n1;have hp1:=hW.gd.p1;refine QaY hm Tryz.func35 c35 (by simp[hlt]) λhcl => ?_;unfold Q7;simp -implicitDefEqProofs[i35,r35,hw,Qw];refine QpO (s:=s) hW hk (λenv G1 g0 h1 => ?_) g.is.length 0 _ _ (by omega) h (by simp) (by simp) (by simp) (by simp);generalize shL s g.is.length=s1 at *;have hw1:=h1.cw0;have w1:IntKind.i64.wrap ((g.ns.length:Int)-1)=(g.ns.length:Int)-1-(0:Nat):=by rw[Qj (by omega) (by omega)]; omega
 simp -implicitDefEqProofs[g0,hw1,Qw];refine QsM (s:=s1) (V:=s1.V) hW hc (λenv G2 g0 h2 => ?_) g.ns.length 0 _ _ (by omega) h1 (by simp[g0]) (by simp[w1]);generalize Qcp g c.M s1.S s1.V g.ns.length=V1 at *;have hw2:=h2.cw0;simp -implicitDefEqProofs[g0,hw2,Qw];have h20:TW g H c { s1 with V:=V1,R:=Qv s1.R 0 (Qq 0 (λ_=>1073741824) (QA s1.R 0)),O:=Qv s1.O 0 (Qq 0 (λ_=>1073741824) (QA s1.O 0)) } G2:=by
  rw[QcM,QcM];have e:∀ X:List Int,X.length=4*g.ns.length->Qv X 0 (QA X 0)=X:=λX hX=>by
   have e1:Qh 4 (QA X 0)=X.take 4:=by
    apply Vz;intro q;by_cases hq:q<4
    . rw[Vb (by simpa using hq),Qc2 hq,Y0 hq,Vb (by omega)];simp[QA,show q<X.length by omega]
    . rw[Vq (by simp; omega),Vq (by simp; omega)]
   unfold Qv;rw[e1]; simp
  rw[e _ h2.l.R,e _ h2.l.O];exact h2
 refine QqY (s:={ s1 with V:=V1 }) (R:=s1.R) (O:=s1.O) hW h2.l.R h2.l.O (λenv G3 g0 h3 => ?_) g.pl.toNat 0 _ _ (by omega) h20 (by simp[g0]) (by simp) (by simp);generalize Qv s1.R 0 (Qq g.pl.toNat (λ_=>1073741824) (QA s1.R 0))=R3 at *;generalize Qv s1.O 0 (Qq g.pl.toNat (λ_=>1073741824) (QA s1.O 0))=O3 at *;have hw3:=h3.cw0;simp -implicitDefEqProofs[g0,hw3,Qw];refine QtV (s:={ s1 with V:=V1 }) (R:=R3) (O:=O3) hW hc (λenv G4 g0 h4 => ?_) g.ns.length 0 _ _ (by omega) h3 (by simp[g0]) (by simp) (by simp);simp only at h4;generalize Qa6 g false s1.S c.M R3 g.ns.length=R4 at *;generalize Qa6 g true s1.S c.M O3 g.ns.length=O4 at *;have hw4:=h4.cw0;simp -implicitDefEqProofs[g0,hw4,Qw];refine Qt0 (s:={ s1 with V:=V1,R:=R4,O:=O4 }) (A:=s1.A) hW (λenv G5 g0 h5 => ?_) g.ns.length 0 _ _ (by omega) h4 (by simp[g0]) (by simp) (by simp);simp only at h5;generalize Qa9 g V1 R4 s1.A g.ns.length=A5 at *;have hw5:=h5.cw0;simp -implicitDefEqProofs[g0,hw5,Qw];refine QvE (s:={ s1 with V:=V1,R:=R4,O:=O4,A:=A5 }) (P:=s1.P) hW hc h5.l.P (λenv G6 g0 h6 => ?_) g.is.length 0 _ _ (by omega) h5 (by simp[g0]) (by simp) (by simp) (by simp);simp only at h6;generalize Qbj g c.F O4 s1.S s1.P g.is.length=P6 at *;have hw6:=h6.cw0;have hst:=QS h6.w;have h7:=h6.setN (IntKind.i64.wrap (s1.rnd+1));simp only[QbQ,Qw]at hst;simp -implicitDefEqProofs[g0,hw6,Qw,hst,oI]
 refine Q4 (OkP.cast rfl (by simp[QbQ,oI,Qw]) (ok60 hW h7)) λout G' hP => ?_;obtain⟨rfl,hP|hP⟩:=hP
 . obtain⟨hk2,rfl⟩:=hP;simp -implicitDefEqProofs;exact⟨_,_,⟨h7,.inl ⟨hk2,rfl⟩⟩,Qn⟩
 . obtain⟨hk2,rfl⟩:=hP;simp -implicitDefEqProofs;exact⟨_,_,⟨h7,.inr ⟨hk2,rfl⟩⟩,Qn⟩
end
def Qaj (v:Nat) (l:List Int):AO:=⟨Qa l,3,v,true⟩
section
variable {H:Ws}
theorem ok56 {l:List Int} (h0:l≠[]) (hl:l.length<=1000000):Ok Tryz.prog 56 [sl l] H (.ret (.own H.length 0 l.length 1 1)) (H++[Qaj 1 l]):=by
 have hl0:l.length≠0:=λh=>h0 (Vx h);refine Ql hm Tryz.func56 c56 (by simp[sl]) λhcl => ?_;simp -implicitDefEqProofs[i56,r56,sl,hl0];exact⟨by omega,by omega,Qn⟩
def Qbi (h I i:Nat) (n:Nat->Nat):Wt:=(List.range I).map λj=>if j<i then .own (h+1+j) 0 (n j) 1 1 else .val (.slice none 0 0)
theorem QrM {h I i:Nat} {n:Nat->Nat} (hi:i<I):List.take i (Qbi h I i n)++SV.own (h+1+i) 0 (n i) 1 1::List.drop (i+1) (Qbi h I i n)=Qbi h I (i+1) n:=by
 have hl:i<(Qbi h I i n).length:=by simp[Qbi,hi]
 have:=YF (l:=Qbi h I i n) (i:=i) (a:=SV.own (h+1+i) 0 (n i) 1 1);rw[Wb hl]at this;rw[<-this];apply Vz;intro j;by_cases e:i=j
 . subst e; rw[Vh hl]; simp[Qbi,hi]
 . rw[Ve e];by_cases hj:j<I
   . have:(j<i)=(j<i+1):=by simp; omega
     simp[Qbi,hj,this]
   . rw[Vq (by simp[Qbi]; omega),Vq (by simp[Qbi]; omega)]
@[simp] theorem QwS {h I i:Nat} {n:Nat->Nat}:(Qbi h I i n).length=I:=by simp[Qbi]
def Qac (L:List (List Int)) (i:Nat):Nat:=(L.getD i []).length
theorem Qez {L:List (List Int)} {i:Nat} (h:i<L.length):Qac L i=L[i].length:=by simp[Qac,h]
def sls (L:List (List Int)):Wt:=L.map sl
@[simp] theorem Qys (L:List (List Int)):(sls L).length=L.length:=by simp[sls]
theorem QeS {L:List (List Int)} {i:Nat} (h:i<L.length):(sls L)[i]'(by simpa using h)=sl L[i]:=by simp[sls]
theorem Qcm (n:Nat) (L:List (List Int)):SV.underL n (sls L)=true:=by
 rw[SV.underL_iff];intro x hx;simp only[sls,Vl]at hx;obtain⟨l,_,rfl⟩:=hx;simp[sl]
set_option maxRecDepth 10000 in
theorem QsN {L:List (List Int)} (hL:∀ l∈L,l≠[]/\l.length<=1000000) (hL2:L.length<=1000000) {N:Nat} {K:Wr}
 (hexit:∀ env,env.get 3=.own H.length 0 L.length 1 0->K (.exit 0) env (H++⟨Qbi H.length L.length L.length (Qac L),45,0,true⟩::L.map (Qaj 1))) :
 ∀ (m i:Nat) (env:Env),i+m=L.length->env.get 3=.own H.length 0 L.length 1 0->env.get 9=.slc (sls L) L.length->env.get 10=i64 L.length->env.get 11=i64 i ->
  LI Tryz.prog N Qb Qjh env (H++⟨Qbi H.length L.length i (Qac L),45,0,true⟩::(L.map (Qaj 1)).take i) K:=by
 intro m
 induction m with
 |zero =>
  intro i env hi h3 h9 h10 h11;refine Qc hm Qjh.eq_1 ?_;have e:i=L.length:=by omega
  subst e;have e0:(L.map (Qaj 1)).take L.length=L.map (Qaj 1):=VB (by simp);rw[e0];simp -implicitDefEqProofs[h10,h11];exact hexit _ (by simp[h3])
 |succ m ih =>
  intro i env hi h3 h9 h10 h11;refine Qc hm Qjh.eq_1 ?_;have hii:i<L.length:=by omega
  obtain⟨n1,n2⟩:=hL _ (Vf hii);have w1:=QO (show i<9223372036854775807 by omega);have hg:L.getD i []=L[i]:=by simp[hii]
  have es:=QrM (h:=H.length) (I:=L.length) (n:=Qac L) hii;rw[Qez hii]at es;have et:(L.map (Qaj 1)).take (i+1)=(L.map (Qaj 1)).take i++[Qaj 1 L[i]]:=by rw[Za (by simpa using hii)]; simp
  have em:min i L.length=i:=by omega
  have ep:H.length+(i+1)=H.length+1+i:=by omega
  simp -implicitDefEqProofs[h3,h9,h10,h11,hii,QeS hii];refine⟨by omega,Qf (ok56 n1 n2) ?_⟩;simp -implicitDefEqProofs[h3,h9,h10,h11,hii,em];refine⟨by omega,?_⟩;rw[ep,es,<- et];refine ih (i+1) _ (by omega) ?_ ?_ ?_ ?_
  . simp
  . simp
  . simp
  . simp[w1]
theorem Quq (h I:Nat) (n:Nat->Nat):Qbi h I I n=QH I (λi=>h+1+i) n 1:=by
 unfold Qbi QH;apply VA;intro j hj;simp only[VJ]at hj;rw[Wb hj]
set_option maxRecDepth 10000 in
theorem ok34 {L:List (List Int)} (hL:∀ l∈L,l≠[]/\l.length<=1000000) (hL2:L.length<=1000000) :
 Ok Tryz.prog 34 [.slc (sls L) L.length] H (.ret (.own H.length 0 L.length 1 0)) (H++⟨QH L.length (λi=>H.length+1+i) (Qac L) 1,45,0,true⟩::L.map (Qaj 1)):=by
 refine Ql hm Tryz.func34 c34 (by simp[Qcm]) λhcl => ?_;simp -implicitDefEqProofs[i34,r34];refine⟨by omega,by omega,?_⟩;have e:List.replicate L.length (SV.val (.slice none 0 0))=Qbi H.length L.length 0 (Qac L):=by simp[Qbi,List.map_const']
 rw[e];refine QsN hL hL2 (λenv g3 => ?_) L.length 0 _ (by omega) (by simp) (by simp) (by simp) (by simp);simp -implicitDefEqProofs[g3];rw[Quq];exact Qn
end
def QbU (p:Nat->Nat) (n:Nat->Nat) (ver I i:Nat):Wt:=(List.range I).map λj=>if j<i then .own (p j) 0 (n j) 1 ver else .val (.slice none 0 0)
@[simp] theorem QzZ {p n:Nat->Nat} {ver I i:Nat}:(QbU p n ver I i).length=I:=by simp[QbU]
theorem QqJ {p n:Nat->Nat} {ver I i:Nat} (hi:i<I):List.take i (QbU p n ver I i)++SV.own (p i) 0 (n i) 1 ver::List.drop (i+1) (QbU p n ver I i)=QbU p n ver I (i+1):=by
 have hl:i<(QbU p n ver I i).length:=by simp[hi]
 have:=YF (l:=QbU p n ver I i) (i:=i) (a:=SV.own (p i) 0 (n i) 1 ver);rw[Wb hl]at this;rw[<-this];apply Vz;intro j;by_cases e:i=j
 . subst e; rw[Vh hl]; simp[QbU,hi]
 . rw[Ve e];by_cases hj:j<I
   . have:(j<i)=(j<i+1):=by simp; omega
     simp[QbU,hj,this]
   . rw[Vq (by simp; omega),Vq (by simp; omega)]
theorem QpS (p n:Nat->Nat) (ver I:Nat):QbU p n ver I 0=List.replicate I (.val (.slice none 0 0)):=by simp[QbU,List.map_const']
theorem QuF (p n:Nat->Nat) (ver I:Nat):QbU p n ver I I=QH I p n ver:=by
 unfold QbU QH;apply VA;intro j hj;simp only[VJ]at hj;rw[Wb hj]
def Qu (n:Nat):List Int:=List.replicate n 0
@[simp] theorem Qxc (n:Nat):(Qu n).length=n:=by simp[Qu]
def QaG (g:Gm):Nat->Ws
 |0=>[]
 |k+1=>QaG g k++[⟨[i64 (g.is.getD k (0,0)).1,i64 (g.is.getD k (0,0)).2],55,0,true⟩,Qaj 0 (Qu (g.acts k))]
theorem Qeu (g:Gm):∀ k,(QaG g k).length=2*k
 |0=>rfl
 |k+1=>by simp[QaG,Qeu g k]; omega
section
variable {H:Ws} {g:Gm}
def pB (h i:Nat):Nat:=h+3+2*i
set_option maxRecDepth 10000 in
theorem QuX (hW:Wg g) {N:Nat} {K:Wr}
 (hexit:∀ env,env.get 3=.own (H.length+1) 0 g.is.length 1 0->K (.exit 0) env (H++Qk g::⟨QbU (pB H.length) g.acts 0 g.is.length g.is.length,45,0,true⟩::QaG g g.is.length)) :
 ∀ (m i:Nat) (env:Env),i+m=g.is.length->env.get 3=.own (H.length+1) 0 g.is.length 1 0->env.get 11=.slc (Qx g.is) g.is.length->env.get 12=i64 g.is.length->env.get 13=i64 i ->
  LI Tryz.prog N Qb Qi0 env (H++Qk g::⟨QbU (pB H.length) g.acts 0 g.is.length i,45,0,true⟩::QaG g i) K:=by
 have hil:=hW.gd.i;intro m
 induction m with
 |zero =>
  intro i env hi h3 h11 h12 h13;refine Qc hm Qi0.eq_1 ?_;have e:i=g.is.length:=by omega
  subst e;simp -implicitDefEqProofs[h12,h13];exact hexit _ (by simp[h3])
 |succ m ih =>
  intro i env hi h3 h11 h12 h13;refine Qc hm Qi0.eq_1 ?_;have hii:i<g.is.length:=by omega
  obtain⟨n1,n2⟩:=Qa5 hW hii;have hg:g.is.getD i (0,0)=g.is[i]:=by simp[hii]
  have ha:(g.acts i:Int)=g.is[i].2:=by unfold Gm.acts; rw[hg]; unfold Gm.acts at n1; rw[hg]at n1; omega
  have w1:=QO (show i<9223372036854775807 by omega);have es:=QqJ (p:=pB H.length) (n:=g.acts) (ver:=0) (I:=g.is.length) hii;have eb:QaG g (i+1)=QaG g i++[⟨[i64 g.is[i].1,i64 g.is[i].2],55,0,true⟩,Qaj 0 (Qu (g.acts i))]:=by simp only[QaG,hg]
  have hMl:=Qeu g i;rw[<-ha]at eb;have ih2:=ih (i+1);rw[eb]at ih2;generalize QaG g i=M at *;simp -implicitDefEqProofs[h3,h11,h12,h13,hii,Qbo hii,Qgc hii,QfO hii,<- ha];repeat (refine⟨by omega,?_⟩)
  have e1:H.length+(M.length+3)=pB H.length i:=by unfold pB; omega
  have e2:List.replicate (g.acts i) (i64 0)=Qa (Qu (g.acts i)):=by simp[Qa,Qu]
  rw[e1,es,e2];refine ih2 _ (by omega) ?_ ?_ ?_ ?_
  . simp
  . simp
  . simp
  . simp[w1]
theorem Qk7 (hW:Wg g):Ok Tryz.prog 30 [.agg g.cells] H (.ret (.own (H.length+1) 0 g.is.length 1 0)) (H++Qk g::⟨QH g.is.length (pB H.length) g.acts 0,45,0,true⟩::QaG g g.is.length):=by
 have hil:=hW.gd.i;refine Ql hm Tryz.func30 c30 (by simp[Gm.cells,QaP,QaS]) λhcl => ?_;simp -implicitDefEqProofs[i30,r30,Gm.cells];refine⟨by omega,by omega,?_⟩;rw[<-QpS (pB H.length) g.acts 0];refine QuX hW (λenv g3 => ?_) g.is.length 0 _ (by omega) (by simp) (by simp) (by simp) (by simp);simp -implicitDefEqProofs[g3];rw[QuF];exact Qn
end
@[simp ↓] theorem Qz7 (n:Nat) (f:Od) (l:List Od):(E.calln f l).rs n=.calln f l:=rfl
@[simp ↓] theorem QqT (n:Nat) (ws:List Nat) (k:Nat) (p x:Od):(E.stw ws k p x).rs n=.stw ws k p x:=rfl
section
variable {g:Gm} {H G:Ws} {c:TC} {s:TS}
theorem TW.setM (h:TW g H c s G) {X:List Int} (hV:X.length=g.ns.length):TW g H { c with M:=X } s (G.set (pM H g) ⟨Qa X,3,1,true⟩):=by
 have hlt:=Qd h.m;have ne:∀ {j:Nat} {x:Option AO},pM H g≠j->G[j]? = x->(G.set (pM H g) ⟨Qa X,3,1,true⟩)[j]? = x:=λhn hx=>by rw[Ve hn]; exact hx
 constructor;case l=>exact⟨h.l.A,h.l.P,h.l.S,h.l.V,h.l.R,h.l.O,h.l.ord,hV,h.l.F⟩
 case len=>simpa using h.len
 case cl=>exact QcD h.cl _ (by simp)
 case m=>rw[Vh hlt]
 case low=>intro i hi; exact ne (by unfold pM; omega) (h.low i hi)
 case a=>intro i hi; exact ne (by unfold pM pA; omega) (h.a i hi)
 case p=>intro i hi; exact ne (by unfold pM pP; omega) (h.p i hi)
 case ss=>intro i hi; exact ne (by unfold pM pS; omega) (h.ss i hi)
 case w=>exact ne (by unfold pM pW; omega) h.w
 case v=>exact ne (by unfold pM pV; omega) h.v
 case f=>exact ne (by unfold pM pF; omega) h.f
 case ao=>exact ne (by unfold pM pAo; omega) h.ao
 case po=>exact ne (by unfold pM pPo; omega) h.po
 case so=>exact ne (by unfold pM pSo; omega) h.so
 case r=>exact ne (by unfold pM pR; omega) h.r
 case o=>exact ne (by unfold pM pO; omega) h.o
theorem TW.setF (h:TW g H c s G) {X:List Int} (hV:X.length=g.is.length):TW g H { c with F:=X } s (G.set (pF H g) ⟨Qa X,3,1,true⟩):=by
 have hlt:=Qd h.f;have ne:∀ {j:Nat} {x:Option AO},pF H g≠j->G[j]? = x->(G.set (pF H g) ⟨Qa X,3,1,true⟩)[j]? = x:=λhn hx=>by rw[Ve hn]; exact hx
 constructor;case l=>exact⟨h.l.A,h.l.P,h.l.S,h.l.V,h.l.R,h.l.O,h.l.ord,h.l.M,hV⟩
 case len=>simpa using h.len
 case cl=>exact QcD h.cl _ (by simp)
 case f=>rw[Vh hlt]
 case low=>intro i hi; exact ne (by unfold pF; omega) (h.low i hi)
 case a=>intro i hi; exact ne (by unfold pF pA; omega) (h.a i hi)
 case p=>intro i hi; exact ne (by unfold pF pP; omega) (h.p i hi)
 case ss=>intro i hi; exact ne (by unfold pF pS; omega) (h.ss i hi)
 case w=>exact ne (by unfold pF pW; omega) h.w
 case m=>exact ne (by unfold pF pM; omega) h.m
 case v=>exact ne (by unfold pF pV; omega) h.v
 case ao=>exact ne (by unfold pF pAo; omega) h.ao
 case po=>exact ne (by unfold pF pPo; omega) h.po
 case so=>exact ne (by unfold pF pSo; omega) h.so
 case r=>exact ne (by unfold pF pR; omega) h.r
 case o=>exact ne (by unfold pF pO; omega) h.o
end
def wsK (ws:List Int):Nat->Int
 |0=>0
 |k+1=>IntKind.i64.wrap (wsK ws k+ws.getD k 0)
def Qby (ws:List Int):Int:=wsK ws ws.length
theorem Qex {ws:List Int} (h:∀ w∈ws,1<=w/\w<=1000) (hl:ws.length<=60):∀ k,k<=ws.length->(k:Int)<=wsK ws k/\wsK ws k<=1000*k
 |0,_=>by simp[wsK]
 |k+1,hk=>by
  have h1:=Qex h hl k (by omega);have h2:=h _ (Vf (show k<ws.length by omega));have h3:ws.getD k 0=ws[k]:=by simp[show k<ws.length by omega]
  simp only[wsK,h3];rw[Qj (by omega) (by omega)];omega
def wtF (g:Gm) (i:Nat):Int:=match g.ns[i]? with
 |none=>0
 |some x=>Qby x.ws
def wtM (g:Gm) (j:Nat) (i:Nat):Int:=if j<=i then wtF g i else 0
def fsL (g:Gm):Nat->List Int
 |0=>Qu g.is.length
 |m+1=>match g.ns[g.ns.length-1-m]? with
  |none=>fsL g m
  |some x=>if x.k=2 then(fsL g m).set x.i.toNat ((g.ns.length-1-m:Nat):Int)else fsL g m
@[simp] theorem QgH (g:Gm):∀ m,(fsL g m).length=g.is.length
 |0=>by simp[fsL]
 |m+1=>by
  simp only[fsL];split
  . exact QgH g m
  . split
    . simp[QgH g m]
    . exact QgH g m
theorem QkQ {g:Gm} {i t:Nat} (hi:i<g.is.length) (ht:t<g.ns.length) (h2:g.ns[t].k=2) (h3:g.ns[t].i.toNat=i) (h4:∀ u (hu:u<t),¬ (g.ns[u].k=2/\g.ns[u].i.toNat=i)) :
 ∀ m,m<=g.ns.length->g.ns.length-m<=t->(fsL g m).getD i 0=t
 |0,hm,hg=>by omega
 |m+1,hm,hg=>by
  have hx:g.ns[g.ns.length-1-m]? = some (g.ns[g.ns.length-1-m]'(by omega)):=Vb (by omega);simp only[fsL,hx];by_cases e:g.ns.length-1-m=t
  . subst e;rw[Wb h2,h3];simp[hi]
  . have ih:=QkQ hi ht h2 h3 h4 m (by omega);by_cases e2:g.ns.length-m<=t
    . split
      . rename_i hk;have hne:¬ (g.ns[g.ns.length-1-m]'(by omega)).i.toNat=i:=λhh=>h4 (g.ns.length-1-m) (by omega) ⟨hk,hh⟩;have:=ih e2;simp only[Vm]at this ⊢;rw[Ve hne]; exact this
      . exact ih e2
    . omega
def cTC (g:Gm):TC:=⟨Qh g.ns.length (wtF g),fsL g g.ns.length⟩
theorem Qmt {g:Gm} (hW:Wg g):(cTC g).Ok g where
 m:=λi hi hk=>by
  obtain⟨a1,a2,a3,a4⟩:=QeE hW hi hk;have hx:g.ns[i]? = some g.ns[i]:=Vb hi;simp only[cTC];rw[Qdg hi];simp only[wtF,hx,Qby];have:=Qex a4 (by omega) g.ns[i].ws.length (Vc _);omega
 f:=λi hi=>by
  obtain⟨t,ht,_,h2,h3,h4⟩:=fn_of hW hi;have:=QkQ hi ht h2 h3 h4 g.ns.length (Vc _) (by omega);simp only[cTC];rw[this]; omega
def pGb (H:Ws) (g:Gm):Nat:=H.length+2+2*g.is.length
theorem QvG (f:Nat->Int) (i:Nat) (x y:Int):put (put f i x) i y=put f i y:=by funext k; unfold put; split<;>rfl
theorem Qs6 (f:Nat->Int) (i:Nat):put f i (f i)=f:=by funext k; unfold put; split; rename_i e; rw[e]; rfl
theorem QsY (g:Gm) (i:Nat):put (wtM g (i+1)) i (wtF g i)=wtM g i:=by
 funext k;unfold put wtM;by_cases e:k=i
 . subst e; simp
 . rw[Wa e];by_cases h:i<=k
   . rw[Wb h,Wb (by omega)]
   . rw[Wa h,Wa (by omega)]
section
variable {g:Gm} {H G:Ws} {c:TC} {s:TS}
theorem Qox (h:TW g H c s G) (hb:G[pGb H g]? = some (Qk g)) {p:Nat} (hp:p≠pGb H g) (o:AO):(G.set p o)[pGb H g]? = some (Qk g):=by rw[Ve hp]; exact hb
set_option maxRecDepth 10000 in
theorem QsZ (hW:Wg g) {i:Nat} (hi:i<g.ns.length) {f:Nat->Int} {F:List Int} {N:Nat} {K:Wr}
 (hexit:∀ env G,env.get 2=.ptr (.own (pGb H g) 0 0 0 0) 0->env.get 6=.ptr (.own (pW H g) 0 0 0 0) 0->env.get 7=i64 i->TW g H ⟨Qh g.ns.length (put f i (Qby g.ns[i].ws)),F⟩ s G->G[pGb H g]? = some (Qk g)->K (.exit 2) env G) :
 ∀ (m k:Nat) (env:Env) (G:Ws),k+m=g.ns[i].ws.length->TW g H ⟨Qh g.ns.length (put f i (wsK g.ns[i].ws k)),F⟩ s G->G[pGb H g]? = some (Qk g) ->
  env.get 2=.ptr (.own (pGb H g) 0 0 0 0) 0->env.get 6=.ptr (.own (pW H g) 0 0 0 0) 0->env.get 7=i64 i->env.get 51=.slc (Qa g.ns[i].ws) g.ns[i].ws.length->env.get 52=i64 g.ns[i].ws.length->env.get 53=i64 k->g.ns[i].ws.length<=60 ->
  LI Tryz.prog N Qb QiF env G K:=by
 intro m
 induction m with
 |zero =>
  intro k env G hk h hb h2 h6 h7 h51 h52 h53 hl;refine Qc hm QiF.eq_1 ?_;have e:k=g.ns[i].ws.length:=by omega
  subst e;simp -implicitDefEqProofs[h52,h53];exact hexit _ _ (by simp[h2]) (by simp[h6]) (by simp[h7]) h hb
 |succ m ih =>
  intro k env G hk h hb h2 h6 h7 h51 h52 h53 hl;refine Qc hm QiF.eq_1 ?_;have hkl:k<g.ns[i].ws.length:=by omega
  have hw:=h.cw0;have hM:=oc0 h.m;have hst:=QS h.m;have w1:=QO (show k<9223372036854775807 by omega);have eK:wsK g.ns[i].ws (k+1)=IntKind.i64.wrap (wsK g.ns[i].ws k+g.ns[i].ws[k]):=by simp[wsK,hkl]
  have h5:=h.setM (X:=Qh g.ns.length (put f i (wsK g.ns[i].ws (k+1)))) (by simp);have hb5:=Qox h hb (p:=pM H g) (by unfold pM pGb; omega) ⟨Qa (Qh g.ns.length (put f i (wsK g.ns[i].ws (k+1)))),3,1,true⟩;have ea:(put f i (wsK g.ns[i].ws k)) i=wsK g.ns[i].ws k:=by simp[put]
  have e4:(Qa (Qh g.ns.length (put f i (wsK g.ns[i].ws k))))[i]?.getD .any=i64 (wsK g.ns[i].ws k):=by rw[QdA (by simpa using hi),Qdg hi,ea]
  have e3:∀ y:Int,List.take i (Qa (Qh g.ns.length (put f i (wsK g.ns[i].ws k))))++i64 y::List.drop (i+1) (Qa (Qh g.ns.length (put f i (wsK g.ns[i].ws k))))=Qa (Qh g.ns.length (put f i y)):=λy=>by rw[Qa7 (by simpa using hi),Qd4,QvG]
  have e5:(Qh g.ns.length (put f i (wsK g.ns[i].ws k)))[i]'(by simpa using hi)=wsK g.ns[i].ws k:=by rw[Qc2 hi,ea]
  rw[eK]at h5 hb5;simp -implicitDefEqProofs[h2,h6,h7,h51,h52,h53,hkl,hw,Qw,hM,hi,hst,e3,e4,e5];repeat (refine⟨by omega,?_⟩)
  refine ih (k+1) _ _ (by omega) (by rw[eK]; exact h5) hb5 ?_ ?_ ?_ ?_ ?_ ?_ hl
  . simp[h2]
  . simp
  . simp
  . simp
  . simp
  . simp[w1]
set_option maxRecDepth 10000 in
theorem Quf (hW:Wg g) {N:Nat} {K:Wr}
 (hexit:∀ env G,env.get 6=.ptr (.own (pW H g) 0 0 0 0) 0->TW g H (cTC g) s G->K (.exit 0) env G) :
 ∀ (m:Nat) (env:Env) (G:Ws),m<=g.ns.length->TW g H ⟨Qh g.ns.length (wtM g m),fsL g (g.ns.length-m)⟩ s G->G[pGb H g]? = some (Qk g) ->
  env.get 2=.ptr (.own (pGb H g) 0 0 0 0) 0->env.get 6=.ptr (.own (pW H g) 0 0 0 0) 0->env.get 7=i64 ((m:Int)-1) ->
  LI Tryz.prog N Qb Qg3 env G K:=by
 have hn:=hW.gd.n;intro m
 induction m with
 |zero =>
  intro env G hm' h hb h2 h6 h7;refine Qc hm Qg3.eq_1 ?_;have e:((0:Nat):Int)-1 = -1:=by omega
  rw[e]at h7;simp -implicitDefEqProofs[h7];refine hexit _ _ (by simp[h6]) ?_;have e2:wtM g 0=wtF g:=by funext k; simp[wtM]
  rw[e2,Nat.sub_zero]at h;exact h
 |succ i ih =>
  intro env G hm' h hb h2 h6 h7;refine Qc hm Qg3.eq_1 ?_;have hi:i<g.ns.length:=by omega
  have hx:g.ns[i]? = some g.ns[i]:=Vb hi;have e:((i+1:Nat):Int)-1=(i:Int):=by omega
  rw[e]at h7;have hgb:Qe G (pGb H g) 0=[i64 g.pl,.slc (nds g.ns) g.ns.length,.slc (Qx g.is) g.is.length]:=oc0 (T:=26) hb;have hws:g.ns[i].ws.length<=60:=by
   rcases Qep hW hi with hk|hk|hk
   . have:=QeE hW hi hk; omega
   . have h3:=hW.gd.e _ (Vf hi);unfold Nd.err Nd.move at h3;rw[Wa (by omega),Wa (by omega),Wb hk]at h3;split at h3
     . omega
     . omega
   . have h3:=hW.gd.e _ (Vf hi);unfold Nd.err Nd.end at h3;rw[Wa (by omega),Wa (by omega),Wa (by omega)]at h3;split at h3
     . omega
     . omega
  have h0:TW g H ⟨Qh g.ns.length (put (wtM g (i+1)) i (wsK g.ns[i].ws 0)),fsL g (g.ns.length-(i+1))⟩ s G:=by
   have e0:put (wtM g (i+1)) i (wsK g.ns[i].ws 0)=wtM g (i+1):=by
    have:wsK g.ns[i].ws 0=wtM g (i+1) i:=by simp only[wsK,wtM]; rw[Wa (by omega)]
    rw[this,Qs6]
   rw[e0]; exact h
  have w1:IntKind.i64.wrap ((i:Int)-1)=(i:Int)-1:=Qj (by omega) (by omega);simp -implicitDefEqProofs[h2,h6,h7,hgb,hi,nd4 hi,QaF];repeat (refine⟨by omega,?_⟩)
  refine QsZ (H:=H) (s:=s) hW hi (λenv G1 g2 g6 g7 h1 hb1 => ?_) g.ns[i].ws.length 0 _ _ (by omega) h0 hb (by simp[h2]) (by simp[h6]) (by simp[h7]) (by simp) (by simp) (by simp) hws;have eW:put (wtM g (i+1)) i (Qby g.ns[i].ws)=wtM g i:=by
   have:Qby g.ns[i].ws=wtF g i:=by simp only[wtF,hx]
   rw[this,QsY]
  rw[eW]at h1;have hgb1:Qe G1 (pGb H g) 0=[i64 g.pl,.slc (nds g.ns) g.ns.length,.slc (Qx g.is) g.is.length]:=oc0 (T:=26) hb1;have hw1:=h1.cw0;have efs:g.ns.length-i=(g.ns.length-(i+1))+1:=by omega
  have efi:g.ns.length-1-(g.ns.length-(i+1))=i:=by omega
  have hx2:g.ns[g.ns.length-1-(g.ns.length-(i+1))]? = some g.ns[i]:=by rw[efi]; exact hx
  by_cases hk:g.ns[i].k=2
  . obtain⟨a1,a2,a3,a4,a5⟩:=QcK hW hi hk;have eF:fsL g (g.ns.length-i)=(fsL g (g.ns.length-(i+1))).set g.ns[i].i.toNat (i:Int):=by
     rw[efs]; simp only[fsL,hx2]; rw[Wb hk,efi]
    have hF:=oc0 h1.f;have hst:=QS h1.f;have h5:=h1.setF (X:=fsL g (g.ns.length-i)) (by simp);have hb5:=Qox h1 hb1 (p:=pF H g) (by unfold pF pGb; omega) ⟨Qa (fsL g (g.ns.length-i)),3,1,true⟩;have e3:List.take g.ns[i].i.toNat (Qa (fsL g (g.ns.length-(i+1))))++i64 (i:Int)::List.drop (g.ns[i].i.toNat+1) (Qa (fsL g (g.ns.length-(i+1))))=Qa (fsL g (g.ns.length-i)):=by rw[Qa7 (by rw[QgH]; exact a1),eF]
    simp -implicitDefEqProofs[g2,g6,g7,hgb1,hw1,Qw,hi,nd0 hi,nd2 hi,QaF,hk,hF,hst,e3,a1];repeat (refine⟨by omega,?_⟩)
    refine ih _ _ (by omega) h5 hb5 ?_ ?_ ?_
    . simp[g2]
    . simp[g6]
    . simp[w1]
  . have eF:fsL g (g.ns.length-i)=fsL g (g.ns.length-(i+1)):=by
     rw[efs]; simp only[fsL,hx2,Wa hk]
    simp -implicitDefEqProofs[g2,g6,g7,hgb1,hw1,Qw,hi,nd0 hi,QaF,hk];repeat (refine⟨by omega,?_⟩)
    refine ih _ _ (by omega) (by rw[eF]; exact h1) hb1 ?_ ?_ ?_
    . simp[g2]
    . simp[g6]
    . simp[w1]
end
theorem QhR (g:Gm):∀ (k i:Nat),i<k->(QaG g k)[2*i+1]? = some (Qaj 0 (Qu (g.acts i)))
 |0,i,h=>by omega
 |k+1,i,h=>by
  have hl:=Qeu g k;by_cases e:i=k
  . subst e;simp only[QaG];rw[Vg (by omega),hl,show 2*i+1-2*i=1 by omega];rfl
  . simp only[QaG];rw[Vd (by omega)];exact QhR g k i (by omega)
theorem Quz (n:Nat):(List.replicate n [i64 0,i64 0,i64 0,i64 0]).flatten=Qa (Qu (4*n)):=by
 have h:[i64 0,i64 0,i64 0,i64 0]=List.replicate 4 (i64 0):=rfl;rw[h,List.flatten_replicate_replicate];simp[Qa,Qu,VF]
def s0T (g:Gm) (rnd seed:Int) (LA LP:List (List Int)):TS:=⟨rnd,seed,λi=>LA.getD i [],λi=>LP.getD i [],λi=>Qu (g.acts i),Qu (4*g.ns.length),Qu (4*g.ns.length),Qu (4*g.ns.length),Qu 10⟩
def c0T (g:Gm):TC:=⟨Qu g.ns.length,Qu g.is.length⟩
def Qa8 (H:Ws) (LA LP:List (List Int)):Ws :=
 (H++(⟨QH LA.length (λi=>H.length+1+i) (Qac LA) 1,45,0,true⟩::LA.map (Qaj 1)))++(⟨QH LP.length (λi=>H.length+1+LA.length+1+i) (Qac LP) 1,45,0,true⟩::LP.map (Qaj 1))
def QbF (g:Gm) (H:Ws) (rnd seed:Int) (LA LP:List (List Int)):Ws :=
 Qa8 H LA LP++([Qk g,⟨[i64 rnd,i64 seed,.own H.length 0 g.is.length 1 0,.own (H.length+1+g.is.length) 0 g.is.length 1 0],30,0,true⟩,⟨Qa (Qu g.ns.length),3,1,true⟩,⟨Qa (Qu g.is.length),3,1,true⟩,
  Qk g,⟨QH g.is.length (pS H g) g.acts 0,45,0,true⟩]++(QaG g g.is.length++[QbQ g H (s0T g rnd seed LA LP),⟨Qa (Qu (4*g.ns.length)),105,1,true⟩,⟨Qa (Qu (4*g.ns.length)),105,1,true⟩,⟨Qa (Qu (4*g.ns.length)),105,1,true⟩]))
section
variable {g:Gm} {H:Ws} {rnd seed:Int} {LA LP:List (List Int)}
theorem QuB (hA:LA.length=g.is.length) (hP:LP.length=g.is.length):(QbF g H rnd seed LA LP)[pGb H g]? = some (Qk g):=by
 have hB:(Qa8 H LA LP).length=H.length+2+2*g.is.length:=by simp[Qa8]; omega
 unfold QbF;rw[Vg (by unfold pGb; omega),hB,show pGb H g-(H.length+2+2*g.is.length)=0 by unfold pGb; omega];rfl
set_option maxRecDepth 10000 in
theorem TW.init (hcl:closed H) (hA:LA.length=g.is.length) (hP:LP.length=g.is.length) (hlA:∀ i,i<g.is.length->Qac LA i=g.acts i) (hlP:∀ i,i<g.is.length->Qac LP i=g.acts i) :
 TW g H (c0T g) (s0T g rnd seed LA LP) (QbF g H rnd seed LA LP):=by
 have hB:(Qa8 H LA LP).length=H.length+2+2*g.is.length:=by simp[Qa8]; omega
 have hbl:=Qeu g g.is.length;have up:∀ k:Nat,(QbF g H rnd seed LA LP)[H.length+2+2*g.is.length+k]? = ([Qk g,⟨[i64 rnd,i64 seed,.own H.length 0 g.is.length 1 0,.own (H.length+1+g.is.length) 0 g.is.length 1 0],30,0,true⟩,⟨Qa (Qu g.ns.length),3,1,true⟩,⟨Qa (Qu g.is.length),3,1,true⟩,
  Qk g,⟨QH g.is.length (pS H g) g.acts 0,45,0,true⟩]++(QaG g g.is.length++[QbQ g H (s0T g rnd seed LA LP),⟨Qa (Qu (4*g.ns.length)),105,1,true⟩,⟨Qa (Qu (4*g.ns.length)),105,1,true⟩,⟨Qa (Qu (4*g.ns.length)),105,1,true⟩]))[k]? := λk=>by
  unfold QbF;rw[Vg (by omega),hB];congr 1; omega
 have up6:∀ k:Nat,(QbF g H rnd seed LA LP)[H.length+8+2*g.is.length+k]? = (QaG g g.is.length++[QbQ g H (s0T g rnd seed LA LP),⟨Qa (Qu (4*g.ns.length)),105,1,true⟩,⟨Qa (Qu (4*g.ns.length)),105,1,true⟩,⟨Qa (Qu (4*g.ns.length)),105,1,true⟩])[k]? := λk=>by
  rw[show H.length+8+2*g.is.length+k=H.length+2+2*g.is.length+(6+k)by omega,up,Vg (by simp)];congr 1; simp
 have upE:∀ k:Nat,(QbF g H rnd seed LA LP)[H.length+8+4*g.is.length+k]? = [QbQ g H (s0T g rnd seed LA LP),⟨Qa (Qu (4*g.ns.length)),105,1,true⟩,⟨Qa (Qu (4*g.ns.length)),105,1,true⟩,⟨Qa (Qu (4*g.ns.length)),105,1,true⟩][k]? := λk=>by
  rw[show H.length+8+4*g.is.length+k=H.length+8+2*g.is.length+(2*g.is.length+k)by omega,up6,Vg (by omega),hbl];congr 1; omega
 have dn:∀ k:Nat,k<(Qa8 H LA LP).length->(QbF g H rnd seed LA LP)[k]? = (Qa8 H LA LP)[k]? := λk hk=>by
  unfold QbF;rw[Vd hk]
 have b1:∀ k:Nat,k<H.length+1+g.is.length->(Qa8 H LA LP)[k]? = (H++(⟨QH LA.length (λi=>H.length+1+i) (Qac LA) 1,45,0,true⟩::LA.map (Qaj 1)))[k]? := λk hk=>by
  unfold Qa8;rw[Vd (by simp; omega)]
 have b2:∀ k:Nat,(Qa8 H LA LP)[H.length+1+g.is.length+k]? = ((⟨QH LP.length (λi=>H.length+1+LA.length+1+i) (Qac LP) 1,45,0,true⟩::LP.map (Qaj 1)):Ws)[k]? := λk=>by
  unfold Qa8;rw[Vg (by simp; omega)];congr 1; simp; omega
 have outs_c:∀ {I J:Nat} {p q n m:Nat->Nat},I=J->(∀ i,i<J->p i=q i)->(∀ i,i<J->n i=m i)->QH I p n 1=QH J q m 1:=λ{I J p q n m} hI hp hn=>by
  subst hI;unfold QH;apply VA;intro j hj;simp only[VJ]at hj;rw[hp j hj,hn j hj]
 have hgd:∀ (L:List (List Int)) (i:Nat),(s0T g rnd seed LA LP).A=(λi=>LA.getD i []):=λ_ _=>rfl;constructor;case l =>
  refine⟨λi hi => ?_,λi hi => ?_,λi hi=>by simp[s0T],by simp[s0T],by simp[s0T],by simp[s0T],by simp[s0T],by simp[c0T],by simp[c0T]⟩
  . have:=hlA i hi; simpa[s0T,Qac]using this
  . have:=hlP i hi; simpa[s0T,Qac]using this
 case len=>simp[QbF,hB,hbl,pE]; omega
 case low =>
  intro i hi;rw[dn i (by omega),b1 i (by omega),Vd hi]
 case m=>rw[show pM H g=H.length+2+2*g.is.length+2 by unfold pM; omega,up]; rfl
 case f=>rw[show pF H g=H.length+2+2*g.is.length+3 by unfold pF; omega,up]; rfl
 case so=>rw[show pSo H g=H.length+2+2*g.is.length+5 by unfold pSo; omega,up]; rfl
 case ss=>intro i hi; rw[show pS H g i=H.length+8+2*g.is.length+(2*i+1)by unfold pS; omega,up6,Vd (by omega),QhR g _ i hi]; rfl
 case w=>rw[show pW H g=H.length+8+4*g.is.length+0 by unfold pW; omega,upE]; rfl
 case v=>rw[show pV H g=H.length+8+4*g.is.length+1 by unfold pV; omega,upE]; rfl
 case r=>rw[show pR H g=H.length+8+4*g.is.length+2 by unfold pR; omega,upE]; rfl
 case o=>rw[show pO H g=H.length+8+4*g.is.length+3 by unfold pO; omega,upE]; rfl
 case ao =>
  unfold pAo;rw[dn _ (by omega),b1 _ (by omega),Vg (by omega)];simp only[Ze,Yp];have:=outs_c (q:=pA H g) (m:=g.acts) hA (λi _=>by unfold pA; omega) hlA (p:=λi=>H.length+1+i);rw[this]
 case a =>
  intro i hi;rw[show pA H g i=H.length+(i+1)by unfold pA; omega,dn _ (by omega),b1 _ (by omega),Vg (by omega),show H.length+(i+1)-H.length=i+1 by omega];simp[s0T,Qaj,hA,hi]
 case po =>
  rw[show pPo H g=H.length+1+g.is.length+0 by unfold pPo; omega,dn _ (by omega),b2];simp only[Yp];have:=outs_c (q:=pP H g) (m:=g.acts) hP (λi _=>by unfold pP; omega) hlP (p:=λi=>H.length+1+LA.length+1+i);rw[this]
 case p =>
  intro i hi;rw[show pP H g i=H.length+1+g.is.length+(i+1)by unfold pP; omega,dn _ (by omega),b2];simp[s0T,Qaj,hP,hi]
 case cl =>
  have hlen:(QbF g H rnd seed LA LP).length=pE H g:=by simp[QbF,hB,hbl,pE]; omega
  have hou:∀ (I:Nat) (p n:Nat->Nat) (v:Nat),(∀ i,i<I->p i<pE H g)->∀ x∈QH I p n v,x.under (pE H g)=true:=λI p n v hp x hx=>by
   simp only[QH,Vl,VJ]at hx;obtain⟨i,hi,rfl⟩:=hx;simpa using hp i hi
  have hin:∀ (l:List Int),∀ x∈Qa l,x.under (pE H g)=true:=λl x hx=>by
   simp only[Qa,Vl]at hx;obtain⟨n,_,rfl⟩:=hx;rfl
  have hbk:∀ (k:Nat),∀ o∈QaG g k,∀ x∈o.cells,x.under (pE H g)=true:=λk=>by
   induction k with
   |zero=>intro o ho; simp[QaG]at ho
   |succ k ih =>
    intro o ho x hx;simp only[QaG,Vj,Vi,VP,Wi]at ho;rcases ho with ho|rfl|rfl
    . exact ih o ho x hx
    . simp at hx; rcases hx with rfl|rfl<;>rfl
    . exact hin _ x hx
  have hgb:∀ x∈(Qk g).cells,x.under (pE H g)=true:=λx hx=>by
   simp only[Qk,Vi,VP,Wi]at hx;rcases hx with rfl|rfl|rfl
   . rfl
   . simp[QaP]
   . simp[QaS]
  have hwb:∀ x∈(QbQ g H (s0T g rnd seed LA LP)).cells,x.under (pE H g)=true:=by
   rw[<-SV.underL_iff];simp only[QbQ,oI,SV.underL_append,Qw,Va];unfold pM pF pAo pPo pSo pV pR pO pE;refine⟨?_,by simp⟩;simp[QaP,QaS];omega
  intro i o ho x hx;rw[hlen];have hm:o∈QbF g H rnd seed LA LP:=Vp ho;unfold QbF Qa8 at hm;simp only[Vj,Vi,VP,Wi,Vl]at hm;rcases hm with ((hm|rfl|⟨l,_,rfl⟩)|rfl|⟨l,_,rfl⟩)|(rfl|rfl|rfl|rfl|rfl|rfl)|hm|rfl|rfl|rfl|rfl
  . obtain⟨j,hj⟩:=Vk hm;exact SV.under_mono (by unfold pE; omega) x (hcl j o hj x hx)
  . exact hou _ _ _ _ (λi hi=>by unfold pE; omega) x hx
  . exact hin _ x hx
  . exact hou _ _ _ _ (λi hi=>by unfold pE; omega) x hx
  . exact hin _ x hx
  . exact hgb x hx
  . simp only[Vi,VP,Wi]at hx;rcases hx with rfl|rfl|rfl|rfl
    . rfl
    . rfl
    . show decide (_<_)=true;rw[Wp]; unfold pE; omega
    . show decide (_<_)=true;rw[Wp]; unfold pE; omega
  . exact hin _ x hx
  . exact hin _ x hx
  . exact hgb x hx
  . exact hou _ _ _ _ (λi hi=>by unfold pS pE; omega) x hx
  . exact hbk _ o hm x hx
  . exact hwb x hx
  . exact hin _ x hx
  . exact hin _ x hx
  . exact hin _ x hx
end
section
variable {H:Ws} {g:Gm} {rnd seed:Int} {LA LP:List (List Int)}
set_option maxRecDepth 10000 in
theorem ok33 (hW:Wg g) (hcl0:closed H) (hA:LA.length=g.is.length) (hP:LP.length=g.is.length) (hlA:∀ i,i<g.is.length->Qac LA i=g.acts i) (hlP:∀ i,i<g.is.length->Qac LP i=g.acts i) :
 OkP Tryz.prog 33 [.agg g.cells,.agg [i64 rnd,i64 seed,.own H.length 0 g.is.length 1 0,.own (H.length+1+g.is.length) 0 g.is.length 1 0]] (Qa8 H LA LP) λout G' =>
  out=.ret (.ptr (.own (pW H g) 0 0 0 0) 0)/\TW g H (cTC g) (s0T g rnd seed LA LP) G':=by
 have hn:=hW.gd.n;have hil:=hW.gd.i;have hB:(Qa8 H LA LP).length=H.length+2+2*g.is.length:=by simp[Qa8]; omega
 have hti:=TW.init (rnd:=rnd) (seed:=seed) hcl0 hA hP hlA hlP;have htb:=QuB (rnd:=rnd) (seed:=seed) (H:=H) hA hP;have hin:QbF g H rnd seed LA LP=Qa8 H LA LP++([Qk g,⟨[i64 rnd,i64 seed,.own H.length 0 g.is.length 1 0,.own (H.length+1+g.is.length) 0 g.is.length 1 0],30,0,true⟩,⟨Qa (Qu g.ns.length),3,1,true⟩,⟨Qa (Qu g.is.length),3,1,true⟩,
  Qk g,⟨QH g.is.length (pS H g) g.acts 0,45,0,true⟩]++(QaG g g.is.length++[QbQ g H (s0T g rnd seed LA LP),⟨Qa (Qu (4*g.ns.length)),105,1,true⟩,⟨Qa (Qu (4*g.ns.length)),105,1,true⟩,⟨Qa (Qu (4*g.ns.length)),105,1,true⟩])):=rfl
 generalize Qa8 H LA LP=B at *;refine QaY hm Tryz.func33 c33 (by simp[Gm.cells,QaP,QaS]; try omega) λhcl => ?_
 have h37:=λH'=>Qk7 (H:=H') hW;simp only[Gm.cells]at h37;simp -implicitDefEqProofs[i33,r33,Gm.cells];repeat (refine⟨by omega,?_⟩)
 refine Qug (L:=Qk g::⟨QH g.is.length (pB (B.length+4)) g.acts 0,45,0,true⟩::QaG g g.is.length) (r:=.own (B.length+4+1) 0 g.is.length 1 0) (λH' hl => ?_) ?_
 . have:=h37 H';simp at hl;rw[hl]at this;exact this
 have hbl:=Qeu g g.is.length;generalize QaG g g.is.length=M at *;simp -implicitDefEqProofs[Qk];refine⟨rfl,by omega,by omega,by omega,by omega,by omega,by omega,?_⟩;have w1:IntKind.i64.wrap ((g.ns.length:Int)-1)=(g.ns.length:Int)-1:=Qj (by omega) (by omega);have p6:B.length+(M.length+6)=pW H g:=by unfold pW; omega
 have p7:B.length+(M.length+7)=pV H g:=by unfold pV; omega
 have p8:B.length+(M.length+8)=pR H g:=by unfold pR; omega
 have p9:B.length+(M.length+9)=pO H g:=by unfold pO; omega
 have p2:B.length+2=pM H g:=by unfold pM; omega
 have p3:B.length+3=pF H g:=by unfold pF; omega
 have p5:B.length+5=pSo H g:=by unfold pSo; omega
 have p0:B.length=pGb H g:=by unfold pGb; omega
 have ps:pB (B.length+4)=pS H g:=by funext i; unfold pB pS; omega
 refine LI.cong (H':=QbF g H rnd seed LA LP) ?_ ?_
 . rw[hin,p7,p8,p9,p2,p3,p5,ps];simp[QbQ,oI,Qw,s0T,Qk,Quz,Qa,Qu,pAo,pPo]
 . rw[p6,p0];refine Quf (s:=s0T g rnd seed LA LP) hW (λenv G g6 h => ?_) g.ns.length _ _ (Vc _) ?_ htb (by simp) (by simp) (by simp[w1])
   . simp -implicitDefEqProofs[g6];exact⟨_,_,⟨rfl,h⟩,Qn⟩
   . have e1:Qh g.ns.length (wtM g g.ns.length)=Qu g.ns.length:=by
      apply Vz;intro i;by_cases hi:i<g.ns.length
      . simp[Qh,Qu,wtM,hi]; omega
      . rw[Vq (by simp; omega),Vq (by simp; omega)]
     rw[e1,Ze];exact hti
end
def QaH (f:Nat->Int):Nat->Nat->Int
 |0,_=>0
 |m+1,i=>if f i≠0 then f i else QaH f m (i+1)
theorem QiD {f:Nat->Int}:∀ (m i:Nat),QaH f m i=0↔∀ j,i<=j->j<i+m->f j=0
 |0,i=>by simp only[QaH,true_iff]; intro j h1 h2; omega
 |m+1,i=>by
  simp only[QaH];by_cases h:f i=0
  . rw[Wa (by simpa using h),QiD m (i+1)];constructor
    . intro hh j h1 h2;by_cases e:j=i
      . subst e; exact h
      . exact hh j (by omega) (by omega)
    . intro hh j h1 h2; exact hh j (by omega) (by omega)
  . rw[Wb h];constructor
    . intro e; exact absurd e h
    . intro hh; exact hh i (Vc _) (by omega)
def Qcv (g:Gm) (p:Nat):Int:=if g.perf p=true then 0 else 13
def Gm.prpE (g:Gm):Int:=if g.formE≠0 then g.formE else QaH (Qcv g) g.pl.toNat 0
section
variable {g:Gm} {H:Ws}
theorem Qt8 (hf:g.formE=0) {p:Nat} (hp:(p:Int)<g.pl):g.perfV p=g.perf p/\g.perfE p=0:=by
 have h1:g.perfE p=0:=by
  unfold Gm.perfE;rw[Wa (by simpa using hf),Wa (by omega)]
 exact⟨by unfold Gm.perfV; rw[Wb h1],h1⟩
theorem Qs7 (hf:g.formE=0) {B:Ws} (hB:Qe B H.length 0=g.cells) {N:Nat} {K:Wr}
 (hret:∀ e env,QaH (Qcv g) g.pl.toNat 0=e->e≠0->env.get 2=i64 e->K .ret env B) (hexit:QaH (Qcv g) g.pl.toNat 0=0->∀ env,K (.exit 0) env B) :
 ∀ (m p:Nat) (env:Env),((p+m:Nat):Int)=g.pl->QaH (Qcv g) m p=QaH (Qcv g) g.pl.toNat 0->env.get 1=.ptr (.own H.length 0 0 0 0) 0->env.get 13=i64 g.pl->env.get 14=i64 p->LI Tryz.prog N Qb Qg5 env B K:=by
 have hW:=Qf7 hf;have hp4:=hW.gd.p4;intro m
 induction m with
 |zero =>
  intro p env hp hE h1 h13 h14;refine Qc hm Qg5.eq_1 ?_;simp -implicitDefEqProofs[h13,h14,show ¬ (p:Int)<g.pl by omega];exact hexit hE.symm _
 |succ m ih =>
  intro p env hp hE h1 h13 h14;refine Qc hm Qg5.eq_1 ?_;have hpp:(p:Int)<g.pl:=by omega
  obtain⟨q1,q2⟩:=Qt8 hf hpp;have h63:=λH=>ok52 (H:=H) (g:=g) p;rw[q1,q2]at h63;simp only[Gm.cells]at h63 hB;have w1:=QO (show p<9223372036854775807 by omega);simp -implicitDefEqProofs[h1,h13,h14,hpp,hB];refine Qf (h63 _) ?_;by_cases hq:g.perf p=true
  . have hE2:QaH (Qcv g) m (p+1)=QaH (Qcv g) g.pl.toNat 0:=by rw[<-hE]; simp[QaH,Qcv,hq]
    simp -implicitDefEqProofs[hq,h1,h13,h14];refine ih (p+1) _ (by omega) hE2 ?_ ?_ ?_
    . simp
    . simp
    . simp[w1]
  . have hE2:QaH (Qcv g) g.pl.toNat 0=13:=by rw[<-hE]; simp[QaH,Qcv,hq]
    have hq':g.perf p=false:=by simpa using hq
    simp -implicitDefEqProofs[hq'];exact hret 13 _ hE2 (by decide) (by simp)
theorem ok29:Ok Tryz.prog 29 [.agg g.cells] H (.ret (i64 g.prpE)) H:=by
 refine Ql hm Tryz.func29 c29 (by simp[Gm.cells,QaP,QaS]) λhcl => ?_;have h62:=λH=>ok51 (H:=H) (g:=g);simp only[Gm.cells]at h62;simp -implicitDefEqProofs[i29,r29,Gm.cells];refine Qf (h62 _) ?_;by_cases hf:g.formE=0
 . have e:g.prpE=QaH (Qcv g) g.pl.toNat 0:=by unfold Gm.prpE; rw[Wa (by simpa using hf)]
   have hp:=(Qf7 hf).gd.p1;simp -implicitDefEqProofs[hf];rw[e];refine Qs7 (H:=H) hf (by simp[Gm.cells]) (λe env he hne h2 => ?_) (λhe env => ?_) g.pl.toNat 0 _ (by omega) rfl (by simp) (by simp) (by simp)
   . simp -implicitDefEqProofs[h2];rw[he];exact Qg 1 hcl rfl (by simp)
   . simp -implicitDefEqProofs;rw[he];exact Qg 1 hcl rfl (by simp)
 . have e:g.prpE=g.formE:=by unfold Gm.prpE; rw[Wb hf]
   simp -implicitDefEqProofs[hf,e];exact Qg 1 hcl rfl (by simp)
end
def QcF (g:Gm) (L:List (List Int)) (least:Int) (i:Nat):Int :=
 if((Qac L i:Nat):Int)≠(g.is.getD i (0,0)).2 then 3 else if(L.getD i []).any (λx=>decide (x<least)||decide (70368744177664<x))=true then 2 else 0
def Qbk (g:Gm) (L:List (List Int)) (least:Int):Int:=if L.length≠g.is.length then 3 else QaH (QcF g L least) g.is.length 0
section
variable {g:Gm} {H B:Ws} {L:List (List Int)} {least:Int}
set_option maxRecDepth 10000 in
theorem QqE {l:List Int} (hl:l.length<=10) {x17 x18 x19:SV} {N:Nat} {K:Wr}
 (hret:l.any (λx=>decide (x<least)||decide (70368744177664<x))=true->∀ env,env.get 6=i64 2->K .ret env B)
 (hexit:l.any (λx=>decide (x<least)||decide (70368744177664<x))=false->∀ env,env.get 2=i64 least->env.get 3=.ptr (.own H.length 0 0 0 0) 0->env.get 17=x17->env.get 18=x18->env.get 19=x19->K (.exit 2) env B) :
 ∀ (m i:Nat) (env:Env),i+m=l.length->(∀ j (h:j<l.length),j<i->¬ (l[j]<least\/70368744177664<l[j]))->env.get 2=i64 least->env.get 3=.ptr (.own H.length 0 0 0 0) 0->env.get 17=x17->env.get 18=x18->env.get 19=x19 ->
  env.get 33=sl l->env.get 34=i64 l.length->env.get 35=i64 i->LI Tryz.prog N Qb QhI env B K:=by
 intro m
 induction m with
 |zero =>
  intro i env hi hp h2 h3 h17 h18 h19 h33 h34 h35;refine Qc hm QhI.eq_1 ?_;have e:i=l.length:=by omega
  subst e;simp -implicitDefEqProofs[h34,h35];refine hexit ?_ _ (by simp[h2]) (by simp[h3]) (by simp[h17]) (by simp[h18]) (by simp[h19]);rw[List.any_eq_false];intro x hx;obtain⟨k,hk,rfl⟩:=VG hx;simpa using hp k hk hk
 |succ m ih =>
  intro i env hi hp h2 h3 h17 h18 h19 h33 h34 h35;refine Qc hm QhI.eq_1 ?_;have hil:i<l.length:=by omega
  have w1:=QO (show i<9223372036854775807 by omega);have bad:(l[i]<least\/70368744177664<l[i])->l.any (λx=>decide (x<least)||decide (70368744177664<x))=true:=λhb=>by
   rw[Yh];exact⟨l[i],Vf hil,by simpa using hb⟩
  by_cases c1:l[i]<least
  . simp -implicitDefEqProofs[h2,h3,h17,h18,h19,h33,h34,h35,hil,sl,c1];exact⟨by omega,hret (bad (.inl c1)) _ (by simp)⟩
  . by_cases c2:70368744177664<l[i]
    . simp -implicitDefEqProofs[h2,h3,h17,h18,h19,h33,h34,h35,hil,sl,c1,c2];exact⟨by omega,hret (bad (.inr c2)) _ (by simp)⟩
    . simp -implicitDefEqProofs[h2,h3,h17,h18,h19,h33,h34,h35,hil,sl,c1,c2];refine⟨by omega,ih (i+1) _ (by omega) (λj hj hji => ?_) ?_ ?_ ?_ ?_ ?_ ?_ ?_ ?_⟩
      rotate_left
      . simp
      . simp[h3]
      . simp[h17]
      . simp[h18]
      . simp[h19]
      . simp[sl]
      . simp
      . simp[w1]
      by_cases e:j=i
      . subst e; exact λh=>h.elim c1 c2
      . exact hp j hj (by omega)
set_option maxRecDepth 10000 in
theorem Qtw (hW:Wg g) (hB:Qe B H.length 0=g.cells) (hLl:L.length=g.is.length) {N:Nat} {K:Wr}
 (hret:∀ e env,QaH (QcF g L least) g.is.length 0=e->env.get 6=i64 e->K .ret env B) (hexit:QaH (QcF g L least) g.is.length 0=0->∀ env,K (.exit 0) env B) :
 ∀ (m i:Nat) (env:Env),i+m=g.is.length->QaH (QcF g L least) m i=QaH (QcF g L least) g.is.length 0->env.get 2=i64 least->env.get 3=.ptr (.own H.length 0 0 0 0) 0->env.get 17=.slc (sls L) L.length->env.get 18=i64 L.length->env.get 19=i64 i ->
  LI Tryz.prog N Qb Qh5 env B K:=by
 have hil:=hW.gd.i;intro m
 induction m with
 |zero =>
  intro i env hi hE h2 h3 h17 h18 h19;refine Qc hm Qh5.eq_1 ?_;have e:i=L.length:=by omega
  subst e;simp -implicitDefEqProofs[h18,h19];exact hexit hE.symm _
 |succ m ih =>
  intro i env hi hE h2 h3 h17 h18 h19;refine Qc hm Qh5.eq_1 ?_;have hii:i<g.is.length:=by omega
  have hiL:i<L.length:=by omega
  have hgi:g.is.getD i (0,0)=g.is[i]:=by simp[hii]
  have hgL:L.getD i []=L[i]:=by simp[hiL]
  have hac:=Qa5 hW hii;have ha:(g.acts i:Int)=g.is[i].2:=by unfold Gm.acts at hac ⊢; rw[hgi]at hac ⊢; omega
  have w1:=QO (show i<9223372036854775807 by omega);have hig:Qbo hii=Qbo hii:=rfl;have i2:(Qx g.is)[i*2+1]?.getD .any=i64 g.is[i].2:=by
   rw[<-Vr,Qbo hii]; rfl
  have i3:(Qx g.is).length=2*g.is.length:=Qb8 _;simp only[Gm.cells]at hB;by_cases hl:(L[i].length:Int)=g.is[i].2
  . have hR:QcF g L least i=if L[i].any (λx=>decide (x<least)||decide (70368744177664<x))=true then 2 else 0:=by
     unfold QcF;rw[Qez hiL,hgi,Wa (by simpa using hl),hgL]
    simp -implicitDefEqProofs[h2,h3,h17,h18,h19,hiL,hii,QeS hiL,hB,i2,i3,hl,sl];repeat (refine⟨by omega,?_⟩)
    refine QqE (H:=H) (l:=L[i]) (least:=least) (by omega) (x17:=.slc (sls L) L.length) (x18:=i64 L.length) (x19:=i64 i) (λhb env g6 => ?_) (λhb env g2 g3 g17 g18 g19 => ?_) L[i].length 0 _ (by omega) (λj hj hj0=>by omega) (by simp[h2]) (by simp[h3]) (by simp[h17]) (by simp[h18]) (by simp[h19]) (by simp[sl]) (by simp[hl]) (by simp)
    . simp -implicitDefEqProofs;refine hret 2 _ ?_ g6;rw[<-hE]; simp[QaH,hR,hb]
    . simp -implicitDefEqProofs[g2,g3,g17,g18,g19];refine ih (i+1) _ (by omega) (by rw[<-hE]; simp[QaH,hR,hb]) ?_ ?_ ?_ ?_ ?_
      . simp[g2]
      . simp[g3]
      . simp[g17]
      . simp[g18]
      . simp[w1]
  . have hR:QcF g L least i=3:=by
     unfold QcF;rw[Qez hiL,hgi,Wb hl]
    simp -implicitDefEqProofs[h2,h3,h17,h18,h19,hiL,hii,QeS hiL,hB,i2,i3,hl,sl];repeat (refine⟨by omega,?_⟩)
    refine hret 3 _ ?_ (by simp);rw[<-hE]; simp[QaH,hR]
theorem ok39 (hW:Wg g):Ok Tryz.prog 39 [.agg g.cells,.slc (sls L) L.length,i64 least] H (.ret (i64 (Qbk g L least))) H:=by
 refine Ql hm Tryz.func39 c39 (by simp[Gm.cells,QaP,QaS,Qcm]) λhcl => ?_;simp -implicitDefEqProofs[i39,r39,Gm.cells];by_cases hl:L.length=g.is.length
 . have e:Qbk g L least=QaH (QcF g L least) g.is.length 0:=by unfold Qbk; rw[Wa (by simpa using hl)]
   rw[e];simp -implicitDefEqProofs[hl];refine Qtw (H:=H) (least:=least) (L:=L) hW (by simp[Gm.cells]) hl (λe env he h6 => ?_) (λhe env => ?_) g.is.length 0 _ (by omega) rfl (by simp) (by simp) (by simp[hl]) (by simp[hl]) (by simp)
   . simp -implicitDefEqProofs[h6];rw[he];exact Qg 1 hcl rfl (by simp)
   . simp -implicitDefEqProofs;rw[he];exact Qg 1 hcl rfl (by simp)
 . have e:Qbk g L least=3:=by unfold Qbk; rw[Wb hl]
   rw[e];have hl2:¬ (L.length:Int)=g.is.length:=by omega
   simp -implicitDefEqProofs[hl2,hl];exact Qg 1 hcl rfl (by simp)
end
structure Tin where
 rnd:Int
 seed:Int
 A:List (List Int)
 P:List (List Int)
def Tin.cells (t:Tin):Wt:=[i64 t.rnd,i64 t.seed,.slc (sls t.A) t.A.length,.slc (sls t.P) t.P.length]
def QcG (g:Gm) (t:Tin):Int:=if t.rnd<0\/1000000<t.rnd\/t.seed<0\/2147483646<t.seed then 2 else if Qbk g t.A (-70368744177664)≠0 then Qbk g t.A (-70368744177664)else Qbk g t.P 0
def Qak (g:Gm) (t:Tin):Int:=if g.prpE≠0 then g.prpE else QcG g t
theorem QkT {g:Gm} (h:g.prpE=0):Wg g:=by
 unfold Gm.prpE at h;by_cases hf:g.formE=0
 . exact Qf7 hf
 . rw[Wb hf]at h; exact absurd h hf
section
variable {g:Gm} {H:Ws} {t:Tin}
set_option maxRecDepth 10000 in
theorem Qjs:Ok Tryz.prog 14 [.agg g.cells,.agg t.cells] H (.ret (i64 (Qak g t))) H:=by
 refine Ql hm Tryz.func14 c14 (by simp[Gm.cells,QaP,QaS,Tin.cells,Qcm]) λhcl => ?_;have h36:=λH=>ok29 (H:=H) (g:=g);have h39:=λH L le hW=>ok39 (H:=H) (g:=g) (L:=L) (least:=le) hW;simp only[Gm.cells]at h36 h39;simp -implicitDefEqProofs[i14,r14,Gm.cells,Tin.cells];refine Qf (h36 _) ?_;by_cases hp:g.prpE=0
 . have hW:=QkT hp;have e:Qak g t=QcG g t:=by unfold Qak; rw[Wa (by simpa using hp)]
   rw[e];by_cases c1:t.rnd<0
   . simp -implicitDefEqProofs[hp,c1];exact Qg 1 hcl rfl (by simp[QcG,c1])
   . by_cases c2:1000000<t.rnd
     . simp -implicitDefEqProofs[hp,c1,c2];exact Qg 1 hcl rfl (by simp[QcG,c1,c2])
     . by_cases c3:t.seed<0
       . simp -implicitDefEqProofs[hp,c1,c2,c3];exact Qg 1 hcl rfl (by simp[QcG,c1,c2,c3])
       . by_cases c4:2147483646<t.seed
         . simp -implicitDefEqProofs[hp,c1,c2,c3,c4];exact Qg 1 hcl rfl (by simp[QcG,c1,c2,c3,c4])
         . simp -implicitDefEqProofs[hp,c1,c2,c3,c4];refine Qf (h39 _ _ _ hW) ?_;by_cases c5:Qbk g t.A (-70368744177664)=0
           . simp -implicitDefEqProofs[c5];refine Qf (h39 _ _ _ hW) ?_;simp -implicitDefEqProofs;exact Qg 1 hcl rfl (by simp[QcG,c1,c2,c3,c4,c5])
           . simp -implicitDefEqProofs[c5];exact Qg 1 hcl rfl (by simp[QcG,c1,c2,c3,c4,c5])
 . have e:Qak g t=g.prpE:=by unfold Qak; rw[Wb hp]
   rw[e];simp -implicitDefEqProofs[hp];exact Qg 1 hcl rfl (by simp)
end
abbrev rpt (f:Nat):SV:=.ptr (.own f 0 0 0 0) 0
def zT:AO:=⟨[i64 0,i64 0,nl,nl],30,0,true⟩
def eT (e:Int):AO:=⟨[i64 e],31,0,true⟩
section
variable {H:Ws}
theorem Qqe {f g:Nat} (hf:f<H.length) (hg:g<H.length):OkD Tryz.prog 32 [rpt f,rpt g] H none (λH'=>H'=H):=by
 refine Qnt hm Tryz.func32 c32 (by rfl) λhcl => ?_;simp -implicitDefEqProofs[QjX,i32,rvD,SV.isIf,SV.ifNil];exact Qn
theorem Qqw {f g:Nat} {c1 c2:Wt} (hf:H[f]? = some ⟨c1,30,0,true⟩) (hc1:c1.length=4) (hg:H[g]? = some ⟨c2,31,0,true⟩) (hc2:c2.length=1) (hne:f≠g) :
 OkD Tryz.prog 32 [rpt f,rpt g] H (some QdS) (λH'=>H'=(H.set f zT).set g (eT 5)):=by
 have hj:=Qd hf;have hjg:=Qd hg;have e1:∀ L,Qe (H++L) f 0=c1:=λL=>Qcn hf L;have e10:Qe H f 0=c1:=oc0 hf;have e2:∀ (L:Ws) (h:AO->AO),Ab.setObj (H++L) f h=H.set f (h ⟨c1,30,0,true⟩)++L:=λL h=>QiL hf L h;have hg':(H.set f zT)[g]? = some ⟨c2,31,0,true⟩:=by rw[Ve hne]; exact hg
 have hg2:((H.set f zT).set g (eT 13))[g]? = some (eT 13):=by rw[Vh (by simpa using hjg)]
 have d1:List.drop 4 c1=[]:=ZM (by omega);have d2:List.drop 1 c2=[]:=ZM (by omega);have d3:c2.tail=[]:=by rw[<-List.drop_one]; exact d2
 have s1:∀ h:AO->AO,Ab.setObj H f h=H.set f (h ⟨c1,30,0,true⟩):=λh=>QS hf h;have o1:Qe (H.set f zT) g 0=c2:=oc0 hg';have s2:∀ h:AO->AO,Ab.setObj (H.set f zT) g h=(H.set f zT).set g (h ⟨c2,31,0,true⟩):=λh=>QS hg' h;have o2:∀ L,Qe ((H.set f zT).set g (eT 13)++L) g 0=[i64 13]:=λL=>Qcn hg2 L;have s3:∀ (L:Ws) (h:AO->AO),Ab.setObj ((H.set f zT).set g (eT 13)++L) g h=((H.set f zT).set g (eT 13)).set g (h (eT 13))++L:=λL h=>QiL hg2 L h;have n1:∀ (L:Ws) (v:Nat),Qe ((H.set f zT).set g (eT 13)++L) H.length v=Qe L 0 v:=λL v=>Qc3 (H:=H) (L:=L) (a:=f) (k:=g) (o:=zT) (p:=eT 13) v;have n2:∀ (L:Ws) (h:AO->AO),Ab.setObj ((H.set f zT).set g (eT 13)++L) H.length h=(H.set f zT).set g (eT 13)++Ab.setObj L 0 h:=λL h=>by
  have:=QcT (H:=H) (L:=L) (a:=f) (k:=g) (o:=zT) (p:=eT 13) 0 h;simpa[G2]using this
 have hcz:closed H->closed ((H.set f zT).set g (eT 5)):=λhcl=>QcD (QcD hcl f (o:=zT) (by simp[zT])) g (by simp[eT]);simp only[zT,eT]at o1 s2 o2 s3 n1 n2;refine Qnt hm Tryz.func32 c32 (by rfl) λhcl => ?_;simp -implicitDefEqProofs[QjX,i32,rvD,SV.isIf,SV.ifNil,QdS,e10,s1,hc1,d1,o1,s2,hc2,d2,d3,o2,s3,SV.ifIs,SV.ifVal,n1,n2];refine⟨rfl,?_⟩;exact Qf3 rfl (by simp) (by simpa[zT,eT]using hcz hcl) rfl
end
def okB (g:Gm) (s:TS):Bool:=(List.range g.is.length).all λi=>(List.range (g.acts i)).all λa => !(decide ((s.A i).getD a 0 < -70368744177664)) && !(decide (70368744177664<(s.A i).getD a 0)) && !(decide (70368744177664<(s.P i).getD a 0))
theorem Qde {g:Gm} {s:TS}:okB g s=true↔QaA g s:=by
 unfold okB QaA Qbx;simp only[Vy,VJ,Va,VY,Wo];constructor
 . intro h i hi a ha; have:=h i hi a ha; exact⟨this.1.1,this.1.2,this.2⟩
 . intro h i hi a ha; have:=h i hi a ha; exact⟨⟨this.1,this.2.1⟩,this.2.2⟩
def Qaz (g:Gm):Nat->TS->Option TS
 |0,s=>some s
 |n+1,s=>if okB g (Q7 g (cTC g) s)=true then Qaz g n (Q7 g (cTC g) s)else none
def Tin.zero:Tin:=⟨0,0,[],[]⟩
def QY (g:Gm) (s:TS):Tin:=⟨s.rnd,s.seed,(List.range g.is.length).map s.A,(List.range g.is.length).map s.P⟩
def Qaq (g:Gm) (t:Tin) (n:Int):Tin×Int :=
 if Qak g t≠0 then(.zero,Qak g t)else if n<0\/20000<n\/1000000<t.rnd+n then(.zero,2)else
  match Qaz g n.toNat (s0T g t.rnd t.seed t.A t.P)with
  |none=>(.zero,5)
  |some s=>(QY g s,0)
theorem Qcg {g:Gm} (hW:Wg g) {L:List (List Int)} {least:Int} (h:Qbk g L least=0):L.length=g.is.length/\∀ i,i<g.is.length->Qac L i=g.acts i/\∀ x∈L.getD i [],least<=x/\x<=70368744177664:=by
 unfold Qbk at h;by_cases hl:L.length=g.is.length
 . rw[Wa (by simpa using hl),QiD]at h;refine⟨hl,λi hi => ?_⟩;have hr:=h i (Yq _) (by omega);have hgi:g.is.getD i (0,0)=g.is[i]:=by simp[hi]
   have hac:=Qa5 hW hi;have ha:(g.acts i:Int)=g.is[i].2:=by unfold Gm.acts at hac ⊢; rw[hgi]at hac ⊢; omega
   unfold QcF at hr;rw[hgi]at hr;by_cases h1:((Qac L i:Nat):Int)=g.is[i].2
   . rw[Wa (by simpa using h1)]at hr;refine⟨by omega,λx hx => ?_⟩;split at hr
     . cases hr
     . rename_i h2;simp only[Yh,not_exists,not_and,Yb,Wd]at h2;have:=h2 x hx;omega
   . rw[Wb h1]at hr; cases hr
 . rw[Wb hl]at h; cases h
theorem QdP {g:Gm} {t:Tin} (h:Qak g t=0):Wg g/\0<=t.rnd/\t.rnd<=1000000/\Qbk g t.A (-70368744177664)=0/\Qbk g t.P 0=0:=by
 unfold Qak at h;by_cases hp:g.prpE=0
 . rw[Wa (by simpa using hp)]at h;unfold QcG at h;split at h
   . cases h
   . split at h
     . rename_i h1 h2; exact absurd h h2
     . rename_i h1 h2;exact⟨QkT hp,by omega,by omega,by simpa using h2,h⟩
 . rw[Wb hp]at h; exact absurd h hp
theorem QmY {g:Gm} {t:Tin} (h:Qak g t=0):QaA g (s0T g t.rnd t.seed t.A t.P):=by
 obtain⟨hW,h1,h2,h3,h4⟩:=QdP h;obtain⟨a1,a2⟩:=Qcg hW h3;obtain⟨p1,p2⟩:=Qcg hW h4;intro i hi a ha;have la:a<(t.A.getD i []).length:=by have:=(a2 i hi).1; unfold Qac at this; omega
 have lp:a<(t.P.getD i []).length:=by have:=(p2 i hi).1; unfold Qac at this; omega
 have e1:(t.A.getD i []).getD a 0=(t.A.getD i [])[a]:=by rw[Vm,Vb la]; rfl
 have e2:(t.P.getD i []).getD a 0=(t.P.getD i [])[a]:=by rw[Vm,Vb lp]; rfl
 have q1:=(a2 i hi).2 _ (Vf la);have q2:=(p2 i hi).2 _ (Vf lp);unfold Qbx;simp only[s0T,e1,e2];omega
section
variable {H G:Ws}
theorem Qn7 {p:Nat} (hp:H.length<=p) {l:List Int} {T:Ww} {v:Nat} (h:G[p]? = some ⟨Qa l,T,v,true⟩) (d:Nat):SV.fz H.length [] (G.drop H.length) (d+2) (.own p 0 l.length 1 v)=sl l:=by
 have hg:(G.drop H.length)[p-H.length]? = some ⟨Qa l,T,v,true⟩:=by rw[Vr,show H.length+(p-H.length)=p by omega]; exact h
 unfold SV.fz;rw[Wa (by simp[SV.under]; omega)];simp only[hg,QX];simp[sl]
theorem Qo3 {g:Gm} {p:Nat} (hp:H.length<=p) {q:Nat->Nat} {n:Nat->Nat} {A:Nat->List Int} {v w:Nat} {T:Ww} (h:G[p]? = some ⟨QH g.is.length q n v,T,w,true⟩)
 (hq:∀ i,i<g.is.length->H.length<=q i/\G[q i]? = some ⟨Qa (A i),3,v,true⟩/\(A i).length=n i) (d:Nat) :
 SV.fz H.length [] (G.drop H.length) (d+3) (.own p 0 g.is.length 1 w)=.slc (sls ((List.range g.is.length).map A)) g.is.length:=by
 have hg:(G.drop H.length)[p-H.length]? = some ⟨QH g.is.length q n v,T,w,true⟩:=by rw[Vr,show H.length+(p-H.length)=p by omega]; exact h
 unfold SV.fz;rw[Wa (by simp[SV.under]; omega)];simp only[hg,QX];simp only[QnU,Ye,VX,Vc,and_self,We,Y7];congr 1;have e:List.take g.is.length (QH g.is.length q n v)=QH g.is.length q n v:=VB (by simp);rw[e];simp only[QH,sls,YS];apply VA;intro i hi;simp only[VJ]at hi;obtain⟨q1,q2,q3⟩:=hq i hi;simp only[Function.comp_apply];rw[<-q3];exact Qn7 q1 q2 d
end
section
variable {H:Ws} {g:Gm}
def hb8 (H:Ws) (g:Gm) (t:Tin):Ws:=H++[Qk g,⟨t.cells,30,0,true⟩,zT,eT 0]
@[simp] theorem Qum (t:Tin):(hb8 H g t).length=H.length+4:=by simp[hb8]
theorem QlE {t:Tin} {i:Nat} (h:i<H.length):(hb8 H g t)[i]? = H[i]? := by unfold hb8; rw[Vd h]
theorem Qdp {t:Tin} (k:Nat):(hb8 H g t)[H.length+k]? = [Qk g,⟨t.cells,30,0,true⟩,zT,eT 0][k]? := by
 unfold hb8; rw[Vg (by omega)]; congr 1; omega
theorem QtE {t:Tin} (hcl:closed H):closed (hb8 H g t):=by
 intro i o ho s hs;rw[Qum];by_cases hi:i<H.length
 . rw[QlE hi]at ho;exact SV.under_mono (by omega) s (hcl i o ho s hs)
 . obtain⟨k,rfl⟩:∃ k,i=H.length+k:=⟨i-H.length,by omega⟩;rw[Qdp]at ho;have hm:=Vp ho;simp only[Vi,VP,Wi]at hm;have:SV.underL (H.length+4) o.cells=true:=by
    rcases hm with rfl|rfl|rfl|rfl
    . simp[Qk,QaP,QaS]
    . simp[Tin.cells,Qcm]
    . simp[zT]
    . simp[eT]
   exact(SV.underL_iff _ _).1 this s hs
set_option maxRecDepth 10000 in
theorem Quu (hW:Wg g) {B:Ws} {x6 x7:SV} {nn:Nat} (hn:nn<=20000) {s0:TS} {N:Nat} {K:Wr}
 (hpan:Qaz g nn s0=none->∀ env G s,TW g B (cTC g) s G->env.get 6=x6->env.get 7=x7->K (.panic QdS) env G)
 (hexit:∀ s,Qaz g nn s0=some s->∀ env G,TW g B (cTC g) s G->env.get 6=x6->env.get 7=x7->env.get 9=.ptr (.own (pW B g) 0 0 0 0) 0->K (.exit 0) env G) :
 ∀ (m j:Nat) (env:Env) (G:Ws) (s:TS),j+m=nn->QaA g s->Qaz g m s=Qaz g nn s0->TW g B (cTC g) s G->env.get 6=x6->env.get 7=x7->env.get 9=.ptr (.own (pW B g) 0 0 0 0) 0->env.get 45=i64 nn->env.get 46=i64 j ->
  LI Tryz.prog N Qb Qha env G K:=by
 intro m
 induction m with
 |zero =>
  intro j env G s hj hk hr h h6 h7 h9 h45 h46;refine Qc hm Qha.eq_1 ?_;have e:j=nn:=by omega
  subst e;simp -implicitDefEqProofs[h45,h46];exact hexit s hr.symm _ _ h (by simp[h6]) (by simp[h7]) (by simp[h9])
 |succ m ih =>
  intro j env G s hj hk hr h h6 h7 h9 h45 h46;refine Qc hm Qha.eq_1 ?_;have hjn:j<nn:=by omega
  have w1:=QO (show j<9223372036854775807 by omega);simp -implicitDefEqProofs[h9,h45,h46,hjn];refine Q4 (ok35 hW (Qmt hW) h hk) λout G' hP => ?_;obtain⟨h2,⟨hk2,rfl⟩|⟨hk2,rfl⟩⟩:=hP
  . simp -implicitDefEqProofs[h6,h7,h9,h45,h46];refine ih (j+1) _ _ _ (by omega) hk2 ?_ h2 ?_ ?_ ?_ ?_ ?_
    . rw[<-hr]; simp[Qaz,Qde.2 hk2]
    . simp[h6]
    . simp[h7]
    . simp
    . simp
    . simp[w1]
  . simp -implicitDefEqProofs;refine hpan ?_ _ _ _ h2 (by simp[h6]) (by simp[h7]);rw[<-hr];have:¬ okB g (Q7 g (cTC g) s)=true:=λhb=>hk2 (Qde.1 hb);simp[Qaz,this]
theorem QrV {t:Tin} {n:Int} (hcl:closed H) (he:Qaq g t n=(.zero,5)) {s:TS} {G:Ws} {env:Env} (h:TW g (hb8 H g t) (cTC g) s G) (h6:env.get 6=rpt (H.length+2)) (h7:env.get 7=rpt (H.length+3)) :
 Qgv Tryz.prog H.length r11 (λo h=>o=.ret (.tup [.agg (Qaq g t n).1.cells,i64 (Qaq g t n).2])/\h=H) 32 [rpt (H.length+2),rpt (H.length+3)] (.panic QdS) env G:=by
 have g2:G[H.length+2]? = some ⟨[i64 0,i64 0,nl,nl],30,0,true⟩:=by rw[h.low _ (by simp),Qdp]; rfl
 have g3:G[H.length+3]? = some ⟨[i64 0],31,0,true⟩:=by rw[h.low _ (by simp),Qdp]; rfl
 refine⟨_,Qqw g2 rfl g3 rfl (by omega),?_⟩;rintro H4 rfl;have l2:=Qd g2;have l3:=Qd g3;have e2:Qe ((G.set (H.length+2) zT).set (H.length+3) (eT 5)) (H.length+2) 0=[i64 0,i64 0,nl,nl]:=oc0 (T:=30) (by rw[Ve (by omega),Vh l2]; rfl);have e3:Qe ((G.set (H.length+2) zT).set (H.length+3) (eT 5)) (H.length+3) 0=[i64 5]:=oc0 (T:=31) (by rw[Vh (by simpa using l3)]; rfl);obtain⟨L,hL⟩:∃ L,(G.set (H.length+2) zT).set (H.length+3) (eT 5)=H++L:=by
  refine⟨((G.set (H.length+2) zT).set (H.length+3) (eT 5)).drop H.length,?_⟩;apply Vz;intro i;by_cases hi:i<H.length
  . rw[Ve (by omega),Ve (by omega),h.low i (by simp; omega),QlE hi,Vd hi]
  . rw[Vg (by omega),Vr];congr 1; omega
 refine⟨?_,_,H,⟨rfl,rfl⟩,?_⟩
 . intro s hs;simp only[r11,Vi,VP,Wi]at hs;rcases hs with rfl|rfl
   . simp[RS.side,h6,rpt,e2]
   . simp[RS.side,h7,rpt,e3]
 . have hr:QaT env ((G.set (H.length+2) zT).set (H.length+3) (eT 5)) r11=.tup [.agg [i64 0,i64 0,nl,nl],i64 5]:=by
    simp[QaT,r11,RS.ev,h6,h7,rpt,e2,e3]
   rw[hr,hL,he];refine Cv.le (Qg (r:=.tup [.agg [i64 0,i64 0,nl,nl],i64 5]) 3 hcl rfl (Qao rfl)) ?_;refine Qj7 (leL.cons (Qff (leL.cons (SV.le.refl _) (leL.cons (SV.le.refl _) (leL.cons QcV (leL.cons QcV leL.nil))))) (leL.refl _))
end
section
variable {H:Ws} {g:Gm}
theorem zero_le (e:Int):SV.le (.tup [.agg [i64 0,i64 0,nl,nl],i64 e]) (.tup [.agg Tin.zero.cells,i64 e]) :=
 Qj7 (leL.cons (Qff (leL.cons (SV.le.refl _) (leL.cons (SV.le.refl _) (leL.cons QcV (leL.cons QcV leL.nil))))) (leL.refl _))
theorem Qkf (hcl:closed H) (e:Int) (L:Ws):Cv H.length (.tup [.agg [i64 0,i64 0,nl,nl],i64 e]) (H++L) (.tup [.agg Tin.zero.cells,i64 e]) H :=
 Cv.le (Qg (r:=.tup [.agg [i64 0,i64 0,nl,nl],i64 e]) 3 hcl rfl (Qao rfl)) (zero_le e)
theorem Qqq {t:Tin} {n:Int} (hcl:closed H) {s:TS} (he:Qaq g t n=(QY g s,0)) {G:Ws} {env:Env} (h:TW g (hb8 H g t) (cTC g) s G) (h6:env.get 6=rpt (H.length+2)) (h7:env.get 7=rpt (H.length+3)) :
 Qgv Tryz.prog H.length r11 (λo h=>o=.ret (.tup [.agg (Qaq g t n).1.cells,i64 (Qaq g t n).2])/\h=H) 32 [rpt (H.length+2),rpt (H.length+3)] .ret env
  ((G.set (H.length+2) ⟨[i64 s.rnd,i64 s.seed,.own (pAo (hb8 H g t) g) 0 g.is.length 1 0,.own (pPo (hb8 H g t) g) 0 g.is.length 1 0],30,0,true⟩).set (H.length+3) (eT 0)):=by
 have g2:G[H.length+2]? = some ⟨[i64 0,i64 0,nl,nl],30,0,true⟩:=by rw[h.low _ (by simp),Qdp]; rfl
 have g3:G[H.length+3]? = some ⟨[i64 0],31,0,true⟩:=by rw[h.low _ (by simp),Qdp]; rfl
 have l2:=Qd g2;have l3:=Qd g3;refine⟨_,Qqe (by simpa using l2) (by simpa using l3),?_⟩;rintro H4 rfl;generalize hG2:(G.set (H.length+2) ⟨[i64 s.rnd,i64 s.seed,.own (pAo (hb8 H g t) g) 0 g.is.length 1 0,.own (pPo (hb8 H g t) g) 0 g.is.length 1 0],30,0,true⟩).set (H.length+3) (eT 0)=G2;have e2:Qe G2 (H.length+2) 0=[i64 s.rnd,i64 s.seed,.own (pAo (hb8 H g t) g) 0 g.is.length 1 0,.own (pPo (hb8 H g t) g) 0 g.is.length 1 0]:=oc0 (T:=30) (by rw[<-hG2,Ve (by omega),Vh l2]);have e3:Qe G2 (H.length+3) 0=[i64 0]:=oc0 (T:=31) (by rw[<-hG2,Vh (by simpa using l3)]; rfl);have up:∀ i,H.length+4<=i->G2[i]? = G[i]? := λi hi=>by rw[<-hG2,Ve (by omega),Ve (by omega)]
 have hL:G2=H++G2.drop H.length:=by
  apply Vz;intro i;by_cases hi:i<H.length
  . rw[Vd hi,<- hG2,Ve (by omega),Ve (by omega),h.low i (by simp; omega),QlE hi]
  . rw[Vg (by omega),Vr];congr 1; omega
 refine⟨?_,_,H,⟨rfl,rfl⟩,?_⟩
 . intro s hs;simp only[r11,Vi,VP,Wi]at hs;rcases hs with rfl|rfl
   . simp[RS.side,h6,rpt,e2]
   . simp[RS.side,h7,rpt,e3]
 . have hr:QaT env G2 r11=.tup [.agg [i64 s.rnd,i64 s.seed,.own (pAo (hb8 H g t) g) 0 g.is.length 1 0,.own (pPo (hb8 H g t) g) 0 g.is.length 1 0],i64 0]:=by
    simp[QaT,r11,RS.ev,h6,h7,rpt,e2,e3]
   rw[hr,he];have hA:=Qo3 (H:=H) (G:=G2) (g:=g) (p:=pAo (hb8 H g t) g) (by unfold pAo; simp) (A:=s.A) (by rw[up _ (by unfold pAo; simp)]; exact h.ao) (λi hi=>⟨by unfold pA; simp; omega,by rw[up _ (by unfold pA; simp; omega)]; exact h.a i hi,h.l.A i hi⟩) 1;have hP:=Qo3 (H:=H) (G:=G2) (g:=g) (p:=pPo (hb8 H g t) g) (by unfold pPo; simp; omega) (A:=s.P) (by rw[up _ (by unfold pPo; simp; omega)]; exact h.po) (λi hi=>⟨by unfold pP; simp; omega,by rw[up _ (by unfold pP; simp; omega)]; exact h.p i hi,h.l.P i hi⟩) 1;have hfz:SV.fz H.length [] (G2.drop H.length) 6 (.tup [.agg [i64 s.rnd,i64 s.seed,.own (pAo (hb8 H g t) g) 0 g.is.length 1 0,.own (pPo (hb8 H g t) g) 0 g.is.length 1 0],i64 0])=.tup [.agg (QY g s).cells,i64 0]:=by
    rw[Qgo];simp only[Vs,V4,Qcd];rw[QkY];simp only[Vs,V4,Qcd];rw[hA,hP];simp[QY,Tin.cells]
   have:=Qg (n0:=H.length) (H:=H) (L:=G2.drop H.length) 6 hcl rfl hfz;rw[<-hL]at this;exact this
theorem Qh8 (t:Tin) (n:Int) (hn : -9223372036854775808<=n/\n<=9223372036854775807):Ok Tryz.prog 11 [.agg g.cells,.agg t.cells,i64 n] H (.ret (.tup [.agg (Qaq g t n).1.cells,i64 (Qaq g t n).2])) H:=by
 refine OkP.toOk (Qq7 hm Tryz.func11 c11 (by rfl) λhcl => ?_);have h16:=λH=>Qjs (H:=H) (g:=g) (t:=t);simp only[Gm.cells,Tin.cells]at h16;simp -implicitDefEqProofs[XL,i11p,Qmf,Qng,Qo5,Gm.cells,Tin.cells];refine Qf (h16 _) ?_;by_cases hc:Qak g t=0
 . obtain⟨hW,r1,r2,r3,r4⟩:=QdP hc;by_cases hb:n<0\/20000<n\/1000000<t.rnd+n
   . have e:Qaq g t n=(.zero,2):=by unfold Qaq; rw[Wa (by simpa using hc),Wb hb]
     have fin:Qbu H.length (λo h=>o=.ret (.tup [.agg (Qaq g t n).1.cells,i64 (Qaq g t n).2])/\h=H) (.tup [.agg [i64 0,i64 0,nl,nl],i64 2]) (H++[⟨[i64 g.pl,.slc (nds g.ns) g.ns.length,.slc (Qx g.is) g.is.length],26,0,true⟩,⟨[i64 t.rnd,i64 t.seed,.slc (sls t.A) t.A.length,.slc (sls t.P) t.P.length],30,0,true⟩,⟨[i64 0,i64 0,nl,nl],30,0,true⟩,⟨[i64 2],31,0,true⟩]):=by
      rw[e];exact⟨_,_,⟨rfl,rfl⟩,Qkf hcl _ _⟩
     by_cases b1:n<0
     . simp -implicitDefEqProofs[hc,XL,Qeh,r11,b1];exact⟨rfl,fin⟩
     . by_cases b2:20000<n
       . simp -implicitDefEqProofs[hc,XL,Qeh,r11,b1,b2];exact⟨rfl,fin⟩
       . have b3:1000000<t.rnd+n:=by omega
         have w1:IntKind.i64.wrap (t.rnd+n)=t.rnd+n:=Qj (by omega) (by omega);simp -implicitDefEqProofs[hc,XL,Qeh,r11,b1,b2,w1,b3];exact⟨rfl,fin⟩
   . have b1:¬ n<0:=by omega
     have b2:¬ 20000<n:=by omega
     have b3:¬ 1000000<t.rnd+n:=by omega
     have w1:IntKind.i64.wrap (t.rnd+n)=t.rnd+n:=Qj (by omega) (by omega);obtain⟨a1,a2⟩:=Qcg hW r3;obtain⟨p1,p2⟩:=Qcg hW r4;have hil:=hW.gd.i;have rw_ok:∀ (L:List (List Int)),L.length=g.is.length->(∀ i,i<g.is.length->Qac L i=g.acts i)->∀ l∈L,l≠[]/\l.length<=1000000:=λL hL hl l hm=>by
      obtain⟨k,hk,rfl⟩:=VG hm;have h1:=hl k (by omega);rw[Qez hk]at h1;have h2:=Qa5 hW (show k<g.is.length by omega);exact⟨λe=>by rw[e]at h1; simp at h1; omega,by omega⟩
     have hA:=rw_ok t.A a1 λi hi=>(a2 i hi).1;have hP:=rw_ok t.P p1 λi hi=>(p2 i hi).1;simp -implicitDefEqProofs[hc,XL,Qeh,r11,b1,b2,w1,b3,i11s,i11f,i11];refine⟨32,_,⟨rfl,rfl⟩,Qf (ok34 hA (by omega)) ?_⟩;simp -implicitDefEqProofs;refine Qf (ok34 hP (by omega)) ?_;simp -implicitDefEqProofs[a1,p1];have h28:=ok33 (H:=hb8 H g t) (rnd:=t.rnd) (seed:=t.seed) hW (QtE hcl) a1 p1 (λi hi=>(a2 i hi).1) (λi hi=>(p2 i hi).1);have q1:H.length+(g.is.length+1+1+1+1+1)=(hb8 H g t).length+1+g.is.length:=by simp; omega
     have q2:(λi=>H.length+(g.is.length+1+1+1+1+1+1)+i)=λi=>(hb8 H g t).length+1+t.A.length+1+i:=by funext i; simp; omega
     have q3:(λi=>H.length+5+i)=λi=>(hb8 H g t).length+1+i:=by funext i; simp
     have q4:H.length+4=(hb8 H g t).length:=by simp
     have hHeap:(H ++
     ⟨[i64 g.pl,.slc (nds g.ns) g.ns.length,.slc (Qx g.is) g.is.length],26,0,true⟩ ::
      ⟨[i64 t.rnd,i64 t.seed,.slc (sls t.A) g.is.length,.slc (sls t.P) g.is.length],30,0,true⟩ ::
       ⟨[i64 0,i64 0,.val (.slice none 0 0),.val (.slice none 0 0)],30,0,true⟩ ::
        ⟨[i64 0],31,0,true⟩ ::
         ⟨QH g.is.length (λi=>H.length+5+i) (Qac t.A) 1,45,0,true⟩ ::
          (List.map (Qaj 1) t.A ++
           ⟨QH g.is.length (λi=>H.length+(g.is.length+1+1+1+1+1+1)+i) (Qac t.P) 1,45,0,true⟩ ::
            List.map (Qaj 1) t.P))=Qa8 (hb8 H g t) t.A t.P:=by
      rw[q2,q3];unfold Qa8;rw[a1,p1];simp only[hb8,Qk,zT,eT,Tin.cells,VC,VK,V3,a1,p1]
     rw[hHeap,q1,q4];simp only[Gm.cells]at h28;refine Q4 h28 λout G1 hP => ?_;obtain⟨rfl,h⟩:=hP;have hgb:Qe G1 H.length 0=[i64 g.pl,.slc (nds g.ns) g.ns.length,.slc (Qx g.is) g.is.length]:=oc0 (T:=26) (by rw[h.low _ (by simp)]; have:=Qdp (H:=H) (g:=g) (t:=t) 0; rw[Yf]at this; rw[this]; rfl);have htb:Qe G1 (H.length+1) 0=t.cells:=oc0 (T:=30) (by rw[h.low _ (by simp),Qdp]; rfl);simp only[Tin.cells]at htb;have hrun:∀ o,Qaz g n.toNat (s0T g t.rnd t.seed t.A t.P)=o->Qaq g t n=(match o with|none=>(.zero,5)|some s=>(QY g s,0)):=λo ho=>by
      unfold Qaq;rw[Wa (by simpa using hc),Wa hb,ho];all_goals (cases o<;>rfl)
     simp -implicitDefEqProofs[hgb,htb];have hnn:((n.toNat:Nat):Int)=n:=by omega
     refine Quu (nn:=n.toNat) hW (x6:=rpt (H.length+2)) (x7:=rpt (H.length+3)) (by omega) (λhr env G s hG g6 g7 => ?_) (λs hr env G hG g6 g7 g9 => ?_) n.toNat 0 _ _ _ (by omega) (QmY hc) rfl h (by simp) (by simp) (by simp) (by simp[hnn]) (by simp)
     . exact QrV hcl (hrun _ hr) hG g6 g7
     . have hwc:=hG.cw0;have k2:G[H.length+2]? = some ⟨[i64 0,i64 0,nl,nl],30,0,true⟩:=by rw[hG.low _ (by simp),Qdp]; rfl
       have k3:G[H.length+3]? = some ⟨[i64 0],31,0,true⟩:=by rw[hG.low _ (by simp),Qdp]; rfl
       have o2:=oc0 k2;have s2:=QS k2;have k4:(G.set (H.length+2) ⟨[i64 s.rnd,i64 s.seed,.own (pAo (hb8 H g t) g) 0 g.is.length 1 0,.own (pPo (hb8 H g t) g) 0 g.is.length 1 0],30,0,true⟩)[H.length+3]? = some ⟨[i64 0],31,0,true⟩:=by rw[Ve (by omega)]; exact k3
       have o3:=oc0 k4;have s3:=QS k4;simp -implicitDefEqProofs[g6,g7,g9,hwc,Qw,o2,s2,o3,s3];exact Qqq hcl (hrun _ hr) hG (by simp[g6]) (by simp[g7])
 . have e:Qaq g t n=(.zero,Qak g t):=by unfold Qaq; rw[Wb hc]
   simp -implicitDefEqProofs[hc,XL,Qeh,r11];rw[e];exact⟨rfl,_,_,⟨rfl,rfl⟩,Qkf hcl _ _⟩
end
section
variable {H:Ws}
def ShO (l:List Int):Prop:=l.length<=10/\0<l.length/\∀ v∈l,-70368744177664<=v/\v<=70368744177664
def tB (t:Tin):AO:=⟨t.cells,30,0,true⟩
end
def QcW (h:Nat) (g:Gm):Nat->Ws
 |0=>[]
 |k+1=>QcW h g k++[Qaj 0 (Qu (g.acts k)),⟨[.own (h+2+2*k) 0 (g.acts k) 1 0],45,0,true⟩]
theorem QhD (h:Nat) (g:Gm):∀ k,(QcW h g k).length=2*k
 |0=>rfl
 |k+1=>by simp[QcW,QhD h g k]; omega
theorem QlI (h:Nat) (g:Gm):∀ (k i:Nat),i<k->(QcW h g k)[2*i]? = some (Qaj 0 (Qu (g.acts i)))
 |0,i,hi=>absurd hi (by omega)
 |k+1,i,hi=>by
  have hl:=QhD h g k;by_cases e:i=k
  . subst e;simp only[QcW];rw[Vg (by omega),hl];simp
  . simp only[QcW];rw[Vd (by omega)];exact QlI h g k i (by omega)
def rowP (g:Gm) (V:List Int) (j:Nat):List Int:=Qh g.pl.toNat λp=>V.getD (j*4+p) 0
def qV (h n j:Nat):Nat:=h+3+2*(n-1-j)
def Qkd (h n i m:Nat):Wt:=(List.range n).map λj=>if j<i then .val (.slice none 0 0)else .own (qV h n j) 0 m 1 0
structure VN (g:Gm) (H:Ws) (V:List Int) (i:Nat) (f:Nat->Int) (X:Ws):Prop where
 b:X[H.length]? = some (Qk g)
 o:X[H.length+1]? = some ⟨Qkd H.length g.ns.length i g.pl.toNat,45,0,true⟩
 n:∀ h:i<g.ns.length,X[H.length+2+2*(g.ns.length-1-i)]? = some ⟨g.ns[i].cells,57,0,true⟩
 r0:i<g.ns.length->X[qV H.length g.ns.length i]? = some (Qaj 0 (Qh g.pl.toNat f))
 r:∀ j,i<j->j<g.ns.length->X[qV H.length g.ns.length j]? = some (Qaj 0 (rowP g V j))
 len:X.length=H.length+2+2*(g.ns.length-i)
 low:∀ j,j<H.length->X[j]? = H[j]?
structure Qdq (g:Gm) (M:List Int) (S:Nat->List Int) (V:List Int):Prop where
 eq:∀ i q:Nat,i<g.ns.length->(q:Int)<g.pl->V.getD (i*4+q) 0=QbB g M S V i q
 m:∀ i (h:i<g.ns.length),g.ns[i].k=1->M.getD i 0=Qby g.ns[i].ws/\0<M.getD i 0
section
variable {H X:Ws} {g:Gm} {V M:List Int} {S:List (List Int)}
theorem Qq6 {L:List (List Int)} {i:Nat} (h:i<L.length):(sls L)[i]?.getD .any=sl L[i]:=by simp[sls,h]
end
section
variable {H X:Ws} {g:Gm} {V M:List Int} {S:List (List Int)} {i:Nat} {f f':Nat->Int}
theorem VN.setF (h:VN g H V i f X) (hi:i<g.ns.length) (f':Nat->Int):VN g H V i f' (X.set (qV H.length g.ns.length i) (Qaj 0 (Qh g.pl.toNat f'))):=by
 have hl:=h.len;refine⟨?_,?_,λh1 => ?_,λ_ => ?_,λj hj hj2 => ?_,by simp[hl],λj hj => ?_⟩
 . rw[Ve (by unfold qV; omega)]; exact h.b
 . rw[Ve (by unfold qV; omega)]; exact h.o
 . rw[Ve (by unfold qV; omega)]; exact h.n h1
 . rw[Vh (by rw[hl]; unfold qV; omega)]
 . rw[Ve (by unfold qV; omega)]; exact h.r j hj hj2
 . rw[Ve (by unfold qV; omega)]; exact h.low j hj
structure VM (g:Gm) (H:Ws) (V:List Int) (i:Nat) (X:Ws):Prop where
 b:X[H.length]? = some (Qk g)
 o:X[H.length+1]? = some ⟨Qkd H.length g.ns.length i g.pl.toNat,45,0,true⟩
 r:∀ j,i<=j->j<g.ns.length->X[qV H.length g.ns.length j]? = some (Qaj 0 (rowP g V j))
 len:X.length=H.length+2+2*(g.ns.length-i)
 low:∀ j,j<H.length->X[j]? = H[j]?
theorem VM.next (h:VM g H V (i+1) X) (hi:i<g.ns.length) (f:Nat->Int):VN g H V i f (X.set (H.length+1) ⟨Qkd H.length g.ns.length i g.pl.toNat,45,0,true⟩++[⟨g.ns[i].cells,57,0,true⟩,Qaj 0 (Qh g.pl.toNat f)]):=by
 have hl:=h.len;refine⟨?_,?_,λh1 => ?_,λ_ => ?_,λj hj hj2 => ?_,by simp[hl]; omega,λj hj => ?_⟩
 . rw[Vd (by simp; omega),Ve (by omega)]; exact h.b
 . rw[Vd (by simp; omega),Vh (by omega)]
 . rw[Vg (by simp; omega)];rw[show H.length+2+2*(g.ns.length-1-i)-(X.set (H.length+1) _).length=0 by simp; omega]; rfl
 . rw[Vg (by simp; unfold qV; omega)];rw[show qV H.length g.ns.length i-(X.set (H.length+1) _).length=1 by simp; unfold qV; omega]; rfl
 . rw[Vd (by simp; unfold qV; omega),Ve (by unfold qV; omega)]; exact h.r j (by omega) hj2
 . rw[Vd (by simp; omega),Ve (by omega)]; exact h.low j hj
theorem VN.done (h:VN g H V i (λp=>V.getD (i*4+p) 0) X):VM g H V i X :=
 ⟨h.b,h.o,λj hj hj2=>by
  by_cases e:i=j
  . subst e; exact h.r0 hj2
  . exact h.r j (by omega) hj2,h.len,h.low⟩
end
section
variable {H X G:Ws} {g:Gm} {V M:List Int} {S:List (List Int)}
theorem Qh2 {I:Nat} {p:Nat} (hp:H.length<=p) {q:Nat->Nat} {n:Nat->Nat} {A:Nat->List Int} {v w:Nat} {T:Ww} (h:G[p]? = some ⟨QH I q n v,T,w,true⟩)
 (hq:∀ i,i<I->H.length<=q i/\G[q i]? = some ⟨Qa (A i),3,v,true⟩/\(A i).length=n i) (d:Nat) :
 SV.fz H.length [] (G.drop H.length) (d+3) (.own p 0 I 1 w)=.slc (sls ((List.range I).map A)) I:=by
 have hg:(G.drop H.length)[p-H.length]? = some ⟨QH I q n v,T,w,true⟩:=by rw[Vr,show H.length+(p-H.length)=p by omega]; exact h
 unfold SV.fz;rw[Wa (by simp[SV.under]; omega)];simp only[hg,QX];simp only[QnU,Ye,VX,Vc,and_self,We,Y7];congr 1;have e:List.take I (QH I q n v)=QH I q n v:=VB (by simp);rw[e];simp only[QH,sls,YS];apply VA;intro i hi;simp only[VJ]at hi;obtain⟨q1,q2,q3⟩:=hq i hi;simp only[Function.comp_apply];rw[<-q3];exact Qn7 q1 q2 d
theorem QeX (hlow:∀ j,j<H.length->X[j]? = H[j]?):X=H++X.drop H.length:=by
 apply Vz;intro i;by_cases hi:i<H.length
 . rw[Vd hi,hlow i hi]
 . rw[Vg (by omega),Vr];congr 1; omega
end
end Go.Proofs.YtogjmpkehjfecaaGreatDoor.Rc
namespace Go.Proofs.YtogjmpkehjfecaaGreatDoor.Rc
open Go.Ab Go.Ab.Lm
section
variable {H:Ws} {a b:Nat}
theorem Qkc (hb:0<b) (ha:(lim a).length<10000) (hbn:(lim b).length<10000):Ok Tryz.prog 99 [nS a,nS b] H (.ret (.tup [nS (a / b),nS (a % b)])) H:=by
 have hB:B=1000000000:=rfl;refine Ql hm' Tryz.func99 c99 (by simp[nS,QbE]) λhcl => ?_;by_cases hab:a<b
 . have h44:=λH=>QeY (H:=H) (a:=a) (b:=b) (by omega) (by omega);have e:Qam a b<0:=by unfold Qam; rw[Wb hab]; decide
   have q1:a / b=0:=YI hab;have q2:a % b=a:=YU hab;have n0:nS 0=.slc [] 0:=by rw[nS,Q8]; rfl
   rw[q1,q2,n0];simp only[nS]at h44;simp -implicitDefEqProofs[i99,r99,nS];refine Qf (h44 _) ?_;simp -implicitDefEqProofs[e];refine Cv.le (r:=.tup [nl,nS a]) (Qg 2 hcl rfl (Qao (by simp[nS,SV.under,SV.underL,QbE]))) ?_;exact Qj7 (leL.cons QcV (leL.refl _))
 . have hba:b<=a:=by omega
   have hlb:=QcP hba;have h44:=λH=>QeY (H:=H) (a:=a) (b:=b) (by omega) (by omega);have e:Qam a b≥0:=by unfold Qam; rw[Wa hab]; split<;>simp
   simp -implicitDefEqProofs[i99,r99];refine Qf (h44 _) ?_;have hbl:(lim b).length≠0:=λh=>by
    have:=Qdt.1 (Vx h);omega
   have hkl:(lim b).length-1<(lim b).length:=by omega
   obtain⟨t1,t2,t3⟩:=Qhx (n:=b) (by omega) hkl;obtain⟨tb,htb⟩:∃ tb,tb=(lim b)[(lim b).length-1]:=⟨_,rfl⟩;obtain⟨kb,hkb⟩:∃ kb,(lim b).length=kb+1:=⟨(lim b).length-1,by omega⟩;have wkb:IntKind.i64.wrap ((kb:Int))=kb:=Qck (by omega);have gb:(us (lim b))[kb]?.getD .any=.val (.int .u32 tb):=by
    rw[QaX (by omega),htb]; simp only[hkb,ZP]; rfl
   have gb':∀ h,(us (lim b))[kb]'h=.val (.int .u32 tb):=λh=>by
    have:=gb;rw[Vb h]at this;simpa using this
   have htbB:tb<B:=by rw[htb]; exact QaO b _ (Vf _)
   obtain⟨f,hf⟩:∃ f,f=1000000000 / (tb+1):=⟨_,rfl⟩;have hf0:0<f:=by rw[hf]; exact Nat.div_pos (by omega) (by omega)
   have hfB:f<B:=by
    rw[hf,hB];apply YH (by omega);rw[<-htb]at t1;omega
   have w1:=Q0 (n:=tb) (by omega);have w2:IntKind.u64.wrap ((tb:Int)+1)=((tb+1:Nat):Int):=by rw[show(tb:Int)+1=((tb+1:Nat):Int)by omega,Q0 (by omega)]
   have td:(1000000000:Int).tdiv ((tb+1:Nat):Int)=(f:Int):=by rw[hf]; rfl
   have w3:=Q0 (n:=f) (by omega);have w4:=QaW (n:=f) (by omega);have hne:¬ (tb:Int)+1=0:=by omega
   obtain⟨tb1,htb1⟩:∃ tb1,tb1=tb+1:=⟨_,rfl⟩;rw[<-htb1]at w2 td;have hne1:¬ tb1=0:=by omega
   simp -implicitDefEqProofs[i99,r99,e,show ¬ Qam a b<0 by omega,nS,hkb,wkb,gb,gb',QP,w1,w2,td,w3,w4,hne1];refine⟨by omega,Qf (Qik hfB) ?_⟩;have hfl:(lim f).length<=1:=Qb4 (by simpa using hfB);have h42a:=λH=>QdU (H:=H) (a:=a) (b:=f) (by omega);have h42b:=λH=>QdU (H:=H) (a:=b) (b:=f) (by omega);simp -implicitDefEqProofs;refine Qf (h42a _) ?_;simp -implicitDefEqProofs;refine Qf (h42b _) ?_;have hb':0<b*f:=Zd hb hf0;have hab':b*f<=a*f:=YC f hba;have hla:(lim (a*f)).length<=(lim a).length+1:=Qb4 (by
    rw[V6];exact Nat.mul_lt_mul'' (Qb5 a) hfB)
   have hQ:a*f / (b*f)=a / b:=Nat.mul_div_mul_right a b hf0;have hRm:a*f % (b*f) / f=a % b:=by
    rw[Nat.mul_mod_mul_right,Nat.mul_div_cancel _ hf0]
   generalize a*f=a' at *;generalize b*f=b' at *;have hlb':=QcP hab';have hbl':(lim b').length≠0:=λh=>by
    have:=Qdt.1 (Vx h);omega
   obtain⟨u1,u2,u3⟩:=Qhx (n:=b') (by omega) (by omega);obtain⟨n,hn⟩:∃ n,(lim b').length=n+1:=⟨(lim b').length-1,by omega⟩;obtain⟨gq,hgq⟩:∃ gq,(lim a').length=n+1+gq:=⟨(lim a').length-(n+1),by omega⟩;obtain⟨top,htop⟩:∃ top,top=b' / B ^ n:=⟨_,rfl⟩;have wn:IntKind.i64.wrap ((n:Int))=n:=Qck (by omega);have gt:(us (lim b'))[n]?.getD .any=.val (.int .u32 top):=by
    rw[QaX (by omega),htop,<- (by simpa[hn]using u1:(lim b')[n]=b' / B ^ n)]; rfl
   have gt':∀ h,(us (lim b'))[n]'h=.val (.int .u32 top):=λh=>by
    have:=gt;rw[Vb h]at this;simpa using this
   have htopB:top<B:=by rw[htop]; simpa[hn]using u3
   have htop0:0<top:=by rw[htop]; simpa[hn]using u2
   have w5:=Q0 (n:=top) (by omega);have w6:IntKind.i64.wrap ((n:Int)+1+gq-(n+1))=gq:=by rw[Qj (by omega) (by omega)]; omega
   have w7:IntKind.i64.wrap ((gq:Int)+1)=((gq+1:Nat):Int):=QaB (by omega);simp -implicitDefEqProofs[nS,hn,hgq,wn,gt,gt',QP,w5,w6,w7];repeat (refine⟨by omega,?_⟩)
   have en:n+1+gq-(gq+1)=n:=by omega
   rw[en];have hal:=Qb5 a';rw[hgq]at hal;have hap:a' / B ^ (gq+1)<B ^ n:=by
    apply Zc;rw[<-Zv,show gq+1+n=n+1+gq by omega];exact hal
   have hbp:B ^ n<=b':=by
    have:=Qkz (n:=b') (by omega);rw[hn]at this;simpa using this
   have ed:List.take n (List.drop (gq+1) (us (lim a')))=us (lim (a' / B ^ (gq+1))):=by
    unfold us;rw[<-List.map_drop,Qgj,<- ZU,VB];rw[<-Qgj];simp[hgq]; omega
   have edl:(lim (a' / B ^ (gq+1))).length=n:=by rw[<-Qgj]; simp[hgq]; omega
   have ett:List.take n (us (lim (a' / B ^ (gq+1))))=us (lim (a' / B ^ (gq+1))):=VB (by rw[QP]; omega);rw[ed,ett];have hcu:∀ l:List Nat,Qy (us l):=λl y hy=>by
    obtain⟨z,_,rfl⟩:=Vl.1 hy;rfl
   refine⟨hcu _,by omega,by omega,?_⟩;have erp:List.replicate (gq+1) (SV.val (.int .u32 0))=us (List.replicate (gq+1) 0):=by simp[us,u32]
   rw[erp];have hz1:a' / B ^ (gq+1) / b'=0:=YI (by omega);have hz2:a' / B ^ (gq+1) % b'=a' / B ^ (gq+1):=YU (by omega);have hDV:DV H gq (gq+1) a' b' H.length 1 (H++[⟨us (lim (a' / B ^ (gq+1))),114,1,true⟩,⟨us (List.replicate (gq+1) 0),114,1,true⟩]):=by
    refine⟨λi hi=>by rw[Vd hi],⟨List.replicate (gq+1) 0,?_,by simp,λz hz=>by simp[Y4]at hz; rw[hz]; decide,?_⟩,⟨[],?_⟩,by omega,by omega⟩
    . rw[Vg (by omega),show H.length+1-H.length=1 by omega]; rfl
    . rw[hz1]; simp[val]
    . rw[hz2,VV]; simp
   refine QqU (H:=H) (A:=a') (bb:=b') (gq:=gq) (n:=n) (top:=top) (x6:=nS f) hb' hn hgq (by omega) htop htop0 htopB (λenv X k v hD k4 k5 k6 => ?_) (gq+1) _ _ H.length 1 (Vc _) hDV ?_ ?_ ?_ ?_ ?_ ?_ ?_
   . obtain⟨s,hs⟩:=hD.hr;obtain⟨qs,hq1,hq2,hq3,hq4⟩:=hD.hq;obtain⟨hk1,hk2⟩:=hD.hk;have hlow:=hD.low;simp only[Nat.pow_zero,Nat.div_one,Y7]at hs hq4;rw[hQ]at hq4;have hRb:a' % b'<b':=Yr _ hb';have hRlen:=QcP (YZ hRb);generalize a' % b'=R at *;have wR:IntKind.i64.wrap (((lim R).length:Int)-1)=((lim R).length:Int)-1:=Qj (by omega) (by omega);simp -implicitDefEqProofs[k4,k5,k6,wR];have hz0:R / B ^ (lim R).length=0:=YI (Qb5 R);refine QtS (R:=R) (f:=f) (k:=k) (v:=v) (A:=X) (x4:=.own (H.length+1) 0 (gq+1) 1 1) (n:=0) hf0 hfB (by omega) (λenv X2 l hX2 ho hXl hm g4 g5 => ?_) (lim R).length _ X (lim R++s) s (lim R) (Vc _) hs (λ_ _=>rfl) rfl rfl rfl rfl (QaO R) (by rw[hz0]; simp[val]) ?_ ?_ ?_ ?_ ?_
     . obtain⟨s2,m2,e1,e2,e3,e4⟩:=hm;rw[hRm]at e4;have tr1:=QdX e3;rw[e4]at tr1;have tq1:=QdX hq3;rw[hq4]at tq1;have hq1':X2[H.length+1]? = some ⟨us qs,114,1,true⟩:=by rw[ho _ (λe=>hk2 e.symm)]; exact hq1
       have h69q:=Qmz (X:=X2) (l:=qs) (m:=qs) (s:=[]) hq1' (by simp) (by omega);have h69r:=Qmz (X:=X2) (l:=l) (m:=m2) (s:=s2) hX2 e1 (by omega);rw[hq2,tq1]at h69q;rw[e2,tr1]at h69r;simp -implicitDefEqProofs[g4,g5];refine Q4 h69q ?_;rintro o G' ⟨rfl,hG⟩;rw[hG];simp -implicitDefEqProofs[g4,g5];refine Q4 h69r ?_;rintro o G'' ⟨rfl,hG2⟩;rw[hG2];simp -implicitDefEqProofs[g4,g5];have hlow2:∀ j,j<H.length->X2[j]? = H[j]? := λj hj=>by rw[ho j (by omega)]; exact hlow j hj
       have ht:=QeX hlow2;have hdr:∀ k,(X2.drop H.length)[k]? = X2[H.length+k]? := λk=>by rw[Vr]
       have f1:=QmM (n:=H.length) (L:=X2.drop H.length) (l:=qs) (m:=qs) (s:=[]) (k:=1) (d:=1) (v:=1) (by simp) (by rw[hdr]; exact hq1');have f2:=QmM (n:=H.length) (L:=X2.drop H.length) (l:=l) (m:=m2) (s:=s2) (k:=k-H.length) (d:=1) (v:=v) e1 (by rw[hdr,show H.length+(k-H.length)=k by omega]; exact hX2);rw[tq1]at f1;rw[tr1,show H.length+(k-H.length)=k by omega]at f2;rw[ht];refine Qg 4 hcl rfl ?_;rw[Qgo];simp only[Vs,V4,f1,f2];rfl
     . simp[k4]
     . simp[k5]
     . simp[k6]
     . simp[hz0]
     . simp
   all_goals simp[nS,hgq,hn,edl,hz2]
end
section
variable {H:Ws} {a b:Nat}
set_option maxRecDepth 10000 in
theorem QuQ {g:Nat} {N:Nat} {K:Wr} (hexit:∀ env,env.get 0=nS g->K (.exit 0) env H) :
 ∀ (m x y:Nat) (env:Env),y<=m->(lim x).length<10000->(lim y).length<10000->Nat.gcd x y=g->env.get 0=nS x->env.get 1=nS y->LI Tryz.prog N Qb QiI env H K:=by
 intro m
 induction m with
 |zero =>
  intro x y env hm hx hy hg h0 h1;refine Qc hm' QiI.eq_1 ?_;have:y=0:=by omega
  subst this;simp only[nS,Q8,us,V4,Yx]at h1;simp -implicitDefEqProofs[h0,h1];refine hexit _ ?_;rw[Nat.gcd_zero_right]at hg;rw[<-hg]; simp[h0]
 |succ m ih =>
  intro x y env hm hx hy hg h0 h1;by_cases hz:y=0
  . exact ih x y env (by omega) hx hy hg h0 h1
  refine Qc hm' QiI.eq_1 ?_;have hl:0<(lim y).length:=by
   rcases Yu (lim y).length with e|e
   . exact absurd (Qdt.1 (Vx e)) hz
   . exact e
  have h68:=λH=>Qkc (H:=H) (a:=x) (b:=y) (by omega) hx hy;have hlt:x % y<y:=Yr _ (by omega);have hml:=QcP (YZ hlt);have hih:=ih y (x % y);simp only[nS]at h0 h1 h68 hih;simp -implicitDefEqProofs[h0,h1,hl];refine Qf (h68 _) ?_;simp -implicitDefEqProofs[h0,h1,hl];refine hih _ (by omega) hy (by omega) ?_ ?_ ?_
  . rw[<-hg,Yv x y,Nat.gcd_rec y x];exact Yv _ _
  . simp
  . simp
theorem ok98 (ha:(lim a).length<10000) (hb:(lim b).length<10000):Ok Tryz.prog 98 [nS a,nS b] H (.ret (nS (Nat.gcd a b))) H:=by
 refine Ql hm' Tryz.func98 c98 (by simp[nS,QbE]) λhcl => ?_;simp -implicitDefEqProofs[i98,r98];refine QuQ (g:=Nat.gcd a b) (λenv h0 => ?_) b a b _ (Vc _) ha hb rfl (by simp) (by simp);simp -implicitDefEqProofs[h0];exact Qn
structure Qr where
 neg:Bool
 n:Nat
 d:Nat
def Qr.sv (q:Qr):SV:=.agg [bl q.neg,nS q.n,nS q.d]
def low (neg:Bool) (n d:Nat):Qr:=⟨neg&&decide (n≠0),n / Nat.gcd n d,d / Nat.gcd n d⟩
def qSv (neg:Bool) (n d:Nat):SV:=(⟨neg,n,d⟩:Qr).sv
def Qcc (neg:Bool) (n d:Nat):SV:=(low neg n d).sv
theorem QaK (k n:Nat):(nS n).under k=true:=by simp[nS,SV.under,QbE]
theorem Qip (neg:Bool) (hb:0<b) (ha:(lim a).length<10000) (hbl:(lim b).length<10000):Ok Tryz.prog 70 [bl neg,nS a,nS b] H (.ret (Qcc neg a b)) H:=by
 refine Ql hm' Tryz.func70 c70 (by simp[QaK]) λhcl => ?_;by_cases h0:a=0
 . subst h0;have e1:lim 1=[1]:=by rw[QaQ (by decide),show 1 % B=1 by decide,show 1 / B=0 by decide,Q8]
   have e2:Qcc neg 0 b=.agg [bl false,.slc [] 0,.slc [.val (.int .u32 1)] 1]:=by
    have hd:b / b=1:=Nat.div_self hb;simp only[Qcc,low,Qr.sv,Nat.gcd_zero_left,Nat.zero_div,hd,nS,Q8,e1];simp[us,u32]
   rw[e2];simp -implicitDefEqProofs[i70,r70,nS,Q8,us];refine⟨⟨rfl,rfl,rfl⟩,rfl,rfl,?_⟩;refine Cv.le (r:=.agg [bl false,nl,.slc [.val (.int .u32 1)] 1]) (Qg 3 hcl rfl ?_) (Qff (leL.cons (SV.le.refl _) (leL.cons QcV (leL.refl _))));rw[QkY];simp[QX]
 . have hl:¬ (lim a).length=0:=λe=>h0 (Qdt.1 (Vx e));have hg:0<Nat.gcd a b:=Zx _ hb;have hgl:=QcP (Nat.gcd_le_right a hb);have h67:=λH=>ok98 (H:=H) (a:=a) (b:=b) ha hbl;have h68:=λH=>Qkc (H:=H) (a:=a) (b:=Nat.gcd a b) hg ha (by omega);have h68b:=λH=>Qkc (H:=H) (a:=b) (b:=Nat.gcd a b) hg hbl (by omega);have hge:(Qcc neg a b)=qSv neg (a / Nat.gcd a b) (b / Nat.gcd a b):=by simp[Qcc,qSv,low,h0]
   rw[hge];generalize Nat.gcd a b=g at *;simp only[nS]at h67 h68 h68b;simp -implicitDefEqProofs[i70,r70,nS,hl];refine Qf (h67 _) ?_;simp -implicitDefEqProofs;refine Qf (h68 _) ?_;simp -implicitDefEqProofs;refine Qf (h68b _) ?_;simp -implicitDefEqProofs;exact Qg 3 hcl rfl (Qao (by simp[SV.under,SV.underL,QbE]))
def Qkl (x y:Int):SV:=Qcc (decide (x<0) != decide (y<0)) x.natAbs y.natAbs
theorem Qqy {n:Int} (hn : -9223372036854775808<=n/\n<=9223372036854775807):(lim n.natAbs).length<=3:=Qb4 (by
 have:B ^ 3=1000000000000000000000000000:=by decide
 omega)
theorem ok79 {x:Int} (hx : -9223372036854775808<=x/\x<=9223372036854775807):Ok Tryz.prog 79 [i64 x] H (.ret (Qcc (decide (x<0)) x.natAbs 1)) H:=by
 refine Ql hm' Tryz.func79 c79 (by simp) λhcl => ?_;have h41x:=λH=>ok71 (H:=H) x hx;have lx:=Qqy hx;have e1:lim 1=[1]:=by rw[QaQ (by decide),show 1 % B=1 by decide,show 1 / B=0 by decide,Q8]
 have n1:nS 1=.slc [.val (.int .u32 1)] 1:=by rw[nS,e1]; rfl
 have h40:=λH=>Qip (H:=H) (a:=x.natAbs) (b:=1) (decide (x<0)) (by omega) (by omega) (by rw[e1]; decide);rw[n1]at h40;simp -implicitDefEqProofs[i79,r79];refine Qf (h41x _) ?_;simp -implicitDefEqProofs;refine⟨⟨rfl,rfl,rfl⟩,rfl,?_⟩;refine QlZ (H.length+1) 1 (o:=⟨[.val (.int .u32 1)],114,0,true⟩) (by simp[QbL]) rfl ?_ (h40 _) ?_
 . simp[nS]
 . simp only[Qcc];generalize low (decide (x<0)) x.natAbs 1=q;simp -implicitDefEqProofs[Qr.sv];refine⟨⟨rfl,rfl⟩,?_⟩;exact Qg 3 hcl rfl (Qao (by simp[SV.under,SV.underL,QaK]))
theorem Qr.under (q:Qr) (k:Nat):q.sv.under k=true:=by simp[Qr.sv,SV.under,SV.underL,QaK]
def Qr.mi (q:Qr):Qr:=⟨!q.neg&&decide (0<q.n),q.n,q.d⟩
def Qr.sz (q:Qr):Qr:=⟨false,q.n,q.d⟩
theorem Qhf {n:Nat}:(lim n).length=0↔n=0:=⟨λh=>Qdt.1 (Vx h),λh=>by rw[h,Q8]; rfl⟩
theorem Qup {n:Nat}:0<(lim n).length↔0<n:=by
 have:=Qhf (n:=n);omega
theorem QvT (q:Qr):Ok Tryz.prog 102 [q.sv] H (.ret q.mi.sv) H:=by
 refine Ql hm' Tryz.func102 c102 (by simp[Qr.sv,QaK]) λhcl => ?_
 cases hn:q.neg<;>simp -implicitDefEqProofs[i102,r102,Qr.sv,Qr.mi,hn]
 . have e:(nS q.n).ug.slen=(lim q.n).length:=rfl;have e2:decide (0<(lim q.n).length)=decide (0<q.n):=by simp[Qup]
   rw[e,e2];exact⟨⟨rfl,rfl⟩,⟨rfl,rfl⟩,⟨rfl,rfl⟩,Qg 3 hcl rfl (Qao (by simp[SV.under,SV.underL,QaK]))⟩
 . exact⟨⟨rfl,rfl⟩,Qg 3 hcl rfl (Qao (by simp[SV.under,SV.underL,QaK]))⟩
def Qr.few (q:Qr):Prop:=(lim q.n).length<=1000/\(lim q.d).length<=1000/\0<q.d
theorem Qjq (x y:Nat):(lim (x*y)).length<=(lim x).length+(lim y).length:=Qb4 (by
 rw[Zv];exact Nat.mul_lt_mul'' (Qb5 x) (Qb5 y))
theorem QvN (x y:Nat):(lim (x+y)).length<=(lim x).length+(lim y).length+1:=Qb4 (by
 have h1:=Qb5 x;have h2:=Qb5 y;have h3:B ^ (lim x).length<=B ^ ((lim x).length+(lim y).length):=YK Qda (by omega);have h4:B ^ (lim y).length<=B ^ ((lim x).length+(lim y).length):=YK Qda (by omega);rw[V6];have:B ^ ((lim x).length+(lim y).length)*2<=B ^ ((lim x).length+(lim y).length)*B:=YA _ (by decide);omega)
def Qr.plus (p q:Qr):Qr:=if p.neg=q.neg then low p.neg (p.n*q.d+q.n*p.d) (p.d*q.d)else if q.n*p.d<=p.n*q.d then low p.neg (p.n*q.d-q.n*p.d) (p.d*q.d)else low q.neg (q.n*p.d-p.n*q.d) (p.d*q.d)
def Qr.ord (p q:Qr):Int:=if(p.plus q.mi).n=0 then 0 else if(p.plus q.mi).neg=true then -1 else 1
theorem ok82 {p q:Qr} (hp:p.few) (hq:q.few):Ok Tryz.prog 82 [p.sv,q.sv] H (.ret (p.plus q).sv) H:=by
 refine Ql hm' Tryz.func82 c82 (by simp[Qr.sv,QaK]) λhcl => ?_;obtain⟨p1,p2,p3⟩:=hp;obtain⟨q1,q2,q3⟩:=hq;have l1:=Qjq p.n q.d;have l2:=Qjq q.n p.d;have l3:=Qjq p.d q.d;have h42a:=λH=>QdU (H:=H) (a:=p.n) (b:=q.d) (by omega);have h42b:=λH=>QdU (H:=H) (a:=q.n) (b:=p.d) (by omega);have h42c:=λH=>QdU (H:=H) (a:=p.d) (b:=q.d) (by omega);have hd:=Zd p3 q3;by_cases hs:p.neg=q.neg
 . have e:(p.plus q)=low p.neg (p.n*q.d+q.n*p.d) (p.d*q.d):=by unfold Qr.plus; rw[Wb hs]
   rw[e];generalize p.n*q.d=x at *;generalize q.n*p.d=y at *;generalize p.d*q.d=d at *;have la:=QvN x y;have h43:=λH=>Qq4 (H:=H) (a:=x) (b:=y) (by omega) (by omega) (by omega);have h40:=λH=>Qip (H:=H) (a:=x+y) (b:=d) p.neg hd (by omega) (by omega);simp only[Qcc]at h40;generalize low p.neg (x+y) d=r at *;simp -implicitDefEqProofs[i82,r82,Qr.sv];refine⟨⟨rfl,rfl⟩,⟨rfl,rfl⟩,Q3 (λ_=>h42a _) ?_⟩;simp -implicitDefEqProofs;refine Q3 (λ_=>h42b _) ?_;simp -implicitDefEqProofs;refine Q3 (λ_=>h42c _) ?_;simp -implicitDefEqProofs[hs];rw[<-hs];refine Q3 (λ_=>h43 _) ?_;simp -implicitDefEqProofs;refine Q3 (λ_=>h40 _) ?_;simp -implicitDefEqProofs[Qr.sv];exact⟨⟨rfl,rfl⟩,Qg 3 hcl rfl (Qao (by simp[SV.under,SV.underL,QaK]))⟩
 . by_cases ho:q.n*p.d<=p.n*q.d
   . have e:(p.plus q)=low p.neg (p.n*q.d-q.n*p.d) (p.d*q.d):=by unfold Qr.plus; rw[Wa hs,Wb ho]
     rw[e];generalize p.n*q.d=x at *;generalize q.n*p.d=y at *;generalize p.d*q.d=d at *;have la:=QcP (Nat.sub_le x y);have h44:=λH=>QeY (H:=H) (a:=x) (b:=y) (by omega) (by omega);have h45:=λH=>QmL (H:=H) (a:=x) (b:=y) ho (by omega) (by omega);have h40:=λH=>Qip (H:=H) (a:=x-y) (b:=d) p.neg hd (by omega) (by omega);have hor:0<=Qam x y:=by unfold Qam; rw[Wa (by omega)]; split<;>simp
     simp only[Qcc]at h40;generalize low p.neg (x-y) d=r at *;simp -implicitDefEqProofs[i82,r82,Qr.sv];refine⟨⟨rfl,rfl⟩,⟨rfl,rfl⟩,Q3 (λ_=>h42a _) ?_⟩;simp -implicitDefEqProofs;refine Q3 (λ_=>h42b _) ?_;simp -implicitDefEqProofs;refine Q3 (λ_=>h42c _) ?_;simp -implicitDefEqProofs[hs];refine Qf (h44 _) ?_;simp -implicitDefEqProofs[hor];refine Q3 (λ_=>h45 _) ?_;simp -implicitDefEqProofs;refine Q3 (λ_=>h40 _) ?_;simp -implicitDefEqProofs[Qr.sv];exact⟨⟨rfl,rfl⟩,Qg 3 hcl rfl (Qao (by simp[SV.under,SV.underL,QaK]))⟩
   . have e:(p.plus q)=low q.neg (q.n*p.d-p.n*q.d) (p.d*q.d):=by unfold Qr.plus; rw[Wa hs,Wa ho]
     rw[e];generalize p.n*q.d=x at *;generalize q.n*p.d=y at *;generalize p.d*q.d=d at *;have la:=QcP (Nat.sub_le y x);have h44:=λH=>QeY (H:=H) (a:=x) (b:=y) (by omega) (by omega);have h45:=λH=>QmL (H:=H) (a:=y) (b:=x) (by omega) (by omega) (by omega);have h40:=λH=>Qip (H:=H) (a:=y-x) (b:=d) q.neg hd (by omega) (by omega);have hor:¬ 0<=Qam x y:=by unfold Qam; rw[Wb (by omega)]; decide
     simp only[Qcc]at h40;generalize low q.neg (y-x) d=r at *;simp -implicitDefEqProofs[i82,r82,Qr.sv];refine⟨⟨rfl,rfl⟩,⟨rfl,rfl⟩,Q3 (λ_=>h42a _) ?_⟩;simp -implicitDefEqProofs;refine Q3 (λ_=>h42b _) ?_;simp -implicitDefEqProofs;refine Q3 (λ_=>h42c _) ?_;simp -implicitDefEqProofs[hs];refine Qf (h44 _) ?_;simp -implicitDefEqProofs[hor];refine Q3 (λ_=>h45 _) ?_;simp -implicitDefEqProofs;refine Q3 (λ_=>h40 _) ?_;simp -implicitDefEqProofs[Qr.sv];exact⟨⟨rfl,rfl⟩,Qg 3 hcl rfl (Qao (by simp[SV.under,SV.underL,QaK]))⟩
theorem ok81 {p q:Qr} (hp:p.few) (hq:q.few):Ok Tryz.prog 81 [p.sv,q.sv] H (.ret (i64 (p.ord q))) H:=by
 refine Ql hm' Tryz.func81 c81 (by simp[Qr.sv,QaK]) λhcl => ?_;have h22:=λH=>QvT (H:=H) q;have hqm:q.mi.few:=hq;have h21:=λH=>ok82 (H:=H) hp hqm;have eo:p.ord q=if(p.plus q.mi).n=0 then 0 else if(p.plus q.mi).neg=true then -1 else 1:=rfl;generalize q.mi=qm at *;generalize p.plus qm=r at *;have hz:=Qhf (n:=r.n);have hsl:(nS r.n).ug.slen=(lim r.n).length:=rfl;simp only[Qr.sv]at h22 h21;simp -implicitDefEqProofs[i81,r81,Qr.sv];refine⟨⟨rfl,rfl⟩,⟨rfl,rfl⟩,Q3 (λ_=>h22 _) ?_⟩;simp -implicitDefEqProofs;refine Q3 (λ_=>h21 _) ?_;simp -implicitDefEqProofs;refine⟨⟨⟨rfl,h21 _⟩,⟨rfl,h22 _⟩⟩,⟨rfl,rfl⟩,⟨rfl,rfl⟩,?_⟩;rw[hsl,eo];by_cases h0:r.n=0
 . rw[Wb (hz.2 h0),Wb h0];exact Qg 1 hcl rfl (Qcd _ _ _ _ _)
 . rw[Wa (λh=>h0 (hz.1 h)),Wa h0];by_cases h1:r.neg=true
   . rw[Wb h1,Wb h1];exact Qg 1 hcl rfl (Qcd _ _ _ _ _)
   . rw[Wa h1,Wa h1];exact Qg 1 hcl rfl (Qcd _ _ _ _ _)
end
theorem Qra {k m n:Nat} (hm:m % 2=1) (hn:n=2 ^ k*m) (h:n<18446744073709551616):n &&& (18446744073709551616-n)=2 ^ k:=by
 have h0:0<n:=by
  rw[hn];exact Zd (YJ (by decide)) (by omega)
 obtain⟨x,hx⟩:∃ x,n=x+1:=⟨n-1,by omega⟩;have e64:(18446744073709551616:Nat)=2 ^ 64:=by decide
 apply Nat.eq_of_testBit_eq;intro i;rw[Nat.testBit_and,Nat.testBit_two_pow];have hb:(18446744073709551616-n).testBit i=(decide (i<64) && !x.testBit i):=by
  rw[e64,hx];exact Nat.testBit_two_pow_sub_succ (by omega) i
 rw[hb];have hk64:k<64:=by
  apply Zs;intro hk;have h1:2 ^ 64<=2 ^ k:=YK (by decide) hk;have h2:2 ^ k*1<=2 ^ k*m:=YA _ (by omega);omega
 have hxe:x=2 ^ k*(m-1)+(2 ^ k-1):=by
  have hp:0<2 ^ k:=YJ (by decide);have:2 ^ k*m=2 ^ k*(m-1)+2 ^ k:=by
   conv=>lhs; rw[show m=(m-1)+1 by omega]
   rw[Ys,Ye]
  omega
 have hp1:2 ^ k-1<2 ^ k:=by have:0<2 ^ k:=YJ (by decide); omega
 have bx:x.testBit i=if i<k then true else(m-1).testBit (i-k):=by
  rw[hxe,Nat.testBit_two_pow_mul_add _ hp1];by_cases hik:i<k
  . rw[Wb hik,Wb hik,Nat.testBit_two_pow_sub_one]; simpa using hik
  . rw[Wa hik,Wa hik]
 have bn:n.testBit i=(decide (k<=i)&&m.testBit (i-k)):=by
  rw[hn,Nat.testBit_two_pow_mul]
 rw[bx,bn];by_cases hik:i<k
 . rw[Wb hik]; simp; omega
 . rw[Wa hik];by_cases e:k=i
   . subst e;have b0:m.testBit 0=true:=by rw[Zy,hm]; rfl
     have b1:(m-1).testBit 0=false:=by rw[Zy]; simp; omega
     simp[b0,b1,hk64]
   . have e2:m.testBit (i-k)=(m-1).testBit (i-k):=by
      obtain⟨j,hj⟩:∃ j,i-k=j+1:=⟨i-k-1,by omega⟩;rw[hj,Nat.testBit_succ,Nat.testBit_succ];congr 1; omega
     rw[e2]
     cases (m-1).testBit (i-k)<;>simp[e]
theorem ofN {a:Nat} (ha:a<18446744073709551616):(BitVec.ofInt 64 (a:Int)).toNat=a:=by
 rw[BitVec.ofInt_natCast,BitVec.toNat_ofNat];exact YU ha
theorem andN {a b:Nat} (ha:a<18446744073709551616) (hb:b<18446744073709551616):Qcz .and .u64 (a:Int) (b:Int)=((a &&& b:Nat):Int):=by
 show IntKind.u64.wrap (((BitVec.ofInt 64 (a:Int)) &&& (BitVec.ofInt 64 (b:Int))).toNat:Int)=_;rw[BitVec.toNat_and,ofN ha,ofN hb];exact Q0 (Nat.lt_of_le_of_lt Nat.and_le_left ha)
theorem orN {a b:Nat} (ha:a<18446744073709551616) (hb:b<18446744073709551616):Qcz .or .u64 (a:Int) (b:Int)=((a ||| b:Nat):Int):=by
 show IntKind.u64.wrap (((BitVec.ofInt 64 (a:Int)) ||| (BitVec.ofInt 64 (b:Int))).toNat:Int)=_;rw[BitVec.toNat_or,ofN ha,ofN hb];exact Q0 (Nat.or_lt_two_pow (n:=64) ha hb)
def QeD (k:Nat):Int:=(IntKind.u64.wrap (((2 ^ k:Nat):Int)*285870213051353865)).fdiv (2 ^ min 58 IntKind.u64.bits)
theorem Qvj:((List.range 64).all λk=>decide (0<=QeD k)&&(decide (QeD k<64)&&(QfK[(QeD k).toNat]? == some (k:Int))))=true:=by kernel_rfl
section
variable {H:Ws}
theorem QkL {k m n:Nat} (hm:m % 2=1) (hn:n=2 ^ k*m) (h:n<18446744073709551616):Ok Tryz.prog 143 [.val (.int .u64 (n:Nat))] H (.ret (i64 k)) H:=by
 refine Ql hm' Tryz.func143 c143 (by simp[SV.under]) λhcl => ?_;have h0:¬ n=0:=by
  intro e;rw[hn]at e;rcases ZO.1 e with e|e
  . have:=YJ (n:=k) (show 0<2 by decide); omega
  . omega
 have hk64:k<64:=by
  apply Zs;intro hk;have h1:2 ^ 64<=2 ^ k:=YK (by decide) hk;have h2:2 ^ k*1<=2 ^ k*m:=YA _ (by omega);omega
 have wn:IntKind.u64.wrap (-(n:Int))=((18446744073709551616-n:Nat):Int):=by
  show(-(n:Int)) % 18446744073709551616=_;omega
 have hlb:Qcz BinOp.and IntKind.u64 (n:Int) ((18446744073709551616-n:Nat):Int)=((2 ^ k:Nat):Int):=by
  have h2:=andN (a:=n) (b:=18446744073709551616-n) h (by omega);have h3:=Qra hm hn h;generalize 18446744073709551616-n=c at h2 h3 ⊢;rw[h3]at h2;exact h2
 have hbr:=Vy.1 Qvj k (VJ.2 hk64);simp only[Va,Wd,Wc]at hbr;obtain⟨b1,b2,b3⟩:=hbr;have eb:(IntKind.u64.wrap (((2 ^ k:Nat):Int)*285870213051353865)).fdiv (2 ^ min 58 IntKind.u64.bits)=QeD k:=rfl;have hg:gv0[(QeD k).toNat]?.getD .any=.val (.int .u8 (k:Int)):=by
  unfold gv0;rw[Vn,b3]; rfl
 have hgl:gv0.length=64:=rfl;have wk:IntKind.i64.wrap (k:Int)=k:=Qck (by omega);obtain⟨P,hP⟩:∃ P,P=2 ^ k:=⟨_,rfl⟩;rw[<-hP]at hlb eb;generalize QeD k=j at *;simp -implicitDefEqProofs[i143,r143,h0,wn,hlb,eb,hg,hgl,wk];have hj:1<=64-j.toNat:=by
  clear eb hlb wn hn hP;omega
 exact⟨⟨b1,b2⟩,hj,Qn⟩
end
theorem Qlo:∀ n:Nat,0<n->∃ k m,n=2 ^ k*m/\m % 2=1:=by
 intro n
 induction n using Nat.strongRecOn with
 |ind n ih =>
  intro h;by_cases hm:n % 2=1
  . exact⟨0,n,by simp,hm⟩
  . obtain⟨k,m,h1,h2⟩:=ih (n / 2) (by omega) (by omega);refine⟨k+1,m,?_,h2⟩;rw[V6,VF (2 ^ k) 2,Yj,<- h1];omega
theorem Qis {k m x:Nat} (hx:x % 2=1):Nat.gcd (2 ^ k*m) x=Nat.gcd m x:=by
 have h2:Nat.Coprime 2 x:=by
  unfold Nat.Coprime;rw[Nat.gcd_rec,hx]; rfl
 exact Nat.Coprime.gcd_mul_left_cancel m (h2.pow_left k)
theorem QlY (s u v:Nat):(2 ^ s*u) ||| (2 ^ s*v)=2 ^ s*(u ||| v):=by
 rw[VF (2 ^ s) u,VF (2 ^ s) v,VF (2 ^ s) (u ||| v),<- Nat.shiftLeft_eq,<- Nat.shiftLeft_eq,<- Nat.shiftLeft_eq,Nat.shiftLeft_or_distrib]
theorem Qpd {u v:Nat} (h:u % 2=1\/v % 2=1):(u ||| v) % 2=1:=by
 have hb:(u ||| v).testBit 0=true:=by
  rw[Nat.testBit_or,Zy,Zy];rcases h with h|h<;>simp[h]
 rw[Zy]at hb;simpa using hb
theorem QvJ {i j m n:Nat} (hm:m % 2=1) (hn:n % 2=1):Nat.gcd (2 ^ i*m) (2 ^ j*n)=2 ^ min i j*Nat.gcd m n/\∃ w,(2 ^ i*m) ||| (2 ^ j*n)=2 ^ min i j*w/\w % 2=1:=by
 rcases Nat.le_total i j with h|h
 . rw[Y8 h];obtain⟨d,rfl⟩:∃ d,j=i+d:=⟨j-i,by omega⟩;rw[Zv,Yj,Zz,Yv m,Qis hm,Yv n];exact⟨rfl,_,QlY i m _,Qpd (.inl hm)⟩
 . rw[Nat.min_eq_right h];obtain⟨d,rfl⟩:∃ d,i=j+d:=⟨i-j,by omega⟩;rw[Zv,Yj,Zz,Qis hn];exact⟨rfl,_,QlY j _ n,Qpd (.inr hn)⟩
theorem QkO {k m n:Nat} (hm:m % 2=1) (hn:n=2 ^ k*m) (h:n<18446744073709551616):k<64:=by
 apply Zs;intro hk;have h1:2 ^ 64<=2 ^ k:=YK (by decide) hk;have h2:2 ^ k*1<=2 ^ k*m:=YA _ (by omega);omega
theorem QmT {k m b:Nat} (hb:b=2 ^ k*m) (hk:k<64):((b:Nat):Int).fdiv (2 ^ min k IntKind.u64.bits)=(m:Int):=by
 have e:min k IntKind.u64.bits=k:=Y8 (show k<=64 by omega);have e2:(2:Int) ^ k=((2 ^ k:Nat):Int):=by simp
 rw[e,e2,Int.fdiv_eq_ediv_of_nonneg _ (Int.natCast_nonneg _),<- Int.natCast_ediv,hb,Nat.mul_div_cancel_left _ (YJ (by decide))]
def u64 (n:Nat):SV:=.val (.int .u64 n)
section
variable {H:Ws}
set_option maxRecDepth 10000 in
theorem Qqf {G:Nat} {x5:SV} {N:Nat} {K:Wr} (hexit:∀ env,env.get 0=u64 G->env.get 5=x5->K (.exit 0) env H) :
 ∀ (f a b:Nat) (env:Env),a+b<=f->a % 2=1->a<18446744073709551616->b<18446744073709551616->Nat.gcd b a=G->env.get 0=u64 a->env.get 1=u64 b->env.get 5=x5->LI Tryz.prog N Qb Qlh env H K:=by
 intro f
 induction f with
 |zero=>intro a b env h ha; omega
 |succ f ih =>
  intro a b env hf ha hal hbl hG h0 h1 h5;refine Qc hm' Qlh.eq_1 ?_;by_cases hb:b=0
  . subst hb;rw[Nat.gcd_zero_left]at hG;subst hG;simp -implicitDefEqProofs[h0,h1,h5,u64];exact hexit _ (by simp[h0,u64]) (by simp[h5])
  . obtain⟨k,m,hk,hm⟩:=Qlo b (by omega);have h143:=λH=>QkL (H:=H) (k:=k) (m:=m) (n:=b) hm hk hbl;simp only[u64]at h0 h1;simp -implicitDefEqProofs[h0,h1,h5,hb];refine Qf (h143 _) ?_;simp -implicitDefEqProofs[h0,h1,h5,hb];have hk64:=QkO hm hk hbl;rw[QmT hk hk64];have hmb:m<=b:=by
     rw[hk];exact Nat.le_mul_of_pos_left m (YJ (by decide))
    have hGm:Nat.gcd m a=G:=by rw[<-hG,hk,Qis ha]
    clear hk h143;by_cases hlt:m<a
    . have w:IntKind.u64.wrap ((a:Int)-(m:Int))=((a-m:Nat):Int):=by rw[show(a:Int)-(m:Int)=((a-m:Nat):Int)by omega,Q0 (by omega)]
      rw[Wb (show(m:Int)<(a:Int)by omega),w];refine ih m (a-m) _ (by omega) hm (by omega) (by omega) ?_ ?_ ?_ ?_
      . rw[<-hGm,Yv (a-m) m,Yv m a,Yv a m];exact Nat.gcd_sub_self_right (by omega)
      . simp[u64]
      . simp[u64]
      . simp
    . have w:IntKind.u64.wrap ((m:Int)-(a:Int))=((m-a:Nat):Int):=by rw[show(m:Int)-(a:Int)=((m-a:Nat):Int)by omega,Q0 (by omega)]
      rw[Wa (show ¬ (m:Int)<(a:Int)by omega),w];refine ih a (m-a) _ (by omega) ha (by omega) (by omega) ?_ ?_ ?_ ?_
      . rw[<-hGm,Yv (m-a) a,Yv m a];exact Nat.gcd_sub_self_right (by omega)
      . simp[u64]
      . simp[u64]
      . simp
theorem Qrs {a b:Nat} (ha:0<a) (hb:0<b) (hal:a<18446744073709551616) (hbl:b<18446744073709551616):Ok Tryz.prog 120 [u64 a,u64 b] H (.ret (u64 (Nat.gcd a b))) H:=by
 refine Ql hm' Tryz.func120 c120 (by simp[SV.under,u64]) λhcl => ?_;obtain⟨i,m,hi,hm⟩:=Qlo a ha;obtain⟨j,n,hj,hn⟩:=Qlo b hb;obtain⟨hg,w,hw,hwo⟩:=QvJ (i:=i) (j:=j) hm hn;rw[<-hi,<- hj]at hg hw;have hor:a ||| b<18446744073709551616:=Nat.or_lt_two_pow (n:=64) hal hbl;have hob:=orN hal hbl;have h143o:=λH=>QkL (H:=H) (k:=min i j) (m:=w) (n:=a ||| b) hwo hw hor;have h143a:=λH=>QkL (H:=H) (k:=i) (m:=m) (n:=a) hm hi hal;have hsh:=QmT hi (QkO hm hi hal);have hml:m<=a:=by
  rw[hi];exact Nat.le_mul_of_pos_left m (YJ (by decide))
 have hgm:Nat.gcd b m=Nat.gcd m n:=by rw[hj,Qis hm,Yv]
 have hgl:Nat.gcd a b<18446744073709551616:=Nat.lt_of_le_of_lt (Nat.gcd_le_left b ha) hal;have hij:min i j<64:=QkO hwo hw hor;have ha0:¬ a=0:=by omega
 have hb0:¬ b=0:=by omega
 generalize min i j=s at *;generalize a ||| b=o at *;clear hi hj hw;simp -implicitDefEqProofs[i120,r120,u64,ha0,hb0,hob];refine Qf (h143o _) ?_;simp -implicitDefEqProofs;refine Qf (h143a _) ?_;simp -implicitDefEqProofs[hsh];refine Qqf (G:=Nat.gcd m n) (x5:=i64 s) (λenv g0 g5 => ?_) (m+b) m b _ (Vc _) hm (by omega) hbl hgm ?_ ?_ ?_
 . simp only[u64]at g0;simp -implicitDefEqProofs[g0,g5];have e:min s IntKind.u64.bits=s:=Y8 (show s<=64 by omega);have e3:((Nat.gcd m n:Nat):Int)*2 ^ min s IntKind.u64.bits=((Nat.gcd a b:Nat):Int):=by
    rw[e,hg,Int.natCast_mul,Zu];simp
   rw[e3,Q0 hgl];exact Qn
 . simp[u64]
 . simp[u64]
 . simp
end
section
variable {H:Ws}
set_option maxRecDepth 10000 in
theorem Qs8 {z:List Nat} (hz:z.length<1000000) {N:Nat} {K:Wr}
 (hexit:∀ env G,env.get 3=.own H.length 0 z.length 1 z.length->K (.exit 0) env (H++⟨us z,114,z.length,true⟩::G)) :
 ∀ (m n:Nat) (p:List Nat) (env:Env) (G:Ws),p.length+m=z.length->n<18446744073709551616->p++lim n=z->env.get 0=u64 n->env.get 3=.own H.length 0 p.length 1 p.length ->
  LI Tryz.prog N Qb Qg8 env (H++⟨us p,114,p.length,true⟩::G) K:=by
 have hB:B=1000000000:=rfl;intro m
 induction m with
 |zero =>
  intro n p env G hm hn hp h0 h3;refine Qc hm' Qg8.eq_1 ?_;have hl:=Wj List.length hp;simp only[Vt]at hl;have h1:lim n=[]:=Vx (by omega);have h2:=Qdt.1 h1;subst h2;rw[h1,VV]at hp;subst hp;simp only[u64]at h0;simp -implicitDefEqProofs[h0,h3];exact hexit _ G (by simp[h3])
 |succ m ih =>
  intro n p env G hm hn hp h0 h3;refine Qc hm' Qg8.eq_1 ?_;have hl:=Wj List.length hp;simp only[Vt]at hl;have hne:n≠0:=by
   intro e;rw[e,Q8]at hl;simp at hl;omega
  rw[QaQ hne]at hp;obtain⟨q,hq⟩:∃ q,q=n / B:=⟨_,rfl⟩;obtain⟨r,hr⟩:∃ r,r=n % B:=⟨_,rfl⟩;have td:((n:Nat):Int).tdiv 1000000000=(q:Int):=by rw[hq,hB]; rfl
  have tm:((n:Nat):Int).tmod 1000000000=(r:Int):=by rw[hr,hB]; rfl
  have hrB:r<B:=by rw[hr]; exact Yr _ Qda
  have hqn:q<=n:=by rw[hq]; exact YL _ _
  have wq:=Q0 (n:=q) (by omega);have wr:=QaW (n:=r) (by omega);have e:us p++[.val (.int .u32 (r:Int))]=us (p++[r]):=by simp[us,u32]
  have hih:=ih q (p++[r]);have hpl:(p++[r]).length=p.length+1:=by simp
  rw[hpl,<- e]at hih;rw[<-hq,<- hr]at hp;have hn0:0<n:=by omega
  simp only[u64]at h0;simp -implicitDefEqProofs[h0,h3,hn0,hne,td,tm,wq,wr,QP];refine⟨⟨rfl,rfl,rfl⟩,rfl,?_⟩;repeat (refine⟨by omega,?_⟩)
  refine hih _ _ (by omega) (by omega) ?_ ?_ ?_
  . rw[VC,Zm];exact hp
  . simp[u64]
  . simp
theorem QgU {n:Nat} (hn:n<18446744073709551616):Ok Tryz.prog 62 [u64 n] H (.ret (nS n)) H:=by
 refine Ql hm' Tryz.func62 c62 (by simp[u64,SV.under]) λhcl => ?_;have hz:(lim n).length<=3:=Qb4 (by
  have:B ^ 3=1000000000000000000000000000:=by decide
  omega)
 simp -implicitDefEqProofs[i62,r62];refine Qs8 (H:=H) (z:=lim n) (by omega) (λenv G h3 => ?_) (lim n).length n [] _ [] (by simp) hn (by simp) (by simp) (by simp);simp -implicitDefEqProofs[h3];refine Qg 2 hcl rfl ?_;simp[nS,QP,Qc5,QbE];exact VB (by rw[QP]; omega)
theorem ok63 {n:Int} (hn : -9223372036854775808<=n/\n<=9223372036854775807):Ok Tryz.prog 63 [i64 n] H (.ret (u64 n.natAbs)) H:=by
 refine Ql hm' Tryz.func63 c63 (by simp) λhcl => ?_;by_cases h:n<0
 . have w1:IntKind.u64.wrap n=((18446744073709551616-n.natAbs:Nat):Int):=by
    show n % 18446744073709551616=_;omega
   have w2:IntKind.u64.wrap (-((18446744073709551616-n.natAbs:Nat):Int))=((n.natAbs:Nat):Int):=by
    show(-((18446744073709551616-n.natAbs:Nat):Int)) % 18446744073709551616=_;omega
   generalize (18446744073709551616-n.natAbs:Nat)=c at *;simp -implicitDefEqProofs[i63,r63,h,w1,w2,u64];exact Qn
 . have w1:IntKind.u64.wrap n=((n.natAbs:Nat):Int):=by
    show n % 18446744073709551616=_;omega
   simp -implicitDefEqProofs[i63,r63,h,w1,u64];exact Qn
set_option maxRecDepth 10000 in
theorem QqL {n:Nat} (hn:n<18446744073709551616) (hl:(lim n).length<1000) {N:Nat} {K:Wr} (hexit:∀ env,env.get 3=u64 n->K (.exit 0) env H) :
 ∀ (k:Nat) (env:Env),k<=(lim n).length->env.get 0=nS n->env.get 3=u64 (n / B ^ k)->env.get 4=i64 ((k:Int)-1)->LI Tryz.prog N Qb Qhm env H K:=by
 have hB:B=1000000000:=rfl;intro k
 induction k with
 |zero =>
  intro env hk h0 h3 h4;refine Qc hm' Qhm.eq_1 ?_;simp only[Nat.pow_zero,Nat.div_one]at h3;simp -implicitDefEqProofs[h0,h3,h4];exact hexit _ (by simp[h3])
 |succ k ih =>
  intro env hk h0 h3 h4;refine Qc hm' Qhm.eq_1 ?_;have hkl:k<(lim n).length:=by omega
  have ej:((k+1:Nat):Int)-1=k:=by omega
  rw[ej]at h4;have w1:IntKind.i64.wrap ((k:Int)-1)=(k:Int)-1:=Qj (by omega) (by omega);have g:(us (lim n))[k]?.getD .any=.val (.int .u32 (lim n)[k]):=QaX hkl;have g':∀ h,(us (lim n))[k]'h=.val (.int .u32 (lim n)[k]):=λh=>QbI hkl h;have dj:=QaO n _ (Vf hkl);have hs:n / B ^ k=(n / B ^ (k+1))*B+(lim n)[k]:=by
   rw[Qfv hkl,V6,<- Zb];have:=Zw (n / B ^ k) B;rw[VF]at this;exact this.symm
  have hle:n / B ^ k<=n:=YL _ _;obtain⟨u,hu⟩:∃ u,u=n / B ^ (k+1):=⟨_,rfl⟩;obtain⟨t,ht⟩:∃ t,t=n / B ^ k:=⟨_,rfl⟩;obtain⟨p,hp⟩:∃ p,p=u*B:=⟨_,rfl⟩;rw[<-hu,<- ht,<- hp]at hs;rw[<-hu]at h3;have wp:IntKind.u64.wrap ((u:Int)*1000000000)=(p:Int):=by
   rw[show(u:Int)*1000000000=((p:Nat):Int)by rw[hp,hB]; simp,Q0 (by omega)]
  have wr:=Q0 (n:=(lim n)[k]) (by omega);have wt:IntKind.u64.wrap ((p:Int)+((lim n)[k]:Nat))=(t:Int):=by
   rw[show(p:Int)+((lim n)[k]:Nat)=((t:Nat):Int)by omega,Q0 (by omega)]
  have hih:=ih;rw[<-ht]at hih;simp only[nS,u64]at h0 h3 hih;simp -implicitDefEqProofs[h0,h3,h4,hkl,QP,g,g',wp,wr,wt];repeat (refine⟨by omega,?_⟩)
  refine hih _ (by omega) ?_ ?_ ?_
  . simp
  . simp
  . simp[w1]
theorem ok92 {n:Nat} (hn:n<18446744073709551616):Ok Tryz.prog 92 [nS n] H (.ret (u64 n)) H:=by
 refine Ql hm' Tryz.func92 c92 (by simp[QaK]) λhcl => ?_;have hz:(lim n).length<=3:=Qb4 (by
  have:B ^ 3=1000000000000000000000000000:=by decide
  omega)
 have w1:IntKind.i64.wrap (((lim n).length:Int)-1)=((lim n).length:Int)-1:=Qj (by omega) (by omega);have hz0:n / B ^ (lim n).length=0:=YI (Qb5 n);simp -implicitDefEqProofs[i92,r92,nS,w1];refine QqL (n:=n) hn (by omega) (λenv h3 => ?_) (lim n).length _ (Vc _) (by simp[nS]) (by rw[hz0]; simp[u64]) (by simp);simp -implicitDefEqProofs[h3];exact Qn
end
section
variable {H:Ws}
theorem QrD:lim 1=[1]:=by rw[QaQ (by decide),show 1 % B=1 by decide,show 1 / B=0 by decide,Q8]
theorem Qkm:nS 1=.slc [.val (.int .u32 1)] 1:=by rw[nS,QrD]; rfl
theorem QkI:nS 0=.slc [] 0:=by rw[nS,Q8]; rfl
theorem QqD:Ok Tryz.prog 119 [] H (.ret (nS 1)) H:=by
 refine Ql hm' Tryz.func119 c119 (by simp) λhcl => ?_;simp -implicitDefEqProofs[i119,r119];refine⟨⟨rfl,rfl,rfl⟩,rfl,?_⟩;refine Qg 2 hcl rfl ?_;rw[Qkm];simp[QX]
theorem ok90:Ok Tryz.prog 90 [] H (.ret (⟨false,0,1⟩:Qr).sv) H:=by
 refine Ql hm' Tryz.func90 c90 (by simp) λhcl => ?_;have h119:=λH=>QqD (H:=H);simp only[Qkm]at h119;simp -implicitDefEqProofs[i90,r90];refine Qf (h119 _) ?_;simp -implicitDefEqProofs;refine⟨rfl,?_⟩;refine Cv.le (r:=.agg [bl false,nl,.slc [.val (.int .u32 1)] 1]) (Qg 3 hcl rfl (Qao (by simp[SV.under,SV.underL]))) ?_;simp only[Qr.sv,QkI,Qkm];exact Qff (leL.cons (SV.le.refl _) (leL.cons QcV (leL.refl _)))
theorem ok91 {neg:Bool} {x y:Nat} (hx:0<x) (hy:0<y) (hxl:x<18446744073709551616) (hyl:y<18446744073709551616):Ok Tryz.prog 91 [bl neg,u64 x,u64 y] H (.ret (low neg x y).sv) H:=by
 refine Ql hm' Tryz.func91 c91 (by simp[u64,SV.under]) λhcl => ?_;have h120:=λH=>Qrs (H:=H) hx hy hxl hyl;have hg:0<Nat.gcd x y:=Nat.gcd_pos_of_pos_left _ hx;have e:low neg x y=⟨neg,x / Nat.gcd x y,y / Nat.gcd x y⟩:=by
  have:x≠0:=by omega
  simp[low,this]
 rw[e];have hxq:x / Nat.gcd x y<=x:=YL _ _;have hyq:y / Nat.gcd x y<=y:=YL _ _;obtain⟨p,hp⟩:∃ p,p=x / Nat.gcd x y:=⟨_,rfl⟩;obtain⟨q,hq⟩:∃ q,q=y / Nat.gcd x y:=⟨_,rfl⟩;have t1:((x:Nat):Int).tdiv ((Nat.gcd x y:Nat):Int)=(p:Int):=by rw[hp]; rfl
 have t2:((y:Nat):Int).tdiv ((Nat.gcd x y:Nat):Int)=(q:Int):=by rw[hq]; rfl
 rw[<-hp]at hxq ⊢;rw[<-hq]at hyq ⊢;have wp:=Q0 (n:=p) (by omega);have wq:=Q0 (n:=q) (by omega);have h62p:=λH=>QgU (H:=H) (n:=p) (by omega);have h62q:=λH=>QgU (H:=H) (n:=q) (by omega);generalize Nat.gcd x y=g at *;have hgz:¬ g=0:=by omega
 simp only[u64,nS]at h120 h62p h62q;simp -implicitDefEqProofs[i91,r91,u64];refine Qf (h120 _) ?_;simp -implicitDefEqProofs[t1,t2,wp,wq,hgz];refine Q3 (λ_=>h62p _) ?_;simp -implicitDefEqProofs[t1,t2,wp,wq,hgz];refine Q3 (λ_=>h62q _) ?_;simp -implicitDefEqProofs[t1,t2,wp,wq,hgz];exact Qg 3 hcl rfl (Qao (by simp[SV.under,SV.underL,QbE]))
theorem QfE {n:Nat} (h:n<1000000000000000000):(lim n).length<=2:=Qb4 (by
 have:B ^ 2=1000000000000000000:=by decide
 omega)
theorem ok61 {neg:Bool} {x y:Nat} (hy:0<y) (hxl:x<1000000000000000000) (hyl:y<1000000000000000000):Ok Tryz.prog 61 [bl neg,nS x,nS y] H (.ret (low neg x y).sv) H:=by
 refine Ql hm' Tryz.func61 c61 (by simp[QaK]) λhcl => ?_;have lx:=QfE hxl;have ly:=QfE hyl;by_cases h0:x=0
 . subst h0;have e:low neg 0 y=⟨false,0,1⟩:=by
    have hd:y / y=1:=Nat.div_self hy;simp[low,hd]
   rw[e];have h90:=λH=>ok90 (H:=H);simp only[Qr.sv]at h90 ⊢;simp -implicitDefEqProofs[i61,r61,QkI];refine Qf (h90 _) ?_;simp -implicitDefEqProofs;refine⟨⟨rfl,rfl⟩,?_⟩;rw[<-QkI];exact Qg 3 hcl rfl (Qao (by simp[SV.under,SV.underL,QaK]))
 . have hl:¬ (lim x).length=0:=λe=>h0 (Qhf.1 e);have h92x:=λH=>ok92 (H:=H) (n:=x) (by omega);have h92y:=λH=>ok92 (H:=H) (n:=y) (by omega);have h91:=λH=>ok91 (H:=H) (neg:=neg) (x:=x) (y:=y) (by omega) hy (by omega) (by omega);generalize low neg x y=q at *;simp only[nS]at h92x h92y;simp only[Qr.sv]at h91 ⊢;simp -implicitDefEqProofs[i61,r61,nS,hl,show((lim x).length:Int)<=2 by omega,show((lim y).length:Int)<=2 by omega];refine Qf (h92x _) ?_;simp -implicitDefEqProofs;refine Qf (h92y _) ?_;simp -implicitDefEqProofs;refine Qf (h91 _) ?_;simp -implicitDefEqProofs;refine⟨⟨rfl,rfl⟩,?_⟩;exact Qg 3 hcl rfl (Qao (by simp[SV.under,SV.underL,QaK]))
theorem ok36 {x y:Int} (hy:y≠0) (hxl:x.natAbs<1000000000000000000) (hyl:y.natAbs<1000000000000000000):Ok Tryz.prog 36 [i64 x,i64 y] H (.ret (.tup [Qkl x y,i64 0])) H:=by
 refine Ql hm' Tryz.func36 c36 (by simp) λhcl => ?_;have h63x:=λH=>ok63 (H:=H) (n:=x) (by omega);have h63y:=λH=>ok63 (H:=H) (n:=y) (by omega);have h62x:=λH=>QgU (H:=H) (n:=x.natAbs) (by omega);have h62y:=λH=>QgU (H:=H) (n:=y.natAbs) (by omega);have h61:=λH=>ok61 (H:=H) (neg:=decide (x<0) != decide (y<0)) (x:=x.natAbs) (y:=y.natAbs) (by omega) hxl hyl;have e:Qkl x y=(low (decide (x<0) != decide (y<0)) x.natAbs y.natAbs).sv:=rfl;rw[e];generalize low (decide (x<0) != decide (y<0)) x.natAbs y.natAbs=q at *;simp only[Qr.sv]at h61 ⊢;simp -implicitDefEqProofs[i36,r36,hy];refine Qf (h63x _) ?_;simp -implicitDefEqProofs;refine Qf (h62x _) ?_;simp -implicitDefEqProofs;refine Qf (h63y _) ?_;simp -implicitDefEqProofs;refine Qf (h62y _) ?_;simp -implicitDefEqProofs;refine Qf (h61 _) ?_;simp -implicitDefEqProofs;refine⟨⟨rfl,rfl⟩,?_⟩;exact Qg 4 hcl rfl (Qao (by simp[SV.under,SV.underL,QaK]))
end
end Go.Proofs.YtogjmpkehjfecaaGreatDoor.Rc
namespace Go.Proofs.YtogjmpkehjfecaaGreatDoor.Rc
open Go.Ab Go.Ab.Shr
structure QcI (g:Gm) (own:Bool) (M:List Int) (S:Nat->List Int) (R:List Int):Prop where
 z:∀ q:Nat,(q:Int)<g.pl->R.getD q 0=1073741824
 eq:∀ i k q:Nat,∀ h:i<g.ns.length,k<g.ns[i].nx.length->(q:Int)<g.pl->R.getD ((g.ns[i].nx.getD k 0).toNat*4+q) 0=QN g own S M R i k q
 m:∀ i (h:i<g.ns.length),g.ns[i].k=1->M.getD i 0=Qby g.ns[i].ws/\0<M.getD i 0
def Dn (g:Gm) (R:List Int) (p i:Nat) (f:Nat->Int):Prop:=∀ j,j<g.ns.length->gi g.wk.2.P j<i->f j=R.getD (j*4+p) 0
theorem Dn.put {g:Gm} {R:List Int} {p i:Nat} {f:Nat->Int} (h:Dn g R p i f) (c:Nat):Dn g R p i (put f c (R.getD (c*4+p) 0)):=λj hj hp=>by
 unfold Shr.put;split
 . rename_i e; rw[e]
 . exact h j hj hp
theorem Dn.at {g:Gm} {R:List Int} {p i:Nat} {f:Nat->Int} (hW:Wg g) (h:Dn g R p i f) (hi:i<g.ns.length):f i=R.getD (i*4+p) 0:=by
 refine h i hi ?_;by_cases e:i=0
 . subst e; rw[hW.wf.p0]; omega
 . obtain⟨q,_,h1,h2,_⟩:=hW.wf.pf i (by omega) hi;omega
end Go.Proofs.YtogjmpkehjfecaaGreatDoor.Rc
