/- Steps of the proof. -/
import Derived.Test.YtogjmpkehjfecaaPart2
set_option linter.all false
namespace Go.Proofs.Ytogjmpkehjfecaa.Rc
open Go.Ab
section
variable {σ:Type}
def abv (g:Gm) (pl:Int) (nb:σ->Nat->Int->Bool) (nx:σ->Nat->Int->σ):Nat->Nat->σ->σ
 |0,_,s=>s
 |f+1,node,s =>
  if gi g.wk.2.P node<0 then s else
   match g.ns[(gi g.wk.2.P node).toNat]? with
   |none=>s
   |some x =>
    if x.k=2/\x.p=pl then
     (if nb s (gi g.wk.2.P node).toNat (Qb8 node x.nx)=true then abv g pl nb nx f (gi g.wk.2.P node).toNat (nx s (gi g.wk.2.P node).toNat (Qb8 node x.nx))else nx s (gi g.wk.2.P node).toNat (Qb8 node x.nx))
    else abv g pl nb nx f (gi g.wk.2.P node).toNat s
variable {g:Gm} {Inv:Nat->Wu->σ->Prop} {vf:SV} {nb:σ->Nat->Int->Bool} {nx:σ->Nat->Int->σ} {pl:Int}
set_option maxRecDepth 10000 in
theorem QpM (hW:Wg g) (hv:vf.vd=true/\vf.ug=vf) (hclo:∀ m G s (k:Nat) (a:Int),k<m->m<g.ns.length->Inv m G s->Qc4 Try.prog vf [i64 k,i64 a] G λout G'=>out=.ret (bl (nb s k a))/\Inv k G' (nx s k a))
 (hbox:∀ m G s o,Inv m G s->Inv m (G++[o]) s) (hdec:∀ m k G s,k<m->Inv m G s->Inv k G s) {N:Nat} {K:Wt} {s0:σ}
 (hret:∀ env m G,Inv m G s0->K .ret env G) (hexit:∀ env m G,Inv m G s0->K (.exit 0) env G) :
 ∀ (f node:Nat) (env:Env) (G:Wu) (s:σ),node<f->node<g.ns.length->Inv node G s->abv g pl nb nx f node s=s0 ->
  env.get 0=g.wp->env.get 1=i64 node->env.get 2=i64 pl->env.get 3=vf->env.get 8=i64 (gi g.wk.2.P node)->LI Try.prog N Qh Qi2 env G K:=by
 have hf:=hW.wf;have hgn:=hW.gd.n;have hlen:g.wk.2.P.length=g.ns.length:=QlC.1;intro f
 induction f with
 |zero=>intro node env G s h; omega
 |succ f ih =>
  intro node env G s hnf hn hI hs e0 e1 e2 e3 e8;refine Qc hm Qi2.eq_1 ?_;unfold abv at hs;by_cases hneg:gi g.wk.2.P node<0
  . rw[Wb hneg]at hs;subst hs;simp -implicitDefEqProofs[e8,show ¬ 0<=gi g.wk.2.P node by omega];exact hexit _ _ _ hI
  . rw[Wa hneg]at hs;have hn0:0<node:=by
     rcases Yp node with h|h
     . subst h; rw[hf.p0]at hneg; omega
     . exact h
    obtain⟨p,hp,k1,k2,k3⟩:=hf.pf node hn0 hn;have k1':(gi g.wk.2.P node).toNat=p:=by omega
    rw[k1',Vb hp]at hs;simp only at hs;rw[k1]at e8;have hnx:g.ns[p].nx.length<=60:=QiI (hW.gd.e _ (Vg hp));by_cases hm':g.ns[p].k=2/\g.ns[p].p=pl
    . rw[Wb hm']at hs;simp -implicitDefEqProofs[e0,e1,e2,e3,e8,Gm.wp,hp,QcH hp,QcE hp,QcI hp,sl,hm'.1,hm'.2,hv.1,hv.2];refine QdK (λ_=>Qlm (IsI.slc _ _) (by omega) (node:Int)) ?_;simp -implicitDefEqProofs;refine Qkf (hclo node _ s p (Qb8 node g.ns[p].nx) k2 hn (hbox _ _ _ _ hI)) (λout G' hP => ?_);obtain⟨rfl,hI'⟩:=hP
      cases hb:nb s p (Qb8 node g.ns[p].nx)with
      |true =>
       rw[hb,Wb rfl]at hs;simp -implicitDefEqProofs[e0,e8,Gm.wp,hp,hlen,sl];refine⟨by omega,?_⟩;rw[QgV (show p<g.wk.2.P.length by omega)];refine ih p _ _ _ (by omega) hp hI' hs ?_ ?_ ?_ ?_ ?_
       . simp[Gm.wp,sl,hlen]
       . simp
       . simp[e2]
       . simp[e3]
       . simp
      |false =>
       rw[hb,Wa (by simp)]at hs;subst hs;simp -implicitDefEqProofs;exact hret _ _ _ hI'
    . rw[Wa hm']at hs;by_cases hk2:g.ns[p].k=2
      . have hpl:¬ g.ns[p].p=pl:=λh=>hm' ⟨hk2,h⟩;simp -implicitDefEqProofs[e0,e1,e2,e3,e8,Gm.wp,hp,QcH hp,QcE hp,QcI hp,sl,hk2,hpl,hv.1,hv.2];refine Qf5 _ _ _ _ ?_;simp -implicitDefEqProofs[e0,e8,Gm.wp,hp,hlen,sl];refine⟨by omega,?_⟩;rw[QgV (show p<g.wk.2.P.length by omega)];refine ih p _ _ _ (by omega) hp (hdec _ _ _ _ k2 (hbox _ _ _ _ hI)) hs ?_ ?_ ?_ ?_ ?_
        . simp[Gm.wp,sl,hlen]
        . simp
        . simp[e2]
        . simp[e3]
        . simp
      . simp -implicitDefEqProofs[e0,e1,e2,e3,e8,Gm.wp,hp,QcH hp,QcE hp,QcI hp,sl,hk2,hv.1,hv.2];refine Qf5 _ _ _ _ ?_;simp -implicitDefEqProofs[e0,e8,Gm.wp,hp,hlen,sl];refine⟨by omega,?_⟩;rw[QgV (show p<g.wk.2.P.length by omega)];refine ih p _ _ _ (by omega) hp (hdec _ _ _ _ k2 (hbox _ _ _ _ hI)) hs ?_ ?_ ?_ ?_ ?_
        . simp[Gm.wp,sl,hlen]
        . simp
        . simp[e2]
        . simp[e3]
        . simp
theorem ok95 (hW:Wg g) (hv:vf.vd=true/\vf.ug=vf) (hclo:∀ m G s (k:Nat) (a:Int),k<m->m<g.ns.length->Inv m G s->Qc4 Try.prog vf [i64 k,i64 a] G λout G'=>out=.ret (bl (nb s k a))/\Inv k G' (nx s k a))
 (hbox:∀ m G s o,Inv m G s->Inv m (G++[o]) s) (hdec:∀ m k G s,k<m->Inv m G s->Inv k G s) {G:Wu} {s:σ} {node:Nat} (hn:node<g.ns.length) (hI:Inv node G s) :
 OkP Try.prog 95 [g.wp,i64 node,i64 pl,vf] G λout G'=>out=.ret (.tup [])/\∃ m,Inv m G' (abv g pl nb nx g.ns.length node s):=by
 have hlen:g.wk.2.P.length=g.ns.length:=QlC.1;refine QaU hm Try.func95 c95 (by simp) λhcl => ?_;simp -implicitDefEqProofs[i95,r95,Gm.wp,sl,hn,hlen];refine⟨by omega,?_⟩;rw[QgV (show node<g.wk.2.P.length by omega)];refine QpM (g:=g) hW hv hclo hbox hdec (s0:=abv g pl nb nx g.ns.length node s) (pl:=pl) (λenv m G' hI' => ?_) (λenv m G' hI' => ?_) g.ns.length node _ _ s hn hn hI rfl (by simp[Gm.wp,sl,hlen]) (by simp) (by simp) (by simp) (by simp)
 . simp -implicitDefEqProofs;exact⟨_,_,⟨rfl,m,hI'⟩,Qn⟩
 . simp -implicitDefEqProofs;exact⟨_,_,⟨rfl,m,hI'⟩,Qn⟩
end
def Qj3 (g:Gm) (H:Wu) (m:Nat) (G:Wu) (l:List (Int×Int)):Prop :=
 l.length+m<=2000/\∃ L c,G=H++⟨[g.wp],123,0,true⟩::⟨[c],142,0,true⟩::L /\
  ((l=[]/\c=nl)\/(l≠[]/\∃ p,c=.own (H.length+(p+1+1)) 0 l.length 2 l.length/\L[p]? = some ⟨Qy l,146,l.length,true⟩))
theorem Qnn:∀ (l:List (Int×Int)) (x:Int×Int),Qy (l++[x])=Qy l++[i64 x.1,i64 x.2]
 |[],x=>rfl
 |y::r,x=>by simp[Qy,Qnn r x]
def QbQ (g:Gm) (k:Nat):Int:=match g.ns[k]? with|some x=>x.i|none=>0
section
variable {H:Wu} {g:Gm}
theorem QiP {l:List Nd} {k:Nat} (h:k<l.length):(nds l)[k*6+2]? = some (i64 l[k].i):=by rw[Qd1 h (by omega)]; rfl
set_option maxRecDepth 10000 in
theorem Qsa {m:Nat} {G:Wu} {l:List (Int×Int)} (hI:Qj3 g H m G l) {k:Nat} (hk:k<g.ns.length) (hkm:k<m) (hn:g.ns.length<=2000) (a:Int) :
 OkP Try.prog 108 [i64 k,i64 a,.ptr (.own (H.length+1) 0 0 0 0) 0,.ptr (.own H.length 0 0 0 0) 0] G λout G'=>out=.ret (bl true)/\Qj3 g H k G' (l++[(QbQ g k,a)]):=by
 have hinf:QbQ g k=g.ns[k].i:=by unfold QbQ; rw[Vb hk]
 rw[hinf];obtain⟨hb,L,c,rfl,hc⟩:=hI;refine QaU hm Try.func108 c108 (by simp) λhcl => ?_;rcases hc with ⟨rfl,rfl⟩|⟨hne,p,rfl,hp⟩
 . simp -implicitDefEqProofs[QjO,Qk3,Gm.wp,sl,hk,QiP hk,QaK];refine⟨by omega,_,_,⟨rfl,by simp at hb ⊢; omega,L++[_,_],_,rfl,.inr ⟨by simp,L.length+1,rfl,?_⟩⟩,Qn⟩;rw[Vf (by omega)]; simp[Qy]
 . simp -implicitDefEqProofs[QjO,Qk3,Gm.wp,sl,hk,QiP hk,QaK,Qk1 hp,Qnk hp,QoV,Qol,Qqo];refine⟨by omega,by omega,by omega,by rw[Qch]; omega,by omega,_,_,⟨rfl,by simp; omega,L.set p _++[_],_,rfl,.inr ⟨by simp,p,by simp,?_⟩⟩,Qn⟩;rw[Vd (by simpa using Qb hp),Vh (Qb hp)];simp[Qnn]
def Qcx (l:List (Int×Int)) (v:Nat):AO:=⟨Qy l,146,v,true⟩
theorem QjQ:∀ (l:List (Int×Int)) (i:Nat) (a b:Int),i<l.length->(Qy l).take (i*2)++i64 a::i64 b::(Qy l).drop (i*2+2)=Qy (l.set i (a,b))
 |[],i,a,b,h=>by simp at h
 |x::r,0,a,b,h=>by simp[Qy]
 |x::r,i+1,a,b,h=>by
  rw[show(i+1)*2=i*2+2 by omega];simp only[Qy,List.take_succ_cons,Zn,Zs,V0];rw[QjQ r i a b (by simpa using h)]
def Rv (l m:List (Int×Int)) (i:Nat):Prop:=m.length=l.length/\∀ t,t<l.length->m[t]? = if t<i\/l.length-1-i<t then l[l.length-1-t]? else l[t]?
theorem Rv.step {l m:List (Int×Int)} {i:Nat} (h:Rv l m i) (hi:i<l.length-1-i) {x y:Int×Int} (hx:m[l.length-1-i]? = some x) (hy:m[i]? = some y):Rv l ((m.set i x).set (l.length-1-i) y) (i+1):=by
 have hlm:=h.1;refine⟨by simpa using h.1,λt ht => ?_⟩;have hx':=h.2 (l.length-1-i) (by omega);have hy':=h.2 i (by omega);rw[Wa (by omega)]at hx' hy';rw[hx]at hx';rw[hy]at hy';by_cases e1:t=l.length-1-i
 . subst e1;rw[Vh (by simp; omega),Wb (by omega),hy'];congr 1; omega
 . rw[Ve (λh=>e1 h.symm)];by_cases e2:t=i
   . subst e2;rw[Vh (by omega),Wb (by omega),hx']
   . rw[Ve (λh=>e2 h.symm),h.2 t ht];by_cases hc:t<i\/l.length-1-i<t
     . rw[Wb hc,Wb (by omega)]
     . rw[Wa hc,Wa (by omega)]
theorem Rv.done {l m:List (Int×Int)} {i:Nat} (h:Rv l m i) (hi:¬ (i:Int)<(l.length:Int)-1-i):m=l.reverse:=by
 have hlm:=h.1;apply Vx;intro t;by_cases ht:t<l.length
 . rw[h.2 t ht,List.getElem?_reverse ht];by_cases hc:t<i\/l.length-1-i<t
   . rw[Wb hc]
   . rw[Wa hc];congr 1; omega
 . rw[Vp (by omega),Vp (by simp; omega)]
theorem Qrc {G:Wu} {q:Nat} (hq:q<G.length) (o:AO) (f:AO->AO):Ab.setObj (G.set q o) q f=G.set q (f o):=by
 rw[QU (o:=o) (Vh hq),Yl]
theorem QiJ {G:Wu} {q:Nat} (hq:q<G.length) (l:List (Int×Int)) (v:Nat):Qd (G.set q (Qcx l v)) q v=Qy l :=
 Qau (o:=Qcx l v) (Vh hq) rfl
set_option maxRecDepth 10000 in
theorem Qsz {G:Wu} {q v:Nat} (hq:q<G.length) {l:List (Int×Int)} (hl:l.length<=2000) {N:Nat} {K:Wt} (hexit:∀ env,K (.exit 0) env (G.set q (Qcx l.reverse v))) :
 ∀ (n i:Nat) (m:List (Int×Int)) (env:Env),l.length<=i+n->i<=l.length->Rv l m i->env.get 0=.own q 0 l.length 2 v->env.get 2=i64 i->env.get 3=i64 ((l.length:Int)-1-i) ->
  LI Try.prog N Qh QfA env (G.set q (Qcx m v)) K:=by
 intro n
 induction n with
 |zero =>
  intro i m env hn hi hR e0 e2 e3;refine Qc hm QfA.eq_1 ?_;have hno:¬ (i:Int)<(l.length:Int)-1-i:=by omega
  simp -implicitDefEqProofs[e0,e2,e3,hno];rw[hR.done hno];exact hexit _
 |succ n ih =>
  intro i m env hn hi hR e0 e2 e3;refine Qc hm QfA.eq_1 ?_;by_cases hlt:(i:Int)<(l.length:Int)-1-i
  . have hlm:=hR.1;have ej:(l.length:Int)-1-i=((l.length-1-i:Nat):Int):=by omega
    have hj:l.length-1-i<m.length:=by omega
    have hi':i<m.length:=by omega
    have w1:IntKind.i64.wrap ((i:Int)+1)=((i+1:Nat):Int):=QaQ (by omega);have w2:IntKind.i64.wrap (((l.length-1-i:Nat):Int)-1)=(l.length:Int)-1-((i+1:Nat):Int):=by rw[Qi (by omega) (by omega)]; omega
    rw[ej]at e3 hlt;have hlt':i<l.length-1-i:=by omega
    simp -implicitDefEqProofs[e0,e2,e3,hlt,hlt',QiJ hq,QbH hj,QbH hi',Qch,show i<l.length by omega,show l.length-1-i<l.length by omega,Qrc hq];have c1:List.take (i*2) (Qcx m v).cells++i64 m[l.length-1-i].1::i64 m[l.length-1-i].2::List.drop (i*2+2) (Qcx m v).cells=Qy (m.set i m[l.length-1-i]):=QjQ m i _ _ hi';rw[c1];have c2:List.take ((l.length-1-i)*2) (Qy (m.set i m[l.length-1-i]))++i64 m[i].1::i64 m[i].2::List.drop ((l.length-1-i)*2+2) (Qy (m.set i m[l.length-1-i]))=Qy ((m.set i m[l.length-1-i]).set (l.length-1-i) m[i]) :=
     QjQ _ _ _ _ (by simpa using hj)
    rw[c2,w1,w2];have c3:Qd (G.set q (Qcx (m.set i m[l.length-1-i]) v)) q v=Qy (m.set i m[l.length-1-i]):=QiJ hq _ v;refine⟨by omega,?_,?_⟩
    . show _<=(Qd (G.set q (Qcx (m.set i m[l.length-1-i]) v)) q v).length;rw[c3,Qch,VK]; omega
    . refine ih (i+1) ((m.set i m[l.length-1-i]).set (l.length-1-i) m[i]) _ (by omega) (by omega) (hR.step hlt' (Vb hj) (Vb hi')) ?_ ?_ ?_
      . simp
      . simp
      . simp
  . simp -implicitDefEqProofs[e0,e2,e3,hlt];rw[hR.done hlt];exact hexit _
theorem Qpo {G:Wu} {q v:Nat} (hq:q<G.length) {l:List (Int×Int)} (hl:l.length<=2000):Ok Try.prog 109 [.own q 0 l.length 2 v] (G.set q (Qcx l v)) (.ret (.tup [])) (G.set q (Qcx l.reverse v)):=by
 refine Qq hm Try.func109 c109 (by simp) λhcl => ?_;have w1:IntKind.i64.wrap ((l.length:Int)-1)=(l.length:Int)-1-((0:Nat):Int):=by rw[Qi (by omega) (by omega)]; omega
 simp -implicitDefEqProofs[Qjk,QkF];rw[w1];refine Qsz hq hl (λenv => ?_) l.length 0 l _ (by omega) (by omega) ⟨rfl,λt ht=>by rw[Wa (by omega)]⟩ (by simp) (by simp) (by simp);simp -implicitDefEqProofs;exact Qn
theorem QrD {G:Wu}:Ok Try.prog 109 [nl] G (.ret (.tup [])) G:=by
 refine Qq hm Try.func109 c109 (by simp) λhcl => ?_;simp -implicitDefEqProofs[Qjk,QkF,show(SV.val (Value.slice none 0 0)).isSl=true by rfl,show(SV.val (Value.slice none 0 0)).slen=0 by rfl,show IntKind.i64.wrap (-1) = -1 by rfl];refine Qc hm QfA.eq_1 ?_;simp -implicitDefEqProofs;exact Qn
end
def wv (l:List (Int×Int)):SV:=if l=[]then nl else .slc (Qy l) l.length
def Gm.up (g:Gm) (node:Nat) (pl:Int):List (Int×Int):=abv g pl (λ_ _ _=>true) (λl k a=>l++[(QbQ g k,a)]) g.ns.length node []
def Gm.way (g:Gm) (node:Nat) (pl:Int):List (Int×Int):=(g.up node pl).reverse
section
variable {H:Wu} {g:Gm}
set_option maxRecDepth 10000 in
theorem Qjr (hW:Wg g) {node:Nat} (hn:node<g.ns.length) (pl:Int):Ok Try.prog 94 [g.wp,i64 node,i64 pl] H (.ret (wv (g.way node pl))) H:=by
 have hgn:=hW.gd.n;refine Qq hm Try.func94 c94 (by simp) λhcl => ?_;have hwp:g.wp.vd=true/\g.wp.ug=g.wp/\g.wp.flat=[g.wp]/\g.wp.isCell=true:=⟨rfl,rfl,rfl,rfl⟩;simp -implicitDefEqProofs[i94,r94,hwp.1,hwp.2.1,hwp.2.2.1,hwp.2.2.2];have h67:=ok95 (g:=g) (σ:=List (Int×Int)) (Inv:=Qj3 g H) (vf:=.fn (.func 108) [] [.ptr (.own (H.length+1) 0 0 0 0) 0,.ptr (.own H.length 0 0 0 0) 0]) (nb:=λ_ _ _=>true) (nx:=λl k a=>l++[(QbQ g k,a)]) (pl:=pl) hW ⟨rfl,rfl⟩
  (λm G s k a hkm hm' hI=>Qjl (by simpa using Qsa hI (by omega) hkm hgn a))
  (λm G s o hI=>by
   obtain⟨hb,L,c,rfl,hc⟩:=hI;refine⟨hb,L++[o],c,by simp,?_⟩;rcases hc with h|⟨h1,p,h2,h3⟩
   . exact .inl h
   . exact .inr ⟨h1,p,h2,by rw[Vd (Qb h3)]; exact h3⟩)
  (λm k G s hkm hI=>⟨by have:=hI.1; omega,hI.2⟩) (G:=H++[⟨[g.wp],123,0,true⟩,⟨[nl],142,0,true⟩]) (s:=[]) (node:=node) hn ⟨by simp; omega,[],nl,rfl,.inl ⟨rfl,rfl⟩⟩
 refine Q6 h67 (λout G' hP => ?_);obtain⟨rfl,m,hb,L,c,rfl,hc⟩:=hP;have hup:abv g pl (λ_ _ _=>true) (λl k a=>l++[(QbQ g k,a)]) g.ns.length node []=g.up node pl:=rfl;rw[hup]at hb hc;rcases hc with ⟨h0,rfl⟩|⟨hne,p,rfl,hp⟩
 . have hw:wv (g.way node pl)=nl:=by unfold wv Gm.way; rw[h0]; rfl
   rw[hw];simp -implicitDefEqProofs;refine Qj QrD ?_;simp -implicitDefEqProofs;exact Ql 2 hcl rfl (by simp)
 . have hw:wv (g.way node pl)=.slc (Qy (g.up node pl).reverse) (g.up node pl).length:=by
    unfold wv Gm.way; rw[Wa (by simpa using hne)]; simp
   rw[hw];simp -implicitDefEqProofs;have hL:L.set p (Qcx (g.up node pl) (g.up node pl).length)=L:=by
    apply Vx;intro i;by_cases h:p=i
    . subst h; rw[Vh (Qb hp),hp]; rfl
    . rw[Ve h]
   have hset:∀ (A B o:AO),(H++A::B::L).set (H.length+(p+1+1)) o=H++A::B::L.set p o:=λA B o=>by simp
   have h71:=Qpo (G:=H++(⟨[g.wp],123,0,true⟩:AO)::⟨[.own (H.length+(p+1+1)) 0 (g.up node pl).length 2 (g.up node pl).length],142,0,true⟩::L) (q:=H.length+(p+1+1)) (v:=(g.up node pl).length) (by have:=Qb hp; simp; omega) (l:=g.up node pl) (by omega);rw[hset,hset,hL]at h71;refine Qj h71 ?_;simp -implicitDefEqProofs;refine Ql 3 hcl rfl ?_;have hpl:=Qb hp;simp[hpl,Qcx,Qch,VT];exact VE (by rw[Qch,List.length_reverse]; omega)
end
theorem QiQ (l:List (Int×Int)):(wv l).vd=true/\(wv l).ug=wv l/\(wv l).isSl=true/\(wv l).slen=l.length/\(wv l).isCell=true/\(wv l).flat=[wv l]:=by
 unfold wv;split
 . rename_i h; subst h; exact⟨rfl,rfl,rfl,rfl,rfl,rfl⟩
 . exact⟨rfl,rfl,rfl,rfl,rfl,rfl⟩
theorem Qln {l:List (Int×Int)} (h:l≠[]):wv l=.slc (Qy l) l.length:=Wa h
section
variable {H:Wu} {g:Gm} {a b:List (Int×Int)}
set_option maxRecDepth 10000 in
theorem Qp4 (hl:a.length<=100000) (hab:a.length=b.length) {N:Nat} {K:Wt}
 (hret:a≠b->∀ env,env.get 4=bl false->K .ret env H) (hexit:a=b->∀ env,K (.exit 0) env H) :
 ∀ (n i:Nat) (env:Env),i+n=a.length->(∀ k (h:k<a.length),k<i->a[k]=b[k]'(by omega))->env.get 0=wv a->env.get 1=wv b->env.get 12=i64 a.length->env.get 13=i64 i ->
  LI Try.prog N Qh Qg9 env H K:=by
 intro n
 induction n with
 |zero =>
  intro i env hi hp h0 h1 h12 h13;refine Qc hm Qg9.eq_1 ?_;have e:i=a.length:=by omega
  subst e;simp -implicitDefEqProofs[h12,h13];exact hexit (List.ext_getElem hab λk h1 h2=>hp k h1 h1) _
 |succ n ih =>
  intro i env hi hp h0 h1 h12 h13;refine Qc hm Qg9.eq_1 ?_;have hlt:i<a.length:=by omega
  have hlt':i<b.length:=by omega
  have ha:a≠[]:=λe=>by subst e; simp at hlt
  have hb:b≠[]:=λe=>by subst e; simp at hlt'
  have w1:IntKind.i64.wrap ((i:Int)+1)=((i+1:Nat):Int):=QaQ (by omega);have f1:=Qln ha; have f2:=Qln hb;simp -implicitDefEqProofs[h0,h1,h12,h13,f1,f2,hlt,hlt',QbH hlt,QbH hlt',Qge hlt,Qfq hlt,Qge hlt',Qfq hlt'];by_cases hc:a[i]=b[i]
  . rw[Wa (by rw[hc]; simp)];rw[w1];refine ih (i+1) _ (by omega) ?_ ?_ ?_ ?_ ?_
    rotate_left
    . simp[f1]
    . simp[f2]
    . simp
    . simp
    intro k hk hki;by_cases e:k=i
    . subst e; exact hc
    . exact hp k hk (by omega)
  . rw[Wb (by
     by_cases h1:a[i].1=b[i].1
     . exact .inr λh2=>hc (Prod.ext h1 h2)
     . exact .inl h1)]
    exact hret (λe=>hc (by subst e; rfl)) _ (by simp)
theorem QrN (hl:a.length<=100000):Ok Try.prog 111 [wv a,wv b] H (.ret (bl (decide (a=b)))) H:=by
 obtain⟨v1,v2,v3,v4,v5,v6⟩:=QiQ a;obtain⟨u1,u2,u3,u4,u5,u6⟩:=QiQ b;refine Qq hm Try.func111 c111 (by simp) λhcl => ?_;by_cases hab:a.length=b.length
 . simp -implicitDefEqProofs[QjJ,Qjn,v1,v2,v3,v4,u1,u2,u3,u4,hab];refine Qp4 (a:=a) (b:=b) hl hab (λhne env h4 => ?_) (λhe env => ?_) a.length 0 _ (by omega) (by omega) (by simp) (by simp) (by simp[hab]) (by simp)
   . simp -implicitDefEqProofs[h4,hne];exact Qn
   . simp -implicitDefEqProofs[he];exact Qn
 . simp -implicitDefEqProofs[QjJ,Qjn,v1,v2,v3,v4,u1,u2,u3,u4,show ¬ ((a.length:Int)=b.length)by omega,hab];have:a≠b:=λe=>hab (by rw[e]);simp[this];exact Qn
theorem ok97 (hl:a.length<=100000):Ok Try.prog 97 [wv a,wv b] H (.ret (bl (decide (a=b)))) H:=by
 obtain⟨v1,v2,v3,v4,v5,v6⟩:=QiQ a;obtain⟨u1,u2,u3,u4,u5,u6⟩:=QiQ b;refine Qq hm Try.func97 c97 (by simp) λhcl => ?_;simp -implicitDefEqProofs[i97,r97,v1,v2,v3,v4,u1,u2,u3,u4];refine Qj (QrN hl) ?_;simp -implicitDefEqProofs;exact Qn
end
structure Fl where
 k:Int
 n:Int
 i:Int
 o:Int
deriving DecidableEq
def Fl.cells (f:Fl):Wv:=[i64 f.k,i64 f.n,i64 f.i,i64 f.o]
def Qb1 (G G':Wu):Prop:=∀ (j:Nat) (o:AO),G[j]? = some o->o.ty=3\/o.ty=131->G'[j]? = some o
theorem Qb1.refl (G:Wu):Qb1 G G:=λ_ _ h _=>h
theorem Qb1.trans {G G' G'':Wu} (h:Qb1 G G') (h':Qb1 G' G''):Qb1 G G'':=λj o ho ht=>h' j o (h j o ho ht) ht
theorem Qb1.app (G:Wu) (L:Wu):Qb1 G (G++L):=λj o ho _=>by rw[Vd (Qb ho)]; exact ho
structure Rep {τ:Type} (rp:SV) (b0:Nat) (R:Nat->Wu->τ->Prop) (rb:τ->Fl->Bool) (rn:τ->Fl->τ):Prop where
 vd:rp.vd=true
 ug:rp.ug=rp
 cell:rp.isCell=true
 flat:rp.flat=[rp]
 call:∀ c G s f,R (c+1) G s->Qc4 Try.prog rp [.agg f.cells] G λout G'=>out=.ret (bl (rb s f))/\R c G' (rn s f)/\Qb1 G G'
 app:∀ c G s o,R c G s->R c (G++[o]) s
 put:∀ c G s j o o',R c G s->G[j]? = some o->b0<=j->o.ty=3->R c (G.set j o') s
 len:∀ c G s,R c G s->b0<=G.length
 dec:∀ c G s,R (c+1) G s->R c G s
theorem Rep.decn {τ:Type} {rp:SV} {b0:Nat} {R:Nat->Wu->τ->Prop} {rb:τ->Fl->Bool} {rn:τ->Fl->τ} (h:Rep rp b0 R rb rn):∀ {k c:Nat} {G:Wu} {s:τ},R (k+c) G s->R c G s
 |0,c,G,s,hr=>by simpa using hr
 |k+1,c,G,s,hr=>h.decn (k:=k) (h.dec _ _ _ (by rw[show k+c+1=k+1+c by omega]; exact hr))
section
variable {τ:Type} {rp:SV} {b0:Nat} {R:Nat->Wu->τ->Prop} {rb:τ->Fl->Bool} {rn:τ->Fl->τ} {g:Gm}
structure SkI (g:Gm) (rp:SV) (info:Int) (bs bi:Nat) (G:Wu):Prop where
 s:G[bs]? = some ⟨[g.wp,rp],131,0,true⟩
 i:G[bi]? = some ⟨[i64 info],3,0,true⟩
theorem SkI.keep {info:Int} {bs bi:Nat} {G G':Wu} (h:SkI g rp info bs bi G) (hk:Qb1 G G'):SkI g rp info bs bi G':=⟨hk _ _ h.s (.inr rfl),hk _ _ h.i (.inl rfl)⟩
theorem SkI.cs {info:Int} {bs bi:Nat} {G:Wu} (h:SkI g rp info bs bi G):Qd G bs 0=[g.wp,rp]:=Qau h.s rfl
theorem SkI.ci {info:Int} {bs bi:Nat} {G:Wu} (h:SkI g rp info bs bi G):Qd G bi 0=[i64 info]:=Qau h.i rfl
def dpn (g:Gm) (info:Int) (d:Int) (k:Nat):Int:=if QbQ g k=info then k else d
def DpI (g:Gm) (R:Nat->Wu->τ->Prop) (rp:SV) (info:Int) (bs bi bd c:Nat) (s:τ) (_:Nat) (G:Wu) (d:Int):Prop :=
 R c G s/\SkI g rp info bs bi G/\G[bd]? = some ⟨[i64 d],3,0,true⟩/\bd≠bs/\bd≠bi
set_option maxRecDepth 10000 in
theorem ok96 (hR:Rep rp b0 R rb rn) (hn:g.ns.length<=2000) {info:Int} {bs bi bd c:Nat} (hbd:b0<=bd) {s:τ} {m:Nat} {G:Wu} {d:Int} (hI:DpI g R rp info bs bi bd c s m G d) {k:Nat} (hk:k<g.ns.length) (a:Int) (m':Nat) :
 OkP Try.prog 96 [i64 k,i64 a,.ptr (.own bs 0 0 0 0) 0,.ptr (.own bi 0 0 0 0) 0,.ptr (.own bd 0 0 0 0) 0] G λout G'=>out=.ret (bl (decide (dpn g info d k<0)))/\DpI g R rp info bs bi bd c s m' G' (dpn g info d k):=by
 obtain⟨h1,h2,h3,h4,h5⟩:=hI;have hinf:QbQ g k=g.ns[k].i:=by unfold QbQ; rw[Vb hk]
 have hd:Qd G bd 0=[i64 d]:=Qau h3 rfl;refine QaU hm Try.func96 c96 (by simp) λhcl => ?_;by_cases hi:g.ns[k].i=info
 . have e:dpn g info d k=k:=by unfold dpn; rw[Wb (by rw[hinf]; exact hi)]
   rw[e];have hst:∀ f:AO->AO,Ab.setObj G bd f=G.set bd (f ⟨[i64 d],3,0,true⟩):=λf=>QU h3 f;have hlt:=Qb h3;have hc2:Qd (G.set bd (⟨[i64 k],3,0,true⟩:AO)) bd 0=[i64 k]:=Qau (o:=⟨[i64 k],3,0,true⟩) (Vh hlt) rfl;simp -implicitDefEqProofs[i96,r96,Gm.wp,sl,hk,h2.cs,h2.ci,hd,QiP hk,QaK,hi,hst,hc2];refine⟨by omega,_,_,⟨rfl,hR.put _ _ _ _ _ _ h1 h3 hbd rfl,⟨?_,?_⟩,Vh hlt,h4,h5⟩,Qn⟩
   . rw[Ve h4]; exact h2.s
   . rw[Ve h5]; exact h2.i
 . have e:dpn g info d k=d:=by unfold dpn; rw[Wa (by rw[hinf]; exact hi)]
   rw[e];simp -implicitDefEqProofs[i96,r96,Gm.wp,sl,hk,h2.cs,h2.ci,hd,QiP hk,QaK,hi];exact⟨by omega,_,_,⟨rfl,h1,h2,h3,h4,h5⟩,Qn⟩
theorem QkI {pl:Int}:∀ (f node:Nat) (l:List (Int×Int)),(abv g pl (λ_ _ _=>true) (λl k a=>l++[(QbQ g k,a)]) f node l).length<=l.length+f
 |0,node,l=>by simp[abv]
 |f+1,node,l=>by
  unfold abv;split
  . omega
  . split
    . omega
    . split
      . rw[Wb rfl];refine YD (QkI (pl:=pl) f _ _) ?_;simp only[Vy,YP];omega
      . have:=QkI (pl:=pl) f (gi g.wk.2.P node).toNat l;omega
theorem Qkx {node:Nat} {pl:Int}:(g.way node pl).length<=g.ns.length:=by
 unfold Gm.way Gm.up;have:=QkI (g:=g) (pl:=pl) g.ns.length node [];simpa using this
def Gm.deep (g:Gm) (node:Nat) (pl info:Int):Int:=abv g pl (λd k _=>decide (dpn g info d k<0)) (λd k _=>dpn g info d k) g.ns.length node (-1)
def Qbp (g:Gm) (rb:τ->Fl->Bool) (rn:τ->Fl->τ) (info pl n0:Int) (first:List (Int×Int)):List Int->τ->Bool×τ
 |[],s=>(true,s)
 |v::r,s =>
  let d:=g.deep v.toNat pl info
  if 0<=d/\rb s ⟨1,v,info,d⟩=false then(false,rn s ⟨1,v,info,d⟩)else
  let s1:=if 0<=d then rn s ⟨1,v,info,d⟩else s
  if g.way v.toNat pl=first then Qbp g rb rn info pl n0 first r s1 else
  if rb s1 ⟨2,v,info,n0⟩=true then Qbp g rb rn info pl n0 first r (rn s1 ⟨2,v,info,n0⟩)else(false,rn s1 ⟨2,v,info,n0⟩)
set_option maxRecDepth 10000 in
theorem Qr8 (hW:Wg g) (hR:Rep rp b0 R rb rn) {info pl n0:Int} {bs bi:Nat} {nodes:List Int} {first:List (Int×Int)} (hn0:nodes.head? = some n0) (hns:∀ v∈nodes,0<=v/\v<g.ns.length) (hnl:nodes.length<=2000) (hfl:first.length<=2000)
 {N:Nat} {K:Wt} {Q:Bool×τ}
 {c:Nat} (hret:Q.1=false->∀ env G,R c G Q.2->env.get 6=bl false->K .ret env G) (hexit:Q.1=true->∀ env G,R c G Q.2->K (.exit 0) env G) :
 ∀ (n i:Nat) (env:Env) (G:Wu) (s:τ),i+n=nodes.length->R (2*n+c) G s->SkI g rp info bs bi G->Qbp g rb rn info pl n0 first (nodes.drop i) s=Q ->
  env.get 2=.slc (Qa nodes) nodes.length->env.get 3=.ptr (.own bs 0 0 0 0) 0->env.get 4=.ptr (.own bi 0 0 0 0) 0->env.get 7=i64 pl->env.get 8=wv first->env.get 29=.slc (Qa nodes) nodes.length->env.get 30=i64 nodes.length->env.get 31=i64 i ->
  LI Try.prog N Qh QgL env G K:=by
 have hgn:=hW.gd.n;have hwp:g.wp.vd=true/\g.wp.ug=g.wp/\g.wp.flat=[g.wp]/\g.wp.isCell=true:=⟨rfl,rfl,rfl,rfl⟩;intro n
 induction n with
 |zero =>
  intro i env G s hi hRG hS hQ h2 h3 h4 h7 h8 h29 h30 h31;refine Qc hm QgL.eq_1 ?_;have e:i=nodes.length:=by omega
  subst e;rw[YN]at hQ;subst hQ;simp -implicitDefEqProofs[h30,h31];exact hexit rfl _ _ (by simpa[Qbp]using hRG)
 |succ n ih =>
  intro i env G s hi hRG hS hQ h2 h3 h4 h7 h8 h29 h30 h31;refine Qc hm QgL.eq_1 ?_;have hlt:i<nodes.length:=by omega
  have w1:IntKind.i64.wrap ((i:Int)+1)=((i+1:Nat):Int):=QaQ (by omega);have hv:=hns _ (Vg hlt);have hvn:nodes[i]=((nodes[i].toNat:Nat):Int):=by omega
  rw[Vz hlt]at hQ;unfold Qbp at hQ;have hpos:0<nodes.length:=by omega
  have hhead:(Qa nodes).head? = some (i64 n0):=by
   cases hc:nodes with
   |nil=>rw[hc]at hpos; simp at hpos
   |cons y r=>rw[hc]at hn0; simp at hn0; subst hn0; rfl
  have hbs:=Qb hS.s;have hbi:=Qb hS.i;simp -implicitDefEqProofs[h2,h3,h4,h7,h8,h29,h30,h31,hlt,Qd2 _ hbs,Qd2 _ hbi,hS.cs,hS.ci,hwp.1,hwp.2.1];refine⟨by omega,?_⟩;have h67:=ok95 (g:=g) (σ:=Int) (Inv:=DpI g R rp info bs bi G.length (2*n+c+1+1) s) (vf:=.fn (.func 96) [] [.ptr (.own bs 0 0 0 0) 0,.ptr (.own bi 0 0 0 0) 0,.ptr (.own G.length 0 0 0 0) 0]) (nb:=λd k _=>decide (dpn g info d k<0)) (nx:=λd k _=>dpn g info d k) (pl:=pl) hW ⟨rfl,rfl⟩
   (λm G s k a hkm hm' hI=>Qjl (by simpa using ok96 hR hgn (hR.len _ _ _ hRG) hI (by omega) a k))
   (λm G s o hI=>⟨hR.app _ _ _ _ hI.1,hI.2.1.keep (Qb1.app _ _),by rw[Vd (Qb hI.2.2.1)]; exact hI.2.2.1,hI.2.2.2⟩)
   (λm k G s hkm hI=>hI) (G:=G++[⟨[i64 (-1)],3,0,true⟩]) (s := -1) (node:=nodes[i].toNat) (by omega)
   ⟨hR.app _ _ _ _ (by rw[show 2*n+c+1+1=2*(n+1)+c by omega]; exact hRG),hS.keep (Qb1.app _ _),by simp,by omega,by omega⟩
  rw[<-hvn]at h67;refine Q6 h67 (λout G2 hP => ?_);obtain⟨rfl,m',hR2,hS2,hd2,hb1,hb2⟩:=hP;have hdeep:abv g pl (λd k _=>decide (dpn g info d k<0)) (λd k _=>dpn g info d k) g.ns.length nodes[i].toNat (-1)=g.deep nodes[i].toNat pl info:=rfl;rw[hdeep]at hd2;simp only at hQ;generalize hgd:g.deep nodes[i].toNat pl info=d at hd2 hQ;have hcd:Qd G2 G.length 0=[i64 d]:=Qau hd2 rfl;by_cases h0:0<=d
  . simp -implicitDefEqProofs[h2,h3,h4,h7,h8,h29,h30,h31,hcd,h0,hS2.cs,hS2.ci,hR.vd,hR.ug];refine Qkf (hR.call _ _ _ ⟨1,nodes[i],info,d⟩ hR2) (λout G3 hP => ?_);obtain⟨rfl,hR3,hK3⟩:=hP;have hS3:=hS2.keep hK3
    cases hb:rb s ⟨1,nodes[i],info,d⟩with
    |false =>
     rw[Wb ⟨h0,hb⟩]at hQ;subst hQ;simp -implicitDefEqProofs;exact hret rfl _ _ (hR.decn (k:=2*n+1) (by rw[show 2*n+1+c=2*n+c+1 by omega]; exact hR3)) (by simp)
    |true =>
     rw[Wa (by rw[hb]; simp),Wb h0]at hQ;simp -implicitDefEqProofs[h2,h3,h4,h7,h8,h29,h30,h31,hS3.cs,hS3.ci,hR.vd,hR.ug,hwp.1,hwp.2.1];have h50:=Qjr (H:=G3) hW (node:=nodes[i].toNat) (by omega) pl;rw[<-hvn]at h50;refine Qj h50 ?_;simp -implicitDefEqProofs[h8];refine Qj (ok97 (a:=g.way nodes[i].toNat pl) (b:=first) (by have:=Qkx (g:=g) (node:=nodes[i].toNat) (pl:=pl); omega)) ?_
     by_cases hw:g.way nodes[i].toNat pl=first
     . rw[Wb hw]at hQ;simp -implicitDefEqProofs[hw,h31];rw[w1];refine ih (i+1) _ _ _ (by omega) (hR.dec _ _ _ (by rw[show 2*n+c+1=(2*n+c)+1 by omega]at hR3; exact hR3)) hS3 hQ ?_ ?_ ?_ ?_ ?_ ?_ ?_ ?_
       . simp[h2]
       . simp[h3]
       . simp[h4]
       . simp[h7]
       . simp[h8]
       . simp[h29]
       . simp[h30]
       . simp
     . rw[Wa hw]at hQ;simp -implicitDefEqProofs[hw,h2,h3,h4,hS3.cs,hS3.ci,hR.vd,hR.ug,hhead];refine⟨hpos,hpos,?_⟩;refine QmC (hR.call _ _ _ ⟨2,nodes[i],info,n0⟩ hR3) (λout G4 hP => ?_);obtain⟨rfl,hR4,hK4⟩:=hP;have hS4:=hS3.keep hK4
       cases hb2:rb (rn s ⟨1,nodes[i],info,d⟩) ⟨2,nodes[i],info,n0⟩with
       |true =>
        rw[hb2,Wb rfl]at hQ;simp -implicitDefEqProofs[h2,h3,h4,hS4.cs,hS4.ci,hR.vd,hR.ug,hhead,h31,hpos];rw[w1];refine ih (i+1) _ _ _ (by omega) hR4 hS4 hQ ?_ ?_ ?_ ?_ ?_ ?_ ?_ ?_
        . simp[h2]
        . simp[h3]
        . simp[h4]
        . simp[h7]
        . simp[h8]
        . simp[h29]
        . simp[h30]
        . simp
       |false =>
        rw[hb2,Wa (by simp)]at hQ;subst hQ;simp -implicitDefEqProofs[h2,h3,h4,hS4.cs,hS4.ci,hR.vd,hR.ug,hhead,hpos];exact hret rfl _ _ (hR.decn (k:=2*n) hR4) (by simp)
  . rw[Wa (λh=>h0 h.1),Wa h0]at hQ;simp -implicitDefEqProofs[h2,h3,h4,h7,h8,h29,h30,h31,hcd,h0,hS2.cs,hS2.ci,hR.vd,hR.ug,hwp.1,hwp.2.1];have h50:=Qjr (H:=G2) hW (node:=nodes[i].toNat) (by omega) pl;rw[<-hvn]at h50;refine Qj h50 ?_;simp -implicitDefEqProofs[h8];refine Qj (ok97 (a:=g.way nodes[i].toNat pl) (b:=first) (by have:=Qkx (g:=g) (node:=nodes[i].toNat) (pl:=pl); omega)) ?_
    by_cases hw:g.way nodes[i].toNat pl=first
    . rw[Wb hw]at hQ;simp -implicitDefEqProofs[hw,h31];rw[w1];refine ih (i+1) _ _ _ (by omega) (hR.dec _ _ _ (hR.dec _ _ _ hR2)) hS2 hQ ?_ ?_ ?_ ?_ ?_ ?_ ?_ ?_
      . simp[h2]
      . simp[h3]
      . simp[h4]
      . simp[h7]
      . simp[h8]
      . simp[h29]
      . simp[h30]
      . simp
    . rw[Wa hw]at hQ;simp -implicitDefEqProofs[hw,h2,h3,h4,hS2.cs,hS2.ci,hR.vd,hR.ug,hhead];refine⟨hpos,hpos,?_⟩;refine QmC (hR.call _ _ _ ⟨2,nodes[i],info,n0⟩ (hR.dec _ _ _ hR2)) (λout G4 hP => ?_);obtain⟨rfl,hR4,hK4⟩:=hP;have hS4:=hS2.keep hK4
      cases hb2:rb s ⟨2,nodes[i],info,n0⟩with
      |true =>
       rw[hb2,Wb rfl]at hQ;simp -implicitDefEqProofs[h2,h3,h4,hS4.cs,hS4.ci,hR.vd,hR.ug,hhead,h31,hpos];rw[w1];refine ih (i+1) _ _ _ (by omega) hR4 hS4 hQ ?_ ?_ ?_ ?_ ?_ ?_ ?_ ?_
       . simp[h2]
       . simp[h3]
       . simp[h4]
       . simp[h7]
       . simp[h8]
       . simp[h29]
       . simp[h30]
       . simp
      |false =>
       rw[hb2,Wa (by simp)]at hQ;subst hQ;simp -implicitDefEqProofs[h2,h3,h4,hS4.cs,hS4.ci,hR.vd,hR.ug,hhead,hpos];exact hret rfl _ _ (hR.decn (k:=2*n) hR4) (by simp)
set_option maxRecDepth 10000 in
theorem ok80 (hW:Wg g) (hR:Rep rp b0 R rb rn) {info:Nat} (hinfo:info<g.is.length) {nodes:List Int} {n0:Int} (hn0:nodes.head? = some n0) (hns:∀ v∈nodes,0<=v/\v<g.ns.length) (hnl:nodes.length<=2000) {G:Wu} {s:τ} {c:Nat} (hRG:R (2*nodes.length+c) G s) :
 OkP Try.prog 80 [.agg [g.wp,rp],i64 info,.slc (Qa nodes) nodes.length] G λout G'=>out=.ret (bl (Qbp g rb rn info g.is[info].1 n0 (g.way n0.toNat g.is[info].1) nodes s).1)/\R c G' (Qbp g rb rn info g.is[info].1 n0 (g.way n0.toNat g.is[info].1) nodes s).2:=by
 have hgn:=hW.gd.n;have hwp:g.wp.vd=true/\g.wp.ug=g.wp/\g.wp.flat=[g.wp]/\g.wp.isCell=true:=⟨rfl,rfl,rfl,rfl⟩;have hpos:0<nodes.length:=by cases nodes with|nil=>simp at hn0|cons y r=>simp
 have hhead:(Qa nodes).head? = some (i64 n0):=by
  cases hc:nodes with
  |nil=>rw[hc]at hpos; simp at hpos
  |cons y r=>rw[hc]at hn0; simp at hn0; subst hn0; rfl
 have hv:=hns n0 (List.mem_of_head? hn0);have hvn:n0=((n0.toNat:Nat):Int):=by omega
 refine QaU hm Try.func80 c80 (by simp) λhcl => ?_;simp -implicitDefEqProofs[i80,r80,Gm.wp,sl,hR.vd,hR.ug,hR.flat,hR.cell,hhead,hpos,hinfo,QjR hinfo,QbH hinfo,Qch];refine⟨by omega,?_⟩;have h50:=λH=>Qjr (H:=H) hW (node:=n0.toNat) (by omega) g.is[info].1;rw[<-hvn]at h50;refine QN (λ_=>h50 _) ?_;simp -implicitDefEqProofs;refine Qr8 (g:=g) (R:=R) (rb:=rb) (rn:=rn) hW hR (info:=info) (pl:=g.is[info].1) (n0:=n0) (bs:=G.length) (bi:=G.length+1) (nodes:=nodes) (first:=g.way n0.toNat g.is[info].1) hn0 hns hnl (by have:=Qkx (g:=g) (node:=n0.toNat) (pl:=g.is[info].1); omega)
  (c:=c) (λhQ env G' hR' h6 => ?_) (λhQ env G' hR' => ?_) nodes.length 0 _ _ s (by omega) (by have:=hR.app _ _ _ ⟨[g.wp,rp],131,0,true⟩ hRG; have:=hR.app _ _ _ ⟨[i64 info],3,0,true⟩ this; rw[VF]at this; exact this) ⟨by simp[Gm.wp,sl],by simp⟩ rfl
  (by simp) (by simp) (by simp) (by simp) (by simp) (by simp) (by simp) (by simp)
 . simp -implicitDefEqProofs[h6];exact⟨_,_,⟨by rw[show Qbp g rb rn info g.is[info].1 n0 (g.way n0.toNat g.is[info].1) nodes s=Qbp g rb rn info g.is[info].1 n0 (g.way n0.toNat g.is[info].1) (nodes.drop 0) s from rfl,hQ],hR'⟩,Qn⟩
 . simp -implicitDefEqProofs;exact⟨_,_,⟨by rw[show Qbp g rb rn info g.is[info].1 n0 (g.way n0.toNat g.is[info].1) nodes s=Qbp g rb rn info g.is[info].1 n0 (g.way n0.toNat g.is[info].1) (nodes.drop 0) s from rfl,hQ],hR'⟩,Qn⟩
end
def rpP (n:Nat):SV:=.fn (.func 78) [] [.ptr (.own (n+2) 0 0 0 0) 0]
def RP (g:Gm) (H:Wu) (_:Nat) (G:Wu) (b:Bool):Prop:=∃ L,G=H++L/\L[2]? = some ⟨[bl b],4,0,true⟩/\L[3]? = some ⟨[g.wp,rpP H.length],131,0,true⟩
def nxP (_:Bool) (f:Fl):Bool:=decide (f.k≠2)
section
variable {H:Wu} {g:Gm}
theorem set_app {G:Wu} {j:Nat} (hj:H.length<=j) {L:Wu} (hG:G=H++L) (o:AO):G.set j o=H++L.set (j-H.length) o:=by
 subst hG;rw[Y2 _ _ hj]
theorem ok78 {c c':Nat} {G:Wu} {b:Bool} (f:Fl) (hI:RP g H c G b) :
 OkP Try.prog 78 [.agg f.cells,.ptr (.own (H.length+2) 0 0 0 0) 0] G λout G'=>out=.ret (bl (nxP b f))/\RP g H c' G' (nxP b f)/\Qb1 G G':=by
 obtain⟨L,rfl,h2,h3⟩:=hI;refine QaU hm Try.func78 c78 (by simp) λhcl => ?_;have hl2:=Qb h2;have e1:∀ X,Qd (L++X) 2 0=[bl b]:=λX=>Qau (o:=⟨[bl b],4,0,true⟩) (by rw[Vd hl2]; exact h2) rfl;have e2:∀ (c:Wv) X,Qd (L.set 2 (⟨c,4,0,true⟩:AO)++X) 2 0=c:=λc X=>Qau (o:=⟨c,4,0,true⟩) (by rw[Vd (by simpa using hl2),Vh hl2]) rfl;simp -implicitDefEqProofs[i78,r78,Fl.cells,Qk1 h2,e1,e2];refine⟨_,_,⟨?_,⟨_,rfl,?_,?_⟩,λj o ho ht => ?_⟩,Qn⟩
 . simp[nxP]
 . rw[Vd (by simpa using hl2),Vh hl2]; simp[nxP]
 . rw[Vd (by simpa using Qb h3),Ve (by omega)]; exact h3
 . by_cases hj:j<H.length
   . rw[Vd hj]at ho ⊢; exact ho
   . rw[Vf (by omega)]at ho ⊢;by_cases e:2=j-H.length
     . rw[<-e,h2]at ho; cases ho; simp at ht
     . rw[Vd (by simpa using Qb ho),Ve e]; exact ho
theorem repP:Rep (rpP H.length) H.length (RP g H) nxP nxP where
 vd:=rfl
 ug:=rfl
 cell:=rfl
 flat:=rfl
 call:=λc G s f hI=>Qjl (by simpa using ok78 f hI)
 app:=λc G s o ⟨L,hG,h2,h3⟩=>⟨L++[o],by rw[hG,VF],by rw[Vd (Qb h2)]; exact h2,by rw[Vd (Qb h3)]; exact h3⟩
 put:=λc G s j o o' ⟨L,hG,h2,h3⟩ ho hj ht=>by
  subst hG;rw[Vf hj]at ho;refine⟨L.set (j-H.length) o',by rw[Y2 _ _ hj],?_,?_⟩
  . rw[Ve (λe=>by rw[e,h2]at ho; cases ho; cases ht)]; exact h2
  . rw[Ve (λe=>by rw[e,h3]at ho; cases ho; cases ht)]; exact h3
 len:=λc G s ⟨L,hG,_⟩=>by subst hG; simp
 dec:=λc G s h=>h
def QcR {τ:Type} (g:Gm) (rb:τ->Fl->Bool) (rn:τ->Fl->τ) (sel:Int->Bool) (stop:Bool):Nat->Nat->τ->τ
 |0,_,s=>s
 |f+1,i,s =>
   match g.sets[i]?,g.is[i]? with
   |some nodes,some inf =>
     if sel inf.1=true then
       (let r:=Qbp g rb rn i inf.1 (nodes.headD 0) (g.way (nodes.headD 0).toNat inf.1) nodes s
        if stop=true/\r.1=false then r.2 else QcR g rb rn sel stop f (i+1) r.2)
     else QcR g rb rn sel stop f (i+1) s
   |_,_=>s
def Gm.perf (g:Gm) (pl:Int):Bool:=QcR g nxP nxP (λp=>decide (p=pl)) true g.is.length 0 true
theorem Wg.ne (h:Wg g):∀ k (hk:k<g.sets.length),g.sets[k]≠[]:=by
 intro k hk e;have hse:=h.se;rw[QoA]at hse;unfold Gm.setsR at hse;split at hse
 . cases hse
 . split at hse
   . cases hse
   . rename_i h1;exact h1 (by rw[<-e]; exact Vg hk)
theorem QjF {s:Nat}:∀ {l:List Nd} {o:Nat} {a:Int},a∈occ s l o->a<o+l.length
 |[],o,a,h=>by simp[occ]at h
 |x::r,o,a,h=>by
  unfold occ at h;split at h
  . rcases Vi.1 h with rfl|h
    . simp; omega
    . have:=QjF h; simp; omega
  . have:=QjF h; simp; omega
theorem Ql4 {s:Nat}:∀ {l:List Nd} {o:Nat},(occ s l o).length<=l.length
 |[],o=>by simp[occ]
 |x::r,o=>by
  unfold occ;have:=Ql4 (s:=s) (l:=r) (o:=o+1);split<;>simp<;>omega
theorem QgX {k:Nat} (hk:k<g.sets.length):g.sets[k]=occ k g.ns 0:=by
 have:=Qft (g:=g) (s:=k) (by rw[<-Qcu]; exact hk)
 rwa [Vr,Vb hk,V6]at this
theorem QoJ {k:Nat} (hk:k<g.sets.length) {v:Int} (hv:v∈g.sets[k]):0<=v/\v<g.ns.length:=by
 rw[QgX hk]at hv;exact⟨Qii hv,by have:=QjF hv; simpa using this⟩
theorem Qr7 {k:Nat} (hk:k<g.sets.length):g.sets[k].length<=g.ns.length:=by rw[QgX hk]; exact Ql4
set_option maxRecDepth 10000 in
theorem QpN (hW:Wg g) {pl:Int} {N:Nat} {K:Wt} {Q:Bool}
 (hexit:∀ env L,L[2]? = some ⟨[bl Q],4,0,true⟩->env.get 9=.ptr (.own (H.length+2) 0 0 0 0) 0->K (.exit 0) env (H++L)) :
 ∀ (n i:Nat) (env:Env) (G:Wu) (s:Bool),i+n=g.is.length->RP g H 0 G s->QcR g nxP nxP (λp=>decide (p=pl)) true n i s=Q ->
  env.get 1=i64 pl->env.get 6=g.wp->env.get 9=.ptr (.own (H.length+2) 0 0 0 0) 0->env.get 10=.ptr (.own (H.length+3) 0 0 0 0) 0->env.get 34=g.setsV->env.get 35=i64 g.is.length->env.get 36=i64 i ->
  LI Try.prog N Qh Qhv env G K:=by
 have hgi:=hW.gd.i;have hgn:=hW.gd.n;have hsl:g.sets.length=g.is.length:=Qcu;intro n
 induction n with
 |zero =>
  intro i env G s hi hR hQ h1 h6 h9 h10 h34 h35 h36;refine Qc hm Qhv.eq_1 ?_;have e:i=g.is.length:=by omega
  subst e;simp -implicitDefEqProofs[h35,h36];obtain⟨L,rfl,h2,h3⟩:=hR;simp only[QcR]at hQ;subst hQ;exact hexit _ L h2 (by simp[h9])
 |succ n ih =>
  intro i env G s hi hR hQ h1 h6 h9 h10 h34 h35 h36;refine Qc hm Qhv.eq_1 ?_;have hlt:i<g.is.length:=by omega
  have hls:i<g.sets.length:=by omega
  have w1:IntKind.i64.wrap ((i:Int)+1)=((i+1:Nat):Int):=QaQ (by omega);have hne:=hW.ne i hls;unfold QcR at hQ;rw[Vb hlt,Vb hls]at hQ;simp only at hQ;by_cases hp:g.is[i].1=pl
  . rw[Wb (by simpa using hp)]at hQ;obtain⟨L,rfl,h2,h3⟩:=id hR;have ec:Qd (H++L) (H.length+3) 0=[g.wp,rpP H.length]:=by rw[Qdz]; exact Qau h3 rfl
    simp -implicitDefEqProofs[h1,h6,h9,h10,h34,h35,h36,Gm.wp,sl,Gm.setsV,hlt,hls,Qok hls,Qmh hne,QjR hlt,Qch,QbH hlt,hp,ec];obtain⟨n0,hn0⟩:∃ n0,g.sets[i].head? = some n0:=by
     cases h:g.sets[i]with
     |nil=>exact(hne h).elim
     |cons y r=>exact⟨y,rfl⟩
    have hd0:g.sets[i].headD 0=n0:=by rw[ZY,hn0]; rfl
    have h48:=ok80 (rp:=rpP H.length) (R:=RP g H) hW repP hlt hn0 (λv hv=>QoJ hls hv) (by have:=Qr7 (g:=g) hls; omega) (c:=0) (show RP g H _ (H++L) s from hR);rw[hp]at h48;rw[hd0,hp]at hQ;refine Q6 (OkP.strip (by show OkP _ _ [.agg [g.wp,rpP H.length],i64 i,.slc (Qa g.sets[i]) g.sets[i].length] _ _; exact h48)) ?_;rintro out G' ⟨rfl,hR'⟩;generalize Qbp g nxP nxP i pl n0 (g.way n0.toNat pl) g.sets[i] s=q at hR' hQ;obtain⟨b,s'⟩:=q
    cases b with
    |false =>
     rw[Wb (by simp)]at hQ;subst hQ;simp -implicitDefEqProofs;obtain⟨L',rfl,h2',h3'⟩:=hR';exact hexit _ L' h2' (by simp[h9])
    |true =>
     rw[Wa (by simp)]at hQ;simp -implicitDefEqProofs[h36];rw[w1];refine ih (i+1) _ _ _ (by omega) hR' hQ ?_ ?_ ?_ ?_ ?_ ?_ ?_
     . simp[h1]
     . simp[h6,Gm.wp,sl]
     . simp[h9]
     . simp[h10]
     . simp[h34,Gm.setsV]
     . simp[h35]
     . simp
  . rw[Wa (by simpa using hp)]at hQ;simp -implicitDefEqProofs[h1,h6,h9,h10,h34,h35,h36,Gm.wp,sl,Gm.setsV,hlt,hls,Qok hls,Qmh hne,QjR hlt,Qch,QbH hlt,hp];rw[w1];refine ih (i+1) _ _ _ (by omega) hR hQ ?_ ?_ ?_ ?_ ?_ ?_ ?_
    . simp[h1]
    . simp[h6,Gm.wp,sl]
    . simp[h9]
    . simp[h10]
    . simp[h34,Gm.setsV]
    . simp[h35]
    . simp
def Gm.perfE (g:Gm) (pl:Int):Int:=if g.formE≠0 then g.formE else if pl<0\/g.pl<=pl then 2 else 0
def Gm.perfV (g:Gm) (pl:Int):Bool:=if g.perfE pl=0 then g.perf pl else false
set_option maxRecDepth 10000 in
theorem ok63 (pl:Int):Ok Try.prog 63 [.agg g.cells,i64 pl] H (.ret (.tup [bl (g.perfV pl),i64 (g.perfE pl)])) H:=by
 refine Qq hm Try.func63 c63 (by simp) λhcl => ?_;simp -implicitDefEqProofs[i63,r63,Gm.cells];have hh:=λH=>ok76 (H:=H) (g:=g);simp only[Gm.cells]at hh;refine Qj (hh _) ?_;by_cases h:g.formE=0
 . rw[Qul h];have hW:=Qfk h;have hp1:=hW.gd.p1;have hp4:=hW.gd.p4;have w2:IntKind.i64.wrap (g.pl-1)=g.pl-1:=Qi (by omega) (by omega);simp -implicitDefEqProofs[w2];refine Qj (QfZ (IsI.own0 H _ 1 0 [pl] [] 3 rfl) (by simp) 0 (g.pl-1)) ?_;by_cases hp:pl<0\/g.pl-1<pl
   . have e:QaC 0 (g.pl-1) [pl]=2:=by rw[Qea,Wb hp]
     have hE:g.perfE pl=2:=by unfold Gm.perfE; rw[Wa (by simpa using h),Wb (by omega)]
     rw[e];simp -implicitDefEqProofs;refine Ql 2 hcl rfl ?_;simp[Gm.perfV,hE]
   . have e:QaC 0 (g.pl-1) [pl]=0:=by rw[Qea,Wa hp]
     have hE:g.perfE pl=0:=by unfold Gm.perfE; rw[Wa (by simpa using h),Wa (by omega)]
     rw[e];have hwp:g.wp.vd=true/\g.wp.ug=g.wp/\g.wp.flat=[g.wp]/\g.wp.isCell=true:=⟨rfl,rfl,rfl,rfl⟩;simp -implicitDefEqProofs[hwp.1,hwp.2.1,hwp.2.2.1,hwp.2.2.2];refine⟨by simp[Q9,Gm.wp],Qj (ok79 hW.gd) ?_⟩;simp -implicitDefEqProofs[Gm.setsV];refine QpN (g:=g) hW (pl:=pl) (Q:=g.perf pl) (λenv L h2 h9 => ?_) g.is.length 0 _ _ true (by omega) ⟨_,rfl,rfl,rfl⟩ rfl (by simp) (by simp) (by simp) (by simp) (by simp[Gm.setsV]) (by simp) (by simp);have ec:Qd (H++L) (H.length+2) 0=[bl (g.perf pl)]:=by rw[Qdz]; exact Qau h2 rfl
     simp -implicitDefEqProofs[h9,ec];refine Ql 2 hcl rfl ?_;simp[Gm.perfV,hE]
 . obtain⟨p,e,_⟩:=Qr0 h;rw[e];have hE:g.perfE pl=g.formE:=by unfold Gm.perfE; rw[Wb h]
   simp -implicitDefEqProofs[h];refine Ql 2 hcl rfl ?_;simp[Gm.perfV,hE,h]
end
def fls:List Fl->Wv
 |[]=>[]
 |x::r=>i64 x.k::i64 x.n::i64 x.i::i64 x.o::fls r
def fv (l:List Fl):SV:=if l=[]then nl else .slc (fls l) l.length
def nxF (l:List Fl) (f:Fl):List Fl:=l++[f]
section
variable {H:Wu} {g:Gm}
def Gm.flaws (g:Gm):List Fl:=QcR g (λ_ _=>true) nxF (λ_=>true) false g.is.length 0 []
end
def ws (l:List (Int×Int)):SV:=.slc (Qy l) l.length
theorem Quy {l:List Int} {v:Int} (hinc:l.Pairwise (· < ·)) (hv:v∈l):∃ k,∃ h:k<l.length,l[k]=v/\Qb8 v l=k/\∀ t (h:t<l.length),l[t]=v->t=k:=by
 obtain⟨k,hk,e⟩:=VX hv;have huniq:∀ t (h:t<l.length),l[t]=v->t=k:=λt ht h=>by
  rw[Yt]at hinc;rcases Yj t k with h1|h1|h1
  . have:=hinc t k ht hk h1; omega
  . exact h1
  . have:=hinc k t hk ht h1; omega
 refine⟨k,hk,e,?_,huniq⟩;have:l.findIdx? (· == v)=some k:=by
  rw[Zl];refine⟨hk,by simpa using e,λj hj => ?_⟩;intro h;have:=huniq j (by omega) (by simpa using h);omega
 unfold Qb8; rw[this]
section
variable {H:Wu} {g:Gm}
theorem Qgc {pl:Int} (hW:Wg g) {f node p:Nat} (hp:p<g.ns.length) (hP:gi g.wk.2.P node=p) {l:List (Int×Int)} :
 abv g pl (λ_ _ _=>true) (λl k a=>l++[(QbQ g k,a)]) (f+1) node l=abv g pl (λ_ _ _=>true) (λl k a=>l++[(QbQ g k,a)]) f p (if g.ns[p].k=2/\g.ns[p].p=pl then l++[(g.ns[p].i,Qb8 node g.ns[p].nx)]else l):=by
 have hinf:QbQ g p=g.ns[p].i:=by unfold QbQ; rw[Vb hp]
 conv=>lhs; unfold abv
 rw[Wa (by omega),hP,show((p:Nat):Int).toNat=p by omega,Vb hp];simp only;by_cases h:g.ns[p].k=2/\g.ns[p].p=pl
 . rw[Wb h,Wb h,Wb trivial,hinf]
 . rw[Wa h,Wa h]
end
section
variable {H:Wu} {g:Gm} {a b:List (Int×Int)}
theorem Wg.ty (h:Wg g) {x:Nd} (hx:x∈g.ns) (hk:x.k=2):g.is[x.i.toNat]? = some (x.p,(x.nx.length:Int)):=by
 have hse:=h.se;unfold Gm.setsE at hse;by_cases hb:∃ x∈g.ns,x.tyBad g
 . rw[Wb hb]at hse; cases hse
 . by_cases h1:g.is[x.i.toNat]? = some (x.p,(x.nx.length:Int))
   . exact h1
   . exact(hb ⟨x,hx,hk,h1⟩).elim
def fr (l:List Fl):AO:=⟨fls l,128,l.length,true⟩
def fs (l:List Fl):SV:=.slc (fls l) l.length
end
section
variable {g:Gm}
def upf (g:Gm) (pl:Int) (f node:Nat) (l:List (Int×Int)):List (Int×Int):=abv g pl (λ_ _ _=>true) (λl k a=>l++[(QbQ g k,a)]) f node l
theorem QiA (hW:Wg g) {pl:Int} {f:Nat} {l:List (Int×Int)}:upf g pl (f+1) 0 l=l:=by
 unfold upf abv; rw[Wb (by rw[hW.wf.p0]; omega)]
theorem Qm9 (hW:Wg g) {pl:Int}:∀ (f node:Nat) (l:List (Int×Int)),node<f->node<g.ns.length->upf g pl f node l=l++upf g pl f node []
 |0,node,l,h,_=>by omega
 |f+1,node,l,h,hn=>by
  rcases Yp node with hz|hz
  . subst hz; rw[QiA hW,QiA hW]; simp
  . obtain⟨p,hp,k1,k2,k3⟩:=hW.wf.pf node hz hn;unfold upf;rw[Qgc hW hp k1,Qgc hW hp k1];have h1:=Qm9 hW (pl:=pl) f p;unfold upf at h1;by_cases hc:g.ns[p].k=2/\g.ns[p].p=pl
    . rw[Wb hc,Wb hc,h1 _ (by omega) hp,h1 ([]++_) (by omega) hp];simp
    . rw[Wa hc,Wa hc,h1 _ (by omega) hp]
theorem QnT (hW:Wg g) {pl:Int}:∀ (f f' node:Nat) (l:List (Int×Int)),node<f->node<f'->node<g.ns.length->upf g pl f node l=upf g pl f' node l
 |0,f',node,l,h,_,_=>by omega
 |f+1,0,node,l,_,h,_=>by omega
 |f+1,f'+1,node,l,h,h',hn=>by
  rcases Yp node with hz|hz
  . subst hz; rw[QiA hW,QiA hW]
  . obtain⟨p,hp,k1,k2,k3⟩:=hW.wf.pf node hz hn;unfold upf;rw[Qgc hW hp k1,Qgc hW hp k1];exact QnT hW f f' p _ (by omega) (by omega) hp
def Bad (g:Gm) (i:Nat):Prop:=∃ h:i<g.sets.length,∃ h':i<g.is.length,∃ v∈g.sets[i],g.way v.toNat g.is[i].1≠g.way (g.sets[i].headD 0).toNat g.is[i].1
theorem Qni {i:Nat} {pl n0:Int} {first:List (Int×Int)}:∀ (l:List Int),Qbp g nxP nxP i pl n0 first l true=if ∃ v∈l,g.way v.toNat pl≠first then(false,false)else(true,true)
 |[]=>by simp[Qbp]
 |v::r=>by
  have e1:nxP true ⟨1,v,i,g.deep v.toNat pl i⟩=true:=by simp[nxP]
  have e2:∀ b,nxP b ⟨2,v,i,n0⟩=false:=λb=>by simp[nxP]
  unfold Qbp;simp only;rw[Wa (by rw[e1]; simp),e1];have e3:(if 0<=g.deep v.toNat pl i then true else true)=true:=by split<;>rfl
  rw[e3];by_cases hw:g.way v.toNat pl=first
  . rw[Wb hw,Qni r];by_cases hx:∃ u∈r,g.way u.toNat pl≠first
    . obtain⟨u,hu,hh⟩:=hx;rw[Wb ⟨u,hu,hh⟩,Wb ⟨u,VO _ hu,hh⟩]
    . rw[Wa hx,Wa];rintro⟨u,hu,hh⟩;rcases Vi.1 hu with rfl|hu
      . exact hh hw
      . exact hx ⟨u,hu,hh⟩
  . rw[Wa hw,e2,Wa (by simp),Wb ⟨v,ZV,hw⟩]
theorem QnA (hW:Wg g) {pl:Int}:∀ (n i:Nat),i+n=g.is.length->(QcR g nxP nxP (λp=>decide (p=pl)) true n i true=true↔∀ t,i<=t->(h:t<g.is.length)->g.is[t].1=pl->¬ Bad g t)
 |0,i,hi=>by
  simp only[QcR,true_iff];intro t h1 h2; omega
 |n+1,i,hi=>by
  have hlt:i<g.is.length:=by omega
  have hls:i<g.sets.length:=by rw[Qcu]; exact hlt
  unfold QcR;rw[Vb hlt,Vb hls];simp only;have ih:=QnA hW (pl:=pl) n (i+1) (by omega);by_cases hp:g.is[i].1=pl
  . rw[Wb (by simpa using hp),Qni];by_cases hb:∃ v∈g.sets[i],g.way v.toNat g.is[i].1≠g.way (g.sets[i].headD 0).toNat g.is[i].1
    . rw[Wb hb];simp only[and_self,We];constructor
      . intro h; cases h
      . intro h; exact(h i (Vc _) hlt hp ⟨hls,hlt,hb⟩).elim
    . rw[Wa hb];rw[Wa (by simp),ih];constructor
      . intro h t h1 h2 h3;by_cases e:t=i
        . subst e; rintro⟨_,_,h4⟩; exact hb h4
        . exact h t (by omega) h2 h3
      . intro h t h1 h2 h3; exact h t (by omega) h2 h3
  . rw[Wa (by simpa using hp),ih];constructor
    . intro h t h1 h2 h3;by_cases e:t=i
      . subst e; exact(hp h3).elim
      . exact h t (by omega) h2 h3
    . intro h t h1 h2 h3; exact h t (by omega) h2 h3
end
end Go.Proofs.Ytogjmpkehjfecaa.Rc
namespace Go.Proofs.Ytogjmpkehjfecaa.Rc
open Go.Ab Go.Ab.Shr
structure TS where
 rnd:Int
 seed:Int
 A:Nat->List Int
 P:Nat->List Int
 S:Nat->List Int
 V:List Int
 R:List Int
 O:List Int
 ord:List Int
structure TC where
 M:List Int
 F:List Int
def pAo (H:Wu) (_g:Gm):Nat:=H.length
def pA (H:Wu) (_g:Gm) (i:Nat):Nat:=H.length+1+i
def pPo (H:Wu) (g:Gm):Nat:=H.length+1+g.is.length
def pP (H:Wu) (g:Gm) (i:Nat):Nat:=H.length+2+g.is.length+i
def pM (H:Wu) (g:Gm):Nat:=H.length+4+2*g.is.length
def pF (H:Wu) (g:Gm):Nat:=H.length+5+2*g.is.length
def pSo (H:Wu) (g:Gm):Nat:=H.length+7+2*g.is.length
def pS (H:Wu) (g:Gm) (i:Nat):Nat:=H.length+9+2*g.is.length+2*i
def pW (H:Wu) (g:Gm):Nat:=H.length+8+4*g.is.length
def pV (H:Wu) (g:Gm):Nat:=H.length+9+4*g.is.length
def pR (H:Wu) (g:Gm):Nat:=H.length+10+4*g.is.length
def pO (H:Wu) (g:Gm):Nat:=H.length+11+4*g.is.length
def pE (H:Wu) (g:Gm):Nat:=H.length+12+4*g.is.length
def QJ (I:Nat) (p:Nat->Nat) (n:Nat->Nat) (ver:Nat):Wv:=(List.range I).map λi=>.own (p i) 0 (n i) 1 ver
def Qv (g:Gm) (H:Wu) (s:TS):Wv :=
 [i64 g.pl,.slc (nds g.ns) g.ns.length,.slc (Qy g.is) g.is.length,.own (pM H g) 0 g.ns.length 1 1,.own (pF H g) 0 g.is.length 1 1,i64 s.rnd,i64 s.seed,.own (pAo H g) 0 g.is.length 1 0,.own (pPo H g) 0 g.is.length 1 0,.own (pSo H g) 0 g.is.length 1 0,
  .own (pV H g) 0 g.ns.length 4 1,.own (pR H g) 0 g.ns.length 4 1,.own (pO H g) 0 g.ns.length 4 1]
def QbK (g:Gm) (H:Wu) (s:TS):AO:=oI (Qv g H s) s.ord [] 73 0
def Gm.acts (g:Gm) (i:Nat):Nat:=((g.is.getD i (0,0)).2).toNat
structure TL (g:Gm) (c:TC) (s:TS):Prop where
 A:∀ i,i<g.is.length->(s.A i).length=g.acts i
 P:∀ i,i<g.is.length->(s.P i).length=g.acts i
 S:∀ i,i<g.is.length->(s.S i).length=g.acts i
 V:s.V.length=4*g.ns.length
 R:s.R.length=4*g.ns.length
 O:s.O.length=4*g.ns.length
 ord:s.ord.length=10
 M:c.M.length=g.ns.length
 F:c.F.length=g.is.length
structure TW (g:Gm) (H:Wu) (c:TC) (s:TS) (G:Wu):Prop where
 l:TL g c s
 len:G.length=pE H g
 low:∀ i,i<H.length->G[i]? = H[i]?
 cl:closed G
 w:G[pW H g]? = some (QbK g H s)
 m:G[pM H g]? = some ⟨Qa c.M,3,1,true⟩
 f:G[pF H g]? = some ⟨Qa c.F,3,1,true⟩
 ao:G[pAo H g]? = some ⟨QJ g.is.length (pA H g) g.acts 1,36,0,true⟩
 a:∀ i,i<g.is.length->G[pA H g i]? = some ⟨Qa (s.A i),3,1,true⟩
 po:G[pPo H g]? = some ⟨QJ g.is.length (pP H g) g.acts 1,36,0,true⟩
 p:∀ i,i<g.is.length->G[pP H g i]? = some ⟨Qa (s.P i),3,1,true⟩
 so:G[pSo H g]? = some ⟨QJ g.is.length (pS H g) g.acts 0,36,0,true⟩
 ss:∀ i,i<g.is.length->G[pS H g i]? = some ⟨Qa (s.S i),3,0,true⟩
 v:G[pV H g]? = some ⟨Qa s.V,101,1,true⟩
 r:G[pR H g]? = some ⟨Qa s.R,101,1,true⟩
 o:G[pO H g]? = some ⟨Qa s.O,101,1,true⟩
section
variable {g:Gm} {H G:Wu} {c:TC} {s:TS}
theorem TW.setV (h:TW g H c s G) {V:List Int} (hV:V.length=4*g.ns.length):TW g H c { s with V:=V } (G.set (pV H g) ⟨Qa V,101,1,true⟩):=by
 have hlt:=Qb h.v;have ne:∀ {j:Nat} {x:Option AO},pV H g≠j->G[j]? = x->(G.set (pV H g) ⟨Qa V,101,1,true⟩)[j]? = x:=λhn hx=>by rw[Ve hn]; exact hx
 constructor;case l=>exact⟨h.l.A,h.l.P,h.l.S,hV,h.l.R,h.l.O,h.l.ord,h.l.M,h.l.F⟩
 case len=>simpa using h.len
 case cl=>exact Qcq h.cl _ (by simp)
 case v=>rw[Vh hlt]
 case low=>intro i hi; exact ne (by unfold pV; omega) (h.low i hi)
 case a=>intro i hi; exact ne (by unfold pV pA; omega) (h.a i hi)
 case p=>intro i hi; exact ne (by unfold pV pP; omega) (h.p i hi)
 case ss=>intro i hi; exact ne (by unfold pV pS; omega) (h.ss i hi)
 case w=>exact ne (by unfold pV pW; omega) h.w
 case m=>exact ne (by unfold pV pM; omega) h.m
 case f=>exact ne (by unfold pV pF; omega) h.f
 case ao=>exact ne (by unfold pV pAo; omega) h.ao
 case po=>exact ne (by unfold pV pPo; omega) h.po
 case so=>exact ne (by unfold pV pSo; omega) h.so
 case r=>exact ne (by unfold pV pR; omega) h.r
 case o=>exact ne (by unfold pV pO; omega) h.o
theorem TW.setR (h:TW g H c s G) {X:List Int} (hV:X.length=4*g.ns.length):TW g H c { s with R:=X } (G.set (pR H g) ⟨Qa X,101,1,true⟩):=by
 have hlt:=Qb h.r;have ne:∀ {j:Nat} {x:Option AO},pR H g≠j->G[j]? = x->(G.set (pR H g) ⟨Qa X,101,1,true⟩)[j]? = x:=λhn hx=>by rw[Ve hn]; exact hx
 constructor;case l=>exact⟨h.l.A,h.l.P,h.l.S,h.l.V,hV,h.l.O,h.l.ord,h.l.M,h.l.F⟩
 case len=>simpa using h.len
 case cl=>exact Qcq h.cl _ (by simp)
 case r=>rw[Vh hlt]
 case low=>intro i hi; exact ne (by unfold pR; omega) (h.low i hi)
 case a=>intro i hi; exact ne (by unfold pR pA; omega) (h.a i hi)
 case p=>intro i hi; exact ne (by unfold pR pP; omega) (h.p i hi)
 case ss=>intro i hi; exact ne (by unfold pR pS; omega) (h.ss i hi)
 case w=>exact ne (by unfold pR pW; omega) h.w
 case m=>exact ne (by unfold pR pM; omega) h.m
 case f=>exact ne (by unfold pR pF; omega) h.f
 case ao=>exact ne (by unfold pR pAo; omega) h.ao
 case po=>exact ne (by unfold pR pPo; omega) h.po
 case so=>exact ne (by unfold pR pSo; omega) h.so
 case v=>exact ne (by unfold pR pV; omega) h.v
 case o=>exact ne (by unfold pR pO; omega) h.o
theorem TW.setO (h:TW g H c s G) {X:List Int} (hV:X.length=4*g.ns.length):TW g H c { s with O:=X } (G.set (pO H g) ⟨Qa X,101,1,true⟩):=by
 have hlt:=Qb h.o;have ne:∀ {j:Nat} {x:Option AO},pO H g≠j->G[j]? = x->(G.set (pO H g) ⟨Qa X,101,1,true⟩)[j]? = x:=λhn hx=>by rw[Ve hn]; exact hx
 constructor;case l=>exact⟨h.l.A,h.l.P,h.l.S,h.l.V,h.l.R,hV,h.l.ord,h.l.M,h.l.F⟩
 case len=>simpa using h.len
 case cl=>exact Qcq h.cl _ (by simp)
 case o=>rw[Vh hlt]
 case low=>intro i hi; exact ne (by unfold pO; omega) (h.low i hi)
 case a=>intro i hi; exact ne (by unfold pO pA; omega) (h.a i hi)
 case p=>intro i hi; exact ne (by unfold pO pP; omega) (h.p i hi)
 case ss=>intro i hi; exact ne (by unfold pO pS; omega) (h.ss i hi)
 case w=>exact ne (by unfold pO pW; omega) h.w
 case m=>exact ne (by unfold pO pM; omega) h.m
 case f=>exact ne (by unfold pO pF; omega) h.f
 case ao=>exact ne (by unfold pO pAo; omega) h.ao
 case po=>exact ne (by unfold pO pPo; omega) h.po
 case so=>exact ne (by unfold pO pSo; omega) h.so
 case r=>exact ne (by unfold pO pR; omega) h.r
 case v=>exact ne (by unfold pO pV; omega) h.v
end
theorem Qce {G:Wu} {p:Nat} {c:Wv} {T:Wy} {v:Nat} (h:G[p]? = some ⟨c,T,v,true⟩) (L:Wu):Qd (G++L) p v=c:=by
 rw[Qd2 L (Qb h)]; exact Qau (o:=⟨c,T,v,true⟩) h rfl
theorem QiB {G:Wu} {p:Nat} {o:AO} (h:G[p]? = some o) (L:Wu) (f:AO->AO):Ab.setObj (G++L) p f=G.set p (f o)++L:=by
 have hlt:=Qb h;rw[QU (o:=o) (by rw[Vd hlt]; exact h),Yv _ _ hlt]
theorem QcU {I:Nat} {p n:Nat->Nat} {ver i:Nat} (h:i<I):(QJ I p n ver)[i]?.getD .any=.own (p i) 0 (n i) 1 ver:=by simp[QJ,h]
@[simp] theorem Qwn {I:Nat} {p n:Nat->Nat} {ver i:Nat} (h:i<(QJ I p n ver).length):(QJ I p n ver)[i]'h=.own (p i) 0 (n i) 1 ver:=by simp[QJ]
@[simp] theorem Qnu (I:Nat) (p n:Nat->Nat) (ver:Nat):(QJ I p n ver).length=I:=by simp[QJ]
theorem Qdc {l:List Int} {i:Nat} (h:i<l.length):(Qa l)[i]?.getD .any=i64 (l.getD i 0):=by simp[Qa,h]
section
variable {l:List Nd} {i:Nat}
theorem nd0 (h:i<l.length):(nds l)[i*6]?.getD .any=i64 l[i].k:=by have:=Qd1 (t:=0) h (by omega); rw[Yd]at this; rw[this]; rfl
theorem nd1 (h:i<l.length):(nds l)[i*6+1]?.getD .any=i64 l[i].p:=by rw[Qd1 h (by omega)]; rfl
theorem nd2 (h:i<l.length):(nds l)[i*6+2]?.getD .any=i64 l[i].i:=by rw[Qd1 h (by omega)]; rfl
theorem nd3 (h:i<l.length):(nds l)[i*6+3]?.getD .any=.slc (Qa l[i].nx) l[i].nx.length:=by rw[Qd1 h (by omega)]; rfl
theorem nd4 (h:i<l.length):(nds l)[i*6+4]?.getD .any=.slc (Qa l[i].ws) l[i].ws.length:=by rw[Qd1 h (by omega)]; rfl
theorem nd5 (h:i<l.length):(nds l)[i*6+5]?.getD .any=.slc (Qa l[i].ps) l[i].ps.length:=by rw[Qd1 h (by omega)]; rfl
end
def brP (g:Gm) (S:Nat->List Int) (i k:Nat):Int:=match g.ns[i]? with
 |none=>0
 |some x=>if x.k=1 then x.ws.getD k 0 else(S x.i.toNat).getD k 0
def brW (g:Gm) (M:List Int) (i:Nat):Int:=match g.ns[i]? with
 |none=>0
 |some x=>if x.k=1 then M.getD i 0 else 65536
section
variable {g:Gm} {H G:Wu} {c:TC} {s:TS}
theorem TW.cw (h:TW g H c s G) (L:Wu):Qd (G++L) (pW H g) 0=Qv g H s++(Qa s.ord++[]):=Qce h.w L
theorem TW.ltw (h:TW g H c s G):pW H g<G.length:=Qb h.w
theorem QbD (hW:Wg g) {i:Nat} (hi:i<g.ns.length) (hk:g.ns[i].k=2):g.ns[i].i.toNat<g.is.length/\(g.ns[i].i.toNat:Int)=g.ns[i].i/\g.acts g.ns[i].i.toNat=g.ns[i].nx.length/\1<=g.ns[i].nx.length/\g.ns[i].nx.length<=10:=by
 have h1:=hW.gd.inf (Vg hi) hk;have h2:=hW.ty (Vg hi) hk;have h3:=hW.gd.e _ (Vg hi);refine⟨by omega,by omega,?_,?_⟩
 . simp[Gm.acts,h2]
 . unfold Nd.err Nd.move at h3;rw[Wa (by omega),Wa (by omega),Wb hk]at h3;split at h3
   . omega
   . omega
theorem QeO (hW:Wg g) {i:Nat} (hi:i<g.ns.length) (hk:g.ns[i].k=1):g.ns[i].ws.length=g.ns[i].nx.length/\1<=g.ns[i].nx.length/\g.ns[i].nx.length<=60/\∀ w∈g.ns[i].ws,1<=w/\w<=1000:=by
 have h3:=hW.gd.e _ (Vg hi);unfold Nd.err Nd.chance at h3;rw[Wa (by omega),Wb hk]at h3;split at h3
 . omega
 . rename_i hn;refine⟨by omega,by omega,by omega,λw hw => ?_⟩;unfold QaC at h3;split at h3
   . omega
   . rename_i ha;simp only[Yi,not_exists,not_and,QaO,VY,Wd]at ha;have:=ha w hw;omega
theorem Qfa (hW:Wg g) {i:Nat} (hi:i<g.ns.length) (hk:g.ns[i].k=3):g.ns[i].nx=[]/\(g.ns[i].ps.length:Int)=g.pl/\∀ w∈g.ns[i].ps,-1000000<=w/\w<=1000000:=by
 have h3:=hW.gd.e _ (Vg hi);unfold Nd.err Nd.end at h3;rw[Wa (by omega),Wa (by omega),Wa (by omega)]at h3;split at h3
 . omega
 . rename_i hn;refine⟨Vu (by omega),by omega,λw hw => ?_⟩;unfold QaC at h3;split at h3
   . omega
   . rename_i ha;simp only[Yi,not_exists,not_and,QaO,VY,Wd]at ha;have:=ha w hw;omega
theorem Qej (hW:Wg g) {i:Nat} (hi:i<g.ns.length):g.ns[i].k=1\/g.ns[i].k=2\/g.ns[i].k=3:=by
 have h3:=hW.gd.e _ (Vg hi);unfold Nd.err at h3;split at h3
 . omega
 . omega
set_option maxRecDepth 10000 in
theorem ok70 (hW:Wg g) (h:TW g H c s G) (L:Wu) {i k:Nat} (hi:i<g.ns.length) (hk:k<g.ns[i].nx.length) :
 Ok Try.prog 70 [.ptr (.own (pW H g) 0 0 0 0) 0,i64 i,i64 k] (G++L) (.ret (.tup [i64 (brP g s.S i k),i64 (brW g c.M i)])) (G++L):=by
 have hw:=h.cw L;have hlt:=h.ltw;refine Qq hm Try.func70 c70 (by simp[show pW H g<G.length+L.length by omega]) λhcl => ?_;have hx:g.ns[i]? = some g.ns[i]:=Vb hi;have hn:=hW.gd.n;have hg3:g.ns[i].k=1\/g.ns[i].k=2:=by
  rcases Qej hW hi with h|h|h
  . exact .inl h
  . exact .inr h
  . have:=(Qfa hW hi h).1;rw[this]at hk; simp at hk
 rcases hg3 with hk1|hk2
 . obtain⟨a1,a2,a3,a4⟩:=QeO hW hi hk1;have hm0:=Qce h.m L;have hmi:i<c.M.length:=by rw[h.l.M]; exact hi
   have e1:brP g s.S i k=g.ns[i].ws.getD k 0:=by simp[brP,hx,hk1]
   have e2:brW g c.M i=c.M.getD i 0:=by simp[brW,hx,hk1]
   have hkw:k<g.ns[i].ws.length:=by omega
   rw[e1,e2];simp -implicitDefEqProofs[i70,r70,hw,Qv,hi,nd0 hi,nd4 hi,QaK,hk1,hkw,hm0,hmi,Qdc hmi];repeat (refine⟨by omega,?_⟩)
   exact Qn
 . obtain⟨a1,a2,a3,a4,a5⟩:=QbD hW hi hk2;have hso:=Qce h.so L;have hs:=Qce (h.ss _ a1) L;have hl:=h.l.S _ a1;have e1:brP g s.S i k=(s.S g.ns[i].i.toNat).getD k 0:=by simp[brP,hx,hk2]
   have e2:brW g c.M i=65536:=by simp[brW,hx,hk2]
   have hks:k<(s.S g.ns[i].i.toNat).length:=by omega
   rw[e1,e2];simp -implicitDefEqProofs[i70,r70,hw,Qv,hi,nd0 hi,nd2 hi,QaK,hk2,hso,QcU a1,a1,hs,hks,Qdc hks,a3,hk];repeat (refine⟨by omega,?_⟩)
   exact Qn
end
def QV (g:Gm) (S:Nat->List Int) (V nx:List Int) (i q:Nat):Nat->Int
 |0=>0
 |k+1=>IntKind.i64.wrap (QV g S V nx i q k+IntKind.i64.wrap (V.getD ((nx.getD k 0).toNat*4+q) 0*brP g S i k))
def Qbv (g:Gm) (M:List Int) (S:Nat->List Int) (V:List Int) (i q:Nat):Int:=match g.ns[i]? with
 |none=>0
 |some x=>if x.k=3 then IntKind.i64.wrap (x.ps.getD q 0*1024)else IntKind.i64.wrap ((QV g S V x.nx i q x.nx.length).tdiv (brW g M i))
def plF (g:Gm) (f:Nat->Int):Nat->Int:=λq=>if(q:Int)<g.pl then f q else 0
def Qo (q:Nat) (a b:Nat->Int):Nat->Int:=λx=>if x<q then a x else b x
theorem QcA (a b:Nat->Int):Qo 0 a b=b:=by funext x; simp[Qo]
theorem QcO (q:Nat) (a b:Nat->Int):put (Qo q a b) q (a q)=Qo (q+1) a b:=by
 funext x;unfold put Qo;by_cases h1:x=q
 . subst h1; simp
 . rw[Wa h1];by_cases h2:x<q
   . rw[Wb h2,Wb (by omega)]
   . rw[Wa h2,Wa (by omega)]
theorem QfF (q:Nat) (a b:Nat->Int):Qo q a b q=b q:=by simp[Qo]
theorem Qju {g:Gm} {n:Nat} (h:(n:Int)=g.pl) (a b:Nat->Int):Qo n (plF g a) (plF g b)=plF g a:=by
 funext x;unfold Qo plF;by_cases h1:x<n
 . rw[Wb h1]
 . rw[Wa h1,Wa (by omega),Wa (by omega)]
def Qu (V:List Int) (i:Nat) (f:Nat->Int):List Int:=V.take (i*4)++(Qf 4 f++V.drop (i*4+4))
theorem Qa8 {V:List Int} {i n:Nat} (hV:V.length=4*n) (hi:i<n) (f:Nat->Int):(Qu V i f).length=4*n:=by
 simp[Qu]; omega
theorem Qfu {G:Wu} (L:Wu) (f:Nat->Int):Qd (G++⟨Qa (Qf 4 f),101,0,true⟩::L) G.length 0=Qa (Qf 4 f):=by
 rw[Qhs]; exact Qau (o:=⟨Qa (Qf 4 f),101,0,true⟩) rfl rfl
section
variable {g:Gm} {H G:Wu} {c:TC} {s:TS}
set_option maxRecDepth 10000 in
theorem Qs0 (hW:Wg g) (h:TW g H c s G) {i k ch:Nat} {nx:List Int} (hc:ch<g.ns.length) (hnx:nx.getD k 0=ch) {x1 x12 x53 x54:SV} {N:Nat} {K:Wt}
 (hexit:∀ env,env.get 0=.ptr (.own (pW H g) 0 0 0 0) 0->env.get 1=x1->env.get 5=.ptr (.own G.length 0 0 0 0) 0->env.get 12=x12->env.get 53=x53->env.get 54=x54->env.get 55=i64 k ->
  K (.exit 4) env (G++[⟨Qa (Qf 4 (plF g λq=>QV g s.S s.V nx i q (k+1))),101,0,true⟩])) :
 ∀ (m q:Nat) (env:Env),((q+m:Nat):Int)=g.pl->env.get 0=.ptr (.own (pW H g) 0 0 0 0) 0->env.get 1=x1->env.get 5=.ptr (.own G.length 0 0 0 0) 0->env.get 10=i64 ch->env.get 11=i64 (brP g s.S i k)->env.get 12=x12 ->
  env.get 53=x53->env.get 54=x54->env.get 55=i64 k->env.get 71=i64 g.pl->env.get 72=i64 q ->
  LI Try.prog N Qh Qh2 env (G++[⟨Qa (Qf 4 (Qo q (plF g λq=>QV g s.S s.V nx i q (k+1)) (plF g λq=>QV g s.S s.V nx i q k))),101,0,true⟩]) K:=by
 intro m
 induction m with
 |zero =>
  intro q env hq h0 h1 h5 h10 h11 h12 h53 h54 h55 h71 h72;refine Qc hm Qh2.eq_1 ?_;simp -implicitDefEqProofs[h71,h72,show ¬ (q:Int)<g.pl by omega];rw[Qju (by omega)];exact hexit _ (by simp[h0]) (by simp[h1]) (by simp[h5]) (by simp[h12]) (by simp[h53]) (by simp[h54]) (by simp[h55])
 |succ m ih =>
  intro q env hq h0 h1 h5 h10 h11 h12 h53 h54 h55 h71 h72;refine Qc hm Qh2.eq_1 ?_;have hp4:=hW.gd.p4;have hq4:q<4:=by omega
  have hqp:(q:Int)<g.pl:=by omega
  have hw:=λL=>h.cw L;have hv:=λL=>Qce h.v L;have hl:=h.l.V;have hcq:ch*4+q<s.V.length:=by omega
  have hG:=h.len;have e1:QV g s.S s.V nx i q (k+1)=IntKind.i64.wrap (QV g s.S s.V nx i q k+IntKind.i64.wrap (s.V.getD (ch*4+q) 0*brP g s.S i k)):=by simp only[QV,hnx]; simp
  have e2:(plF g λq=>QV g s.S s.V nx i q k) q=QV g s.S s.V nx i q k:=by simp[plF,hqp]
  have e3:(plF g λq=>QV g s.S s.V nx i q (k+1)) q=QV g s.S s.V nx i q (k+1):=by simp[plF,hqp]
  have e4:∀ f:Nat->Int,(Qa (Qf 4 f))[q]?.getD .any=i64 (f q):=λf=>by rw[Qdc (by simpa using hq4),Qcr hq4]
  have e5:∀ (f:Nat->Int) (y:Int),List.take q (Qa (Qf 4 f))++i64 y::List.drop (q+1) (Qa (Qf 4 f))=Qa (Qf 4 (put f q y)):=λf y=>by rw[Qa1 (by simpa using hq4),QdL]
  have e6:=QcO q (plF g λq=>QV g s.S s.V nx i q (k+1)) (plF g λq=>QV g s.S s.V nx i q k);have eV:s.V.getD (ch*4+q) 0=s.V[ch*4+q]:=by simp[hcq]
  rw[e3,e1,eV]at e6;have e7:=QfF q (plF g λq=>QV g s.S s.V nx i q (k+1)) (plF g λq=>QV g s.S s.V nx i q k);rw[e2]at e7;generalize Qo q (plF g λq=>QV g s.S s.V nx i q (k+1)) (plF g λq=>QV g s.S s.V nx i q k)=f at *;have hov:=λ(f:Nat->Int)=>Qfu (G:=G) [] f;simp -implicitDefEqProofs[h0,h1,h5,h10,h11,h12,h71,h72,hqp,hw,Qv,hv,hc,hcq,hq4,hov,e4,e5,e7,QcP hq4];repeat (refine⟨by omega,?_⟩)
  rw[e6];refine ih (q+1) _ (by omega) ?_ ?_ ?_ ?_ ?_ ?_ ?_ ?_ ?_ ?_ ?_
  . simp
  . simp
  . simp
  . simp
  . simp
  . simp
  . simp[h53]
  . simp[h54]
  . simp[h55]
  . simp
  . simp[QR (show q<9223372036854775807 by omega)]
set_option maxRecDepth 10000 in
theorem QpC (hW:Wg g) (h:TW g H c s G) {i:Nat} (hi:i<g.ns.length) {N:Nat} {K:Wt}
 (hexit:∀ env,env.get 0=.ptr (.own (pW H g) 0 0 0 0) 0->env.get 1=i64 i->env.get 5=.ptr (.own G.length 0 0 0 0) 0->env.get 8=i64 (brW g c.M i) ->
  K (.exit 2) env (G++[⟨Qa (Qf 4 (plF g λq=>QV g s.S s.V g.ns[i].nx i q g.ns[i].nx.length)),101,0,true⟩])) :
 ∀ (m k:Nat) (env:Env),k+m=g.ns[i].nx.length->(k≠0->env.get 8=i64 (brW g c.M i))->(m=0->k≠0)->env.get 0=.ptr (.own (pW H g) 0 0 0 0) 0->env.get 1=i64 i->env.get 5=.ptr (.own G.length 0 0 0 0) 0 ->
  env.get 53=.slc (Qa g.ns[i].nx) g.ns[i].nx.length->env.get 54=i64 g.ns[i].nx.length->env.get 55=i64 k ->
  LI Try.prog N Qh QgB env (G++[⟨Qa (Qf 4 (plF g λq=>QV g s.S s.V g.ns[i].nx i q k)),101,0,true⟩]) K:=by
 have hnx60:g.ns[i].nx.length<=60:=QiI (hW.gd.e _ (Vg hi));intro m
 induction m with
 |zero =>
  intro k env hk h8 hk0 h0 h1 h5 h53 h54 h55;refine Qc hm QgB.eq_1 ?_;have e:k=g.ns[i].nx.length:=by omega
  subst e;simp -implicitDefEqProofs[h54,h55];exact hexit _ (by simp[h0]) (by simp[h1]) (by simp[h5]) (by simp[h8 (hk0 rfl)])
 |succ m ih =>
  intro k env hk h8 hk0 h0 h1 h5 h53 h54 h55;refine Qc hm QgB.eq_1 ?_;have hkl:k<g.ns[i].nx.length:=by omega
  have hch:=(hW.wf.nf i hi).ch _ (Vg hkl);have hw:=λL=>h.cw L;simp -implicitDefEqProofs[h0,h1,h5,h53,h54,h55,hkl];refine⟨by omega,Qj (ok70 hW h _ hi hkl) ?_⟩;simp -implicitDefEqProofs[h0,h1,h5,h53,h54,h55,hw,Qv];have hcn:((g.ns[i].nx[k].toNat:Nat):Int)=g.ns[i].nx[k]:=by omega
  have e0:=QcA (plF g λq=>QV g s.S s.V g.ns[i].nx i q (k+1)) (plF g λq=>QV g s.S s.V g.ns[i].nx i q k);rw[<-e0];have hp:=hW.gd.p1;refine Qs0 hW h (i:=i) (k:=k) (ch:=g.ns[i].nx[k].toNat) (nx:=g.ns[i].nx) (by omega) (by simp[hkl,hcn]) (x1:=i64 i) (x12:=i64 (brW g c.M i)) (x53:=.slc (Qa g.ns[i].nx) g.ns[i].nx.length) (x54:=i64 g.ns[i].nx.length) (λenv g0 g1 g5 g12 g53 g54 g55 => ?_) g.pl.toNat 0 _ (by omega) (by simp) (by simp) (by simp) (by simp[hcn]) (by simp) (by simp) (by simp) (by simp) (by simp) (by simp) (by simp);simp -implicitDefEqProofs[g0,g1,g5,g12,g53,g54,g55];refine ih (k+1) _ (by omega) (λ_=>by simp) (λ_=>by omega) ?_ ?_ ?_ ?_ ?_ ?_
  . simp[g0]
  . simp[g1]
  . simp[g5]
  . simp[g53]
  . simp[g54]
  . simp[QR (show k<9223372036854775807 by omega)]
set_option maxRecDepth 10000 in
theorem Qui (hW:Wg g) {d:Int} (hd:d≠0) {f:Nat->Int} {x1:SV} {N:Nat} {K:Wt}
 (hexit:∀ env,env.get 0=.ptr (.own (pW H g) 0 0 0 0) 0->env.get 1=x1->env.get 5=.ptr (.own G.length 0 0 0 0) 0 ->
  K (.exit 6) env (G++[⟨Qa (Qf 4 (plF g λq=>IntKind.i64.wrap ((f q).tdiv d))),101,0,true⟩])) :
 ∀ (m q:Nat) (env:Env),((q+m:Nat):Int)=g.pl->env.get 0=.ptr (.own (pW H g) 0 0 0 0) 0->env.get 1=x1->env.get 5=.ptr (.own G.length 0 0 0 0) 0->env.get 8=i64 d->env.get 98=i64 g.pl->env.get 99=i64 q ->
  LI Try.prog N Qh Qh5 env (G++[⟨Qa (Qf 4 (Qo q (plF g λq=>IntKind.i64.wrap ((f q).tdiv d)) (plF g f))),101,0,true⟩]) K:=by
 have hp4:=hW.gd.p4;intro m
 induction m with
 |zero =>
  intro q env hq h0 h1 h5 h8 h98 h99;refine Qc hm Qh5.eq_1 ?_;simp -implicitDefEqProofs[h98,h99,show ¬ (q:Int)<g.pl by omega];rw[Qju (by omega)];exact hexit _ (by simp[h0]) (by simp[h1]) (by simp[h5])
 |succ m ih =>
  intro q env hq h0 h1 h5 h8 h98 h99;refine Qc hm Qh5.eq_1 ?_;have hq4:q<4:=by omega
  have hqp:(q:Int)<g.pl:=by omega
  have e4:∀ f:Nat->Int,(Qa (Qf 4 f))[q]?.getD .any=i64 (f q):=λf=>by rw[Qdc (by simpa using hq4),Qcr hq4]
  have e5:∀ (f:Nat->Int) (y:Int),List.take q (Qa (Qf 4 f))++i64 y::List.drop (q+1) (Qa (Qf 4 f))=Qa (Qf 4 (put f q y)):=λf y=>by rw[Qa1 (by simpa using hq4),QdL]
  have e6:=QcO q (plF g λq=>IntKind.i64.wrap ((f q).tdiv d)) (plF g f);have e3:(plF g λq=>IntKind.i64.wrap ((f q).tdiv d)) q=IntKind.i64.wrap ((f q).tdiv d):=by simp[plF,hqp]
  rw[e3]at e6;have e7:=QfF q (plF g λq=>IntKind.i64.wrap ((f q).tdiv d)) (plF g f);have e2:(plF g f) q=f q:=by simp[plF,hqp]
  rw[e2]at e7;generalize Qo q (plF g λq=>IntKind.i64.wrap ((f q).tdiv d)) (plF g f)=F at *;have hov:=λ(f:Nat->Int)=>Qfu (G:=G) [] f;simp -implicitDefEqProofs[h0,h1,h5,h8,h98,h99,hqp,hq4,hov,e4,e5,e7,QcP hq4,hd];repeat (refine⟨by omega,?_⟩)
  rw[e6];refine ih (q+1) _ (by omega) ?_ ?_ ?_ ?_ ?_ ?_
  . simp[h0]
  . simp[h1]
  . simp
  . simp
  . simp
  . simp[QR (show q<9223372036854775807 by omega)]
set_option maxRecDepth 10000 in
theorem Qo3 (hW:Wg g) {ps:List Int} (hps:(ps.length:Int)=g.pl) {x1:SV} {N:Nat} {K:Wt}
 (hexit:∀ env,env.get 0=.ptr (.own (pW H g) 0 0 0 0) 0->env.get 1=x1->env.get 5=.ptr (.own G.length 0 0 0 0) 0 ->
  K (.exit 0) env (G++[⟨Qa (Qf 4 (plF g λq=>IntKind.i64.wrap (ps.getD q 0*1024))),101,0,true⟩])) :
 ∀ (m q:Nat) (env:Env),((q+m:Nat):Int)=g.pl->env.get 0=.ptr (.own (pW H g) 0 0 0 0) 0->env.get 1=x1->env.get 5=.ptr (.own G.length 0 0 0 0) 0->env.get 31=.slc (Qa ps) ps.length->env.get 32=i64 ps.length->env.get 33=i64 q ->
  LI Try.prog N Qh Qin env (G++[⟨Qa (Qf 4 (Qo q (plF g λq=>IntKind.i64.wrap (ps.getD q 0*1024)) (plF g λ_=>0))),101,0,true⟩]) K:=by
 have hp4:=hW.gd.p4;intro m
 induction m with
 |zero =>
  intro q env hq h0 h1 h5 h31 h32 h33;refine Qc hm Qin.eq_1 ?_;have e:q=ps.length:=by omega
  subst e;simp -implicitDefEqProofs[h32,h33];rw[Qju (by omega)];exact hexit _ (by simp[h0]) (by simp[h1]) (by simp[h5])
 |succ m ih =>
  intro q env hq h0 h1 h5 h31 h32 h33;refine Qc hm Qin.eq_1 ?_;have hq4:q<4:=by omega
  have hqp:(q:Int)<g.pl:=by omega
  have hql:q<ps.length:=by omega
  have e5:∀ (f:Nat->Int) (y:Int),List.take q (Qa (Qf 4 f))++i64 y::List.drop (q+1) (Qa (Qf 4 f))=Qa (Qf 4 (put f q y)):=λf y=>by rw[Qa1 (by simpa using hq4),QdL]
  have e6:=QcO q (plF g λq=>IntKind.i64.wrap (ps.getD q 0*1024)) (plF g λ_=>0);have e3:(plF g λq=>IntKind.i64.wrap (ps.getD q 0*1024)) q=IntKind.i64.wrap (ps[q]*1024):=by simp[plF,hqp,hql]
  rw[e3]at e6;generalize Qo q (plF g λq=>IntKind.i64.wrap (ps.getD q 0*1024)) (plF g λ_=>0)=F at *;have hov:=λ(f:Nat->Int)=>Qfu (G:=G) [] f;simp -implicitDefEqProofs[h0,h1,h5,h31,h32,h33,hql,hq4,hov,e5];repeat (refine⟨by omega,?_⟩)
  rw[e6];refine ih (q+1) _ (by omega) ?_ ?_ ?_ ?_ ?_ ?_
  . simp[h0]
  . simp[h1]
  . simp
  . simp
  . simp
  . simp[QR (show q<9223372036854775807 by omega)]
end
structure TC.Ok (g:Gm) (c:TC):Prop where
 m:∀ i (h:i<g.ns.length),g.ns[i].k=1->0<c.M.getD i 0
 f:∀ i,i<g.is.length->0<=c.F.getD i 0/\c.F.getD i 0<g.ns.length
theorem Qlo {g:Gm} {c:TC} (h:c.Ok g) {i:Nat} (hi:i<g.ns.length):brW g c.M i≠0:=by
 have hx:g.ns[i]? = some g.ns[i]:=Vb hi;simp only[brW,hx];split
 . rename_i hk; have:=h.m i hi hk; omega
 . decide
section
variable {g:Gm} {H G:Wu} {c:TC} {s:TS}
theorem TW.cw0 (h:TW g H c s G):Qd G (pW H g) 0=Qv g H s++(Qa s.ord++[]):=by have:=h.cw []; rwa [VQ]at this
theorem TW.fin (h:TW g H c s G) {L:Wu}:Cv G.length (.tup []) (G++L) (.tup []) G:=Qfo rfl (Vc _) h.cl rfl
theorem QqU (V:List Int) (i:Nat) (f:Nat->Int):List.take (i*4) (Qa V)++(Qa (Qf 4 f)++List.drop (i*4+4) (Qa V))=Qa (Qu V i f):=by simp[Qa,Qu]
theorem QnQ (h:TW g H c s G) {i:Nat} (hi:i<g.ns.length) {f:Nat->Int} {L:Wu} :
 Qbf G.length (λout G'=>out=.ret (.tup [])/\TW g H c { s with V:=Qu s.V i f } G') (.tup []) (G.set (pV H g) ⟨List.take (i*4) (Qa s.V)++(Qa (Qf 4 f)++List.drop (i*4+4) (Qa s.V)),101,1,true⟩++L):=by
 rw[QqU];have h2:=h.setV (Qa8 h.l.V hi f);have h3:=h2.fin (L:=L);rw[VK]at h3;exact⟨_,_,⟨rfl,h2⟩,h3⟩
set_option maxRecDepth 10000 in
theorem ok50 (hW:Wg g) (h:TW g H c s G) (hc:c.Ok g) {i:Nat} (hi:i<g.ns.length) :
 OkP Try.prog 50 [.ptr (.own (pW H g) 0 0 0 0) 0,i64 i] G λout G'=>out=.ret (.tup [])/\TW g H c { s with V:=Qu s.V i (plF g (Qbv g c.M s.S s.V i)) } G':=by
 have hlt:=h.ltw;have hx:g.ns[i]? = some g.ns[i]:=Vb hi;have hw:=λL=>h.cw L;have hw0:=h.cw0;have hn:=hW.gd.n;have hp:=hW.gd.p1;have hVl:=h.l.V;have hcv:=λL=>Qce h.v L;have hsv:=λL f=>QiB h.v L f;refine QaU hm Try.func50 c50 (by simp[hlt]) λhcl => ?_;have hk12:g.ns[i].k≠3->1<=g.ns[i].nx.length:=λh3=>by
  rcases Qej hW hi with h|h|h
  . exact(QeO hW hi h).2.1
  . exact(QbD hW hi h).2.2.2.1
  . exact absurd h h3
 by_cases hk:g.ns[i].k≠3
 . have ep:(λq=>IntKind.i64.wrap ((QV g s.S s.V g.ns[i].nx i q g.ns[i].nx.length).tdiv (brW g c.M i)))=Qbv g c.M s.S s.V i:=by funext q; simp[Qbv,hx,hk]
   simp -implicitDefEqProofs[i50,r50,hw,hw0,Qv,hi,nd0 hi,nd3 hi,QaK,hk];repeat (refine⟨by omega,?_⟩)
   have e0:[i64 0,i64 0,i64 0,i64 0]=Qa (Qf 4 (plF g λq=>QV g s.S s.V g.ns[i].nx i q 0)):=by
    simp[QV,plF,Qf,Qa,List.range_succ]
   rw[e0];refine QpC hW h hi (λenv g0 g1 g5 g8 => ?_) g.ns[i].nx.length 0 _ (by omega) (λh=>absurd rfl h) (λh=>by have:=hk12 hk; omega) (by simp) (by simp) (by simp) (by simp) (by simp) (by simp);simp -implicitDefEqProofs[g0,g1,g5,g8,hw,Qv];have e1:=QcA (plF g λq=>IntKind.i64.wrap ((QV g s.S s.V g.ns[i].nx i q g.ns[i].nx.length).tdiv (brW g c.M i))) (plF g λq=>QV g s.S s.V g.ns[i].nx i q g.ns[i].nx.length);rw[<-e1];refine Qui (H:=H) hW (Qlo hc hi) (x1:=i64 i) (λenv g0 g1 g5 => ?_) g.pl.toNat 0 _ (by omega) (by simp[g0]) (by simp[g1]) (by simp[g5]) (by simp[g8]) (by simp) (by simp);rw[ep];simp -implicitDefEqProofs[g0,g1,g5,hw,Qv,Qfu,hcv,hsv,hi];exact⟨by omega,QnQ h hi⟩
 . have hk:g.ns[i].k=3:=by omega
   obtain⟨a1,a2,a3⟩:=Qfa hW hi hk;have ep:(λq=>IntKind.i64.wrap (g.ns[i].ps.getD q 0*1024))=Qbv g c.M s.S s.V i:=by funext q; simp[Qbv,hx,hk]
   simp -implicitDefEqProofs[i50,r50,hw,hw0,Qv,hi,nd0 hi,nd5 hi,QaK,hk];repeat (refine⟨by omega,?_⟩)
   have e0:[i64 0,i64 0,i64 0,i64 0]=Qa (Qf 4 (Qo 0 (plF g λq=>IntKind.i64.wrap (g.ns[i].ps.getD q 0*1024)) (plF g λ_=>0))):=by
    rw[QcA]; simp[plF,Qf,Qa,List.range_succ]
   rw[e0];refine Qo3 (H:=H) hW a2 (x1:=i64 i) (λenv g0 g1 g5 => ?_) g.pl.toNat 0 _ (by omega) (by simp) (by simp) (by simp) (by simp) (by simp) (by simp);rw[ep];simp -implicitDefEqProofs[g0,g1,g5,hw,Qv,Qfu,hcv,hsv,hi];exact⟨by omega,QnQ h hi⟩
end
end Go.Proofs.Ytogjmpkehjfecaa.Rc
namespace Go.Ab.Lm
theorem QkX:∀ {l:List Nat} {j:Nat} (h:j<l.length) (x:Nat),val (l.set j x)+l[j]*B ^ j=val l+x*B ^ j
 |[],j,h,x=>by simp at h
 |y::r,0,h,x=>by simp[val]; omega
 |y::r,j+1,h,x=>by
  have ih:=QkX (l:=r) (j:=j) (by simpa using h) x;simp only[Zs,List.getElem_cons_succ,val,Ya];have h1:B*(val (r.set j x)+r[j]'(by simpa using h)*B ^ j)=B*(val r+x*B ^ j):=by rw[ih]
  rw[Ym,Ym]at h1;have e1:B*(r[j]'(by simpa using h)*B ^ j)=r[j]'(by simpa using h)*(B ^ j*B):=by rw[VT,Yn]
  have e2:B*(x*B ^ j)=x*(B ^ j*B):=by rw[VT,Yn]
  rw[e1,e2]at h1;omega
theorem Dig.set {l:List Nat} {j x:Nat} (h:Dig l) (hx:x<B):Dig (l.set j x):=λy hy=>by
 rcases List.mem_or_eq_of_mem_set hy with h1|h1
 . exact h y h1
 . rw[h1]; exact hx
theorem Qnh:∀ n:Nat,val (List.replicate n 0)=0
 |0=>rfl
 |n+1=>by rw[ZA,val,Qnh n,ZG]
theorem Qmy {l:List Nat} {k:Nat} (h:k<l.length):val (l.take (k+1))=val (l.take k)+l[k]*B ^ k:=by
 rw[List.take_succ_eq_append_getElem h,Qie];have:(l.take k).length=k:=by simp; omega
 rw[this];simp[val,VT]
end Go.Ab.Lm
namespace Go.Proofs.Ytogjmpkehjfecaa.Rc
open Go.Ab Go.Ab.Lm
section
variable {H:Wu} {a b:Nat}
theorem QhZ {o:List Nat} {j:Nat} (h:j<o.length) (x:Nat):List.take j (us o)++.val (.int .u32 (x:Int))::List.drop (j+1) (us o)=us (o.set j x):=by
 unfold us;rw[List.map_set,Y1,Wb (by simpa using h)];rfl
set_option maxRecDepth 10000 in
theorem QsN {x y o0:List Nat} {i n:Nat} (hx:Dig x) (hy:Dig y) (hi:i<x.length) (hn:n=x.length+y.length) (hnb:n<1000000) {N:Nat} {K:Wt}
 (hexit:∀ env o c,o.length=n->Dig o->c<B->val o+c*B ^ (i+y.length)=val o0+x[i]*val y*B ^ i->o.drop (i+y.length)=o0.drop (i+y.length) ->
  env.get 0=.slc (us x) x.length->env.get 1=.slc (us y) y.length->env.get 5=.own H.length 0 n 1 0->env.get 6=i64 i->env.get 7=.val (.int .u64 (c:Nat))->K (.exit 2) env (H++[⟨us o,93,0,true⟩])) :
 ∀ (m k:Nat) (o:List Nat) (c:Nat) (env:Env),k+m=y.length->o.length=n->Dig o->c<B->val o+c*B ^ (i+k)=val o0+x[i]*val (y.take k)*B ^ i->o.drop (i+k)=o0.drop (i+k) ->
  env.get 0=.slc (us x) x.length->env.get 1=.slc (us y) y.length->env.get 5=.own H.length 0 n 1 0->env.get 6=i64 i->env.get 7=.val (.int .u64 (c:Nat))->env.get 8=i64 k ->
  LI Try.prog N Qh QhG env (H++[⟨us o,93,0,true⟩]) K:=by
 have hB:B=1000000000:=rfl;intro m
 induction m with
 |zero =>
  intro k o c env hk ho hd hc hv ht h0 h1 h5 h6 h7 h8;refine Qc hm' QhG.eq_1 ?_;have e:k=y.length:=by omega
  subst e;rw[YZ]at hv;simp -implicitDefEqProofs[h0,h1,h5,h6,h7,h8];exact hexit _ o c ho hd hc hv ht (by simp[h0]) (by simp[h1]) (by simp[h5]) (by simp[h6]) (by simp[h7])
 |succ m ih =>
  intro k o c env hk ho hd hc hv ht h0 h1 h5 h6 h7 h8;refine Qc hm' QhG.eq_1 ?_;have hky:k<y.length:=by omega
  have hik:i+k<o.length:=by omega
  have dx:=hx _ (Vg hi);have dy:=hy _ (Vg hky);have dO:=hd _ (Vg hik);have w1:IntKind.i64.wrap ((k:Int)+1)=((k+1:Nat):Int):=QaQ (by omega);have wi:IntKind.i64.wrap ((i:Int)+k)=((i+k:Nat):Int):=by rw[Qi (by omega) (by omega)]; omega
  have gx:(us x)[i]?.getD .any=.val (.int .u32 x[i]):=Qbh hi;have gx':∀ h,(us x)[i]'h=.val (.int .u32 x[i]):=λh=>Qcb hi h;have gy:(us y)[k]?.getD .any=.val (.int .u32 y[k]):=Qbh hky;have gy':∀ h,(us y)[k]'h=.val (.int .u32 y[k]):=λh=>Qcb hky h;obtain⟨j,hj⟩:∃ j,j=i+k:=⟨_,rfl⟩;have hjo:j<o.length:=by omega
  have gO:(us o)[j]?.getD .any=.val (.int .u32 o[j]):=Qbh hjo;have gO':∀ h,(us o)[j]'h=.val (.int .u32 o[j]):=λh=>Qcb hjo h;obtain⟨pm,hpm⟩:∃ pm,pm=x[i]*y[k]:=⟨_,rfl⟩;have hpb:pm<=999999999*999999999:=by rw[hpm]; exact Nat.mul_le_mul (by omega) (by omega)
  have dO':o[j]<B:=hd _ (Vg hjo);obtain⟨s1,hs1⟩:∃ s1,s1=c+o[j]:=⟨_,rfl⟩;obtain⟨t,hts⟩:∃ t,t=s1+pm:=⟨_,rfl⟩;have wo:=QaF (n:=o[j]) (by omega);have wx:=QaF (n:=x[i]) (by omega);have wy:=QaF (n:=y[k]) (by omega);have wm:IntKind.u64.wrap (((x[i]:Nat):Int)*((y[k]:Nat):Int))=(pm:Int):=by
   rw[show((x[i]:Nat):Int)*((y[k]:Nat):Int)=((pm:Nat):Int)by rw[hpm]; simp,QaF (by omega)]
  have wa:IntKind.u64.wrap ((c:Int)+((o[j]:Nat):Int))=(s1:Int):=by rw[show(c:Int)+((o[j]:Nat):Int)=((s1:Nat):Int)by omega,QaF (by omega)]
  have wt:IntKind.u64.wrap ((s1:Int)+(pm:Int))=(t:Int):=by rw[show(s1:Int)+(pm:Int)=((t:Nat):Int)by omega,QaF (by omega)]
  have tm:∀ t:Nat,((t:Int)).tmod 1000000000=((t % 1000000000:Nat):Int):=λt=>rfl;have td:∀ t:Nat,((t:Int)).tdiv 1000000000=((t / 1000000000:Nat):Int):=λt=>rfl;obtain⟨q,hq⟩:∃ q,q=t / 1000000000:=⟨_,rfl⟩;obtain⟨r,hr⟩:∃ r,r=t % 1000000000:=⟨_,rfl⟩;have eq0:((t / 1000000000:Nat):Int)=(q:Int):=by rw[hq]
  have er:((t % 1000000000:Nat):Int)=(r:Int):=by rw[hr]
  have hqb:q<B:=by rw[hq,hB]; omega
  have hrb:r<B:=by rw[hr,hB]; omega
  have wq:=QaF (n:=q) (by omega);have wr:=QaV (n:=r) (by omega);have hset:=QhZ hjo r;have hvs:=QkX hjo r;have hln:(us o).length=n:=by rw[QZ,ho]
  have hih:=ih (k+1) (o.set j r) q;rw[<-hj]at wi;simp -implicitDefEqProofs[h0,h1,h5,h6,h7,h8,hky,QZ,ho,hln,gx,gx',gy,gy',gO,gO',wi,wo,wx,wy,wm,wa,wt,tm,td,eq0,er,wq,wr,hset,show(i:Int)<x.length by omega,show(k:Int)<y.length by omega];repeat (refine⟨by omega,?_⟩)
  refine⟨rfl,?_⟩;repeat (refine⟨by omega,?_⟩)
  refine hih _ (by omega) (by rw[VK]; exact ho) (hd.set hrb) hqb ?_ ?_ ?_ ?_ ?_ ?_ ?_ ?_
  . have hP:B ^ (i+(k+1))=B ^ j*B:=by rw[<-Yf,<- hj,Ya]
    have hP2:B ^ k*B ^ i=B ^ j:=by rw[<-Nat.pow_add,hj,Nat.add_comm]
    rw[<-hj]at hv;rw[hP,Qmy hky];have h4:x[i]*(val (y.take k)+y[k]*B ^ k)*B ^ i=x[i]*val (y.take k)*B ^ i+pm*B ^ j:=by
     rw[Ym,V5,<- Yn,Yn (x[i]*y[k]),hP2,hpm]
    rw[h4];generalize B ^ j=P at *;have h1:t=q*B+r:=by rw[hq,hr,hB]; omega
    have h2:t*P=q*B*P+r*P:=by rw[h1,V5]
    have h3:t*P=c*P+o[j]*P+pm*P:=by rw[hts,hs1,V5,V5]
    have h5:q*(P*B)=q*B*P:=by rw[VT P B,Yn]
    rw[h5];omega
  . rw[<-Yf,<- hj];apply Vx;intro u;have h1:=Wn (λl=>l[u+1]?) ht;simp only[Vq]at h1;rw[Vq,Vq,Ve (by omega)];rw[hj,show i+k+1+u=i+k+(u+1)by omega];exact h1
  . simp
  . simp
  . simp
  . simp
  . simp
  . simp[w1]
set_option maxRecDepth 10000 in
theorem QsB {x y:List Nat} {n:Nat} (hx:Dig x) (hy:Dig y) (hn:n=x.length+y.length) (hnb:n<1000000) {N:Nat} {K:Wt}
 (hexit:∀ env o,o.length=n->Dig o->val o=val x*val y->env.get 5=.own H.length 0 n 1 0->K (.exit 0) env (H++[⟨us o,93,0,true⟩])) :
 ∀ (m i:Nat) (o:List Nat) (env:Env),i+m=x.length->o.length=n->Dig o->val o=val (x.take i)*val y->o.drop (i+y.length)=List.replicate (x.length-i) 0 ->
  env.get 0=.slc (us x) x.length->env.get 1=.slc (us y) y.length->env.get 5=.own H.length 0 n 1 0->env.get 6=i64 i ->
  LI Try.prog N Qh Qic env (H++[⟨us o,93,0,true⟩]) K:=by
 have hB:B=1000000000:=rfl;intro m
 induction m with
 |zero =>
  intro i o env hi ho hd hv ht h0 h1 h5 h6;refine Qc hm' Qic.eq_1 ?_;have e:i=x.length:=by omega
  subst e;rw[YZ]at hv;simp -implicitDefEqProofs[h0,h1,h5,h6];exact hexit _ o ho hd hv (by simp[h5])
 |succ m ih =>
  intro i o env hi ho hd hv ht h0 h1 h5 h6;refine Qc hm' Qic.eq_1 ?_;have hix:i<x.length:=by omega
  have w1:IntKind.i64.wrap ((i:Int)+1)=((i+1:Nat):Int):=QaQ (by omega);simp -implicitDefEqProofs[h0,h1,h5,h6,hix];refine QsN (o0:=o) hx hy hix hn hnb (λenv o2 c ho2 hd2 hc hv2 ht2 k0 k1 k5 k6 k7 => ?_) y.length 0 o 0 _ (by omega) ho hd (by decide) (by simp[val]) rfl ?_ ?_ ?_ ?_ ?_ ?_
  . have wi:IntKind.i64.wrap ((i:Int)+y.length)=((i+y.length:Nat):Int):=by rw[Qi (by omega) (by omega)]; omega
    have wc:=QaV (n:=c) (by omega);obtain⟨j,hj⟩:∃ j,j=i+y.length:=⟨_,rfl⟩;rw[<-hj]at wi hv2 ht2 ht;have hjo:j<o2.length:=by omega
    have hset:=QhZ hjo c;have hvs:=QkX hjo c;have hln:(us o2).length=n:=by rw[QZ,ho2]
    have hz:o2[j]=0:=by
     have h1:=Wn (λl=>l[0]?) (ht2.trans ht);simp only[Vq,Yd]at h1;rw[Vb hjo]at h1;simpa[show 0<x.length-i by omega]using h1
    rw[hz,Yb,Yd]at hvs;simp -implicitDefEqProofs[k0,k1,k5,k6,k7,wi,wc,hset,hln];repeat (refine⟨by omega,?_⟩)
    refine⟨rfl,?_⟩;repeat (refine⟨by omega,?_⟩)
    refine ih (i+1) (o2.set j c) _ (by omega) (by rw[VK]; exact ho2) (hd2.set hc) ?_ ?_ ?_ ?_ ?_ ?_
    . rw[hvs,hv2,hv,Qmy hix,V5];congr 1;rw[Yn,Yn,VT (val y)]
    . rw[show i+1+y.length=j+1 by omega];apply Vx;intro u;have h1:=Wn (λl=>l[u+1]?) (ht2.trans ht);simp only[Vq]at h1;rw[Vq,Ve (by omega),show j+1+u=j+(u+1)by omega,h1,ZJ,ZJ];by_cases hu:u+1<x.length-i
      . rw[Wb hu,Wb (by omega)]
      . rw[Wa hu,Wa (by omega)]
    . simp[k0]
    . simp[k1]
    . simp[k5]
    . simp[w1]
  . simp[h0]
  . simp
  . simp[h5]
  . simp
  . simp
  . simp
theorem QcV (hl:(lim a).length+(lim b).length<1000000):Ok Try.prog 42 [nS a,nS b] H (.ret (nS (a*b))) H:=by
 refine Qq hm' Try.func42 c42 (by simp[nS,QbV]) λhcl => ?_;have wl:IntKind.i64.wrap (((lim a).length:Int)+(lim b).length)=(((lim a).length+(lim b).length:Nat):Int):=by rw[Qi (by omega) (by omega)]; omega
 obtain⟨n,hn⟩:∃ n,n=(lim a).length+(lim b).length:=⟨_,rfl⟩;rw[<-hn]at wl;simp -implicitDefEqProofs[i42,r42,nS,wl];repeat (refine⟨by omega,?_⟩)
 have e0:List.replicate n (SV.val (.int .u32 0))=us (List.replicate n 0):=by simp[us,u32]
 rw[e0];refine QsB (H:=H) (QaY a) (QaY b) hn (by omega) (λenv o ho hd hv h5 => ?_) (lim a).length 0 (List.replicate n 0) _ (by omega) (by simp) (λz hz=>by simp[ZB]at hz; rw[hz.2]; decide) (by rw[Qnh]; simp[val]) ?_ ?_ ?_ ?_ ?_
 . rw[Qcs,Qcs]at hv;have ht:=Qd4 hd;rw[hv]at ht;simp -implicitDefEqProofs[h5];have h69:=QkH (X:=H++[⟨us o,93,0,true⟩]) (l:=o) (k:=H.length) (v:=0) (by simp) (by omega);rw[ho]at h69;refine Q6 h69 ?_;rintro o' G' ⟨rfl,hG⟩;rw[hG];simp -implicitDefEqProofs;have hf:=Qlb (n:=H.length) (L:=[⟨us o,93,0,true⟩]) (z:=o) (k:=0) (d:=0) (v:=0) (by simp);rw[ht,Yd]at hf;rw[ht];exact Ql 2 hcl rfl hf
 . simp[hn]
 . simp
 . simp
 . simp
 . simp
end
section
variable {H:Wu}
theorem QhD {n:Nat} (hn:n<B):Ok Try.prog 82 [.val (.int .u32 (n:Nat))] H (.ret (nS n)) H:=by
 refine Qq hm' Try.func82 c82 (by simp[SV.under]) λhcl => ?_;have ht:=Qd4 (l:=[n]) (λz hz=>by simp at hz; rw[hz]; exact hn);have hv:val [n]=n:=by simp[val]
 rw[hv]at ht;simp -implicitDefEqProofs[i82,r82];refine⟨⟨rfl,rfl,rfl⟩,rfl,?_⟩;have h69:=QkH (X:=H++[⟨us [n],93,0,true⟩]) (l:=[n]) (k:=H.length) (v:=0) (by simp) (by simp);simp only[us,u32,Vs,V3,VV,Ys,VZ]at h69;refine Q6 h69 ?_;rintro o' G' ⟨rfl,hG⟩;rw[hG];simp -implicitDefEqProofs;have hf:=Qlb (n:=H.length) (L:=[⟨us [n],93,0,true⟩]) (z:=[n]) (k:=0) (d:=0) (v:=0) (by simp);rw[ht,Yd]at hf;rw[ht];exact Ql 2 hcl rfl hf
set_option maxRecDepth 10000 in
theorem Qo0 {z:List Nat} (hz:z.length<1000000) {N:Nat} {K:Wt}
 (hexit:∀ env G,env.get 3=.own H.length 0 z.length 1 z.length->K (.exit 0) env (H++⟨us z,93,z.length,true⟩::G)) :
 ∀ (m:Nat) (n:Int) (p:List Nat) (env:Env) (G:Wu),p.length+m=z.length -> -9223372036854775808<=n/\n<=9223372036854775807->p++lim n.natAbs=z->env.get 0=i64 n->env.get 3=.own H.length 0 p.length 1 p.length ->
  LI Try.prog N Qh QgE env (H++⟨us p,93,p.length,true⟩::G) K:=by
 have hB:B=1000000000:=rfl;intro m
 induction m with
 |zero =>
  intro n p env G hm hn hp h0 h3;refine Qc hm' QgE.eq_1 ?_;have hl:=Wn List.length hp;simp only[Vy]at hl;have h1:lim n.natAbs=[]:=Vu (by omega);have h2:=QdD.1 h1;have h3':n=0:=by omega
  subst h3';rw[h1,VQ]at hp;subst hp;simp -implicitDefEqProofs[h0,h3];exact hexit _ G (by simp[h3])
 |succ m ih =>
  intro n p env G hm hn hp h0 h3;refine Qc hm' QgE.eq_1 ?_;have hl:=Wn List.length hp;simp only[Vy]at hl;have hne:n.natAbs≠0:=by
   intro e;rw[e,Qan]at hl;simp at hl;omega
  have hn0:¬ n=0:=by omega
  rw[Qa4 hne]at hp;obtain⟨q,hq⟩:∃ q,q=n.tdiv 1000000000:=⟨_,rfl⟩;obtain⟨d,hd⟩:∃ d,d=n.tmod 1000000000:=⟨_,rfl⟩;have hqa:q.natAbs=n.natAbs / B:=by rw[hq,hB]; exact Int.natAbs_tdiv n 1000000000
  have hda:d.natAbs=n.natAbs % B:=by rw[hd,hB]; exact Int.natAbs_tmod n 1000000000
  have hdb:d.natAbs<B:=by rw[hda]; exact Yr _ Qdr
  have hqb:q.natAbs<=n.natAbs:=by rw[hqa]; exact Y4 _ _
  have hq2:q.natAbs<=9223372036854775808 / 1000000000:=by rw[hqa,hB]; omega
  have wq:IntKind.i64.wrap q=q:=Qi (by omega) (by omega);have wn:IntKind.i64.wrap (-d) = -d:=Qi (by omega) (by omega);obtain⟨r,hr⟩:∃ r,r=d.natAbs:=⟨_,rfl⟩;have hmx:max d (-d)=(r:Int):=by omega
  have wr:=QaV (n:=r) (by omega);have e:us p++[.val (.int .u32 (r:Int))]=us (p++[r]):=by simp[us,u32]
  have hih:=ih q (p++[r]);have hpl:(p++[r]).length=p.length+1:=by simp
  rw[hpl,<- e]at hih;simp -implicitDefEqProofs[h0,h3,hn0,<- hq,<- hd,wq,wn,hmx,wr,QZ];refine⟨⟨rfl,rfl,rfl⟩,rfl,?_⟩;repeat (refine⟨by omega,?_⟩)
  refine hih _ _ (by omega) (by omega) ?_ ?_ ?_
  . rw[hqa,VF,ZD,hr,hda];exact hp
  . simp
  . simp
theorem QkO (n:Int) (hn : -9223372036854775808<=n/\n<=9223372036854775807):Ok Try.prog 41 [i64 n] H (.ret (nS n.natAbs)) H:=by
 refine Qq hm' Try.func41 c41 (by simp) λhcl => ?_;have hz:(lim n.natAbs).length<=3:=Qco (by
  have:B ^ 3=1000000000000000000000000000:=by decide
  omega)
 simp -implicitDefEqProofs[i41,r41];refine Qo0 (H:=H) (z:=lim n.natAbs) (by omega) (λenv G h3 => ?_) (lim n.natAbs).length n [] _ [] (by simp) hn (by simp) (by simp) (by simp);simp -implicitDefEqProofs[h3];refine Ql 2 hcl rfl ?_;simp[nS,QZ,Qdu,QbV];exact VE (by rw[QZ]; omega)
end
end Go.Proofs.Ytogjmpkehjfecaa.Rc
namespace Go.Ab.Lm
theorem QfC:∀ (k n:Nat),(lim n).drop k=lim (n / B ^ k)
 |0,n=>by simp
 |k+1,n=>by
  by_cases h:n=0
  . subst h; rw[Qan]; simp[Qan]
  . rw[Qa4 h,Zn,QfC k,Zt,Ya,VT B]
theorem Qh4 {n k:Nat} (h:k<(lim n).length):(lim n)[k]=n / B ^ k % B:=by
 have h1:=QfC k n;rw[Vz h]at h1;have h2:n / B ^ k≠0:=by
  intro e;rw[e,Qan]at h1
  cases h1
 rw[Qa4 h2]at h1;exact(List.cons.inj h1).1
theorem Qoz {n:Nat} (h:n≠0) (hk:(lim n).length-1<(lim n).length):(lim n)[(lim n).length-1]=n / B ^ ((lim n).length-1)/\0<n / B ^ ((lim n).length-1)/\n / B ^ ((lim n).length-1)<B:=by
 have h1:=Qjs h;have h2:=Qcf n;have h3:0<n / B ^ ((lim n).length-1):=Nat.div_pos h1 (Qhn _);have h4:n / B ^ ((lim n).length-1)<B:=by
  apply Y5;rw[<-Ya,show((lim n).length-1).succ=(lim n).length by omega];exact h2
 refine⟨?_,h3,h4⟩;rw[Qh4 hk,YU h4]
theorem Qsc {x n:Nat} (hx:x<B):QA (x::lim n)=lim (x+B*n):=by
 have h:=Qd4 (l:=x::lim n) (λy hy=>by
  rcases Vi.1 hy with rfl|hy
  . exact hx
  . exact QaY n y hy)
 rw[h,val,Qcs]
theorem Qo8 {R b P:Nat} (hP:0<P) (ht:0<b / P):R / b<=R / P / (b / P):=by
 rw[Zt];apply Nat.div_le_div_left
 . exact Nat.mul_div_le b P
 . exact Zu hP ht
theorem Qtf {A b x:Nat} (hb:0<b) (hA:A=x+B*(A / B)):A / b=(x+B*(A / B % b)) / b+B*(A / B / b)/\A % b=(x+B*(A / B % b)) % b:=by
 have h1:=ZO (A / B) b;generalize A / B=Q at *;have h2:A=(x+B*(Q % b))+b*(B*(Q / b)):=by
  rw[hA];conv=>lhs; rw[<-h1]
  rw[Ym,Nat.mul_left_comm];omega
 rw[h2];exact⟨Nat.add_mul_div_left _ _ hb,Nat.add_mul_mod_self_left _ _ _⟩
end Go.Ab.Lm
namespace Go.Proofs.Ytogjmpkehjfecaa.Rc
open Go.Ab Go.Ab.Shr
theorem oc0 {G:Wu} {p:Nat} {c:Wv} {T:Wy} {v:Nat} (h:G[p]? = some ⟨c,T,v,true⟩):Qd G p v=c:=Qau (o:=⟨c,T,v,true⟩) h rfl
theorem Qd8 {V:List Int} {n ch i q:Nat} (hV:V.length=4*n) (hc:ch<n) (hi:i<n) (hq:q<4) (hne:i≠ch) (f:Nat->Int):(Qu V ch f).getD (i*4+q) 0=V.getD (i*4+q) 0:=by
 simp only[Vr,Qu];congr 1;by_cases hlt:i<ch
 . rw[Vd (by simp; omega),YG (by omega)]
 . rw[Vf (by simp; omega),Vf (by simp; omega),Vq];congr 1;simp; omega
theorem Qlc {V:List Int} {n ch q:Nat} (hV:V.length=4*n) (hc:ch<n) (hq:q<4) (f:Nat->Int):(Qu V ch f).getD (ch*4+q) 0=f q:=by
 simp only[Vr,Qu];rw[Vf (by simp; omega),Vd (by simp; omega)];have:ch*4+q-(List.take (ch*4) V).length=q:=by simp; omega
 rw[this,Vb (by simpa using hq),QcP hq]; rfl
theorem QhL {V:List Int} {n ch q:Nat} (hV:V.length=4*n) (hc:ch<n) (hq:q<4) (f:Nat->Int) (y:Int):(Qu V ch f).set (ch*4+q) y=Qu V ch (put f q y):=by
 unfold Qu;have e:ch*4+q-(List.take (ch*4) V).length=q:=by simp; omega
 rw[Y2 _ _ (by simp; omega),e,Yv _ _ (by simp; omega),QdL]
theorem Qlt {q:Nat} {a b:Nat->Int} (h:a q=b q):Qo q a b=Qo (q+1) a b:=by
 rw[<-QcO];funext x;unfold put;split
 . rename_i e; subst e; rw[QfF,h]
 . rfl
def Qgb (g:Gm) (i q:Nat):Bool:=match g.ns[i]? with
 |none=>false
 |some x=>decide (x.k=2/\x.p=q)
def Qz (V:List Int) (i q:Nat):Int:=V.getD (i*4+q) 0
def qoF (a part whole:Int):Int:=IntKind.i64.wrap ((IntKind.i64.wrap (a*part)).tdiv whole)
def QS (g:Gm) (own:Bool) (S:Nat->List Int) (M R:List Int) (i k q:Nat):Int :=
 if Qgb g i q=own then qoF (R.getD (i*4+q) 0) (brP g S i k) (brW g M i)else R.getD (i*4+q) 0
theorem Qm5 {V:List Int} {n ch i:Nat} (hV:V.length=4*n) (hi:i<n):List.take (ch*4) (Qa V)++(List.take 4 (List.drop (i*4) (Qa V))++List.drop (ch*4+4) (Qa V))=Qa (Qu V ch (Qz V i)):=by
 have e:List.take 4 (List.drop (i*4) V)=Qf 4 (Qz V i):=by
  apply Vx;intro q;by_cases hq:q<4
  . rw[YG hq,Vq,Vb (by omega),Vb (by simpa using hq),QcP hq];simp[Qz,show i*4+q<V.length by omega]
  . rw[Vp (by simp; omega),Vp (by simp; omega)]
 simp only[Qu,<- e,Qa,Y6,ZK,List.map_drop]
section
variable {g:Gm} {H:Wu} {c:TC}
set_option maxRecDepth 10000 in
theorem Qqh (hW:Wg g) (hc:c.Ok g) {i k ch:Nat} (hi:i<g.ns.length) (hch:ch<g.ns.length) (hne:i≠ch) {s:TS} {R O:List Int} (hR:R.length=4*g.ns.length) (hO:O.length=4*g.ns.length) {x20 x21 x22:SV} {N:Nat} {K:Wt}
 (hexit:∀ env G',TW g H c { s with R:=Qu R ch (Qo g.pl.toNat (QS g false s.S c.M R i k) (Qz R i)),O:=Qu O ch (Qo g.pl.toNat (QS g true s.S c.M O i k) (Qz O i)) } G' ->
  env.get 0=.ptr (.own (pW H g) 0 0 0 0) 0->env.get 1=i64 i->env.get 4=.ptr (.slc (nds g.ns) g.ns.length) (i*6)->env.get 20=x20->env.get 21=x21->env.get 22=x22->K (.exit 2) env G') :
 ∀ (m q:Nat) (env:Env) (G:Wu),((q+m:Nat):Int)=g.pl ->
  TW g H c { s with R:=Qu R ch (Qo q (QS g false s.S c.M R i k) (Qz R i)),O:=Qu O ch (Qo q (QS g true s.S c.M O i k) (Qz O i)) } G ->
  env.get 0=.ptr (.own (pW H g) 0 0 0 0) 0->env.get 1=i64 i->env.get 4=.ptr (.slc (nds g.ns) g.ns.length) (i*6)->env.get 6=i64 ch->env.get 7=i64 (brP g s.S i k)->env.get 8=i64 (brW g c.M i)->env.get 20=x20->env.get 21=x21->env.get 22=x22->env.get 64=i64 g.pl->env.get 65=i64 q ->
  LI Try.prog N Qh Qhf env G K:=by
 have hp4:=hW.gd.p4;have hn:=hW.gd.n;have hx:g.ns[i]? = some g.ns[i]:=Vb hi;have hwn:=Qlo hc hi;intro m
 induction m with
 |zero =>
  intro q env G hq h h0 h1 h4 h6 h7 h8 h20 h21 h22 h64 h65;refine Qc hm Qhf.eq_1 ?_;have e:q=g.pl.toNat:=by omega
  rw[e]at h;simp -implicitDefEqProofs[h64,h65,show ¬ (q:Int)<g.pl by omega];exact hexit _ _ h (by simp[h0]) (by simp[h1]) (by simp[h4]) (by simp[h20]) (by simp[h21]) (by simp[h22])
 |succ m ih =>
  intro q env G hq h h0 h1 h4 h6 h7 h8 h20 h21 h22 h64 h65;refine Qc hm Qhf.eq_1 ?_;have hq4:q<4:=by omega
  have hqp:(q:Int)<g.pl:=by omega
  have hw:=h.cw0;have w1:=QR (show q<9223372036854775807 by omega);by_cases hh:Qgb g i q=true
  . have hk:g.ns[i].k=2/\g.ns[i].p=q:=by simpa[Qgb,hx]using hh
    have eR:QS g false s.S c.M R i k q=R.getD (i*4+q) 0:=by simp[QS,hh]
    have eO:QS g true s.S c.M O i k q=qoF (O.getD (i*4+q) 0) (brP g s.S i k) (brW g c.M i):=by simp[QS,hh]
    have eP:=QcO q (QS g true s.S c.M O i k) (Qz O i);rw[Qlt (q:=q) (a:=QS g false s.S c.M R i k) (b:=(Qz R i)) eR]at h;have hO2:=oc0 h.o;have hg:=Qd8 hO hch hi hq4 hne (Qo q (QS g true s.S c.M O i k) (Qz O i));have hs:=QhL hO hch hq4 (Qo q (QS g true s.S c.M O i k) (Qz O i));have hl:=Qa8 hO hch (Qo q (QS g true s.S c.M O i k) (Qz O i));generalize hF:Qo q (QS g true s.S c.M O i k) (Qz O i)=F at *;have hst:=QU h.o;have eI:(Qa (Qu O ch F))[i*4+q]?.getD .any=i64 (O.getD (i*4+q) 0):=by rw[Qdc (by omega),hg]
    have hse:∀ y:Int,List.take (ch*4+q) (Qa (Qu O ch F))++i64 y::List.drop (ch*4+q+1) (Qa (Qu O ch F))=Qa (Qu O ch (put F q y)):=λy=>by rw[Qa1 (by omega),hs]
    have hF2:=h.setO (X:=Qu O ch (put F q (qoF (O.getD (i*4+q) 0) (brP g s.S i k) (brW g c.M i)))) (Qa8 hO hch _);rw[<-eO,eP]at hF2;simp only[qoF]at eO;generalize O.getD (i*4+q) 0=y at *;simp -implicitDefEqProofs[h0,h1,h4,h6,h7,h8,h64,h65,hqp,hw,Qv,hi,nd0 hi,nd1 hi,QaK,hk.1,hk.2,hO2,hch,hst,hq4,hl,hwn,eI,hse];repeat (refine⟨by omega,?_⟩)
    rw[<-eO,eP];refine ih (q+1) _ _ (by omega) hF2 ?_ ?_ ?_ ?_ ?_ ?_ ?_ ?_ ?_ ?_ ?_
    . simp
    . simp
    . simp
    . simp
    . simp
    . simp
    . simp[h20]
    . simp[h21]
    . simp[h22]
    . simp
    . simp[w1]
  . have hh':Qgb g i q=false:=by simpa using hh
    have eR:QS g false s.S c.M R i k q=qoF (R.getD (i*4+q) 0) (brP g s.S i k) (brW g c.M i):=by simp[QS,hh']
    have eO:QS g true s.S c.M O i k q=O.getD (i*4+q) 0:=by simp[QS,hh']
    have eP:=QcO q (QS g false s.S c.M R i k) (Qz R i);rw[Qlt (q:=q) (a:=QS g true s.S c.M O i k) (b:=(Qz O i)) eO]at h;have hR2:=oc0 h.r;have hg:=Qd8 hR hch hi hq4 hne (Qo q (QS g false s.S c.M R i k) (Qz R i));have hs:=QhL hR hch hq4 (Qo q (QS g false s.S c.M R i k) (Qz R i));have hl:=Qa8 hR hch (Qo q (QS g false s.S c.M R i k) (Qz R i));generalize hF:Qo q (QS g false s.S c.M R i k) (Qz R i)=F at *;have hst:=QU h.r;have eI:(Qa (Qu R ch F))[i*4+q]?.getD .any=i64 (R.getD (i*4+q) 0):=by rw[Qdc (by omega),hg]
    have hse:∀ y:Int,List.take (ch*4+q) (Qa (Qu R ch F))++i64 y::List.drop (ch*4+q+1) (Qa (Qu R ch F))=Qa (Qu R ch (put F q y)):=λy=>by rw[Qa1 (by omega),hs]
    have hF2:=h.setR (X:=Qu R ch (put F q (qoF (R.getD (i*4+q) 0) (brP g s.S i k) (brW g c.M i)))) (Qa8 hR hch _);rw[<-eR,eP]at hF2;simp only[qoF]at eR;generalize R.getD (i*4+q) 0=y at *;by_cases hk:g.ns[i].k=2
    . have hp:¬ g.ns[i].p=q:=λe=>by simp[Qgb,hx,hk,e]at hh
      simp -implicitDefEqProofs[h0,h1,h4,h6,h7,h8,h64,h65,hqp,hw,Qv,hi,nd0 hi,nd1 hi,QaK,hk,hp,hR2,hch,hst,hq4,hl,hwn,eI,hse];repeat (refine⟨by omega,?_⟩)
      rw[<-eR,eP];refine ih (q+1) _ _ (by omega) hF2 ?_ ?_ ?_ ?_ ?_ ?_ ?_ ?_ ?_ ?_ ?_
      . simp
      . simp
      . simp
      . simp
      . simp
      . simp
      . simp[h20]
      . simp[h21]
      . simp[h22]
      . simp
      . simp[w1]
    . simp -implicitDefEqProofs[h0,h1,h4,h6,h7,h8,h64,h65,hqp,hw,Qv,hi,nd0 hi,nd1 hi,QaK,hk,hR2,hch,hst,hq4,hl,hwn,eI,hse];repeat (refine⟨by omega,?_⟩)
      rw[<-eR,eP];refine ih (q+1) _ _ (by omega) hF2 ?_ ?_ ?_ ?_ ?_ ?_ ?_ ?_ ?_ ?_ ?_
      . simp
      . simp
      . simp
      . simp
      . simp
      . simp
      . simp[h20]
      . simp[h21]
      . simp[h22]
      . simp
      . simp[w1]
def chR (g:Gm) (own:Bool) (S:Nat->List Int) (M R:List Int) (i k:Nat):List Int:=match g.ns[i]? with
 |none=>R
 |some x=>Qu R (x.nx.getD k 0).toNat (Qo g.pl.toNat (QS g own S M R i k) (Qz R i))
def Qaq (g:Gm) (own:Bool) (S:Nat->List Int) (M R:List Int) (i:Nat):Nat->List Int
 |0=>R
 |k+1=>chR g own S M (Qaq g own S M R i k) i k
theorem QkE {g:Gm} (hW:Wg g) {own:Bool} {S:Nat->List Int} {M R:List Int} {i:Nat} (hi:i<g.ns.length) (hR:R.length=4*g.ns.length):∀ k,k<=g.ns[i].nx.length->(Qaq g own S M R i k).length=4*g.ns.length
 |0,_=>hR
 |k+1,hk=>by
  have hx:g.ns[i]? = some g.ns[i]:=Vb hi;have h1:=QkE hW hi hR k (by omega) (own:=own) (S:=S) (M:=M);have hkl:k<g.ns[i].nx.length:=by omega
  have hch:=(hW.wf.nf i hi).ch _ (Vg hkl);simp only[Qaq,chR,hx];have e:g.ns[i].nx.getD k 0=g.ns[i].nx[k]:=by simp[hkl]
  rw[e];exact Qa8 h1 (by omega) _
set_option maxRecDepth 10000 in
theorem Qt7 (hW:Wg g) (hc:c.Ok g) {i:Nat} (hi:i<g.ns.length) {s:TS} {R O:List Int} (hR:R.length=4*g.ns.length) (hO:O.length=4*g.ns.length) {N:Nat} {K:Wt}
 (hexit:∀ env G',TW g H c { s with R:=Qaq g false s.S c.M R i g.ns[i].nx.length,O:=Qaq g true s.S c.M O i g.ns[i].nx.length } G'->K (.exit 0) env G') :
 ∀ (m k:Nat) (env:Env) (G:Wu),k+m=g.ns[i].nx.length ->
  TW g H c { s with R:=Qaq g false s.S c.M R i k,O:=Qaq g true s.S c.M O i k } G ->
  env.get 0=.ptr (.own (pW H g) 0 0 0 0) 0->env.get 1=i64 i->env.get 4=.ptr (.slc (nds g.ns) g.ns.length) (i*6)->env.get 20=.slc (Qa g.ns[i].nx) g.ns[i].nx.length->env.get 21=i64 g.ns[i].nx.length->env.get 22=i64 k ->
  LI Try.prog N Qh Qgv env G K:=by
 have hn:=hW.gd.n;have hnx60:g.ns[i].nx.length<=60:=QiI (hW.gd.e _ (Vg hi));have hx:g.ns[i]? = some g.ns[i]:=Vb hi;have hp1:=hW.gd.p1;have hp4:=hW.gd.p4;intro m
 induction m with
 |zero =>
  intro k env G hk h h0 h1 h4 h20 h21 h22;refine Qc hm Qgv.eq_1 ?_;have e:k=g.ns[i].nx.length:=by omega
  subst e;simp -implicitDefEqProofs[h21,h22];exact hexit _ _ h
 |succ m ih =>
  intro k env G hk h h0 h1 h4 h20 h21 h22;refine Qc hm Qgv.eq_1 ?_;have hkl:k<g.ns[i].nx.length:=by omega
  have hch:=(hW.wf.nf i hi).ch _ (Vg hkl);have hcn:((g.ns[i].nx[k].toNat:Nat):Int)=g.ns[i].nx[k]:=by omega
  have hgd:g.ns[i].nx.getD k 0=g.ns[i].nx[k]:=by simp[hkl]
  have hRl:=QkE hW hi hR k (by omega) (own:=false) (S:=s.S) (M:=c.M);have hOl:=QkE hW hi hO k (by omega) (own:=true) (S:=s.S) (M:=c.M);have key1:Qaq g false s.S c.M R i (k+1)=Qu (Qaq g false s.S c.M R i k) g.ns[i].nx[k].toNat (Qo g.pl.toNat (QS g false s.S c.M (Qaq g false s.S c.M R i k) i k) (Qz (Qaq g false s.S c.M R i k) i)):=by simp only[Qaq,chR,hx,hgd]
  have key2:Qaq g true s.S c.M O i (k+1)=Qu (Qaq g true s.S c.M O i k) g.ns[i].nx[k].toNat (Qo g.pl.toNat (QS g true s.S c.M (Qaq g true s.S c.M O i k) i k) (Qz (Qaq g true s.S c.M O i k) i)):=by simp only[Qaq,chR,hx,hgd]
  have ih2:=λ(env:Env) (G:Wu)=>ih (k+1) env G (by omega);rw[key1,key2]at ih2;generalize Qaq g false s.S c.M R i k=R1 at *;generalize Qaq g true s.S c.M O i k=O1 at *;have hw:=h.cw0;have w1:=QR (show k<9223372036854775807 by omega);simp -implicitDefEqProofs[h0,h1,h4,h20,h21,h22,hkl];have hcall:=ok70 hW h [] hi hkl;rw[VQ]at hcall;refine⟨by omega,Qj hcall ?_⟩;generalize hc2:g.ns[i].nx[k].toNat=ch at *;have hchn:ch<g.ns.length:=by omega
  rw[<-hcn];have hR2:=oc0 h.r;have hO2:=oc0 h.o;have hs1:=QU h.r;have hA:=h.setR (X:=Qu R1 ch (Qz R1 i)) (Qa8 hRl hchn _);have hs2:=QU hA.o;have hO3:=oc0 hA.o;have hB:=hA.setO (X:=Qu O1 ch (Qz O1 i)) (Qa8 hOl hchn _);have hw2:=hB.cw0;have m1:min 4 (R1.length-i*4)=4:=by omega
  have m2:min 4 (O1.length-i*4)=4:=by omega
  have c1:∀ l:List Int,Qw (List.take 4 (List.drop (i*4) (Qa l))):=λl=>by rw[Qt8,QnU]; simp
  simp -implicitDefEqProofs[h0,h1,h4,h20,h21,h22,hw,hw2,Qv,hR2,hO2,hO3,hi,hchn,m1,m2,c1,hs1,hs2,Qm5 hRl hi,Qm5 hOl hi];repeat (refine⟨by omega,?_⟩)
  rw[<-QcA (QS g false s.S c.M R1 i k) (Qz R1 i),<- QcA (QS g true s.S c.M O1 i k) (Qz O1 i)]at hB;have hne:i≠ch:=by omega
  refine Qqh (H:=H) hW hc (k:=k) hi hchn hne (s:=s) (R:=R1) (O:=O1) hRl hOl (x20:=.slc (Qa g.ns[i].nx) g.ns[i].nx.length) (x21:=i64 g.ns[i].nx.length) (x22:=i64 k) (λenv G' hG' g0 g1 g4 g20 g21 g22 => ?_) g.pl.toNat 0 _ _ (by omega) ?_ (by simp) (by simp) (by simp) (by simp) (by simp) (by simp) (by simp) (by simp) (by simp) (by simp) (by simp)
  . simp -implicitDefEqProofs[g0,g1,g4,g20,g21,g22];refine ih2 _ _ hG' ?_ ?_ ?_ ?_ ?_ ?_
    . simp[g0]
    . simp[g1]
    . simp[g4]
    . simp[g20]
    . simp[g21]
    . simp[w1]
  . rw[QcA,QcA]at hB ⊢;exact hB
set_option maxRecDepth 10000 in
theorem ok51 (hW:Wg g) (hc:c.Ok g) {s:TS} {G:Wu} (h:TW g H c s G) {i:Nat} (hi:i<g.ns.length) :
 OkP Try.prog 51 [.ptr (.own (pW H g) 0 0 0 0) 0,i64 i] G λout G'=>out=.ret (.tup [])/\TW g H c { s with R:=Qaq g false s.S c.M s.R i g.ns[i].nx.length,O:=Qaq g true s.S c.M s.O i g.ns[i].nx.length } G':=by
 have hlt:=h.ltw;have hn:=hW.gd.n;have hw:=h.cw0;refine QaU hm Try.func51 c51 (by simp[hlt]) λhcl => ?_;simp -implicitDefEqProofs[i51,r51,hw,Qv,hi,nd3 hi,QaK];repeat (refine⟨by omega,?_⟩)
 refine Qt7 (H:=H) hW hc hi (s:=s) (R:=s.R) (O:=s.O) h.l.R h.l.O (λenv G' hG' => ?_) g.ns[i].nx.length 0 _ _ (by omega) h (by simp) (by simp) (by simp) (by simp) (by simp) (by simp);simp -implicitDefEqProofs;exact⟨_,_,⟨rfl,hG'⟩,Qn⟩
end
end Go.Proofs.Ytogjmpkehjfecaa.Rc
namespace Go.Proofs.Ytogjmpkehjfecaa.Rc
open Go.Ab Go.Ab.Lm
section
variable {H X:Wu}
set_option maxRecDepth 10000 in
theorem QpS {l m0:List Nat} {k v:Nat} (hk:X[k]? = some ⟨us l,93,v,true⟩) {N:Nat} {K:Wt} (hexit:∀ env,env.get 0=.own k 0 (QA m0).length 1 v->K (.exit 0) env X) :
 ∀ (n:Nat) (m:List Nat) (env:Env) (s:List Nat),n<1000000->m.length=n->m++s=l->QA m=QA m0->env.get 0=.own k 0 m.length 1 v->LI Try.prog N Qh QcX env X K:=by
 intro n
 induction n with
 |zero =>
  intro m env s hn hm0 hs ht h0;refine Qc hm' QcX.eq_1 ?_;have:m=[]:=Vu hm0;subst this;simp -implicitDefEqProofs[h0];refine hexit _ ?_;rw[<-ht]; simp[QA]
 |succ n ih =>
  intro m env s hn hml hs ht h0;refine Qc hm' QcX.eq_1 ?_;obtain⟨m',y,rfl⟩:∃ m' y,m=m'++[y]:=⟨m.dropLast,m.getLast (by intro e; rw[e]at hml; simp at hml),(Z8 _).symm⟩;have hm':m'.length=n:=by simp at hml; exact hml
  have w1:IntKind.i64.wrap (n:Int)=n:=QcJ (by omega);have hc:=Qau (o:=⟨us l,93,v,true⟩) hk rfl;have hln:n<l.length:=by rw[<-hs]; simp; omega
  have e2:(us l)[n]?.getD .any=.val (.int .u32 y):=by
   rw[Qbh hln];have:l[n]=y:=by subst hs; simp[List.getElem_append,hm']
   rw[this]; rfl
  have e2':∀ h,(us l)[n]'h=.val (.int .u32 y):=λh=>by
   have:=e2;rw[Vb h]at this;simpa using this
  have hll:(us l).length=l.length:=QZ l;by_cases hy:y=0
  . subst hy;simp -implicitDefEqProofs[h0,w1,hm',hc,e2,e2',hll];repeat (refine⟨by omega,?_⟩)
    refine ih m' _ ([0]++s) (by omega) hm' (by rw[<-hs]; simp) (by rw[<-ht,QgY]) ?_;simp[hm']
  . have hy':¬ (y:Int)=0:=by omega
    simp -implicitDefEqProofs[h0,w1,hm',hc,e2,e2',hll,hy,hy'];repeat (refine⟨by omega,?_⟩)
    refine hexit _ ?_;rw[<-ht,Qhm hy];simp[hm']
theorem Qox {l m s:List Nat} {k v:Nat} (hk:X[k]? = some ⟨us l,93,v,true⟩) (hs:m++s=l) (hl:m.length<1000000):OkP Try.prog 69 [.own k 0 m.length 1 v] X λo X'=>o=.ret (.own k 0 (QA m).length 1 v)/\X'=X:=by
 have hlt:=Qb hk;refine QaU hm' Try.func69 c69 (by simp[hlt]) λhcl => ?_;simp -implicitDefEqProofs[i69,r69];refine QpS (m0:=m) hk (λenv h0 => ?_) m.length m _ s hl rfl hs rfl (by simp);simp -implicitDefEqProofs[h0];exact⟨_,_,⟨rfl,rfl⟩,Qn⟩
theorem QnF {n:Nat} {L:Wu} {l m s:List Nat} {k d v:Nat} (hs:m++s=l) (h:L[k]? = some ⟨us l,93,v,true⟩):SV.fz n [] L (d+2) (.own (n+k) 0 (QA m).length 1 v)=.slc (us (QA m)) (QA m).length:=by
 have hl:=Qk5 m;have e:(us l).take (QA m).length=us (QA m):=by
  unfold us;rw[<-ZK,<- hs,YI hl,QhS]
 have hll:(QA m).length<=l.length:=by rw[<-hs]; simp; omega
 rw[QdF,h];simp[QY,QZ,Qdu,QbV,e,hll]
theorem Qqw {R n:Nat} {y:List Nat} {x0 x4 x6 x7 x9:SV} (hy:y.length=n) (hn:1<=n) (hR:R / B ^ (n-1)<B*B) (hRl:(lim R).length<1000000) (hnl:n<1000000) {N:Nat} {K:Wt}
 (hexit:∀ env,env.get 0=x0->env.get 1=.slc (us y) y.length->env.get 4=x4->env.get 5=nS R->env.get 6=x6->env.get 7=x7->env.get 9=x9->env.get 10=.val (.int .u64 (R / B ^ (n-1):Nat))->K (.exit 2) env X) :
 ∀ (m:Nat) (k:Nat) (env:Env),k<=(lim R).length->n-1+m=max k (n-1)->env.get 0=x0->env.get 1=.slc (us y) y.length->env.get 4=x4->env.get 5=nS R->env.get 6=x6->env.get 7=x7->env.get 9=x9 ->
  env.get 10=.val (.int .u64 (R / B ^ k:Nat))->(k<n-1->R / B ^ k=0)->env.get 11=i64 ((k:Int)-1)->LI Try.prog N Qh QgM env X K:=by
 have hB:B=1000000000:=rfl;have wy:IntKind.i64.wrap ((y.length:Int)-1)=(y.length:Int)-1:=Qi (by omega) (by omega);intro m
 induction m with
 |zero =>
  intro k env hk hm h0 h1 h4 h5 h6 h7 h9 h10 hz h11;refine Qc hm' QgM.eq_1 ?_;have hkn:k<=n-1:=by omega
  have e:R / B ^ k=R / B ^ (n-1):=by
   by_cases e:k=n-1
   . rw[e]
   . rw[hz (by omega)];have h1:=hz (by omega);have h2:R / B ^ (n-1)<=R / B ^ k:=Nat.div_le_div_left (Zk Qdr (by omega)) (Qhn k);rw[h1]at h2;exact(Nat.le_zero.1 h2).symm
  rw[e]at h10;simp -implicitDefEqProofs[h0,h1,h4,h5,h6,h7,h9,h10,h11,wy,show ¬ (y.length:Int)-1<=(k:Int)-1 by omega];exact hexit _ (by simp[h0]) (by simp[h1]) (by simp[h4]) (by simp[h5]) (by simp[h6]) (by simp[h7]) (by simp[h9]) (by simp[h10])
 |succ m ih =>
  intro k env hk hm h0 h1 h4 h5 h6 h7 h9 h10 hz h11;refine Qc hm' QgM.eq_1 ?_;obtain⟨j,rfl⟩:∃ j,k=j+1:=⟨k-1,by omega⟩;have hjR:j<(lim R).length:=by omega
  have ej:((j+1:Nat):Int)-1=j:=by omega
  rw[ej]at h11;have w1:IntKind.i64.wrap ((j:Int)-1)=(j:Int)-1:=Qi (by omega) (by omega);have g:(us (lim R))[j]?.getD .any=.val (.int .u32 (lim R)[j]):=Qbh hjR;have g':∀ h,(us (lim R))[j]'h=.val (.int .u32 (lim R)[j]):=λh=>Qcb hjR h;have dj:=QaY R _ (Vg hjR);have hs:R / B ^ j=(R / B ^ (j+1))*B+(lim R)[j]:=by
   rw[Qh4 hjR,Ya,<- Zt];have:=ZO (R / B ^ j) B;rw[VT]at this;exact this.symm
  have hjb:R / B ^ j<=R / B ^ (n-1):=Nat.div_le_div_left (Zk Qdr (by omega)) (Qhn _);have hBB:B*B=1000000000000000000:=rfl;obtain⟨u,hu⟩:∃ u,u=R / B ^ (j+1):=⟨_,rfl⟩;obtain⟨t,ht⟩:∃ t,t=R / B ^ j:=⟨_,rfl⟩;obtain⟨p,hp⟩:∃ p,p=u*B:=⟨_,rfl⟩;rw[<-hu,<- ht,<- hp]at hs;rw[<-hu]at h10;have wp:IntKind.u64.wrap ((u:Int)*1000000000)=(p:Int):=by
   rw[show(u:Int)*1000000000=((p:Nat):Int)by rw[hp,hB]; simp,QaF (by omega)]
  have wr:=QaF (n:=(lim R)[j]) (by omega);have wt:IntKind.u64.wrap ((p:Int)+((lim R)[j]:Nat))=(t:Int):=by
   rw[show(p:Int)+((lim R)[j]:Nat)=((t:Nat):Int)by omega,QaF (by omega)]
  have hih:=ih j;rw[<-ht]at hih;simp only[nS]at h5 hih;simp -implicitDefEqProofs[h0,h1,h4,h5,h6,h7,h9,h10,h11,wy,show(y.length:Int)-1<=(j:Int)by omega,hjR,QZ,g,g',wp,wr,wt];repeat (refine⟨by omega,?_⟩)
  refine hih _ (by omega) (by omega) ?_ ?_ ?_ ?_ ?_ ?_ ?_ ?_ (λh=>by omega) ?_
  . simp[h0]
  . simp
  . simp[h4]
  . simp
  . simp[h6]
  . simp[h7]
  . simp[h9]
  . simp
  . simp[w1]
theorem Quj {R b:Nat} {x0 x4 x6 x7 x9:SV} (hb:0<b) (hRl:(lim R).length<100000) (hbl:(lim b).length<100000) {N:Nat} {K:Wt}
 (hexit:∀ env,env.get 0=x0->env.get 1=nS b->env.get 4=x4->env.get 5=nS R->env.get 6=x6->env.get 7=x7->env.get 9=x9->env.get 12=.val (.int .u64 (R / b:Nat))->K (.exit 4) env X) :
 ∀ (d:Nat) (env:Env),d<B->R / b<=d->env.get 0=x0->env.get 1=nS b->env.get 4=x4->env.get 5=nS R->env.get 6=x6->env.get 7=x7->env.get 9=x9->env.get 12=.val (.int .u64 (d:Nat))->LI Try.prog N Qh QgO env X K:=by
 have hB:B=1000000000:=rfl;intro d
 induction d with
 |zero =>
  intro env hd hq h0 h1 h4 h5 h6 h7 h9 h12;refine Qc hm' QgO.eq_1 ?_;have w:=QaV (n:=0) (by omega);have hl0:(lim 0).length=0:=by rw[Qan]; rfl
  have h42:=λH=>QcV (H:=H) (a:=b) (b:=0) (by omega);have h44:=λH=>QeX (H:=H) (a:=b*0) (b:=R) (by rw[ZG]; omega) (by omega);rw[ZG]at h42 h44;simp -implicitDefEqProofs[h0,h1,h4,h5,h6,h7,h9,h12];refine Qj (QhD (n:=0) (by decide)) ?_;simp -implicitDefEqProofs[h0,h1,h4,h5,h6,h7,h9,h12];refine Qj (h42 _) ?_;simp -implicitDefEqProofs[h0,h1,h4,h5,h6,h7,h9,h12];refine Qj (h44 _) ?_;have e:¬ 0<Qal 0 R:=by unfold Qal; split<;>simp
  have hz:R / b=0:=Nat.le_zero.1 hq;rw[hz]at hexit;simp -implicitDefEqProofs[e,h0,h1,h4,h5,h6,h7,h9,h12];exact hexit _ (by simp[h0]) (by simp[h1]) (by simp[h4]) (by simp[h5]) (by simp[h6]) (by simp[h7]) (by simp[h9]) (by simp[h12])
 |succ d ih =>
  intro env hd hq h0 h1 h4 h5 h6 h7 h9 h12;refine Qc hm' QgO.eq_1 ?_;obtain⟨c,hc⟩:∃ c,c=d+1:=⟨_,rfl⟩;rw[<-hc]at h12 hd hq;have w:=QaV (n:=c) (by omega);have hl1:(lim c).length<=1:=Qco (by simpa using hd);have hlm:(lim (b*c)).length<=(lim b).length+1:=Qco (by
   rw[Ya];exact Nat.mul_lt_mul'' (Qcf b) hd)
  have h42:=λH=>QcV (H:=H) (a:=b) (b:=c) (by omega);have h44:=λH=>QeX (H:=H) (a:=b*c) (b:=R) (by omega) (by omega);have h82:=λH=>QhD (H:=H) (n:=c) hd;simp -implicitDefEqProofs[h0,h1,h4,h5,h6,h7,h9,h12,w];refine Qj (h82 _) ?_;simp -implicitDefEqProofs[h0,h1,h4,h5,h6,h7,h9,h12];refine Qj (h42 _) ?_;simp -implicitDefEqProofs[h0,h1,h4,h5,h6,h7,h9,h12];refine Qj (h44 _) ?_;by_cases hgt:R<b*c
  . have e:0<Qal (b*c) R:=by unfold Qal; rw[Wa (by omega),Wb hgt]; decide
    have wd:IntKind.u64.wrap ((c:Int)-1)=(d:Int):=by rw[show(c:Int)-1=((d:Nat):Int)by omega,QaF (by omega)]
    simp -implicitDefEqProofs[e,h0,h1,h4,h5,h6,h7,h9,h12,wd];refine ih _ (by omega) (by
     have:=Y5 hgt;omega) ?_ ?_ ?_ ?_ ?_ ?_ ?_ ?_
    . simp[h0]
    . simp[h1]
    . simp[h4]
    . simp[h5]
    . simp[h6]
    . simp[h7]
    . simp[h9]
    . simp
  . have e:¬ 0<Qal (b*c) R:=by unfold Qal; rw[Wa hgt]; split<;>simp
    have hz:R / b=c:=by
     have:c<=R / b:=(Nat.le_div_iff_mul_le hb).2 (by rw[VT]; omega);omega
    rw[hz]at hexit;simp -implicitDefEqProofs[e,h0,h1,h4,h5,h6,h7,h9,h12];exact hexit _ (by simp[h0]) (by simp[h1]) (by simp[h4]) (by simp[h5]) (by simp[h6]) (by simp[h7]) (by simp[h9]) (by simp[h12])
theorem Qpx {R f k v n:Nat} {A:Wu} {x4:SV} (hf:0<f) (hfB:f<B) (hRl:(lim R).length<100000) {N:Nat} {K:Wt}
 (hexit:∀ env X l,X[k]? = some ⟨us l,93,v,true⟩->(∀ j,j≠k->X[j]? = A[j]?)->X.length=A.length->(∃ s,∃ m:List Nat,m++s=l/\m.length=(lim R).length/\Dig m/\val m=R / f)->env.get 4=x4->env.get 5=.own k 0 (lim R).length 1 v->K (.exit 6) env X) :
 ∀ (i:Nat) (env:Env) (X:Wu) (l s m:List Nat),i<=(lim R).length->X[k]? = some ⟨us l,93,v,true⟩->(∀ j,j≠k->X[j]? = A[j]?)->X.length=A.length->m++s=l->m.length=(lim R).length->m.take i=(lim R).take i->Dig m->val (m.drop i)=R / B ^ i / f ->
  env.get 4=x4->env.get 5=.own k 0 (lim R).length 1 v->env.get 6=nS f->env.get 13=.val (.int .u64 (R / B ^ i % f:Nat))->env.get 14=i64 ((i:Int)-1)->LI Try.prog N Qh Qiz env X K:=by
 have hB:B=1000000000:=rfl;have hBB:B*B=1000000000000000000:=rfl;have elf:lim f=[f]:=by
  rw[Qa4 (by omega),YU hfB,YL hfB,Qan]
 intro i
 induction i with
 |zero =>
  intro env X l s m hi hX ho hXl hms hml ht hd hv h4 h5 h6 h13 h14;refine Qc hm' Qiz.eq_1 ?_;simp -implicitDefEqProofs[h4,h5,h6,h13,h14];exact hexit _ X l hX ho hXl ⟨s,m,hms,hml,hd,by simpa using hv⟩ (by simp[h4]) (by simp[h5])
 |succ i ih =>
  intro env X l s m hi hX ho hXl hms hml ht hd hv h4 h5 h6 h13 h14;refine Qc hm' Qiz.eq_1 ?_;have hiR:i<(lim R).length:=by omega
  have him:i<m.length:=by omega
  have hil:i<l.length:=by rw[<-hms]; simp; omega
  have ej:((i+1:Nat):Int)-1=i:=by omega
  rw[ej]at h14;have w1:IntKind.i64.wrap ((i:Int)-1)=(i:Int)-1:=Qi (by omega) (by omega);have hli:l[i]=(lim R)[i]:=by
   have h1:l[i]? = (lim R)[i]? := by
    rw[<-hms,Vd him];have:=Wn (λl=>l[i]?) ht;simpa[VB]using this
   rw[Vb hil,Vb hiR]at h1;simpa using h1
  have hc:=oc0 hX;have hst:=QU hX;have dj:=QaY R _ (Vg hiR);have g:(us l)[i]?.getD .any=.val (.int .u32 (lim R)[i]):=by rw[Qbh hil,hli]; rfl
  have g':∀ h,(us l)[i]'h=.val (.int .u32 (lim R)[i]):=λh=>by rw[Qcb hil,hli]; rfl
  have hll:(us l).length=l.length:=QZ l;obtain⟨Q,hQ⟩:∃ Q,Q=R / B ^ (i+1):=⟨_,rfl⟩;obtain⟨c,hcc⟩:∃ c,c=Q % f:=⟨_,rfl⟩;rw[<-hQ,<- hcc]at h13;have hcf:c<f:=by rw[hcc]; exact Yr _ hf
  have hRi:R / B ^ i=(lim R)[i]+B*Q:=by
   rw[Qh4 hiR,hQ,Ya,<- Zt];exact(Nat.mod_add_div _ _).symm
  obtain⟨p,hp⟩:∃ p,p=c*B:=⟨_,rfl⟩;obtain⟨t,ht2⟩:∃ t,t=p+(lim R)[i]:=⟨_,rfl⟩;have hpb:p+B<=B*B:=by
   rw[hp];have:(c+1)*B<=B*B:=Yz B (by omega);rw[V5,Y7]at this;exact this
  have wp:IntKind.u64.wrap ((c:Int)*1000000000)=(p:Int):=by
   rw[show(c:Int)*1000000000=((p:Nat):Int)by rw[hp,hB]; simp,QaF (by omega)]
  have wr:=QaF (n:=(lim R)[i]) (by omega);have wt:IntKind.u64.wrap ((p:Int)+((lim R)[i]:Nat))=(t:Int):=by
   rw[show(p:Int)+((lim R)[i]:Nat)=((t:Nat):Int)by omega,QaF (by omega)]
  have wf:=QaF (n:=f) (by omega);obtain⟨q,hq⟩:∃ q,q=t / f:=⟨_,rfl⟩;obtain⟨r,hr⟩:∃ r,r=t % f:=⟨_,rfl⟩;have hqb:q<B:=by
   rw[hq];apply Y5;have:(c+1)*B<=f*B:=Yz B hcf;rw[V5,Y7]at this;omega
  have td:((t:Int)).tdiv (f:Int)=(q:Int):=by rw[hq]; rfl
  have tm:((t:Int)).tmod (f:Int)=(r:Int):=by rw[hr]; rfl
  have hrf:r<f:=by rw[hr]; exact Yr _ hf
  have wq:=QaF (n:=q) (by omega);have wq2:=QaV (n:=q) (by omega);have wrr:=QaF (n:=r) (by omega);have hset:=QhZ hil q;have hk:=Qb hX;have hfz:¬ (f:Int)=0:=by omega
  have ef:us (lim f)=[.val (.int .u32 (f:Int))]:=by rw[elf]; rfl
  have efl:(lim f).length=1:=by rw[elf]; rfl
  simp only[nS,ef,efl]at h6;have hQf:B*Q=f*(B*(Q / f))+p:=by
   have:=ZO Q f;rw[<-hcc]at this;conv=>lhs; rw[<-this]
   rw[Ym,Nat.mul_left_comm,hp,VT c B]
  have hts:R / B ^ i=f*(B*(Q / f))+t:=by rw[hRi,hQf,ht2]; omega
  have hdv:R / B ^ i / f=B*(Q / f)+q:=by
   rw[hts,Nat.mul_add_div hf,hq]
  have hmd:R / B ^ i % f=r:=by
   rw[hts,Nat.mul_add_mod,hr]
  have hih:=ih;rw[hdv,hmd]at hih;simp -implicitDefEqProofs[h4,h5,h6,h13,h14,hc,hil,hll,hst,g,g',wp,wr,wt,wf,td,tm,wq,wq2,wrr,hset,hfz,hiR];repeat (refine⟨by omega,?_⟩)
  refine⟨rfl,?_⟩;repeat (refine⟨by omega,?_⟩)
  refine hih _ _ (l.set i q) s (m.set i q) (by omega) (by rw[Vh hk]) (λj hj=>by rw[Ve (λe=>hj e.symm)]; exact ho j hj) (by rw[VK]; exact hXl) ?_ (by rw[VK]; exact hml) ?_ (hd.set hqb) ?_ ?_ ?_ ?_ ?_ ?_
  . rw[<-hms,Yv _ _ him]
  . apply Vx;intro j;have h1:=Wn (λl=>l[j]?) ht;simp only[VB]at h1 ⊢;by_cases hj:j<i
    . rw[Wb hj,Wb hj,Ve (by omega)];rw[Wb (by omega),Wb (by omega)]at h1;exact h1
    . rw[Wa hj,Wa hj]
  . have hms2:i<(m.set i q).length:=by rw[VK]; exact him
    have e1:(m.set i q).drop i=q::m.drop (i+1):=by
     rw[Vz hms2,List.getElem_set_self];congr 1;apply Vx;intro j;rw[Vq,Vq,Ve (by omega)]
    rw[e1,val,hv,<- hQ];omega
  . simp[h4]
  . simp
  . simp[nS,ef,efl]
  . simp
  . simp[w1]
end
structure DV (H:Wu) (gq j A bb k v:Nat) (X:Wu):Prop where
 low:∀ i,i<H.length->X[i]? = H[i]?
 hq:∃ qs,X[H.length+1]? = some ⟨us qs,93,1,true⟩/\qs.length=gq+1/\Dig qs/\val (qs.drop j)=A / B ^ j / bb
 hr:∃ s,X[k]? = some ⟨us (lim (A / B ^ j % bb)++s),93,v,true⟩
 hk:H.length<=k/\k≠H.length+1
section
variable {H X:Wu}
set_option maxRecDepth 10000 in
theorem QrM {A bb gq n top:Nat} {x6:SV} (hb:0<bb) (hn:(lim bb).length=n+1) (hA:(lim A).length=n+1+gq) (hl:n+1+gq<50000) (htop:top=bb / B ^ n) (ht0:0<top) (htB:top<B) {N:Nat} {K:Wt}
 (hexit:∀ env X k v,DV H gq 0 A bb k v X->env.get 4=.own (H.length+1) 0 (gq+1) 1 1->env.get 5=.own k 0 (lim (A % bb)).length 1 v->env.get 6=x6->K (.exit 0) env X) :
 ∀ (j:Nat) (env:Env) (X:Wu) (k v:Nat),j<=gq+1->DV H gq j A bb k v X->env.get 0=nS A->env.get 1=nS bb->env.get 4=.own (H.length+1) 0 (gq+1) 1 1->env.get 5=.own k 0 (lim (A / B ^ j % bb)).length 1 v->env.get 6=x6->env.get 7=.val (.int .u64 (top:Nat))->env.get 9=i64 ((j:Int)-1)->LI Try.prog N Qh Qhc env X K:=by
 have hB:B=1000000000:=rfl;intro j
 induction j with
 |zero =>
  intro env X k v hj h h0 h1 h4 h5 h6 h7 h9;refine Qc hm' Qhc.eq_1 ?_;simp -implicitDefEqProofs[h0,h1,h4,h5,h6,h7,h9];exact hexit _ X k v h (by simp[h4]) (by simp[h5]) (by simp[h6])
 |succ i ih =>
  intro env X k v hj h h0 h1 h4 h5 h6 h7 h9;refine Qc hm' Qhc.eq_1 ?_;have ej:((i+1:Nat):Int)-1=i:=by omega
  rw[ej]at h9;have hiA:i<(lim A).length:=by omega
  have w1:IntKind.i64.wrap ((i:Int)-1)=(i:Int)-1:=Qi (by omega) (by omega);obtain⟨x,hx⟩:∃ x,x=(lim A)[i]:=⟨_,rfl⟩;have hxB:x<B:=by rw[hx]; exact QaY A _ (Vg _)
  have g:(us (lim A))[i]?.getD .any=.val (.int .u32 x):=by rw[Qbh hiA,hx]; rfl
  have g':∀ h,(us (lim A))[i]'h=.val (.int .u32 x):=λh=>by rw[Qcb hiA,hx]; rfl
  obtain⟨s,hs⟩:=h.hr;obtain⟨qs,hq1,hq2,hq3,hq4⟩:=h.hq;obtain⟨r,hr⟩:∃ r,r=A / B ^ (i+1) % bb:=⟨_,rfl⟩;rw[<-hr]at hs h5;have hrb:r<bb:=by rw[hr]; exact Yr _ hb
  have hrl:=QcN (YQ hrb);have hor:=λL=>Qce hs L;have htk:List.take (lim r).length (us (lim r++s))=us (lim r):=by
   unfold us;rw[Y6,YI (by simp),VE (by simp)]
  have hln:(us (lim r++s)).length=(lim r).length+s.length:=by rw[QZ]; simp
  simp only[nS]at h0;simp -implicitDefEqProofs[h0,h1,h4,h5,h6,h7,h9,hiA,QZ,g,g',hor,htk,hln];repeat (refine⟨by omega,?_⟩)
  refine⟨⟨rfl,rfl,rfl⟩,rfl,?_,?_⟩
  . intro y hy;obtain⟨z,_,rfl⟩:=Vm.1 hy;rfl
  repeat (refine⟨by omega,?_⟩)
  obtain⟨R,hR⟩:∃ R,R=x+B*r:=⟨_,rfl⟩;have eg:SV.val (.int .u32 (x:Int))::us (lim r)=us (x::lim r):=rfl;have etr:QA (x::lim r)=lim R:=by rw[Qsc hxB,hR]
  have hl69:(x::lim r).length<1000000:=by simp; omega
  have hlen:1+(lim r).length=(x::lim r).length:=by simp; omega
  rw[eg,hlen];have h69:=λH=>ok69 (H:=H) (l:=x::lim r) hl69;rw[etr]at h69;refine QnP X.length 1 (o:=⟨us (x::lim r),93,1,true⟩) (by simp) rfl ?_ (h69 _) ?_
  . simp[QZ];exact VE (by rw[QZ]; simp)
  have hset0:Ab.setObj (X++[(⟨us (x::lim r),93,1,true⟩:AO)]) X.length AO.dead=X++[⟨[],93,2,false⟩]:=by
   rw[QU (o:=⟨us (x::lim r),93,1,true⟩) (by simp)];simp[AO.dead]
  rw[hset0];have hAi:A / B ^ i=x+B*(A / B ^ i / B):=by
   rw[hx,Qh4 hiA];exact(Nat.mod_add_div _ _).symm
  have hdd:A / B ^ i / B=A / B ^ (i+1):=by rw[Zt,Ya]
  obtain⟨ds1,ds2⟩:=Qtf hb hAi;rw[hdd,<- hr,<- hR]at ds1 ds2;have hRb:R<B*bb:=by
   rw[hR];have:B*(r+1)<=B*bb:=YM B hrb;rw[Ym,Yc]at this;omega
  have hbbl:=Qcf bb;rw[hn]at hbbl;have hRl:(lim R).length<=n+2:=Qco (by
   rw[Ya,VT];exact Zc hRb (YM B (YQ hbbl)))
  have hlead:R / B ^ n<B*B:=by
   apply Y5;rw[<-Yn,<- Ya,VT];exact Zc hRb (YM B (YQ hbbl))
  have hBB:B*B=1000000000000000000:=rfl;obtain⟨lead,hle⟩:∃ lead,lead=R / B ^ n:=⟨_,rfl⟩;obtain⟨lq,hlq⟩:∃ lq,lq=lead / top:=⟨_,rfl⟩;have tdl:((lead:Int)).tdiv (top:Int)=(lq:Int):=by rw[hlq]; rfl
  have hlq1:lq<=lead:=by rw[hlq]; exact Y4 _ _
  have wlq:=QaF (n:=lq) (by omega);have htz:¬ (top:Int)=0:=by omega
  have htz2:¬ top=0:=by omega
  obtain⟨d0,hd0⟩:∃ d0,d0=min lq 999999999:=⟨_,rfl⟩;have wmin:min (lq:Int) 999999999=(d0:Int):=by omega
  have hd1:R / bb<=d0:=by
   have h1:R / bb<=lq:=by
    rw[hlq,hle,htop];exact Qo8 (Qhn n) (by rw[<-htop]; exact ht0)
   have h2:R / bb<B:=Y5 (by rw[VT]; exact hRb);omega
  have wR:IntKind.i64.wrap (((lim R).length:Int)-1)=((lim R).length:Int)-1:=Qi (by omega) (by omega);simp -implicitDefEqProofs[nS,wR,h0,h1,h4,h5,h6,h7,h9];refine Qqw (X:=X++[⟨[],93,2,false⟩]) (R:=R) (n:=n+1) (y:=lim bb) (x0:=nS A) (x4:=.own (H.length+1) 0 (gq+1) 1 1) (x6:=x6) (x7:=.val (.int .u64 (top:Nat))) (x9:=i64 i) hn (by omega) (by simpa using hlead) (by omega) (by omega) (λenv k0 k1 k4 k5 k6 k7 k9 k10 => ?_) (max (lim R).length n-n) (lim R).length _ (Vc _) (by simp; omega) ?_ ?_ ?_ ?_ ?_ ?_ ?_ ?_ ?_ ?_
  . simp only[ZH,<- hle]at k10;simp -implicitDefEqProofs[k0,k1,k4,k5,k6,k7,k9,k10,tdl,wlq,htz,htz2,wmin];refine Quj (X:=X++[⟨[],93,2,false⟩]) (R:=R) (b:=bb) (x0:=nS A) (x4:=.own (H.length+1) 0 (gq+1) 1 1) (x6:=x6) (x7:=.val (.int .u64 (top:Nat))) (x9:=i64 i) hb (by omega) (by omega) (λenv m0 m1 m4 m5 m6 m7 m9 m12 => ?_) d0 _ (by omega) hd1 ?_ ?_ ?_ ?_ ?_ ?_ ?_ ?_
    . obtain⟨d,hd⟩:∃ d,d=R / bb:=⟨_,rfl⟩;rw[<-hd]at m12 ds1 hd1;have hdB:d<B:=by omega
      have wd:=QaV (n:=d) (by omega);have hdl:(lim d).length<=1:=Qco (by simpa using hdB);have hbd:bb*d<=R:=by rw[hd]; exact Nat.mul_div_le R bb
      have hbdl:=QcN hbd;have h82:=λH=>QhD (H:=H) (n:=d) hdB;have h42:=λH=>QcV (H:=H) (a:=bb) (b:=d) (by omega);have h45:=λH=>QlT (H:=H) (a:=R) (b:=bb*d) hbd (by omega) (by omega);simp -implicitDefEqProofs[m0,m1,m4,m5,m6,m7,m9,m12,wd];refine Qj (h82 _) ?_;simp -implicitDefEqProofs[m0,m1,m4,m5,m6,m7,m9,m12];refine Qj (h42 _) ?_;simp -implicitDefEqProofs[m0,m1,m4,m5,m6,m7,m9,m12];refine Q6 (h45 _) ?_;rintro o G' ⟨z,G,rfl,rfl,hz1,hz2⟩;have hiq:i<qs.length:=by omega
      have hoq:=λL=>Qce hq1 L;have hsq:=λL f=>QiB hq1 L f;have hset:=QhZ hiq d;have hql:(us qs).length=gq+1:=by rw[QZ,hq2]
      simp -implicitDefEqProofs[m0,m1,m4,m5,m6,m7,m9,m12,wd,hoq,hsq,hset,hql];repeat (refine⟨by omega,?_⟩)
      refine⟨rfl,?_⟩;repeat (refine⟨by omega,?_⟩)
      have hmod:R-bb*d=A / B ^ i % bb:=by rw[ds2,hd]; have:=ZO R bb; omega
      rw[hmod]at hz1;have hXl:H.length+1<X.length:=Qb hq1;have hlow:=h.low;refine ih _ (X.set (H.length+1) ⟨us (qs.set i d),93,1,true⟩++(⟨[],93,2,false⟩::⟨us z,93,z.length,true⟩::G)) (X.length+1) z.length (by omega) ⟨λu hu => ?_,⟨qs.set i d,?_,?_,hq3.set hdB,?_⟩,⟨z.drop (QA z).length,?_⟩,by omega,by omega⟩ ?_ ?_ ?_ ?_ ?_ ?_ ?_
      . rw[Vd (by rw[VK]; omega),Ve (by omega)];exact hlow u hu
      . rw[Vd (by rw[VK]; omega),Vh hXl]
      . rw[VK]; exact hq2
      . have e1:(qs.set i d).drop i=d::qs.drop (i+1):=by
         rw[Vz (by rw[VK]; exact hiq),List.getElem_set_self];congr 1;apply Vx;intro u;rw[Vq,Vq,Ve (by omega)]
        rw[e1,val,hq4,ds1]
      . rw[Vf (by rw[VK]; omega),VK,show X.length+1-X.length=1 by omega];have e2:lim (A / B ^ i % bb)++z.drop (QA z).length=z:=by
         rw[<-hz1];conv=>rhs; rw[<-Yk (QA z).length z]
         rw[QhS]
        rw[e2]; rfl
      . simp[m0]
      . simp[m1]
      . simp[m4]
      . simp[hmod]
      . simp[m6]
      . simp[m7]
      . simp[w1]
    . simp[k0]
    . simp[k1,nS]
    all_goals simp[k4,k5,k6,k7,k9]
  all_goals (first|(simp[nS,h0,h1,h4,h6,h7,h9]; done)|skip)
  . rw[YL (Qcf R)]; simp
  . exact λ_=>YL (Qcf R)
end
end Go.Proofs.Ytogjmpkehjfecaa.Rc
namespace Go.Proofs.Ytogjmpkehjfecaa.Rc
open Go.Ab Go.Ab.Shr
def upA (A:Nat->List Int) (j:Nat) (X:List Int):Nat->List Int:=λk=>if k=j then X else A k
theorem Qmu (A:Nat->List Int) (j:Nat) (X:List Int):upA A j X j=X:=by simp[upA]
theorem QoO (A:Nat->List Int) (j:Nat) (X Y:List Int):upA (upA A j X) j Y=upA A j Y:=by funext k; simp only[upA]; split<;>rfl
theorem Qn4 (A:Nat->List Int) (j:Nat):upA A j (A j)=A:=by funext k; simp only[upA]; split; rename_i e; rw[e]; rfl
theorem Qnp (l:List Int):Qf l.length (λa=>l.getD a 0)=l:=by
 apply Vx;intro j;by_cases h:j<l.length
 . rw[Vb (by simpa using h),QcP h,Vb h]; simp[h]
 . rw[Vp (by simp; omega),Vp (by omega)]
theorem QeH {g:Gm} (hW:Wg g) {i:Nat} (hi:i<g.ns.length) (hk:g.ns[i].k=2):0<=g.ns[i].p/\g.ns[i].p<g.pl:=by
 have h3:=hW.gd.e _ (Vg hi);unfold Nd.err Nd.move at h3;rw[Wa (by omega),Wa (by omega),Wb hk]at h3;split at h3
 . omega
 . split at h3
   . rename_i h4; exact absurd h3 h4
   . rename_i h4;rw[Qea]at h4;split at h4
     . exact absurd (by decide) h4
     . omega
def QaP (g:Gm) (V R:List Int) (i a:Nat):Int:=match g.ns[i]? with
 |none=>0
 |some x=>IntKind.i64.wrap ((IntKind.i64.wrap (R.getD (i*4+x.p.toNat) 0*IntKind.i64.wrap (V.getD ((x.nx.getD a 0).toNat*4+x.p.toNat) 0-V.getD (i*4+x.p.toNat) 0))).tdiv 1073741824)
def Qca (g:Gm) (V R:List Int) (A:Nat->List Int) (i:Nat):Nat->List Int:=match g.ns[i]? with
 |none=>A
 |some x=>if x.k=2 then upA A x.i.toNat (Qf x.nx.length λa=>IntKind.i64.wrap ((A x.i.toNat).getD a 0+QaP g V R i a))else A
section
variable {g:Gm} {H G:Wu} {c:TC} {s:TS}
theorem TW.setA (h:TW g H c s G) {j:Nat} (hj:j<g.is.length) {X:List Int} (hX:X.length=g.acts j):TW g H c { s with A:=upA s.A j X } (G.set (pA H g j) ⟨Qa X,3,1,true⟩):=by
 have hlt:=Qb (h.a j hj);have ne:∀ {k:Nat} {x:Option AO},pA H g j≠k->G[k]? = x->(G.set (pA H g j) ⟨Qa X,3,1,true⟩)[k]? = x:=λhn hx=>by rw[Ve hn]; exact hx
 constructor;case l=>exact⟨λi hi=>by simp only[upA]; split; rename_i e; rw[e]; exact hX; exact h.l.A i hi,h.l.P,h.l.S,h.l.V,h.l.R,h.l.O,h.l.ord,h.l.M,h.l.F⟩
 case len=>simpa using h.len
 case cl=>exact Qcq h.cl _ (by simp)
 case a =>
  intro i hi; by_cases e:i=j
  . subst e; rw[Vh hlt]; simp[upA]
  . simp only[upA,Wa e]; exact ne (by unfold pA; omega) (h.a i hi)
 case low=>intro i hi; exact ne (by unfold pA; omega) (h.low i hi)
 case p=>intro i hi; exact ne (by unfold pA pP; omega) (h.p i hi)
 case ss=>intro i hi; exact ne (by unfold pA pS; omega) (h.ss i hi)
 case w=>exact ne (by unfold pA pW; omega) h.w
 case m=>exact ne (by unfold pA pM; omega) h.m
 case f=>exact ne (by unfold pA pF; omega) h.f
 case ao=>exact ne (by unfold pA pAo; omega) h.ao
 case po=>exact ne (by unfold pA pPo; omega) h.po
 case so=>exact ne (by unfold pA pSo; omega) h.so
 case v=>exact ne (by unfold pA pV; omega) h.v
 case r=>exact ne (by unfold pA pR; omega) h.r
 case o=>exact ne (by unfold pA pO; omega) h.o
theorem TW.setP (h:TW g H c s G) {j:Nat} (hj:j<g.is.length) {X:List Int} (hX:X.length=g.acts j):TW g H c { s with P:=upA s.P j X } (G.set (pP H g j) ⟨Qa X,3,1,true⟩):=by
 have hlt:=Qb (h.p j hj);have ne:∀ {k:Nat} {x:Option AO},pP H g j≠k->G[k]? = x->(G.set (pP H g j) ⟨Qa X,3,1,true⟩)[k]? = x:=λhn hx=>by rw[Ve hn]; exact hx
 constructor;case l=>exact⟨h.l.A,λi hi=>by simp only[upA]; split; rename_i e; rw[e]; exact hX; exact h.l.P i hi,h.l.S,h.l.V,h.l.R,h.l.O,h.l.ord,h.l.M,h.l.F⟩
 case len=>simpa using h.len
 case cl=>exact Qcq h.cl _ (by simp)
 case p =>
  intro i hi; by_cases e:i=j
  . subst e; rw[Vh hlt]; simp[upA]
  . simp only[upA,Wa e]; exact ne (by unfold pP; omega) (h.p i hi)
 case low=>intro i hi; exact ne (by unfold pP; omega) (h.low i hi)
 case a=>intro i hi; exact ne (by unfold pA pP; omega) (h.a i hi)
 case ss=>intro i hi; exact ne (by unfold pP pS; omega) (h.ss i hi)
 case w=>exact ne (by unfold pP pW; omega) h.w
 case m=>exact ne (by unfold pP pM; omega) h.m
 case f=>exact ne (by unfold pP pF; omega) h.f
 case ao=>exact ne (by unfold pP pAo; omega) h.ao
 case po=>exact ne (by unfold pP pPo; omega) h.po
 case so=>exact ne (by unfold pP pSo; omega) h.so
 case v=>exact ne (by unfold pP pV; omega) h.v
 case r=>exact ne (by unfold pP pR; omega) h.r
 case o=>exact ne (by unfold pP pO; omega) h.o
set_option maxRecDepth 10000 in
theorem QqQ (hW:Wg g) {i:Nat} (hi:i<g.ns.length) (hk:g.ns[i].k=2) {A:Nat->List Int} (hA:(A g.ns[i].i.toNat).length=g.ns[i].nx.length) {N:Nat} {K:Wt}
 (hexit:∀ env G',TW g H c { s with A:=upA A g.ns[i].i.toNat (Qf g.ns[i].nx.length λa=>IntKind.i64.wrap ((A g.ns[i].i.toNat).getD a 0+QaP g s.V s.R i a)) } G'->K (.exit 0) env G') :
 ∀ (m a:Nat) (env:Env) (G:Wu),a+m=g.ns[i].nx.length ->
  TW g H c { s with A:=upA A g.ns[i].i.toNat (Qf g.ns[i].nx.length (Qo a (λa=>IntKind.i64.wrap ((A g.ns[i].i.toNat).getD a 0+QaP g s.V s.R i a)) λa=>(A g.ns[i].i.toNat).getD a 0)) } G ->
  env.get 0=.ptr (.own (pW H g) 0 0 0 0) 0->env.get 1=i64 i->env.get 5=.own (pA H g g.ns[i].i.toNat) 0 g.ns[i].nx.length 1 1->env.get 6=i64 g.ns[i].p->env.get 39=.slc (Qa g.ns[i].nx) g.ns[i].nx.length->env.get 40=i64 g.ns[i].nx.length->env.get 41=i64 a ->
  LI Try.prog N Qh Qig env G K:=by
 have hn:=hW.gd.n;have hx:g.ns[i]? = some g.ns[i]:=Vb hi;obtain⟨a1,a2,a3,a4,a5⟩:=QbD hW hi hk;obtain⟨p1,p2⟩:=QeH hW hi hk;have hp4:=hW.gd.p4;have hpn:((g.ns[i].p.toNat:Nat):Int)=g.ns[i].p:=by omega
 intro m
 induction m with
 |zero =>
  intro a env G ha h h0 h1 h5 h6 h39 h40 h41;refine Qc hm Qig.eq_1 ?_;have e:a=g.ns[i].nx.length:=by omega
  subst e;simp -implicitDefEqProofs[h40,h41];refine hexit _ _ ?_;have e2:Qf g.ns[i].nx.length (Qo g.ns[i].nx.length (λa=>IntKind.i64.wrap ((A g.ns[i].i.toNat).getD a 0+QaP g s.V s.R i a)) λa=>(A g.ns[i].i.toNat).getD a 0)=Qf g.ns[i].nx.length λa=>IntKind.i64.wrap ((A g.ns[i].i.toNat).getD a 0+QaP g s.V s.R i a):=by
   unfold Qf;apply VA;intro x hx;simp only[VI]at hx;simp only[Qo,Wb hx]
  rw[e2]at h;exact h
 |succ m ih =>
  intro a env G ha h h0 h1 h5 h6 h39 h40 h41;refine Qc hm Qig.eq_1 ?_;have hal:a<g.ns[i].nx.length:=by omega
  have hch:=(hW.wf.nf i hi).ch _ (Vg hal);have hcn:((g.ns[i].nx[a].toNat:Nat):Int)=g.ns[i].nx[a]:=by omega
  have hw:=h.cw0;have hr:=oc0 h.r;have hv:=oc0 h.v;have hra:=oc0 (h.a _ a1);have hst:=QU (h.a _ a1);have eD:QaP g s.V s.R i a=IntKind.i64.wrap ((IntKind.i64.wrap (s.R.getD (i*4+g.ns[i].p.toNat) 0*IntKind.i64.wrap (s.V.getD (g.ns[i].nx[a].toNat*4+g.ns[i].p.toNat) 0-s.V.getD (i*4+g.ns[i].p.toNat) 0))).tdiv 1073741824):=by simp[QaP,hx,hal]
  have eP:=QcO a (λa=>IntKind.i64.wrap ((A g.ns[i].i.toNat).getD a 0+QaP g s.V s.R i a)) λa=>(A g.ns[i].i.toNat).getD a 0;have eM:=QfF a (λa=>IntKind.i64.wrap ((A g.ns[i].i.toNat).getD a 0+QaP g s.V s.R i a)) λa=>(A g.ns[i].i.toNat).getD a 0;have hA2:=h.setA a1 (X:=Qf g.ns[i].nx.length (Qo (a+1) (λa=>IntKind.i64.wrap ((A g.ns[i].i.toNat).getD a 0+QaP g s.V s.R i a)) λa=>(A g.ns[i].i.toNat).getD a 0)) (by simp[a3]);have w1:=QR (show a<9223372036854775807 by omega);have hlV:=h.l.V;have hlR:=h.l.R;simp only[Qmu]at hra hst;simp only[QoO]at hA2;rw[<-eP]at hA2;have ih2:=λ(env:Env) (G:Wu)=>ih (a+1) env G (by omega);rw[<-eP]at ih2;generalize Qo a (λa=>IntKind.i64.wrap ((A g.ns[i].i.toNat).getD a 0+QaP g s.V s.R i a)) (λa=>(A g.ns[i].i.toNat).getD a 0)=F at *;have e3:∀ y:Int,List.take a (Qa (Qf g.ns[i].nx.length F))++i64 y::List.drop (a+1) (Qa (Qf g.ns[i].nx.length F))=Qa (Qf g.ns[i].nx.length (put F a y)):=λy=>by rw[Qa1 (by simpa using hal),QdL]
  have e4:(Qa (Qf g.ns[i].nx.length F))[a]?.getD .any=i64 (F a):=by rw[Qdc (by simpa using hal),Qcr hal]
  have b1:i*4+g.ns[i].p.toNat<s.R.length:=by simp only at hlR; omega
  have b2:i*4+g.ns[i].p.toNat<s.V.length:=by simp only at hlV; omega
  have b3:g.ns[i].nx[a].toNat*4+g.ns[i].p.toNat<s.V.length:=by simp only at hlV; omega
  simp only at hr hv;have eV1:s.V.getD (g.ns[i].nx[a].toNat*4+g.ns[i].p.toNat) 0=s.V[g.ns[i].nx[a].toNat*4+g.ns[i].p.toNat]:=by simp[b3]
  have eV2:s.V.getD (i*4+g.ns[i].p.toNat) 0=s.V[i*4+g.ns[i].p.toNat]:=by simp[b2]
  have eR1:s.R.getD (i*4+g.ns[i].p.toNat) 0=s.R[i*4+g.ns[i].p.toNat]:=by simp[b1]
  rw[eV1,eV2,eR1]at eD;simp -implicitDefEqProofs[h0,h1,h5,h6,h39,h40,h41,hal,hw,hr,hv,hra,Qv,hi,b1,b2,b3,hst,e3,e4,QcP hal];repeat (refine⟨by omega,?_⟩)
  rw[<-eD,eM];refine ih2 _ _ hA2 ?_ ?_ ?_ ?_ ?_ ?_ ?_
  . simp
  . simp
  . simp
  . simp
  . simp
  . simp
  . simp[w1]
set_option maxRecDepth 10000 in
theorem ok52 (hW:Wg g) (h:TW g H c s G) {i:Nat} (hi:i<g.ns.length) :
 OkP Try.prog 52 [.ptr (.own (pW H g) 0 0 0 0) 0,i64 i] G λout G'=>out=.ret (.tup [])/\TW g H c { s with A:=Qca g s.V s.R s.A i } G':=by
 have hlt:=h.ltw;have hn:=hW.gd.n;have hw:=h.cw0;have hx:g.ns[i]? = some g.ns[i]:=Vb hi;refine QaU hm Try.func52 c52 (by simp[hlt]) λhcl => ?_;by_cases hk:g.ns[i].k=2
 . obtain⟨a1,a2,a3,a4,a5⟩:=QbD hW hi hk;obtain⟨p1,p2⟩:=QeH hW hi hk;have hao:=oc0 h.ao;have e:Qca g s.V s.R s.A i=upA s.A g.ns[i].i.toNat (Qf g.ns[i].nx.length λa=>IntKind.i64.wrap ((s.A g.ns[i].i.toNat).getD a 0+QaP g s.V s.R i a)):=by simp only[Qca,hx,Wb hk]
   have hl:(s.A g.ns[i].i.toNat).length=g.ns[i].nx.length:=by rw[h.l.A _ a1,a3]
   simp -implicitDefEqProofs[i52,r52,hw,Qv,hi,nd0 hi,nd1 hi,nd2 hi,nd3 hi,QaK,hk,hao,QcU a1,a1,a2,a3];repeat (refine⟨by omega,?_⟩)
   rw[e];have h0:TW g H c { s with A:=upA s.A g.ns[i].i.toNat (Qf g.ns[i].nx.length (Qo 0 (λa=>IntKind.i64.wrap ((s.A g.ns[i].i.toNat).getD a 0+QaP g s.V s.R i a)) λa=>(s.A g.ns[i].i.toNat).getD a 0)) } G:=by
    rw[QcA,<- hl,Qnp,Qn4]; exact h
   refine QqQ (s:=s) hW hi hk hl (λenv G' hG' => ?_) g.ns[i].nx.length 0 _ _ (by omega) h0 (by simp) (by simp) (by simp) (by simp) (by simp) (by simp) (by simp);simp -implicitDefEqProofs;exact⟨_,_,⟨rfl,hG'⟩,Qn⟩
 . have e:Qca g s.V s.R s.A i=s.A:=by simp only[Qca,hx,Wa hk]
   rw[e];simp -implicitDefEqProofs[i52,r52,hw,Qv,hi,nd0 hi,QaK,hk];repeat (refine⟨by omega,?_⟩)
   exact⟨_,_,⟨rfl,h⟩,Qn⟩
end
def Qa5 (s:TS) (i a:Nat):Prop:=¬ (s.A i).getD a 0 < -70368744177664/\¬ 70368744177664<(s.A i).getD a 0/\¬ 70368744177664<(s.P i).getD a 0
def QaE (g:Gm) (s:TS):Prop:=∀ i,i<g.is.length->∀ a,a<g.acts i->Qa5 s i a
def QdI:SV:=.ifc 64 (.agg [i64 5])
theorem QlE {s:Nat}:∀ {l:List Nd} {o:Nat} {a:Int} {r:List Int},occ s l o=a::r->∃ t,∃ ht:t<l.length,a=((o+t:Nat):Int)/\l[t].k=2/\l[t].i.toNat=s/\∀ u (hu:u<t),¬ (l[u].k=2/\l[u].i.toNat=s)
 |[],o,a,r,h=>by simp[occ]at h
 |x::l,o,a,r,h=>by
  unfold occ at h;by_cases hc:x.k=2/\x.i.toNat=s
  . rw[Wb hc]at h
    cases h
    exact⟨0,by simp,by simp,hc.1,hc.2,λu hu=>by omega⟩
  . rw[Wa hc]at h;obtain⟨t,ht,h1,h2,h3,h4⟩:=QlE h;refine⟨t+1,by simp; omega,by rw[h1]; congr 1; omega,by simpa using h2,by simpa using h3,λu hu => ?_⟩
    cases u with
    |zero=>simpa using hc
    |succ u=>simpa using h4 u (by omega)
theorem fn_of {g:Gm} (hW:Wg g) {i:Nat} (hi:i<g.is.length):∃ t,∃ ht:t<g.ns.length,(g.sets.getD i []).head? = some (t:Int)/\g.ns[t].k=2/\g.ns[t].i.toNat=i/\∀ u (hu:u<t),¬ (g.ns[u].k=2/\g.ns[u].i.toNat=i):=by
 have hl:i<g.sets.length:=by rw[Qcu]; exact hi
 have h0:=hW.ne i hl;rw[QgX hl]at h0
 cases h:occ i g.ns 0 with
 |nil=>exact absurd h h0
 |cons a r =>
  obtain⟨t,ht,h1,h2,h3,h4⟩:=QlE h;refine⟨t,ht,?_,h2,h3,h4⟩;rw[Qft hi,h,h1];simp
theorem Qby {g:Gm} (hW:Wg g) {i:Nat} (hi:i<g.is.length):1<=g.acts i/\g.acts i<=10:=by
 obtain⟨t,ht,_,h2,h3,_⟩:=fn_of hW hi;obtain⟨a1,a2,a3,a4,a5⟩:=QbD hW ht h2;rw[h3]at a3;omega
section
variable {g:Gm} {H G:Wu} {c:TC} {s:TS}
set_option maxRecDepth 10000 in
theorem QsQ (hW:Wg g) (h:TW g H c s G) {i:Nat} (hi:i<g.is.length) {x10:SV} {N:Nat} {K:Wt}
 (hpan:¬ QaE g s->∀ env,K (.panic QdI) env G)
 (hexit:(∀ a,a<g.acts i->Qa5 s i a)->∀ env,env.get 0=.ptr (.own (pW H g) 0 0 0 0) 0->env.get 10=x10->env.get 11=i64 i->K (.exit 2) env G) :
 ∀ (m a:Nat) (env:Env),a+m=g.acts i->(∀ b,b<a->Qa5 s i b)->env.get 0=.ptr (.own (pW H g) 0 0 0 0) 0->env.get 2=i64 i->env.get 10=x10->env.get 11=i64 i ->
  env.get 21=.own (pA H g i) 0 (g.acts i) 1 1->env.get 22=i64 (g.acts i)->env.get 23=i64 a->LI Try.prog N Qh Qh6 env G K:=by
 have hac:=Qby hW hi;intro m
 induction m with
 |zero =>
  intro a env ha hb h0 h2 h10 h11 h21 h22 h23;refine Qc hm Qh6.eq_1 ?_;have e:a=g.acts i:=by omega
  subst e;simp -implicitDefEqProofs[h22,h23];exact hexit hb _ (by simp[h0]) (by simp[h10]) (by simp[h11])
 |succ m ih =>
  intro a env ha hb h0 h2 h10 h11 h21 h22 h23;refine Qc hm Qh6.eq_1 ?_;have hal:a<g.acts i:=by omega
  have hw:=h.cw0;have hA:=oc0 (h.a _ hi);have hP:=oc0 (h.p _ hi);have hpo:=oc0 h.po;have lA:=h.l.A _ hi;have lP:=h.l.P _ hi;have bA:a<(s.A i).length:=by omega
  have bP:a<(s.P i).length:=by omega
  have gA:(s.A i).getD a 0=(s.A i)[a]:=by simp[bA]
  have gP:(s.P i).getD a 0=(s.P i)[a]:=by simp[bP]
  have bad:¬ Qa5 s i a->¬ QaE g s:=λhn hk=>hn (hk i hi a hal);have w1:=QR (show a<9223372036854775807 by omega);by_cases c1:(s.A i)[a] < -70368744177664
  . simp -implicitDefEqProofs[h0,h2,h10,h11,h21,h22,h23,hal,hw,hA,hP,hpo,Qv,bA,bP,c1,QcU hi,hi];repeat (refine⟨by omega,?_⟩)
    exact hpan (bad λh=>h.1 (by rw[gA]; exact c1)) _
  . by_cases c2:70368744177664<(s.A i)[a]
    . simp -implicitDefEqProofs[h0,h2,h10,h11,h21,h22,h23,hal,hw,hA,hP,hpo,Qv,bA,bP,c1,c2,QcU hi,hi];repeat (refine⟨by omega,?_⟩)
      exact hpan (bad λh=>h.2.1 (by rw[gA]; exact c2)) _
    . by_cases c3:70368744177664<(s.P i)[a]
      . simp -implicitDefEqProofs[h0,h2,h10,h11,h21,h22,h23,hal,hw,hA,hP,hpo,Qv,bA,bP,c1,c2,c3,QcU hi,hi];repeat (refine⟨by omega,?_⟩)
        exact hpan (bad λh=>h.2.2 (by rw[gP]; exact c3)) _
      . simp -implicitDefEqProofs[h0,h2,h10,h11,h21,h22,h23,hal,hw,hA,hP,hpo,Qv,bA,bP,c1,c2,c3,QcU hi,hi];repeat (refine⟨by omega,?_⟩)
        refine ih (a+1) _ (by omega) (λb hb' => ?_) ?_ ?_ ?_ ?_ ?_ ?_ ?_
        rotate_left
        . simp
        . simp
        . simp[h10]
        . simp[h11]
        . simp
        . simp
        . simp[w1]
        by_cases e:b=a
        . subst e; exact⟨by rw[gA]; exact c1,by rw[gA]; exact c2,by rw[gP]; exact c3⟩
        . exact hb b (by omega)
set_option maxRecDepth 10000 in
theorem QrS (hW:Wg g) (h:TW g H c s G) {N:Nat} {K:Wt}
 (hpan:¬ QaE g s->∀ env,K (.panic QdI) env G) (hexit:QaE g s->∀ env,K (.exit 0) env G) :
 ∀ (m i:Nat) (env:Env),i+m=g.is.length->(∀ j,j<i->∀ a,a<g.acts j->Qa5 s j a)->env.get 0=.ptr (.own (pW H g) 0 0 0 0) 0->env.get 10=i64 g.is.length->env.get 11=i64 i->LI Try.prog N Qh QiG env G K:=by
 have hil:=hW.gd.i;intro m
 induction m with
 |zero =>
  intro i env ha hb h0 h10 h11;refine Qc hm QiG.eq_1 ?_;have e:i=g.is.length:=by omega
  subst e;simp -implicitDefEqProofs[h10,h11];exact hexit hb _
 |succ m ih =>
  intro i env ha hb h0 h10 h11;refine Qc hm QiG.eq_1 ?_;have hi:i<g.is.length:=by omega
  have hw:=h.cw0;have hao:=oc0 h.ao;have w1:=QR (show i<9223372036854775807 by omega);have hac:=Qby hW hi;simp -implicitDefEqProofs[h0,h10,h11,hi,hw,hao,Qv,QcU hi];repeat (refine⟨by omega,?_⟩)
  refine QsQ hW h hi (x10:=i64 g.is.length) (λhn env => ?_) (λhk env g0 g10 g11 => ?_) (g.acts i) 0 _ (by omega) (λb hb=>by omega) (by simp) (by simp) (by simp[h10]) (by simp[h11]) (by simp) (by simp) (by simp)
  . exact hpan hn _
  . simp -implicitDefEqProofs[g0,g10,g11];refine ih (i+1) _ (by omega) (λj hj => ?_) ?_ ?_ ?_
    rotate_left
    . simp[g0]
    . simp[g10]
    . simp[w1]
    by_cases e:j=i
    . subst e; exact hk
    . exact hb j (by omega)
theorem ok53 (hW:Wg g) (h:TW g H c s G) :
 OkP Try.prog 53 [.ptr (.own (pW H g) 0 0 0 0) 0] G λout G'=>G'=G/\((QaE g s/\out=.ret (.tup []))\/(¬ QaE g s/\out=.pan QdI)):=by
 have hlt:=h.ltw;have hw:=h.cw0;refine QaU hm Try.func53 c53 (by simp[hlt]) λhcl => ?_;simp -implicitDefEqProofs[i53,r53,hw,Qv];refine QrS hW h (λhn env => ?_) (λhk env => ?_) g.is.length 0 _ (by omega) (λj hj=>by omega) (by simp) (by simp) (by simp)
 . simp -implicitDefEqProofs;exact⟨_,_,⟨rfl,.inr ⟨hn,rfl⟩⟩,Qn⟩
 . simp -implicitDefEqProofs;exact⟨_,_,⟨rfl,.inl ⟨hk,rfl⟩⟩,Qn⟩
end
def shL (s:TS):Nat->TS
 |0=>s
 |k+1=>{ shL s k with S:=upA (shL s k).S k (Qp (s.A k)),ord:=((QD (s.A k)).map λ(n:Nat)=>(n:Int))++(shL s k).ord.drop (s.A k).length }
theorem Qei (s:TS):∀ k,(shL s k).A=s.A/\(shL s k).P=s.P/\(shL s k).V=s.V/\(shL s k).R=s.R/\(shL s k).O=s.O/\(shL s k).rnd=s.rnd/\(shL s k).seed=s.seed
 |0=>⟨rfl,rfl,rfl,rfl,rfl,rfl,rfl⟩
 |k+1=>Qei s k
theorem QjX (l:List Int):(QD l).length=l.length:=by
 unfold QD;split
 . exact Qhk _
 . simp
section
variable {g:Gm} {H G:Wu} {c:TC} {s:TS}
theorem TW.setS (h:TW g H c s G) {j:Nat} (hj:j<g.is.length) {X q:List Int} (hX:X.length=g.acts j) (hq:q.length=10):TW g H c { s with S:=upA s.S j X,ord:=q } (G2 G (pS H g j) (pW H g) ⟨Qa X,3,0,true⟩ (oI (Qv g H s) q [] 73 0)):=by
 have hlt:=Qb (h.ss j hj);have hlw:=h.ltw;have hne:pS H g j≠pW H g:=by unfold pS pW; omega
 have ne:∀ {k:Nat} {x:Option AO},pS H g j≠k->pW H g≠k->G[k]? = x->(G2 G (pS H g j) (pW H g) ⟨Qa X,3,0,true⟩ (oI (Qv g H s) q [] 73 0))[k]? = x:=λhn hn2 hx=>by unfold G2; rw[Ve hn2,Ve hn]; exact hx
 constructor;case l=>exact⟨h.l.A,h.l.P,λi hi=>by simp only[upA]; split; rename_i e; rw[e]; exact hX; exact h.l.S i hi,h.l.V,h.l.R,h.l.O,hq,h.l.M,h.l.F⟩
 case len=>simpa using h.len
 case cl =>
  refine QoP h.cl (by simp) ?_;have:=h.len;simp only[oI,SV.underL_append,Qv,Va];unfold pE at this;unfold pM pF pAo pPo pSo pV pR pO;refine⟨?_,by simp⟩;simp[Qbe,Qbj];omega
 case ss =>
  intro i hi; by_cases e:i=j
  . subst e; have:=QhX (L:=[]) hlt hne (o:=⟨Qa X,3,0,true⟩) (p:=oI (Qv g H s) q [] 73 0); rw[VQ]at this; rw[this]; simp[upA]
  . simp only[upA,Wa e]; exact ne (by unfold pS; omega) (by unfold pW pS; omega) (h.ss i hi)
 case w=>have:=QhN (L:=[]) hlw (a:=pS H g j) (o:=⟨Qa X,3,0,true⟩) (p:=oI (Qv g H s) q [] 73 0); rw[VQ]at this; exact this
 case a=>intro i hi; exact ne (by unfold pS pA; omega) (by unfold pW pA; omega) (h.a i hi)
 case low=>intro i hi; exact ne (by unfold pS; omega) (by unfold pW; omega) (h.low i hi)
 case p=>intro i hi; exact ne (by unfold pS pP; omega) (by unfold pW pP; omega) (h.p i hi)
 case m=>exact ne (by unfold pS pM; omega) (by unfold pW pM; omega) h.m
 case f=>exact ne (by unfold pS pF; omega) (by unfold pW pF; omega) h.f
 case ao=>exact ne (by unfold pS pAo; omega) (by unfold pW pAo; omega) h.ao
 case po=>exact ne (by unfold pS pPo; omega) (by unfold pW pPo; omega) h.po
 case so=>exact ne (by unfold pS pSo; omega) (by unfold pW pSo; omega) h.so
 case v=>exact ne (by unfold pS pV; omega) (by unfold pW pV; omega) h.v
 case r=>exact ne (by unfold pS pR; omega) (by unfold pW pR; omega) h.r
 case o=>exact ne (by unfold pS pO; omega) (by unfold pW pO; omega) h.o
theorem Qmc {k a:Nat} {o p:AO} (ho:G[a]? = some o) (hp:G[k]? = some p):G2 G a k o p=G:=by
 have h1:G.set a o=G:=by
  apply Vx;intro i;by_cases e:a=i
  . subst e; rw[Vh (Qb ho),ho]
  . rw[Ve e]
 unfold G2;rw[h1];apply Vx;intro i;by_cases e:k=i
 . subst e; rw[Vh (Qb hp),hp]
 . rw[Ve e]
theorem Qtb (hW:Wg g) (h:TW g H c s G) (hk:QaE g s) {j:Nat} (hj:j<g.is.length) {A:Nat->List Int} (hA:s.A j=A j) :
 OkP Try.prog 38 [.own (pA H g j) 0 (g.acts j) 1 1,.own (pS H g j) 0 (g.acts j) 1 0,.own (pW H g) 13 (g.acts j) 1 0] G λout G'=>out=.ret (.tup []) /\
  TW g H c { s with S:=upA s.S j (Qp (A j)),ord:=((QD (A j)).map λ(n:Nat)=>(n:Int))++s.ord.drop (A j).length } G':=by
 have hac:=Qby hW hj;have hl:=h.l.A j hj;have hlo:=h.l.ord;have hlS:=h.l.S j hj;have hne:pS H g j≠pW H g:=by unfold pS pW; omega
 have hl2:(A j).length=g.acts j:=by rw[<-hA]; exact hl
 have hP:P2 G (pS H g j) (pW H g):=⟨Qb (h.ss j hj),h.ltw,hne⟩;have hG:G2 G (pS H g j) (pW H g) ⟨Qa (s.S j),3,0,true⟩ (oI (Qv g H s) (s.ord.take (g.acts j)) (Qa (s.ord.drop (g.acts j))) 73 0)=G:=by
  refine Qmc (h.ss j hj) ?_;rw[h.w];have e:Qa s.ord++[]=Qa (s.ord.take (g.acts j))++Qa (s.ord.drop (g.acts j)):=by
   simp only[VQ,Qa,<- Y6,Yk]
  unfold QbK oI;rw[e]
 have hu:=h.setS hj (X:=s.S j) (q:=s.ord) hlS hlo;have hcu:=h.len;have hC:SV.underL G.length (Qv g H s)=true:=by
  simp only[Qv];unfold pE at hcu;unfold pM pF pAo pPo pSo pV pR pO;simp[Qbe,Qbj];omega
 have hx:∀ (o p:List Int) (L:Wu),IsI (G2 G (pS H g j) (pW H g) ⟨Qa o,3,0,true⟩ (oI (Qv g H s) p (Qa (s.ord.drop (g.acts j))) 73 0)++L) (.own (pA H g j) 0 (g.acts j) 1 1) (s.A j):=λo p L=>by
  have hat:(G2 G (pS H g j) (pW H g) ⟨Qa o,3,0,true⟩ (oI (Qv g H s) p (Qa (s.ord.drop (g.acts j))) 73 0)++L)[pA H g j]? = some ⟨Qa (s.A j),3,1,true⟩:=by
   rw[Vd (by rw[Qfn]; exact Qb (h.a j hj))];unfold G2;rw[Ve (by unfold pW pA; omega),Ve (by unfold pS pA; omega)];exact h.a j hj
  have:=IsI.whole (H:=[]) (L:=G2 G (pS H g j) (pW H g) ⟨Qa o,3,0,true⟩ (oI (Qv g H s) p (Qa (s.ord.drop (g.acts j))) 73 0)++L) (k:=pA H g j) (n:=g.acts j) hat hl.symm;simpa using this
 have hr:∀ v∈s.A j,-70368744177664<=v/\v<=70368744177664:=λv hv=>by
  obtain⟨a,ha,rfl⟩:=VX hv;have h1:=hk j hj a (by omega);have h2:(s.A j).getD a 0=(s.A j)[a]:=by simp[ha]
  unfold Qa5 at h1;rw[h2]at h1;omega
 have key:=ok38 (va:=0) (v:=0) (T:=73) (D:=Qa (s.ord.drop (g.acts j))) (o0:=s.S j) (p0:=s.ord.take (g.acts j)) hP ⟨hC,by simp⟩ hx (by omega) (by omega) hr (by rw[hlS,hl]) (by rw[Yy,hl]; omega);rw[hG,hl]at key;have hX:=h.setS hj (X:=Qp (A j)) (q:=((QD (A j)).map λ(n:Nat)=>(n:Int))++s.ord.drop (A j).length) (by rw[QdZ,hl2]) (by simp[QjX,hl2]; omega);have e:oN (Qv g H s) (QD (s.A j)) (Qa (s.ord.drop (g.acts j))) 73 0=oI (Qv g H s) (((QD (A j)).map λ(n:Nat)=>(n:Int))++s.ord.drop (A j).length) [] 73 0:=by
  rw[hA,hl2];simp[oN,oI,QaJ,Qa]
 rw[e,hA]at key;exact key.toP.mono λout G' hP=>by
  obtain⟨rfl,rfl⟩:=hP;exact⟨rfl,hX⟩
end
theorem QsP {g:Gm} {s:TS} (h:QaE g s) (k:Nat):QaE g (shL s k):=λi hi a ha=>by
 obtain⟨h1,h2,_⟩:=Qei s k;have:=h i hi a ha;unfold Qa5 at this ⊢;rw[h1,h2]; exact this
def Qb4 (g:Gm) (M:List Int) (S:Nat->List Int) (V:List Int):Nat->List Int
 |0=>V
 |m+1=>Qu (Qb4 g M S V m) (g.ns.length-1-m) (plF g (Qbv g M S (Qb4 g M S V m) (g.ns.length-1-m)))
def Qa0 (g:Gm) (own:Bool) (S:Nat->List Int) (M R:List Int):Nat->List Int
 |0=>R
 |i+1=>Qaq g own S M (Qa0 g own S M R i) i (match g.ns[i]? with|none=>0|some x=>x.nx.length)
def Qay (g:Gm) (V R:List Int) (A:Nat->List Int):Nat->Nat->List Int
 |0=>A
 |i+1=>Qca g V R (Qay g V R A i) i
section
variable {g:Gm} {H G:Wu} {c:TC} {s:TS}
set_option maxRecDepth 10000 in
theorem Qpa (hW:Wg g) (hk:QaE g s) {N:Nat} {K:Wt}
 (hexit:∀ env G,env.get 0=.ptr (.own (pW H g) 0 0 0 0) 0->TW g H c (shL s g.is.length) G->K (.exit 0) env G) :
 ∀ (m i:Nat) (env:Env) (G:Wu),i+m=g.is.length->TW g H c (shL s i) G->env.get 0=.ptr (.own (pW H g) 0 0 0 0) 0->env.get 16=.own (pSo H g) 0 g.is.length 1 0->env.get 17=i64 g.is.length->env.get 18=i64 i->LI Try.prog N Qh Qhb env G K:=by
 have hil:=hW.gd.i;intro m
 induction m with
 |zero =>
  intro i env G hi h h0 h16 h17 h18;refine Qc hm Qhb.eq_1 ?_;have e:i=g.is.length:=by omega
  subst e;simp -implicitDefEqProofs[h17,h18];exact hexit _ _ (by simp[h0]) h
 |succ m ih =>
  intro i env G hi h h0 h16 h17 h18;refine Qc hm Qhb.eq_1 ?_;have hii:i<g.is.length:=by omega
  have hw:=h.cw0;have hao:=oc0 h.ao;have hso:=oc0 h.so;have hac:=Qby hW hii;have w1:=QR (show i<9223372036854775807 by omega);have hlo:=h.l.ord;have hca:SV.cutA 1 0 (g.acts i) (.ptr (.own (pW H g) 0 0 0 0) 13)=.own (pW H g) 13 (g.acts i) 1 0:=by simp[SV.cutA]
  simp -implicitDefEqProofs[h0,h16,h17,h18,hii,hw,hao,hso,Qv,QcU hii,hca];refine⟨by omega,by omega,Q6 (Qtb hW h (QsP hk i) hii (A:=s.A) (by rw[(Qei s i).1])) λout G' hP => ?_⟩;obtain⟨rfl,h2⟩:=hP;have hw2:=h2.cw0;simp -implicitDefEqProofs[h0,h16,h17,h18,hii,hw2,Qv];refine ih (i+1) _ _ (by omega) h2 ?_ ?_ ?_ ?_
  . simp
  . simp
  . simp
  . simp[w1]
set_option maxRecDepth 10000 in
theorem Qqq (hW:Wg g) (hc:c.Ok g) {V:List Int} {N:Nat} {K:Wt}
 (hexit:∀ env G,env.get 0=.ptr (.own (pW H g) 0 0 0 0) 0->TW g H c { s with V:=Qb4 g c.M s.S V g.ns.length } G->K (.exit 2) env G) :
 ∀ (m i:Nat) (env:Env) (G:Wu),i+m=g.ns.length->TW g H c { s with V:=Qb4 g c.M s.S V i } G->env.get 0=.ptr (.own (pW H g) 0 0 0 0) 0->env.get 4=i64 ((g.ns.length:Int)-1-i)->LI Try.prog N Qh QhB env G K:=by
 have hn:=hW.gd.n;intro m
 induction m with
 |zero =>
  intro i env G hi h h0 h4;refine Qc hm QhB.eq_1 ?_;have e:i=g.ns.length:=by omega
  subst e;have e2:((g.ns.length:Int)-1-g.ns.length) = -1:=by omega
  rw[e2]at h4;simp -implicitDefEqProofs[h4];exact hexit _ _ (by simp[h0]) h
 |succ m ih =>
  intro i env G hi h h0 h4;refine Qc hm QhB.eq_1 ?_;have hii:g.ns.length-1-i<g.ns.length:=by omega
  have e2:((g.ns.length:Int)-1-i)=((g.ns.length-1-i:Nat):Int):=by omega
  rw[e2]at h4;have w1:IntKind.i64.wrap (((g.ns.length-1-i:Nat):Int)-1)=(g.ns.length:Int)-1-((i+1:Nat):Int):=by rw[Qi (by omega) (by omega)]; omega
  simp -implicitDefEqProofs[h0,h4];refine Q6 (ok50 hW h hc hii) λout G' hP => ?_;obtain⟨rfl,h2⟩:=hP;simp -implicitDefEqProofs[h0,h4];refine ih (i+1) _ _ (by omega) h2 ?_ ?_
  . simp
  . simp[w1]
set_option maxRecDepth 10000 in
theorem QqA (hW:Wg g) {R O:List Int} (hR:R.length=4*g.ns.length) (hO:O.length=4*g.ns.length) {N:Nat} {K:Wt}
 (hexit:∀ env G,env.get 0=.ptr (.own (pW H g) 0 0 0 0) 0->TW g H c { s with R:=Qu R 0 (Qo g.pl.toNat (λ_=>1073741824) (Qz R 0)),O:=Qu O 0 (Qo g.pl.toNat (λ_=>1073741824) (Qz O 0)) } G->K (.exit 4) env G) :
 ∀ (m q:Nat) (env:Env) (G:Wu),((q+m:Nat):Int)=g.pl->TW g H c { s with R:=Qu R 0 (Qo q (λ_=>1073741824) (Qz R 0)),O:=Qu O 0 (Qo q (λ_=>1073741824) (Qz O 0)) } G->env.get 0=.ptr (.own (pW H g) 0 0 0 0) 0->env.get 58=i64 g.pl->env.get 59=i64 q->LI Try.prog N Qh Qhj env G K:=by
 have hp4:=hW.gd.p4;have hn1:=hW.gd.n1;intro m
 induction m with
 |zero =>
  intro q env G hq h h0 h58 h59;refine Qc hm Qhj.eq_1 ?_;have e:q=g.pl.toNat:=by omega
  rw[e]at h;simp -implicitDefEqProofs[h58,h59,show ¬ (q:Int)<g.pl by omega];exact hexit _ _ (by simp[h0]) h
 |succ m ih =>
  intro q env G hq h h0 h58 h59;refine Qc hm Qhj.eq_1 ?_;have hq4:q<4:=by omega
  have hqp:(q:Int)<g.pl:=by omega
  have hw:=h.cw0;have eP:=QcO q (λ_=>(1073741824:Int)) (Qz R 0);have eP2:=QcO q (λ_=>(1073741824:Int)) (Qz O 0);have lR:=Qa8 hR hn1 (Qo q (λ_=>(1073741824:Int)) (Qz R 0));have lO:=Qa8 hO hn1 (Qo q (λ_=>(1073741824:Int)) (Qz O 0));have sR:=QhL hR hn1 hq4 (Qo q (λ_=>(1073741824:Int)) (Qz R 0)) 1073741824;have sO:=QhL hO hn1 hq4 (Qo q (λ_=>(1073741824:Int)) (Qz O 0)) 1073741824;rw[eP,Yb,VZ]at sR;rw[eP2,Yb,VZ]at sO;have hR2:=oc0 h.r;have hs1:=QU h.r;have hA:=h.setR (X:=Qu R 0 (Qo (q+1) (λ_=>(1073741824:Int)) (Qz R 0))) (Qa8 hR hn1 _);have hs2:=QU hA.o;have hO3:=oc0 hA.o;have hB:=hA.setO (X:=Qu O 0 (Qo (q+1) (λ_=>(1073741824:Int)) (Qz O 0))) (Qa8 hO hn1 _);have w1:=QR (show q<9223372036854775807 by omega);have ih2:=λ(env:Env) (G:Wu)=>ih (q+1) env G (by omega);generalize Qo (q+1) (λ_=>(1073741824:Int)) (Qz R 0)=F1 at *;generalize Qo (q+1) (λ_=>(1073741824:Int)) (Qz O 0)=F2 at *;generalize Qo q (λ_=>(1073741824:Int)) (Qz R 0)=F3 at *;generalize Qo q (λ_=>(1073741824:Int)) (Qz O 0)=F4 at *;have e3:List.take q (Qa (Qu R 0 F3))++i64 1073741824::List.drop (q+1) (Qa (Qu R 0 F3))=Qa (Qu R 0 F1):=by rw[Qa1 (by omega),sR]
  have e4:List.take q (Qa (Qu O 0 F4))++i64 1073741824::List.drop (q+1) (Qa (Qu O 0 F4))=Qa (Qu O 0 F2):=by rw[Qa1 (by omega),sO]
  simp -implicitDefEqProofs[h0,h58,h59,hqp,hw,Qv,hR2,hO3,hs1,hs2,e3,e4,hq4,lR,lO];repeat (refine⟨by omega,?_⟩)
  refine ih2 _ _ hB ?_ ?_ ?_
  . simp
  . simp
  . simp[w1]
set_option maxRecDepth 10000 in
theorem Qsb (hW:Wg g) (hc:c.Ok g) {R O:List Int} {N:Nat} {K:Wt}
 (hexit:∀ env G,env.get 0=.ptr (.own (pW H g) 0 0 0 0) 0->TW g H c { s with R:=Qa0 g false s.S c.M R g.ns.length,O:=Qa0 g true s.S c.M O g.ns.length } G->K (.exit 6) env G) :
 ∀ (m i:Nat) (env:Env) (G:Wu),i+m=g.ns.length->TW g H c { s with R:=Qa0 g false s.S c.M R i,O:=Qa0 g true s.S c.M O i } G->env.get 0=.ptr (.own (pW H g) 0 0 0 0) 0->env.get 82=i64 g.ns.length->env.get 83=i64 i->LI Try.prog N Qh QgW env G K:=by
 have hn:=hW.gd.n;intro m
 induction m with
 |zero =>
  intro i env G hi h h0 h82 h83;refine Qc hm QgW.eq_1 ?_;have e:i=g.ns.length:=by omega
  subst e;simp -implicitDefEqProofs[h82,h83];exact hexit _ _ (by simp[h0]) h
 |succ m ih =>
  intro i env G hi h h0 h82 h83;refine Qc hm QgW.eq_1 ?_;have hii:i<g.ns.length:=by omega
  have hx:g.ns[i]? = some g.ns[i]:=Vb hii;have w1:=QR (show i<9223372036854775807 by omega);simp -implicitDefEqProofs[h0,h82,h83,hii];refine Q6 (ok51 hW hc h hii) λout G' hP => ?_;obtain⟨rfl,h2⟩:=hP;simp -implicitDefEqProofs[h0,h82,h83];have e1:∀ own X,Qa0 g own s.S c.M X (i+1)=Qaq g own s.S c.M (Qa0 g own s.S c.M X i) i g.ns[i].nx.length:=λown X=>by simp only[Qa0,hx]
  refine ih (i+1) _ _ (by omega) (by rw[e1,e1]; exact h2) ?_ ?_ ?_
  . simp
  . simp
  . simp[w1]
set_option maxRecDepth 10000 in
theorem Qsn (hW:Wg g) {A:Nat->List Int} {N:Nat} {K:Wt}
 (hexit:∀ env G,env.get 0=.ptr (.own (pW H g) 0 0 0 0) 0->TW g H c { s with A:=Qay g s.V s.R A g.ns.length } G->K (.exit 8) env G) :
 ∀ (m i:Nat) (env:Env) (G:Wu),i+m=g.ns.length->TW g H c { s with A:=Qay g s.V s.R A i } G->env.get 0=.ptr (.own (pW H g) 0 0 0 0) 0->env.get 95=i64 g.ns.length->env.get 96=i64 i->LI Try.prog N Qh Qg4 env G K:=by
 have hn:=hW.gd.n;intro m
 induction m with
 |zero =>
  intro i env G hi h h0 h95 h96;refine Qc hm Qg4.eq_1 ?_;have e:i=g.ns.length:=by omega
  subst e;simp -implicitDefEqProofs[h95,h96];exact hexit _ _ (by simp[h0]) h
 |succ m ih =>
  intro i env G hi h h0 h95 h96;refine Qc hm Qg4.eq_1 ?_;have hii:i<g.ns.length:=by omega
  have w1:=QR (show i<9223372036854775807 by omega);simp -implicitDefEqProofs[h0,h95,h96,hii];refine Q6 (ok52 hW h hii) λout G' hP => ?_;obtain⟨rfl,h2⟩:=hP;simp -implicitDefEqProofs[h0,h95,h96];refine ih (i+1) _ _ (by omega) h2 ?_ ?_ ?_
  . simp
  . simp
  . simp[w1]
end
end Go.Proofs.Ytogjmpkehjfecaa.Rc
