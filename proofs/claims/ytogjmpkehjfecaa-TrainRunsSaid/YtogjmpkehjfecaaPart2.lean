/-
  Steps of the proof: contracts of functions and plain facts that the statement rests on.
-/
import Derived.Test.YtogjmpkehjfecaaPart1
set_option linter.all false
namespace Go.Proofs.Ytogjmpkehjfecaa.Rc
open Go.Ab
structure WF (g:Gm):Prop where
 len:g.wk.2.ok g.ns.length
 nf:∀ i (h:i<g.ns.length),Nf g.ns g.wk.2 i g.ns[i]
 pf:∀ i,0<i->i<g.ns.length->∃ p,∃ h:p<g.ns.length,gi g.wk.2.P i=p∧p<i∧(i:Int)∈g.ns[p].nx
 p0:gi g.wk.2.P 0 = -1
 d0:gi g.wk.2.D 0=0
theorem Wg.wf {g:Gm} (h:Wg g):WF g:=by
 have hok:=walkS_ok (ns:=g.ns) (g.ns.length+1) (-1) 0 0 g.w0 w0_ok
 obtain⟨hf,_⟩:=walk_facts (ns:=g.ns) (g.ns.length+1) (-1) 0 0 g.w0 g.ns.length w0_ok h.wk
 refine⟨hok.1,fun i hi=>hf.nf i _ (by omega) hi (List.getElem?_eq_getElem hi),fun i h0 hi => ?_,hf.p,hf.d⟩
 obtain⟨p,x,k1,k2,k3,k4,k5⟩:=hf.pf i h0 hi
 have hp:p<g.ns.length:=by omega
 rw[List.getElem?_eq_getElem hp]at k4
 cases k4
 exact⟨p,hp,k1,k3,k5⟩
theorem gi_get {l:List Int} {i:Nat} (h:i<l.length):l[i]=gi l i:=by simp[gi,h]
theorem wk_len {g:Gm}:g.wk.2.ok g.ns.length:=(walkS_ok (ns:=g.ns) (g.ns.length+1) (-1) 0 0 g.w0 w0_ok).1
section
variable {H:List AO} {g:Gm}
def Gm.last (g:Gm) (node:Int):Int×Int:=if g.formE≠0 then(0,g.formE)else if node<0∨g.ns.length≤node then(0,2)else(gi g.wk.2.L node.toNat,0)
theorem formE_R:g.formR=g.formE:=form_eq.symm
def PInv (g:Gm) (i:Nat) (z:List Int):Prop:=z.length=g.ns.length∧gi z 0 = -1∧∀ j,0<j->j<g.ns.length->gi g.wk.2.P j<i->gi z j=gi g.wk.2.P j
set_option maxRecDepth 10000 in
theorem loop58_1 (hf:WF g) (hg:Gd g) {i:Nat} (hi:i<g.ns.length) {N:Nat} {K:XE->Env->List AO->Prop}
 (hexit:∀ env z,PInv g (i+1) z->env.get 1=.ptr (.own H.length 0 0 0 0) 0->env.get 3=.own (H.length+1) 0 g.ns.length 1 0->env.get 4=i64 i->K (.exit 2) env (H++[gbox g,ro z])) :
 ∀ (n c:Nat) (env:Env) (z:List Int),c+n=g.ns[i].nx.length->PInv g i z->(∀ k (h:k<g.ns[i].nx.length),k<c->gi z (g.ns[i].nx[k]).toNat=i) →
  env.get 1=.ptr (.own H.length 0 0 0 0) 0->env.get 3=.own (H.length+1) 0 g.ns.length 1 0->env.get 4=i64 i->env.get 5=i64 c->LI Try.prog N drawB l101_1 env (H++[gbox g,ro z]) K:=by
 have hgn:=hg.n
 intro n
 induction n with
 | zero =>
  intro c env z hc hz hp h1 h3 h4 h5
  refine li_go hm l101_1.eq_1 ?_
  have e:c=g.ns[i].nx.length:=by omega
  subst e
  simp -implicitDefEqProofs[h1,h3,h4,h5,gbox,hi,nds_g3 hi,nds_len]
  refine⟨by omega,?_⟩
  refine hexit _ z ⟨hz.1,hz.2.1,fun j h0 hj hlt => ?_⟩ (by simp) (by simp[h3]) (by simp)
  by_cases he:gi g.wk.2.P j=i
  · obtain⟨p,hp',k1,k2,k3⟩:=hf.pf j h0 hj
    have:p=i:=by omega
    subst this
    obtain⟨k,hk,ek⟩:=List.getElem_of_mem k3
    have:=hp k hk hk
    rw[ek]at this
    rw[he]; simpa using this
  · exact hz.2.2 j h0 hj (by omega)
 | succ n ih =>
  intro c env z hc hz hp h1 h3 h4 h5
  refine li_go hm l101_1.eq_1 ?_
  have hlt:c<g.ns[i].nx.length:=by omega
  have hch:=(hf.nf i hi).ch _ (List.getElem_mem hlt)
  have hnx:g.ns[i].nx.length≤60:=nx_of (hg.e _ (List.getElem_mem hi))
  have w1:IntKind.i64.wrap ((c:Int)+1)=((c+1:Nat):Int):=wrap_succ (by omega)
  have hzl:=hz.1
  simp -implicitDefEqProofs[h1,h3,h4,h5,gbox,hi,nds_g3 hi,nds_len,hlt,ro]
  refine⟨by omega,by omega,by omega,by omega,?_⟩
  rw[w1,ints_set (by omega)]
  have hset:∀ j,j≠g.ns[i].nx[c].toNat->gi (z.set g.ns[i].nx[c].toNat i) j=gi z j:=fun j hj=>gi_set_ne hj
  have hset0:gi (z.set g.ns[i].nx[c].toNat i) g.ns[i].nx[c].toNat=i:=gi_set_eq (by omega)
  refine ih (c+1) _ (z.set g.ns[i].nx[c].toNat i) (by omega) ⟨by simpa using hzl,?_,fun j h0 hj hPj => ?_⟩ (fun k hk hkc => ?_) ?_ ?_ ?_ ?_
  · rw[hset 0 (by omega)]; exact hz.2.1
  · rw[hset j (fun e=>by subst e; rw[hch.2.2.1]at hPj; omega)]
    exact hz.2.2 j h0 hj hPj
  · by_cases e:(g.ns[i].nx[k]).toNat=(g.ns[i].nx[c]).toNat
    · rw[e]; exact hset0
    · rw[hset _ e]
      by_cases e':k=c
      · subst e'; exact(e rfl).elim
      · exact hp k hk (by omega)
  · simp
  · simp
  · simp
  · simp
set_option maxRecDepth 10000 in
theorem loop58_0 (hf:WF g) (hg:Gd g) {N:Nat} {K:XE->Env->List AO->Prop}
 (hexit:∀ env z,PInv g g.ns.length z->env.get 3=.own (H.length+1) 0 g.ns.length 1 0->K (.exit 0) env (H++[gbox g,ro z])) :
 ∀ (n i:Nat) (env:Env) (z:List Int),i+n=g.ns.length->PInv g i z →
  env.get 1=.ptr (.own H.length 0 0 0 0) 0->env.get 3=.own (H.length+1) 0 g.ns.length 1 0->env.get 4=i64 i->LI Try.prog N drawB l101_0 env (H++[gbox g,ro z]) K:=by
 have hgn:=hg.n
 intro n
 induction n with
 | zero =>
  intro i env z hi hz h1 h3 h4
  refine li_go hm l101_0.eq_1 ?_
  have e:i=g.ns.length:=by omega
  subst e
  simp -implicitDefEqProofs[h1,h3,h4,gbox]
  exact hexit _ z hz (by simp[h3])
 | succ n ih =>
  intro i env z hi hz h1 h3 h4
  refine li_go hm l101_0.eq_1 ?_
  have hlt:i<g.ns.length:=by omega
  have w1:IntKind.i64.wrap ((i:Int)+1)=((i+1:Nat):Int):=wrap_succ (by omega)
  simp -implicitDefEqProofs[h1,h3,h4,gbox,hlt]
  refine loop58_1 (g:=g) hf hg hlt (fun env z hz h1 h3 h4 => ?_) g.ns[i].nx.length 0 _ z (by omega) hz (by omega) (by simp) (by simp) (by simp) (by simp)
  simp -implicitDefEqProofs[h4]
  rw[w1]
  exact ih (i+1) _ z (by omega) hz (by simp[h1]) (by simp[h3]) (by simp)
set_option maxRecDepth 10000 in
theorem ok101 (hW:Wg g):Ok Try.prog 101 [.agg g.cells] H (.ret (sl g.wk.2.P)) H:=by
 have hf:=hW.wf
 have hgn:=hW.gd.n
 have hg1:=hW.gd.n1
 have hlen:g.wk.2.P.length=g.ns.length:=wk_len.1
 refine ok_fn hm Try.func101 c101 (by simp) fun hcl => ?_
 simp -implicitDefEqProofs[i101,r101,Gm.cells]
 have e0:i64 (-1)::List.replicate (g.ns.length-1) (i64 0)=ints ((List.replicate g.ns.length 0).set 0 (-1)):=by
  obtain⟨n,hn⟩:∃ n,g.ns.length=n+1:=⟨g.ns.length-1,by omega⟩
  rw[hn]; simp[List.replicate_succ,ints]
 refine⟨by omega,by omega,by omega,by omega,?_⟩
 rw[e0]
 refine loop58_0 (g:=g) hf hW.gd (fun env z hz h3 => ?_) g.ns.length 0 _ _ (by omega) ⟨by simp,gi_set_eq (by simp; omega),fun j h0 hj hP => ?_⟩ (by simp) (by simp) (by simp)
 · simp -implicitDefEqProofs[h3]
   refine cv_fz 2 hcl rfl ?_
   have:z=g.wk.2.P:=by
    refine List.ext_getElem (by rw[hz.1,hlen]) fun j h1 h2 => ?_
    rw[gi_get h1,gi_get h2]
    by_cases h0:j=0
    · subst h0; rw[hz.2.1,hf.p0]
    · have hj:j<g.ns.length:=by omega
      obtain⟨p,hp,k1,k2,k3⟩:=hf.pf j (by omega) hj
      exact hz.2.2 j (by omega) hj (by omega)
   subst this
   simp[ro,sl,hlen]
 · obtain⟨p,hp,k1,k2,k3⟩:=hf.pf j h0 hj
   omega
end
end Go.Proofs.Ytogjmpkehjfecaa.Rc
namespace Go.Proofs.Ytogjmpkehjfecaa.Rc
open Go.Ab
end Go.Proofs.Ytogjmpkehjfecaa.Rc
namespace Go.Proofs.Ytogjmpkehjfecaa.Rc
open Go.Ab
section
variable {σ:Type}
def abv (g:Gm) (pl:Int) (nb:σ->Nat->Int->Bool) (nx:σ->Nat->Int->σ):Nat->Nat->σ->σ
 | 0,_,s=>s
 | f+1,node,s =>
  if gi g.wk.2.P node<0 then s else
   match g.ns[(gi g.wk.2.P node).toNat]? with
   | none=>s
   | some x =>
    if x.k=2∧x.p=pl then
     (if nb s (gi g.wk.2.P node).toNat (fstAt node x.nx)=true then abv g pl nb nx f (gi g.wk.2.P node).toNat (nx s (gi g.wk.2.P node).toNat (fstAt node x.nx))else nx s (gi g.wk.2.P node).toNat (fstAt node x.nx))
    else abv g pl nb nx f (gi g.wk.2.P node).toNat s
variable {g:Gm} {Inv:Nat->List AO->σ->Prop} {vf:SV} {nb:σ->Nat->Int->Bool} {nx:σ->Nat->Int->σ} {pl:Int}
set_option maxRecDepth 10000 in
theorem loop67 (hW:Wg g) (hv:vf.vd=true∧vf.ug=vf) (hclo:∀ m G s (k:Nat) (a:Int),k<m->m<g.ns.length->Inv m G s->OkCP Try.prog vf [i64 k,i64 a] G fun out G'=>out=.ret (bl (nb s k a))∧Inv k G' (nx s k a))
 (hbox:∀ m G s o,Inv m G s->Inv m (G++[o]) s) (hdec:∀ m k G s,k<m->Inv m G s->Inv k G s) {N:Nat} {K:XE->Env->List AO->Prop} {s0:σ}
 (hret:∀ env m G,Inv m G s0->K .ret env G) (hexit:∀ env m G,Inv m G s0->K (.exit 0) env G) :
 ∀ (f node:Nat) (env:Env) (G:List AO) (s:σ),node<f->node<g.ns.length->Inv node G s->abv g pl nb nx f node s=s0 →
  env.get 0=g.wp->env.get 1=i64 node->env.get 2=i64 pl->env.get 3=vf->env.get 8=i64 (gi g.wk.2.P node)->LI Try.prog N drawB l95_0 env G K:=by
 have hf:=hW.wf
 have hgn:=hW.gd.n
 have hlen:g.wk.2.P.length=g.ns.length:=wk_len.1
 intro f
 induction f with
 | zero=>intro node env G s h; omega
 | succ f ih =>
  intro node env G s hnf hn hI hs e0 e1 e2 e3 e8
  refine li_go hm l95_0.eq_1 ?_
  unfold abv at hs
  by_cases hneg:gi g.wk.2.P node<0
  · rw[if_pos hneg]at hs
    subst hs
    simp -implicitDefEqProofs[e8,show ¬ 0≤gi g.wk.2.P node by omega]
    exact hexit _ _ _ hI
  · rw[if_neg hneg]at hs
    have hn0:0<node:=by
     rcases Nat.eq_zero_or_pos node with h | h
     · subst h; rw[hf.p0]at hneg; omega
     · exact h
    obtain⟨p,hp,k1,k2,k3⟩:=hf.pf node hn0 hn
    have k1':(gi g.wk.2.P node).toNat=p:=by omega
    rw[k1',List.getElem?_eq_getElem hp]at hs
    simp only at hs
    rw[k1]at e8
    have hnx:g.ns[p].nx.length≤60:=nx_of (hW.gd.e _ (List.getElem_mem hp))
    by_cases hm':g.ns[p].k=2∧g.ns[p].p=pl
    · rw[if_pos hm']at hs
      simp -implicitDefEqProofs[e0,e1,e2,e3,e8,Gm.wp,hp,nds_at hp,nds_min hp,nds_ge hp,sl,hm'.1,hm'.2,hv.1,hv.2]
      refine callq_st (fun _=>ok110 (IsI.slc _ _) (by omega) (node:Int)) ?_
      simp -implicitDefEqProofs
      refine call_gd (hclo node _ s p (fstAt node g.ns[p].nx) k2 hn (hbox _ _ _ _ hI)) (fun out G' hP => ?_)
      obtain⟨rfl,hI'⟩:=hP
      cases hb:nb s p (fstAt node g.ns[p].nx)with
      | true =>
       rw[hb,if_pos rfl]at hs
       simp -implicitDefEqProofs[e0,e8,Gm.wp,hp,hlen,sl]
       refine⟨by omega,?_⟩
       rw[gi_get (show p<g.wk.2.P.length by omega)]
       refine ih p _ _ _ (by omega) hp hI' hs ?_ ?_ ?_ ?_ ?_
       · simp[Gm.wp,sl,hlen]
       · simp
       · simp[e2]
       · simp[e3]
       · simp
      | false =>
       rw[hb,if_neg (by simp)]at hs
       subst hs
       simp -implicitDefEqProofs
       exact hret _ _ _ hI'
    · rw[if_neg hm']at hs
      by_cases hk2:g.ns[p].k=2
      · have hpl:¬ g.ns[p].p=pl:=fun h=>hm' ⟨hk2,h⟩
        simp -implicitDefEqProofs[e0,e1,e2,e3,e8,Gm.wp,hp,nds_at hp,nds_min hp,nds_ge hp,sl,hk2,hpl,hv.1,hv.2]
        refine callq_off _ _ _ _ ?_
        simp -implicitDefEqProofs[e0,e8,Gm.wp,hp,hlen,sl]
        refine⟨by omega,?_⟩
        rw[gi_get (show p<g.wk.2.P.length by omega)]
        refine ih p _ _ _ (by omega) hp (hdec _ _ _ _ k2 (hbox _ _ _ _ hI)) hs ?_ ?_ ?_ ?_ ?_
        · simp[Gm.wp,sl,hlen]
        · simp
        · simp[e2]
        · simp[e3]
        · simp
      · simp -implicitDefEqProofs[e0,e1,e2,e3,e8,Gm.wp,hp,nds_at hp,nds_min hp,nds_ge hp,sl,hk2,hv.1,hv.2]
        refine callq_off _ _ _ _ ?_
        simp -implicitDefEqProofs[e0,e8,Gm.wp,hp,hlen,sl]
        refine⟨by omega,?_⟩
        rw[gi_get (show p<g.wk.2.P.length by omega)]
        refine ih p _ _ _ (by omega) hp (hdec _ _ _ _ k2 (hbox _ _ _ _ hI)) hs ?_ ?_ ?_ ?_ ?_
        · simp[Gm.wp,sl,hlen]
        · simp
        · simp[e2]
        · simp[e3]
        · simp
theorem ok95 (hW:Wg g) (hv:vf.vd=true∧vf.ug=vf) (hclo:∀ m G s (k:Nat) (a:Int),k<m->m<g.ns.length->Inv m G s->OkCP Try.prog vf [i64 k,i64 a] G fun out G'=>out=.ret (bl (nb s k a))∧Inv k G' (nx s k a))
 (hbox:∀ m G s o,Inv m G s->Inv m (G++[o]) s) (hdec:∀ m k G s,k<m->Inv m G s->Inv k G s) {G:List AO} {s:σ} {node:Nat} (hn:node<g.ns.length) (hI:Inv node G s) :
 OkP Try.prog 95 [g.wp,i64 node,i64 pl,vf] G fun out G'=>out=.ret (.tup [])∧∃ m,Inv m G' (abv g pl nb nx g.ns.length node s):=by
 have hlen:g.wk.2.P.length=g.ns.length:=wk_len.1
 refine okP_fn hm Try.func95 c95 (by simp) fun hcl => ?_
 simp -implicitDefEqProofs[i95,r95,Gm.wp,sl,hn,hlen]
 refine⟨by omega,?_⟩
 rw[gi_get (show node<g.wk.2.P.length by omega)]
 refine loop67 (g:=g) hW hv hclo hbox hdec (s0:=abv g pl nb nx g.ns.length node s) (pl:=pl) (fun env m G' hI' => ?_) (fun env m G' hI' => ?_) g.ns.length node _ _ s hn hn hI rfl (by simp[Gm.wp,sl,hlen]) (by simp) (by simp) (by simp) (by simp)
 · simp -implicitDefEqProofs
   exact⟨_,_,⟨rfl,m,hI'⟩,cv_id⟩
 · simp -implicitDefEqProofs
   exact⟨_,_,⟨rfl,m,hI'⟩,cv_id⟩
end
end Go.Proofs.Ytogjmpkehjfecaa.Rc
namespace Go.Proofs.Ytogjmpkehjfecaa.Rc
open Go.Ab
def WayI (g:Gm) (H:List AO) (m:Nat) (G:List AO) (l:List (Int×Int)):Prop :=
 l.length+m≤2000∧∃ L c,G=H++⟨[g.wp],123,0,true⟩::⟨[c],142,0,true⟩::L ∧
  ((l=[]∧c=nl)∨(l≠[]∧∃ p,c=.own (H.length+(p+1+1)) 0 l.length 2 l.length∧L[p]? = some ⟨infs l,146,l.length,true⟩))
theorem infs_snoc:∀ (l:List (Int×Int)) (x:Int×Int),infs (l++[x])=infs l++[i64 x.1,i64 x.2]
 | [],x=>rfl
 | y::r,x=>by simp[infs,infs_snoc r x]
def infoAt (g:Gm) (k:Nat):Int:=match g.ns[k]? with | some x=>x.i | none=>0
section
variable {H:List AO} {g:Gm}
theorem nds_g2 {l:List Nd} {k:Nat} (h:k<l.length):(nds l)[k*6+2]? = some (i64 l[k].i):=by rw[nds_get h (by omega)]; rfl
set_option maxRecDepth 10000 in
theorem ok108 {m:Nat} {G:List AO} {l:List (Int×Int)} (hI:WayI g H m G l) {k:Nat} (hk:k<g.ns.length) (hkm:k<m) (hn:g.ns.length≤2000) (a:Int) :
 OkP Try.prog 108 [i64 k,i64 a,.ptr (.own (H.length+1) 0 0 0 0) 0,.ptr (.own H.length 0 0 0 0) 0] G fun out G'=>out=.ret (bl true)∧WayI g H k G' (l++[(infoAt g k,a)]):=by
 have hinf:infoAt g k=g.ns[k].i:=by unfold infoAt; rw[List.getElem?_eq_getElem hk]
 rw[hinf]
 obtain⟨hb,L,c,rfl,hc⟩:=hI
 refine okP_fn hm Try.func108 c108 (by simp) fun hcl => ?_
 rcases hc with ⟨rfl,rfl⟩ | ⟨hne,p,rfl,hp⟩
 · simp -implicitDefEqProofs[i108,r108,Gm.wp,sl,hk,nds_g2 hk,nds_len]
   refine⟨by omega,_,_,⟨rfl,by simp at hb ⊢; omega,L++[_,_],_,rfl,.inr ⟨by simp,L.length+1,rfl,?_⟩⟩,cv_id⟩
   rw[List.getElem?_append_right (by omega)]; simp[infs]
 · simp -implicitDefEqProofs[i108,r108,Gm.wp,sl,hk,nds_g2 hk,nds_len,setObj_old hp,objIs_old hp,objCells_set0,objCells_setk,len_addn]
   refine⟨by omega,by omega,by omega,by rw[infs_len]; omega,by omega,_,_,⟨rfl,by simp; omega,L.set p _++[_],_,rfl,.inr ⟨by simp,p,by simp,?_⟩⟩,cv_id⟩
   rw[List.getElem?_append_left (by simpa using getElem?_lt hp),List.getElem?_set_self (getElem?_lt hp)]
   simp[infs_snoc]
def prow (l:List (Int×Int)) (v:Nat):AO:=⟨infs l,146,v,true⟩
theorem infs_set:∀ (l:List (Int×Int)) (i:Nat) (a b:Int),i<l.length->(infs l).take (i*2)++i64 a::i64 b::(infs l).drop (i*2+2)=infs (l.set i (a,b))
 | [],i,a,b,h=>by simp at h
 | x::r,0,a,b,h=>by simp[infs]
 | x::r,i+1,a,b,h=>by
  rw[show(i+1)*2=i*2+2 by omega]
  simp only[infs,List.take_succ_cons,List.drop_succ_cons,List.set_cons_succ,List.cons_append]
  rw[infs_set r i a b (by simpa using h)]
def Rv (l m:List (Int×Int)) (i:Nat):Prop:=m.length=l.length∧∀ t,t<l.length->m[t]? = if t<i∨l.length-1-i<t then l[l.length-1-t]? else l[t]?
theorem Rv.step {l m:List (Int×Int)} {i:Nat} (h:Rv l m i) (hi:i<l.length-1-i) {x y:Int×Int} (hx:m[l.length-1-i]? = some x) (hy:m[i]? = some y):Rv l ((m.set i x).set (l.length-1-i) y) (i+1):=by
 have hlm:=h.1
 refine⟨by simpa using h.1,fun t ht => ?_⟩
 have hx':=h.2 (l.length-1-i) (by omega)
 have hy':=h.2 i (by omega)
 rw[if_neg (by omega)]at hx' hy'
 rw[hx]at hx'
 rw[hy]at hy'
 by_cases e1:t=l.length-1-i
 · subst e1
   rw[List.getElem?_set_self (by simp; omega),if_pos (by omega),hy']
   congr 1; omega
 · rw[List.getElem?_set_ne (fun h=>e1 h.symm)]
   by_cases e2:t=i
   · subst e2
     rw[List.getElem?_set_self (by omega),if_pos (by omega),hx']
   · rw[List.getElem?_set_ne (fun h=>e2 h.symm),h.2 t ht]
     by_cases hc:t<i∨l.length-1-i<t
     · rw[if_pos hc,if_pos (by omega)]
     · rw[if_neg hc,if_neg (by omega)]
theorem Rv.done {l m:List (Int×Int)} {i:Nat} (h:Rv l m i) (hi:¬ (i:Int)<(l.length:Int)-1-i):m=l.reverse:=by
 have hlm:=h.1
 apply List.ext_getElem?
 intro t
 by_cases ht:t<l.length
 · rw[h.2 t ht,List.getElem?_reverse ht]
   by_cases hc:t<i∨l.length-1-i<t
   · rw[if_pos hc]
   · rw[if_neg hc]
     congr 1; omega
 · rw[List.getElem?_eq_none (by omega),List.getElem?_eq_none (by simp; omega)]
theorem setObj_set {G:List AO} {q:Nat} (hq:q<G.length) (o:AO) (f:AO->AO):Ab.setObj (G.set q o) q f=G.set q (f o):=by
 rw[setObj_some (o:=o) (List.getElem?_set_self hq),List.set_set]
theorem objCells_set {G:List AO} {q:Nat} (hq:q<G.length) (l:List (Int×Int)) (v:Nat):objCells (G.set q (prow l v)) q v=infs l :=
 objCells_of (o:=prow l v) (List.getElem?_set_self hq) rfl
set_option maxRecDepth 10000 in
theorem loop71 {G:List AO} {q v:Nat} (hq:q<G.length) {l:List (Int×Int)} (hl:l.length≤2000) {N:Nat} {K:XE->Env->List AO->Prop} (hexit:∀ env,K (.exit 0) env (G.set q (prow l.reverse v))) :
 ∀ (n i:Nat) (m:List (Int×Int)) (env:Env),l.length≤i+n->i≤l.length->Rv l m i->env.get 0=.own q 0 l.length 2 v->env.get 2=i64 i->env.get 3=i64 ((l.length:Int)-1-i) →
  LI Try.prog N drawB l109_0 env (G.set q (prow m v)) K:=by
 intro n
 induction n with
 | zero =>
  intro i m env hn hi hR e0 e2 e3
  refine li_go hm l109_0.eq_1 ?_
  have hno:¬ (i:Int)<(l.length:Int)-1-i:=by omega
  simp -implicitDefEqProofs[e0,e2,e3,hno]
  rw[hR.done hno]
  exact hexit _
 | succ n ih =>
  intro i m env hn hi hR e0 e2 e3
  refine li_go hm l109_0.eq_1 ?_
  by_cases hlt:(i:Int)<(l.length:Int)-1-i
  · have hlm:=hR.1
    have ej:(l.length:Int)-1-i=((l.length-1-i:Nat):Int):=by omega
    have hj:l.length-1-i<m.length:=by omega
    have hi':i<m.length:=by omega
    have w1:IntKind.i64.wrap ((i:Int)+1)=((i+1:Nat):Int):=wrap_succ (by omega)
    have w2:IntKind.i64.wrap (((l.length-1-i:Nat):Int)-1)=(l.length:Int)-1-((i+1:Nat):Int):=by rw[wrap_id (by omega) (by omega)]; omega
    rw[ej]at e3 hlt
    have hlt':i<l.length-1-i:=by omega
    simp -implicitDefEqProofs[e0,e2,e3,hlt,hlt',objCells_set hq,infs_at hj,infs_at hi',infs_len,show i<l.length by omega,show l.length-1-i<l.length by omega,setObj_set hq]
    have c1:List.take (i*2) (prow m v).cells++i64 m[l.length-1-i].1::i64 m[l.length-1-i].2::List.drop (i*2+2) (prow m v).cells=infs (m.set i m[l.length-1-i]):=infs_set m i _ _ hi'
    rw[c1]
    have c2:List.take ((l.length-1-i)*2) (infs (m.set i m[l.length-1-i]))++i64 m[i].1::i64 m[i].2::List.drop ((l.length-1-i)*2+2) (infs (m.set i m[l.length-1-i]))=infs ((m.set i m[l.length-1-i]).set (l.length-1-i) m[i]) :=
     infs_set _ _ _ _ (by simpa using hj)
    rw[c2,w1,w2]
    have c3:objCells (G.set q (prow (m.set i m[l.length-1-i]) v)) q v=infs (m.set i m[l.length-1-i]):=objCells_set hq _ v
    refine⟨by omega,?_,?_⟩
    · show _≤(objCells (G.set q (prow (m.set i m[l.length-1-i]) v)) q v).length
      rw[c3,infs_len,List.length_set]; omega
    · refine ih (i+1) ((m.set i m[l.length-1-i]).set (l.length-1-i) m[i]) _ (by omega) (by omega) (hR.step hlt' (List.getElem?_eq_getElem hj) (List.getElem?_eq_getElem hi')) ?_ ?_ ?_
      · simp
      · simp
      · simp
  · simp -implicitDefEqProofs[e0,e2,e3,hlt]
    rw[hR.done hlt]
    exact hexit _
theorem ok109 {G:List AO} {q v:Nat} (hq:q<G.length) {l:List (Int×Int)} (hl:l.length≤2000):Ok Try.prog 109 [.own q 0 l.length 2 v] (G.set q (prow l v)) (.ret (.tup [])) (G.set q (prow l.reverse v)):=by
 refine ok_fn hm Try.func109 c109 (by simp) fun hcl => ?_
 have w1:IntKind.i64.wrap ((l.length:Int)-1)=(l.length:Int)-1-((0:Nat):Int):=by rw[wrap_id (by omega) (by omega)]; omega
 simp -implicitDefEqProofs[i109,r109]
 rw[w1]
 refine loop71 hq hl (fun env => ?_) l.length 0 l _ (by omega) (by omega) ⟨rfl,fun t ht=>by rw[if_neg (by omega)]⟩ (by simp) (by simp) (by simp)
 simp -implicitDefEqProofs
 exact cv_id
theorem ok109n {G:List AO}:Ok Try.prog 109 [nl] G (.ret (.tup [])) G:=by
 refine ok_fn hm Try.func109 c109 (by simp) fun hcl => ?_
 simp -implicitDefEqProofs[i109,r109,show(SV.val (Value.slice none 0 0)).isSl=true by rfl,show(SV.val (Value.slice none 0 0)).slen=0 by rfl,show IntKind.i64.wrap (-1) = -1 by rfl]
 refine li_go hm l109_0.eq_1 ?_
 simp -implicitDefEqProofs
 exact cv_id
end
end Go.Proofs.Ytogjmpkehjfecaa.Rc
namespace Go.Proofs.Ytogjmpkehjfecaa.Rc
open Go.Ab
def wv (l:List (Int×Int)):SV:=if l=[]then nl else .slc (infs l) l.length
def Gm.up (g:Gm) (node:Nat) (pl:Int):List (Int×Int):=abv g pl (fun _ _ _=>true) (fun l k a=>l++[(infoAt g k,a)]) g.ns.length node []
def Gm.way (g:Gm) (node:Nat) (pl:Int):List (Int×Int):=(g.up node pl).reverse
section
variable {H:List AO} {g:Gm}
set_option maxRecDepth 10000 in
theorem ok94 (hW:Wg g) {node:Nat} (hn:node<g.ns.length) (pl:Int):Ok Try.prog 94 [g.wp,i64 node,i64 pl] H (.ret (wv (g.way node pl))) H:=by
 have hgn:=hW.gd.n
 refine ok_fn hm Try.func94 c94 (by simp) fun hcl => ?_
 have hwp:g.wp.vd=true∧g.wp.ug=g.wp∧g.wp.flat=[g.wp]∧g.wp.isCell=true:=⟨rfl,rfl,rfl,rfl⟩
 simp -implicitDefEqProofs[i94,r94,hwp.1,hwp.2.1,hwp.2.2.1,hwp.2.2.2]
 have h67:=ok95 (g:=g) (σ:=List (Int×Int)) (Inv:=WayI g H) (vf:=.fn (.func 108) [] [.ptr (.own (H.length+1) 0 0 0 0) 0,.ptr (.own H.length 0 0 0 0) 0]) (nb:=fun _ _ _=>true) (nx:=fun l k a=>l++[(infoAt g k,a)]) (pl:=pl) hW ⟨rfl,rfl⟩
  (fun m G s k a hkm hm' hI=>okCP_of (by simpa using ok108 hI (by omega) hkm hgn a))
  (fun m G s o hI=>by
   obtain⟨hb,L,c,rfl,hc⟩:=hI
   refine⟨hb,L++[o],c,by simp,?_⟩
   rcases hc with h | ⟨h1,p,h2,h3⟩
   · exact .inl h
   · exact .inr ⟨h1,p,h2,by rw[List.getElem?_append_left (getElem?_lt h3)]; exact h3⟩)
  (fun m k G s hkm hI=>⟨by have:=hI.1; omega,hI.2⟩) (G:=H++[⟨[g.wp],123,0,true⟩,⟨[nl],142,0,true⟩]) (s:=[]) (node:=node) hn ⟨by simp; omega,[],nl,rfl,.inl ⟨rfl,rfl⟩⟩
 refine call_goP h67 (fun out G' hP => ?_)
 obtain⟨rfl,m,hb,L,c,rfl,hc⟩:=hP
 have hup:abv g pl (fun _ _ _=>true) (fun l k a=>l++[(infoAt g k,a)]) g.ns.length node []=g.up node pl:=rfl
 rw[hup]at hb hc
 rcases hc with ⟨h0,rfl⟩ | ⟨hne,p,rfl,hp⟩
 · have hw:wv (g.way node pl)=nl:=by unfold wv Gm.way; rw[h0]; rfl
   rw[hw]
   simp -implicitDefEqProofs
   refine call_go ok109n ?_
   simp -implicitDefEqProofs
   exact cv_fz 2 hcl rfl (by simp)
 · have hw:wv (g.way node pl)=.slc (infs (g.up node pl).reverse) (g.up node pl).length:=by
    unfold wv Gm.way; rw[if_neg (by simpa using hne)]; simp
   rw[hw]
   simp -implicitDefEqProofs
   have hL:L.set p (prow (g.up node pl) (g.up node pl).length)=L:=by
    apply List.ext_getElem?
    intro i
    by_cases h:p=i
    · subst h; rw[List.getElem?_set_self (getElem?_lt hp),hp]; rfl
    · rw[List.getElem?_set_ne h]
   have hset:∀ (A B o:AO),(H++A::B::L).set (H.length+(p+1+1)) o=H++A::B::L.set p o:=fun A B o=>by simp
   have h71:=ok109 (G:=H++(⟨[g.wp],123,0,true⟩:AO)::⟨[.own (H.length+(p+1+1)) 0 (g.up node pl).length 2 (g.up node pl).length],142,0,true⟩::L) (q:=H.length+(p+1+1)) (v:=(g.up node pl).length) (by have:=getElem?_lt hp; simp; omega) (l:=g.up node pl) (by omega)
   rw[hset,hset,hL]at h71
   refine call_go h71 ?_
   simp -implicitDefEqProofs
   refine cv_fz 3 hcl rfl ?_
   have hpl:=getElem?_lt hp
   simp[hpl,prow,infs_len,Nat.mul_comm]
   exact List.take_of_length_le (by rw[infs_len,List.length_reverse]; omega)
end
end Go.Proofs.Ytogjmpkehjfecaa.Rc
namespace Go.Proofs.Ytogjmpkehjfecaa.Rc
open Go.Ab
theorem wv_facts (l:List (Int×Int)):(wv l).vd=true∧(wv l).ug=wv l∧(wv l).isSl=true∧(wv l).slen=l.length∧(wv l).isCell=true∧(wv l).flat=[wv l]:=by
 unfold wv
 split
 · rename_i h; subst h; exact⟨rfl,rfl,rfl,rfl,rfl,rfl⟩
 · exact⟨rfl,rfl,rfl,rfl,rfl,rfl⟩
theorem wv_ne {l:List (Int×Int)} (h:l≠[]):wv l=.slc (infs l) l.length:=if_neg h
section
variable {H:List AO} {g:Gm} {a b:List (Int×Int)}
set_option maxRecDepth 10000 in
theorem loop83 (hl:a.length≤100000) (hab:a.length=b.length) {N:Nat} {K:XE->Env->List AO->Prop}
 (hret:a≠b->∀ env,env.get 4=bl false->K .ret env H) (hexit:a=b->∀ env,K (.exit 0) env H) :
 ∀ (n i:Nat) (env:Env),i+n=a.length->(∀ k (h:k<a.length),k<i->a[k]=b[k]'(by omega))->env.get 0=wv a->env.get 1=wv b->env.get 12=i64 a.length->env.get 13=i64 i →
  LI Try.prog N drawB l111_0 env H K:=by
 intro n
 induction n with
 | zero =>
  intro i env hi hp h0 h1 h12 h13
  refine li_go hm l111_0.eq_1 ?_
  have e:i=a.length:=by omega
  subst e
  simp -implicitDefEqProofs[h12,h13]
  exact hexit (List.ext_getElem hab fun k h1 h2=>hp k h1 h1) _
 | succ n ih =>
  intro i env hi hp h0 h1 h12 h13
  refine li_go hm l111_0.eq_1 ?_
  have hlt:i<a.length:=by omega
  have hlt':i<b.length:=by omega
  have ha:a≠[]:=fun e=>by subst e; simp at hlt
  have hb:b≠[]:=fun e=>by subst e; simp at hlt'
  have w1:IntKind.i64.wrap ((i:Int)+1)=((i+1:Nat):Int):=wrap_succ (by omega)
  have f1:=wv_ne ha; have f2:=wv_ne hb
  simp -implicitDefEqProofs[h0,h1,h12,h13,f1,f2,hlt,hlt',infs_at hlt,infs_at hlt',infs_min hlt,infs_ge hlt,infs_min hlt',infs_ge hlt']
  by_cases hc:a[i]=b[i]
  · rw[if_neg (by rw[hc]; simp)]
    rw[w1]
    refine ih (i+1) _ (by omega) ?_ ?_ ?_ ?_ ?_
    rotate_left
    · simp[f1]
    · simp[f2]
    · simp
    · simp
    intro k hk hki
    by_cases e:k=i
    · subst e; exact hc
    · exact hp k hk (by omega)
  · rw[if_pos (by
     by_cases h1:a[i].1=b[i].1
     · exact .inr fun h2=>hc (Prod.ext h1 h2)
     · exact .inl h1)]
    exact hret (fun e=>hc (by subst e; rfl)) _ (by simp)
theorem ok111 (hl:a.length≤100000):Ok Try.prog 111 [wv a,wv b] H (.ret (bl (decide (a=b)))) H:=by
 obtain⟨v1,v2,v3,v4,v5,v6⟩:=wv_facts a
 obtain⟨u1,u2,u3,u4,u5,u6⟩:=wv_facts b
 refine ok_fn hm Try.func111 c111 (by simp) fun hcl => ?_
 by_cases hab:a.length=b.length
 · simp -implicitDefEqProofs[i111,r111,v1,v2,v3,v4,u1,u2,u3,u4,hab]
   refine loop83 (a:=a) (b:=b) hl hab (fun hne env h4 => ?_) (fun he env => ?_) a.length 0 _ (by omega) (by omega) (by simp) (by simp) (by simp[hab]) (by simp)
   · simp -implicitDefEqProofs[h4,hne]
     exact cv_id
   · simp -implicitDefEqProofs[he]
     exact cv_id
 · simp -implicitDefEqProofs[i111,r111,v1,v2,v3,v4,u1,u2,u3,u4,show ¬ ((a.length:Int)=b.length)by omega,hab]
   have:a≠b:=fun e=>hab (by rw[e])
   simp[this]
   exact cv_id
theorem ok97 (hl:a.length≤100000):Ok Try.prog 97 [wv a,wv b] H (.ret (bl (decide (a=b)))) H:=by
 obtain⟨v1,v2,v3,v4,v5,v6⟩:=wv_facts a
 obtain⟨u1,u2,u3,u4,u5,u6⟩:=wv_facts b
 refine ok_fn hm Try.func97 c97 (by simp) fun hcl => ?_
 simp -implicitDefEqProofs[i97,r97,v1,v2,v3,v4,u1,u2,u3,u4]
 refine call_go (ok111 hl) ?_
 simp -implicitDefEqProofs
 exact cv_id
end
end Go.Proofs.Ytogjmpkehjfecaa.Rc
namespace Go.Proofs.Ytogjmpkehjfecaa.Rc
open Go.Ab
structure Fl where
 k:Int
 n:Int
 i:Int
 o:Int
deriving DecidableEq
def Fl.cells (f:Fl):List SV:=[i64 f.k,i64 f.n,i64 f.i,i64 f.o]
def Keep (G G':List AO):Prop:=∀ (j:Nat) (o:AO),G[j]? = some o->o.ty=3∨o.ty=131->G'[j]? = some o
theorem Keep.refl (G:List AO):Keep G G:=fun _ _ h _=>h
theorem Keep.trans {G G' G'':List AO} (h:Keep G G') (h':Keep G' G''):Keep G G'':=fun j o ho ht=>h' j o (h j o ho ht) ht
theorem Keep.app (G:List AO) (L:List AO):Keep G (G++L):=fun j o ho _=>by rw[List.getElem?_append_left (getElem?_lt ho)]; exact ho
structure Rep {τ:Type} (rp:SV) (b0:Nat) (R:Nat->List AO->τ->Prop) (rb:τ->Fl->Bool) (rn:τ->Fl->τ):Prop where
 vd:rp.vd=true
 ug:rp.ug=rp
 cell:rp.isCell=true
 flat:rp.flat=[rp]
 call:∀ c G s f,R (c+1) G s->OkCP Try.prog rp [.agg f.cells] G fun out G'=>out=.ret (bl (rb s f))∧R c G' (rn s f)∧Keep G G'
 app:∀ c G s o,R c G s->R c (G++[o]) s
 put:∀ c G s j o o',R c G s->G[j]? = some o->b0≤j->o.ty=3->R c (G.set j o') s
 len:∀ c G s,R c G s->b0≤G.length
 dec:∀ c G s,R (c+1) G s->R c G s
theorem Rep.decn {τ:Type} {rp:SV} {b0:Nat} {R:Nat->List AO->τ->Prop} {rb:τ->Fl->Bool} {rn:τ->Fl->τ} (h:Rep rp b0 R rb rn):∀ {k c:Nat} {G:List AO} {s:τ},R (k+c) G s->R c G s
 | 0,c,G,s,hr=>by simpa using hr
 | k+1,c,G,s,hr=>h.decn (k:=k) (h.dec _ _ _ (by rw[show k+c+1=k+1+c by omega]; exact hr))
section
variable {τ:Type} {rp:SV} {b0:Nat} {R:Nat->List AO->τ->Prop} {rb:τ->Fl->Bool} {rn:τ->Fl->τ} {g:Gm}
structure SkI (g:Gm) (rp:SV) (info:Int) (bs bi:Nat) (G:List AO):Prop where
 s:G[bs]? = some ⟨[g.wp,rp],131,0,true⟩
 i:G[bi]? = some ⟨[i64 info],3,0,true⟩
theorem SkI.keep {info:Int} {bs bi:Nat} {G G':List AO} (h:SkI g rp info bs bi G) (hk:Keep G G'):SkI g rp info bs bi G':=⟨hk _ _ h.s (.inr rfl),hk _ _ h.i (.inl rfl)⟩
theorem SkI.cs {info:Int} {bs bi:Nat} {G:List AO} (h:SkI g rp info bs bi G):objCells G bs 0=[g.wp,rp]:=objCells_of h.s rfl
theorem SkI.ci {info:Int} {bs bi:Nat} {G:List AO} (h:SkI g rp info bs bi G):objCells G bi 0=[i64 info]:=objCells_of h.i rfl
def dpn (g:Gm) (info:Int) (d:Int) (k:Nat):Int:=if infoAt g k=info then k else d
def DpI (g:Gm) (R:Nat->List AO->τ->Prop) (rp:SV) (info:Int) (bs bi bd c:Nat) (s:τ) (_:Nat) (G:List AO) (d:Int):Prop :=
 R c G s∧SkI g rp info bs bi G∧G[bd]? = some ⟨[i64 d],3,0,true⟩∧bd≠bs∧bd≠bi
set_option maxRecDepth 10000 in
theorem ok96 (hR:Rep rp b0 R rb rn) (hn:g.ns.length≤2000) {info:Int} {bs bi bd c:Nat} (hbd:b0≤bd) {s:τ} {m:Nat} {G:List AO} {d:Int} (hI:DpI g R rp info bs bi bd c s m G d) {k:Nat} (hk:k<g.ns.length) (a:Int) (m':Nat) :
 OkP Try.prog 96 [i64 k,i64 a,.ptr (.own bs 0 0 0 0) 0,.ptr (.own bi 0 0 0 0) 0,.ptr (.own bd 0 0 0 0) 0] G fun out G'=>out=.ret (bl (decide (dpn g info d k<0)))∧DpI g R rp info bs bi bd c s m' G' (dpn g info d k):=by
 obtain⟨h1,h2,h3,h4,h5⟩:=hI
 have hinf:infoAt g k=g.ns[k].i:=by unfold infoAt; rw[List.getElem?_eq_getElem hk]
 have hd:objCells G bd 0=[i64 d]:=objCells_of h3 rfl
 refine okP_fn hm Try.func96 c96 (by simp) fun hcl => ?_
 by_cases hi:g.ns[k].i=info
 · have e:dpn g info d k=k:=by unfold dpn; rw[if_pos (by rw[hinf]; exact hi)]
   rw[e]
   have hst:∀ f:AO->AO,Ab.setObj G bd f=G.set bd (f ⟨[i64 d],3,0,true⟩):=fun f=>setObj_some h3 f
   have hlt:=getElem?_lt h3
   have hc2:objCells (G.set bd (⟨[i64 k],3,0,true⟩:AO)) bd 0=[i64 k]:=objCells_of (o:=⟨[i64 k],3,0,true⟩) (List.getElem?_set_self hlt) rfl
   simp -implicitDefEqProofs[i96,r96,Gm.wp,sl,hk,h2.cs,h2.ci,hd,nds_g2 hk,nds_len,hi,hst,hc2]
   refine⟨by omega,_,_,⟨rfl,hR.put _ _ _ _ _ _ h1 h3 hbd rfl,⟨?_,?_⟩,List.getElem?_set_self hlt,h4,h5⟩,cv_id⟩
   · rw[List.getElem?_set_ne h4]; exact h2.s
   · rw[List.getElem?_set_ne h5]; exact h2.i
 · have e:dpn g info d k=d:=by unfold dpn; rw[if_neg (by rw[hinf]; exact hi)]
   rw[e]
   simp -implicitDefEqProofs[i96,r96,Gm.wp,sl,hk,h2.cs,h2.ci,hd,nds_g2 hk,nds_len,hi]
   exact⟨by omega,_,_,⟨rfl,h1,h2,h3,h4,h5⟩,cv_id⟩
theorem abv_len {pl:Int}:∀ (f node:Nat) (l:List (Int×Int)),(abv g pl (fun _ _ _=>true) (fun l k a=>l++[(infoAt g k,a)]) f node l).length≤l.length+f
 | 0,node,l=>by simp[abv]
 | f+1,node,l=>by
  unfold abv
  split
  · omega
  · split
    · omega
    · split
      · rw[if_pos rfl]
        refine Nat.le_trans (abv_len (pl:=pl) f _ _) ?_
        simp only[List.length_append,List.length_singleton]
        omega
      · have:=abv_len (pl:=pl) f (gi g.wk.2.P node).toNat l
        omega
theorem way_len {node:Nat} {pl:Int}:(g.way node pl).length≤g.ns.length:=by
 unfold Gm.way Gm.up
 have:=abv_len (g:=g) (pl:=pl) g.ns.length node []
 simpa using this
def Gm.deep (g:Gm) (node:Nat) (pl info:Int):Int:=abv g pl (fun d k _=>decide (dpn g info d k<0)) (fun d k _=>dpn g info d k) g.ns.length node (-1)
def seekS (g:Gm) (rb:τ->Fl->Bool) (rn:τ->Fl->τ) (info pl n0:Int) (first:List (Int×Int)):List Int->τ->Bool×τ
 | [],s=>(true,s)
 | v::r,s =>
  let d:=g.deep v.toNat pl info
  if 0≤d∧rb s ⟨1,v,info,d⟩=false then(false,rn s ⟨1,v,info,d⟩)else
  let s1:=if 0≤d then rn s ⟨1,v,info,d⟩else s
  if g.way v.toNat pl=first then seekS g rb rn info pl n0 first r s1 else
  if rb s1 ⟨2,v,info,n0⟩=true then seekS g rb rn info pl n0 first r (rn s1 ⟨2,v,info,n0⟩)else(false,rn s1 ⟨2,v,info,n0⟩)
set_option maxRecDepth 10000 in
theorem loop48 (hW:Wg g) (hR:Rep rp b0 R rb rn) {info pl n0:Int} {bs bi:Nat} {nodes:List Int} {first:List (Int×Int)} (hn0:nodes.head? = some n0) (hns:∀ v∈nodes,0≤v∧v<g.ns.length) (hnl:nodes.length≤2000) (hfl:first.length≤2000)
 {N:Nat} {K:XE->Env->List AO->Prop} {Q:Bool×τ}
 {c:Nat} (hret:Q.1=false->∀ env G,R c G Q.2->env.get 6=bl false->K .ret env G) (hexit:Q.1=true->∀ env G,R c G Q.2->K (.exit 0) env G) :
 ∀ (n i:Nat) (env:Env) (G:List AO) (s:τ),i+n=nodes.length->R (2*n+c) G s->SkI g rp info bs bi G->seekS g rb rn info pl n0 first (nodes.drop i) s=Q →
  env.get 2=.slc (ints nodes) nodes.length->env.get 3=.ptr (.own bs 0 0 0 0) 0->env.get 4=.ptr (.own bi 0 0 0 0) 0->env.get 7=i64 pl->env.get 8=wv first->env.get 29=.slc (ints nodes) nodes.length->env.get 30=i64 nodes.length->env.get 31=i64 i →
  LI Try.prog N drawB l80_0 env G K:=by
 have hgn:=hW.gd.n
 have hwp:g.wp.vd=true∧g.wp.ug=g.wp∧g.wp.flat=[g.wp]∧g.wp.isCell=true:=⟨rfl,rfl,rfl,rfl⟩
 intro n
 induction n with
 | zero =>
  intro i env G s hi hRG hS hQ h2 h3 h4 h7 h8 h29 h30 h31
  refine li_go hm l80_0.eq_1 ?_
  have e:i=nodes.length:=by omega
  subst e
  rw[List.drop_length]at hQ
  subst hQ
  simp -implicitDefEqProofs[h30,h31]
  exact hexit rfl _ _ (by simpa[seekS]using hRG)
 | succ n ih =>
  intro i env G s hi hRG hS hQ h2 h3 h4 h7 h8 h29 h30 h31
  refine li_go hm l80_0.eq_1 ?_
  have hlt:i<nodes.length:=by omega
  have w1:IntKind.i64.wrap ((i:Int)+1)=((i+1:Nat):Int):=wrap_succ (by omega)
  have hv:=hns _ (List.getElem_mem hlt)
  have hvn:nodes[i]=((nodes[i].toNat:Nat):Int):=by omega
  rw[List.drop_eq_getElem_cons hlt]at hQ
  unfold seekS at hQ
  have hpos:0<nodes.length:=by omega
  have hhead:(ints nodes).head? = some (i64 n0):=by
   cases hc:nodes with
   | nil=>rw[hc]at hpos; simp at hpos
   | cons y r=>rw[hc]at hn0; simp at hn0; subst hn0; rfl
  have hbs:=getElem?_lt hS.s
  have hbi:=getElem?_lt hS.i
  simp -implicitDefEqProofs[h2,h3,h4,h7,h8,h29,h30,h31,hlt,objCells_app _ hbs,objCells_app _ hbi,hS.cs,hS.ci,hwp.1,hwp.2.1]
  refine⟨by omega,?_⟩
  have h67:=ok95 (g:=g) (σ:=Int) (Inv:=DpI g R rp info bs bi G.length (2*n+c+1+1) s) (vf:=.fn (.func 96) [] [.ptr (.own bs 0 0 0 0) 0,.ptr (.own bi 0 0 0 0) 0,.ptr (.own G.length 0 0 0 0) 0]) (nb:=fun d k _=>decide (dpn g info d k<0)) (nx:=fun d k _=>dpn g info d k) (pl:=pl) hW ⟨rfl,rfl⟩
   (fun m G s k a hkm hm' hI=>okCP_of (by simpa using ok96 hR hgn (hR.len _ _ _ hRG) hI (by omega) a k))
   (fun m G s o hI=>⟨hR.app _ _ _ _ hI.1,hI.2.1.keep (Keep.app _ _),by rw[List.getElem?_append_left (getElem?_lt hI.2.2.1)]; exact hI.2.2.1,hI.2.2.2⟩)
   (fun m k G s hkm hI=>hI) (G:=G++[⟨[i64 (-1)],3,0,true⟩]) (s := -1) (node:=nodes[i].toNat) (by omega)
   ⟨hR.app _ _ _ _ (by rw[show 2*n+c+1+1=2*(n+1)+c by omega]; exact hRG),hS.keep (Keep.app _ _),by simp,by omega,by omega⟩
  rw[←hvn]at h67
  refine call_goP h67 (fun out G2 hP => ?_)
  obtain⟨rfl,m',hR2,hS2,hd2,hb1,hb2⟩:=hP
  have hdeep:abv g pl (fun d k _=>decide (dpn g info d k<0)) (fun d k _=>dpn g info d k) g.ns.length nodes[i].toNat (-1)=g.deep nodes[i].toNat pl info:=rfl
  rw[hdeep]at hd2
  simp only at hQ
  generalize hgd:g.deep nodes[i].toNat pl info=d at hd2 hQ
  have hcd:objCells G2 G.length 0=[i64 d]:=objCells_of hd2 rfl
  by_cases h0:0≤d
  · simp -implicitDefEqProofs[h2,h3,h4,h7,h8,h29,h30,h31,hcd,h0,hS2.cs,hS2.ci,hR.vd,hR.ug]
    refine call_gd (hR.call _ _ _ ⟨1,nodes[i],info,d⟩ hR2) (fun out G3 hP => ?_)
    obtain⟨rfl,hR3,hK3⟩:=hP
    have hS3:=hS2.keep hK3
    cases hb:rb s ⟨1,nodes[i],info,d⟩with
    | false =>
     rw[if_pos ⟨h0,hb⟩]at hQ
     subst hQ
     simp -implicitDefEqProofs
     exact hret rfl _ _ (hR.decn (k:=2*n+1) (by rw[show 2*n+1+c=2*n+c+1 by omega]; exact hR3)) (by simp)
    | true =>
     rw[if_neg (by rw[hb]; simp),if_pos h0]at hQ
     simp -implicitDefEqProofs[h2,h3,h4,h7,h8,h29,h30,h31,hS3.cs,hS3.ci,hR.vd,hR.ug,hwp.1,hwp.2.1]
     have h50:=ok94 (H:=G3) hW (node:=nodes[i].toNat) (by omega) pl
     rw[←hvn]at h50
     refine call_go h50 ?_
     simp -implicitDefEqProofs[h8]
     refine call_go (ok97 (a:=g.way nodes[i].toNat pl) (b:=first) (by have:=way_len (g:=g) (node:=nodes[i].toNat) (pl:=pl); omega)) ?_
     by_cases hw:g.way nodes[i].toNat pl=first
     · rw[if_pos hw]at hQ
       simp -implicitDefEqProofs[hw,h31]
       rw[w1]
       refine ih (i+1) _ _ _ (by omega) (hR.dec _ _ _ (by rw[show 2*n+c+1=(2*n+c)+1 by omega]at hR3; exact hR3)) hS3 hQ ?_ ?_ ?_ ?_ ?_ ?_ ?_ ?_
       · simp[h2]
       · simp[h3]
       · simp[h4]
       · simp[h7]
       · simp[h8]
       · simp[h29]
       · simp[h30]
       · simp
     · rw[if_neg hw]at hQ
       simp -implicitDefEqProofs[hw,h2,h3,h4,hS3.cs,hS3.ci,hR.vd,hR.ug,hhead]
       refine⟨hpos,hpos,?_⟩
       refine call_cP (hR.call _ _ _ ⟨2,nodes[i],info,n0⟩ hR3) (fun out G4 hP => ?_)
       obtain⟨rfl,hR4,hK4⟩:=hP
       have hS4:=hS3.keep hK4
       cases hb2:rb (rn s ⟨1,nodes[i],info,d⟩) ⟨2,nodes[i],info,n0⟩with
       | true =>
        rw[hb2,if_pos rfl]at hQ
        simp -implicitDefEqProofs[h2,h3,h4,hS4.cs,hS4.ci,hR.vd,hR.ug,hhead,h31,hpos]
        rw[w1]
        refine ih (i+1) _ _ _ (by omega) hR4 hS4 hQ ?_ ?_ ?_ ?_ ?_ ?_ ?_ ?_
        · simp[h2]
        · simp[h3]
        · simp[h4]
        · simp[h7]
        · simp[h8]
        · simp[h29]
        · simp[h30]
        · simp
       | false =>
        rw[hb2,if_neg (by simp)]at hQ
        subst hQ
        simp -implicitDefEqProofs[h2,h3,h4,hS4.cs,hS4.ci,hR.vd,hR.ug,hhead,hpos]
        exact hret rfl _ _ (hR.decn (k:=2*n) hR4) (by simp)
  · rw[if_neg (fun h=>h0 h.1),if_neg h0]at hQ
    simp -implicitDefEqProofs[h2,h3,h4,h7,h8,h29,h30,h31,hcd,h0,hS2.cs,hS2.ci,hR.vd,hR.ug,hwp.1,hwp.2.1]
    have h50:=ok94 (H:=G2) hW (node:=nodes[i].toNat) (by omega) pl
    rw[←hvn]at h50
    refine call_go h50 ?_
    simp -implicitDefEqProofs[h8]
    refine call_go (ok97 (a:=g.way nodes[i].toNat pl) (b:=first) (by have:=way_len (g:=g) (node:=nodes[i].toNat) (pl:=pl); omega)) ?_
    by_cases hw:g.way nodes[i].toNat pl=first
    · rw[if_pos hw]at hQ
      simp -implicitDefEqProofs[hw,h31]
      rw[w1]
      refine ih (i+1) _ _ _ (by omega) (hR.dec _ _ _ (hR.dec _ _ _ hR2)) hS2 hQ ?_ ?_ ?_ ?_ ?_ ?_ ?_ ?_
      · simp[h2]
      · simp[h3]
      · simp[h4]
      · simp[h7]
      · simp[h8]
      · simp[h29]
      · simp[h30]
      · simp
    · rw[if_neg hw]at hQ
      simp -implicitDefEqProofs[hw,h2,h3,h4,hS2.cs,hS2.ci,hR.vd,hR.ug,hhead]
      refine⟨hpos,hpos,?_⟩
      refine call_cP (hR.call _ _ _ ⟨2,nodes[i],info,n0⟩ (hR.dec _ _ _ hR2)) (fun out G4 hP => ?_)
      obtain⟨rfl,hR4,hK4⟩:=hP
      have hS4:=hS2.keep hK4
      cases hb2:rb s ⟨2,nodes[i],info,n0⟩with
      | true =>
       rw[hb2,if_pos rfl]at hQ
       simp -implicitDefEqProofs[h2,h3,h4,hS4.cs,hS4.ci,hR.vd,hR.ug,hhead,h31,hpos]
       rw[w1]
       refine ih (i+1) _ _ _ (by omega) hR4 hS4 hQ ?_ ?_ ?_ ?_ ?_ ?_ ?_ ?_
       · simp[h2]
       · simp[h3]
       · simp[h4]
       · simp[h7]
       · simp[h8]
       · simp[h29]
       · simp[h30]
       · simp
      | false =>
       rw[hb2,if_neg (by simp)]at hQ
       subst hQ
       simp -implicitDefEqProofs[h2,h3,h4,hS4.cs,hS4.ci,hR.vd,hR.ug,hhead,hpos]
       exact hret rfl _ _ (hR.decn (k:=2*n) hR4) (by simp)
set_option maxRecDepth 10000 in
theorem ok80 (hW:Wg g) (hR:Rep rp b0 R rb rn) {info:Nat} (hinfo:info<g.is.length) {nodes:List Int} {n0:Int} (hn0:nodes.head? = some n0) (hns:∀ v∈nodes,0≤v∧v<g.ns.length) (hnl:nodes.length≤2000) {G:List AO} {s:τ} {c:Nat} (hRG:R (2*nodes.length+c) G s) :
 OkP Try.prog 80 [.agg [g.wp,rp],i64 info,.slc (ints nodes) nodes.length] G fun out G'=>out=.ret (bl (seekS g rb rn info g.is[info].1 n0 (g.way n0.toNat g.is[info].1) nodes s).1)∧R c G' (seekS g rb rn info g.is[info].1 n0 (g.way n0.toNat g.is[info].1) nodes s).2:=by
 have hgn:=hW.gd.n
 have hwp:g.wp.vd=true∧g.wp.ug=g.wp∧g.wp.flat=[g.wp]∧g.wp.isCell=true:=⟨rfl,rfl,rfl,rfl⟩
 have hpos:0<nodes.length:=by cases nodes with | nil=>simp at hn0 | cons y r=>simp
 have hhead:(ints nodes).head? = some (i64 n0):=by
  cases hc:nodes with
  | nil=>rw[hc]at hpos; simp at hpos
  | cons y r=>rw[hc]at hn0; simp at hn0; subst hn0; rfl
 have hv:=hns n0 (List.mem_of_head? hn0)
 have hvn:n0=((n0.toNat:Nat):Int):=by omega
 refine okP_fn hm Try.func80 c80 (by simp) fun hcl => ?_
 simp -implicitDefEqProofs[i80,r80,Gm.wp,sl,hR.vd,hR.ug,hR.flat,hR.cell,hhead,hpos,hinfo,infs_g0 hinfo,infs_at hinfo,infs_len]
 refine⟨by omega,?_⟩
 have h50:=fun H=>ok94 (H:=H) hW (node:=n0.toNat) (by omega) g.is[info].1
 rw[←hvn]at h50
 refine callq_go (fun _=>h50 _) ?_
 simp -implicitDefEqProofs
 refine loop48 (g:=g) (R:=R) (rb:=rb) (rn:=rn) hW hR (info:=info) (pl:=g.is[info].1) (n0:=n0) (bs:=G.length) (bi:=G.length+1) (nodes:=nodes) (first:=g.way n0.toNat g.is[info].1) hn0 hns hnl (by have:=way_len (g:=g) (node:=n0.toNat) (pl:=g.is[info].1); omega)
  (c:=c) (fun hQ env G' hR' h6 => ?_) (fun hQ env G' hR' => ?_) nodes.length 0 _ _ s (by omega) (by have:=hR.app _ _ _ ⟨[g.wp,rp],131,0,true⟩ hRG; have:=hR.app _ _ _ ⟨[i64 info],3,0,true⟩ this; rw[List.append_assoc]at this; exact this) ⟨by simp[Gm.wp,sl],by simp⟩ rfl
  (by simp) (by simp) (by simp) (by simp) (by simp) (by simp) (by simp) (by simp)
 · simp -implicitDefEqProofs[h6]
   exact⟨_,_,⟨by rw[show seekS g rb rn info g.is[info].1 n0 (g.way n0.toNat g.is[info].1) nodes s=seekS g rb rn info g.is[info].1 n0 (g.way n0.toNat g.is[info].1) (nodes.drop 0) s from rfl,hQ],hR'⟩,cv_id⟩
 · simp -implicitDefEqProofs
   exact⟨_,_,⟨by rw[show seekS g rb rn info g.is[info].1 n0 (g.way n0.toNat g.is[info].1) nodes s=seekS g rb rn info g.is[info].1 n0 (g.way n0.toNat g.is[info].1) (nodes.drop 0) s from rfl,hQ],hR'⟩,cv_id⟩
end
end Go.Proofs.Ytogjmpkehjfecaa.Rc
namespace Go.Proofs.Ytogjmpkehjfecaa.Rc
open Go.Ab
def rpP (n:Nat):SV:=.fn (.func 78) [] [.ptr (.own (n+2) 0 0 0 0) 0]
def RP (g:Gm) (H:List AO) (_:Nat) (G:List AO) (b:Bool):Prop:=∃ L,G=H++L∧L[2]? = some ⟨[bl b],4,0,true⟩∧L[3]? = some ⟨[g.wp,rpP H.length],131,0,true⟩
def nxP (_:Bool) (f:Fl):Bool:=decide (f.k≠2)
section
variable {H:List AO} {g:Gm}
theorem set_app {G:List AO} {j:Nat} (hj:H.length≤j) {L:List AO} (hG:G=H++L) (o:AO):G.set j o=H++L.set (j-H.length) o:=by
 subst hG
 rw[List.set_append_right _ _ hj]
theorem ok78 {c c':Nat} {G:List AO} {b:Bool} (f:Fl) (hI:RP g H c G b) :
 OkP Try.prog 78 [.agg f.cells,.ptr (.own (H.length+2) 0 0 0 0) 0] G fun out G'=>out=.ret (bl (nxP b f))∧RP g H c' G' (nxP b f)∧Keep G G':=by
 obtain⟨L,rfl,h2,h3⟩:=hI
 refine okP_fn hm Try.func78 c78 (by simp) fun hcl => ?_
 have hl2:=getElem?_lt h2
 have e1:∀ X,objCells (L++X) 2 0=[bl b]:=fun X=>objCells_of (o:=⟨[bl b],4,0,true⟩) (by rw[List.getElem?_append_left hl2]; exact h2) rfl
 have e2:∀ (c:List SV) X,objCells (L.set 2 (⟨c,4,0,true⟩:AO)++X) 2 0=c:=fun c X=>objCells_of (o:=⟨c,4,0,true⟩) (by rw[List.getElem?_append_left (by simpa using hl2),List.getElem?_set_self hl2]) rfl
 simp -implicitDefEqProofs[i78,r78,Fl.cells,setObj_old h2,e1,e2]
 refine⟨_,_,⟨?_,⟨_,rfl,?_,?_⟩,fun j o ho ht => ?_⟩,cv_id⟩
 · simp[nxP]
 · rw[List.getElem?_append_left (by simpa using hl2),List.getElem?_set_self hl2]; simp[nxP]
 · rw[List.getElem?_append_left (by simpa using getElem?_lt h3),List.getElem?_set_ne (by omega)]; exact h3
 · by_cases hj:j<H.length
   · rw[List.getElem?_append_left hj]at ho ⊢; exact ho
   · rw[List.getElem?_append_right (by omega)]at ho ⊢
     by_cases e:2=j-H.length
     · rw[←e,h2]at ho; cases ho; simp at ht
     · rw[List.getElem?_append_left (by simpa using getElem?_lt ho),List.getElem?_set_ne e]; exact ho
theorem repP:Rep (rpP H.length) H.length (RP g H) nxP nxP where
 vd:=rfl
 ug:=rfl
 cell:=rfl
 flat:=rfl
 call:=fun c G s f hI=>okCP_of (by simpa using ok78 f hI)
 app:=fun c G s o ⟨L,hG,h2,h3⟩=>⟨L++[o],by rw[hG,List.append_assoc],by rw[List.getElem?_append_left (getElem?_lt h2)]; exact h2,by rw[List.getElem?_append_left (getElem?_lt h3)]; exact h3⟩
 put:=fun c G s j o o' ⟨L,hG,h2,h3⟩ ho hj ht=>by
  subst hG
  rw[List.getElem?_append_right hj]at ho
  refine⟨L.set (j-H.length) o',by rw[List.set_append_right _ _ hj],?_,?_⟩
  · rw[List.getElem?_set_ne (fun e=>by rw[e,h2]at ho; cases ho; cases ht)]; exact h2
  · rw[List.getElem?_set_ne (fun e=>by rw[e,h3]at ho; cases ho; cases ht)]; exact h3
 len:=fun c G s ⟨L,hG,_⟩=>by subst hG; simp
 dec:=fun c G s h=>h
def setsL {τ:Type} (g:Gm) (rb:τ->Fl->Bool) (rn:τ->Fl->τ) (sel:Int->Bool) (stop:Bool):Nat->Nat->τ->τ
 | 0,_,s=>s
 | f+1,i,s =>
   match g.sets[i]?,g.is[i]? with
   | some nodes,some inf =>
     if sel inf.1=true then
       (let r:=seekS g rb rn i inf.1 (nodes.headD 0) (g.way (nodes.headD 0).toNat inf.1) nodes s
        if stop=true∧r.1=false then r.2 else setsL g rb rn sel stop f (i+1) r.2)
     else setsL g rb rn sel stop f (i+1) s
   | _,_=>s
def Gm.perf (g:Gm) (pl:Int):Bool:=setsL g nxP nxP (fun p=>decide (p=pl)) true g.is.length 0 true
theorem Wg.ne (h:Wg g):∀ k (hk:k<g.sets.length),g.sets[k]≠[]:=by
 intro k hk e
 have hse:=h.se
 rw[setsE_eq]at hse
 unfold Gm.setsR at hse
 split at hse
 · cases hse
 · split at hse
   · cases hse
   · rename_i h1
     exact h1 (by rw[←e]; exact List.getElem_mem hk)
theorem occ_lt {s:Nat}:∀ {l:List Nd} {o:Nat} {a:Int},a∈occ s l o->a<o+l.length
 | [],o,a,h=>by simp[occ]at h
 | x::r,o,a,h=>by
  unfold occ at h
  split at h
  · rcases List.mem_cons.1 h with rfl | h
    · simp; omega
    · have:=occ_lt h; simp; omega
  · have:=occ_lt h; simp; omega
theorem occ_len {s:Nat}:∀ {l:List Nd} {o:Nat},(occ s l o).length≤l.length
 | [],o=>by simp[occ]
 | x::r,o=>by
  unfold occ
  have:=occ_len (s:=s) (l:=r) (o:=o+1)
  split<;>simp<;>omega
theorem sets_occ {k:Nat} (hk:k<g.sets.length):g.sets[k]=occ k g.ns 0:=by
 have:=sets_at (g:=g) (s:=k) (by rw[←sets_len]; exact hk)
 rwa [List.getD_eq_getElem?_getD,List.getElem?_eq_getElem hk,Option.getD_some]at this
theorem sets_mem {k:Nat} (hk:k<g.sets.length) {v:Int} (hv:v∈g.sets[k]):0≤v∧v<g.ns.length:=by
 rw[sets_occ hk]at hv
 exact⟨occ_ge hv,by have:=occ_lt hv; simpa using this⟩
theorem sets_lenk {k:Nat} (hk:k<g.sets.length):g.sets[k].length≤g.ns.length:=by rw[sets_occ hk]; exact occ_len
set_option maxRecDepth 10000 in
theorem loop16 (hW:Wg g) {pl:Int} {N:Nat} {K:XE->Env->List AO->Prop} {Q:Bool}
 (hexit:∀ env L,L[2]? = some ⟨[bl Q],4,0,true⟩->env.get 9=.ptr (.own (H.length+2) 0 0 0 0) 0->K (.exit 0) env (H++L)) :
 ∀ (n i:Nat) (env:Env) (G:List AO) (s:Bool),i+n=g.is.length->RP g H 0 G s->setsL g nxP nxP (fun p=>decide (p=pl)) true n i s=Q →
  env.get 1=i64 pl->env.get 6=g.wp->env.get 9=.ptr (.own (H.length+2) 0 0 0 0) 0->env.get 10=.ptr (.own (H.length+3) 0 0 0 0) 0->env.get 34=g.setsV->env.get 35=i64 g.is.length->env.get 36=i64 i →
  LI Try.prog N drawB l63_0 env G K:=by
 have hgi:=hW.gd.i
 have hgn:=hW.gd.n
 have hsl:g.sets.length=g.is.length:=sets_len
 intro n
 induction n with
 | zero =>
  intro i env G s hi hR hQ h1 h6 h9 h10 h34 h35 h36
  refine li_go hm l63_0.eq_1 ?_
  have e:i=g.is.length:=by omega
  subst e
  simp -implicitDefEqProofs[h35,h36]
  obtain⟨L,rfl,h2,h3⟩:=hR
  simp only[setsL]at hQ
  subst hQ
  exact hexit _ L h2 (by simp[h9])
 | succ n ih =>
  intro i env G s hi hR hQ h1 h6 h9 h10 h34 h35 h36
  refine li_go hm l63_0.eq_1 ?_
  have hlt:i<g.is.length:=by omega
  have hls:i<g.sets.length:=by omega
  have w1:IntKind.i64.wrap ((i:Int)+1)=((i+1:Nat):Int):=wrap_succ (by omega)
  have hne:=hW.ne i hls
  unfold setsL at hQ
  rw[List.getElem?_eq_getElem hlt,List.getElem?_eq_getElem hls]at hQ
  simp only at hQ
  by_cases hp:g.is[i].1=pl
  · rw[if_pos (by simpa using hp)]at hQ
    obtain⟨L,rfl,h2,h3⟩:=id hR
    have ec:objCells (H++L) (H.length+3) 0=[g.wp,rpP H.length]:=by rw[objCells_new]; exact objCells_of h3 rfl
    simp -implicitDefEqProofs[h1,h6,h9,h10,h34,h35,h36,Gm.wp,sl,Gm.setsV,hlt,hls,slN_at hls,slN_ne hne,infs_g0 hlt,infs_len,infs_at hlt,hp,ec]
    obtain⟨n0,hn0⟩:∃ n0,g.sets[i].head? = some n0:=by
     cases h:g.sets[i]with
     | nil=>exact(hne h).elim
     | cons y r=>exact⟨y,rfl⟩
    have hd0:g.sets[i].headD 0=n0:=by rw[List.headD_eq_head?_getD,hn0]; rfl
    have h48:=ok80 (rp:=rpP H.length) (R:=RP g H) hW repP hlt hn0 (fun v hv=>sets_mem hls hv) (by have:=sets_lenk (g:=g) hls; omega) (c:=0) (show RP g H _ (H++L) s from hR)
    rw[hp]at h48
    rw[hd0,hp]at hQ
    refine call_goP (OkP.strip (by show OkP _ _ [.agg [g.wp,rpP H.length],i64 i,.slc (ints g.sets[i]) g.sets[i].length] _ _; exact h48)) ?_
    rintro out G' ⟨rfl,hR'⟩
    generalize seekS g nxP nxP i pl n0 (g.way n0.toNat pl) g.sets[i] s=q at hR' hQ
    obtain⟨b,s'⟩:=q
    cases b with
    | false =>
     rw[if_pos (by simp)]at hQ
     subst hQ
     simp -implicitDefEqProofs
     obtain⟨L',rfl,h2',h3'⟩:=hR'
     exact hexit _ L' h2' (by simp[h9])
    | true =>
     rw[if_neg (by simp)]at hQ
     simp -implicitDefEqProofs[h36]
     rw[w1]
     refine ih (i+1) _ _ _ (by omega) hR' hQ ?_ ?_ ?_ ?_ ?_ ?_ ?_
     · simp[h1]
     · simp[h6,Gm.wp,sl]
     · simp[h9]
     · simp[h10]
     · simp[h34,Gm.setsV]
     · simp[h35]
     · simp
  · rw[if_neg (by simpa using hp)]at hQ
    simp -implicitDefEqProofs[h1,h6,h9,h10,h34,h35,h36,Gm.wp,sl,Gm.setsV,hlt,hls,slN_at hls,slN_ne hne,infs_g0 hlt,infs_len,infs_at hlt,hp]
    rw[w1]
    refine ih (i+1) _ _ _ (by omega) hR hQ ?_ ?_ ?_ ?_ ?_ ?_ ?_
    · simp[h1]
    · simp[h6,Gm.wp,sl]
    · simp[h9]
    · simp[h10]
    · simp[h34,Gm.setsV]
    · simp[h35]
    · simp
def Gm.perfE (g:Gm) (pl:Int):Int:=if g.formE≠0 then g.formE else if pl<0∨g.pl≤pl then 2 else 0
def Gm.perfV (g:Gm) (pl:Int):Bool:=if g.perfE pl=0 then g.perf pl else false
set_option maxRecDepth 10000 in
theorem ok63 (pl:Int):Ok Try.prog 63 [.agg g.cells,i64 pl] H (.ret (.tup [bl (g.perfV pl),i64 (g.perfE pl)])) H:=by
 refine ok_fn hm Try.func63 c63 (by simp) fun hcl => ?_
 simp -implicitDefEqProofs[i63,r63,Gm.cells]
 have hh:=fun H=>ok76 (H:=H) (g:=g)
 simp only[Gm.cells]at hh
 refine call_go (hh _) ?_
 by_cases h:g.formE=0
 · rw[walked_ok h]
   have hW:=wg_of h
   have hp1:=hW.gd.p1
   have hp4:=hW.gd.p4
   have w2:IntKind.i64.wrap (g.pl-1)=g.pl-1:=wrap_id (by omega) (by omega)
   simp -implicitDefEqProofs[w2]
   refine call_go (ok77 (IsI.own0 H _ 1 0 [pl] [] 3 rfl) (by simp) 0 (g.pl-1)) ?_
   by_cases hp:pl<0∨g.pl-1<pl
   · have e:within 0 (g.pl-1) [pl]=2:=by rw[within1,if_pos hp]
     have hE:g.perfE pl=2:=by unfold Gm.perfE; rw[if_neg (by simpa using h),if_pos (by omega)]
     rw[e]
     simp -implicitDefEqProofs
     refine cv_fz 2 hcl rfl ?_
     simp[Gm.perfV,hE]
   · have e:within 0 (g.pl-1) [pl]=0:=by rw[within1,if_neg hp]
     have hE:g.perfE pl=0:=by unfold Gm.perfE; rw[if_neg (by simpa using h),if_neg (by omega)]
     rw[e]
     have hwp:g.wp.vd=true∧g.wp.ug=g.wp∧g.wp.flat=[g.wp]∧g.wp.isCell=true:=⟨rfl,rfl,rfl,rfl⟩
     simp -implicitDefEqProofs[hwp.1,hwp.2.1,hwp.2.2.1,hwp.2.2.2]
     refine⟨by simp[partOk,Gm.wp],call_go (ok79 hW.gd) ?_⟩
     simp -implicitDefEqProofs[Gm.setsV]
     refine loop16 (g:=g) hW (pl:=pl) (Q:=g.perf pl) (fun env L h2 h9 => ?_) g.is.length 0 _ _ true (by omega) ⟨_,rfl,rfl,rfl⟩ rfl (by simp) (by simp) (by simp) (by simp) (by simp[Gm.setsV]) (by simp) (by simp)
     have ec:objCells (H++L) (H.length+2) 0=[bl (g.perf pl)]:=by rw[objCells_new]; exact objCells_of h2 rfl
     simp -implicitDefEqProofs[h9,ec]
     refine cv_fz 2 hcl rfl ?_
     simp[Gm.perfV,hE]
 · obtain⟨p,e,_⟩:=walked_err h
   rw[e]
   have hE:g.perfE pl=g.formE:=by unfold Gm.perfE; rw[if_pos h]
   simp -implicitDefEqProofs[h]
   refine cv_fz 2 hcl rfl ?_
   simp[Gm.perfV,hE,h]
end
end Go.Proofs.Ytogjmpkehjfecaa.Rc
namespace Go.Proofs.Ytogjmpkehjfecaa.Rc
open Go.Ab
def fls:List Fl->List SV
 | []=>[]
 | x::r=>i64 x.k::i64 x.n::i64 x.i::i64 x.o::fls r
theorem fls_snoc:∀ (l:List Fl) (x:Fl),fls (l++[x])=fls l++[i64 x.k,i64 x.n,i64 x.i,i64 x.o]
 | [],x=>rfl
 | y::r,x=>by simp[fls,fls_snoc r x]
theorem fls_len:∀ l:List Fl,(fls l).length=4*l.length
 | []=>rfl
 | x::r=>by simp[fls,fls_len r]; omega
theorem fls_under (n:Nat):∀ l:List Fl,SV.underL n (fls l)=true
 | []=>rfl
 | x::r=>by simp[fls,fls_under n r]
@[simp] theorem fz_fls (n:Nat) (ks:List Nat) (L:List AO) (d:Nat) (l:List Fl):(fls l).map (SV.fz n ks L (d+1))=fls l:=fz_mapU (fls_under n l)
def fv (l:List Fl):SV:=if l=[]then nl else .slc (fls l) l.length
def nxF (l:List Fl) (f:Fl):List Fl:=l++[f]
section
variable {H:List AO} {g:Gm}
def Gm.flaws (g:Gm):List Fl:=setsL g (fun _ _=>true) nxF (fun _=>true) false g.is.length 0 []
end
end Go.Proofs.Ytogjmpkehjfecaa.Rc
namespace Go.Proofs.Ytogjmpkehjfecaa.Rc
open Go.Ab
def ws (l:List (Int×Int)):SV:=.slc (infs l) l.length
theorem fstAt_of {l:List Int} {v:Int} (hinc:l.Pairwise (· < ·)) (hv:v∈l):∃ k,∃ h:k<l.length,l[k]=v∧fstAt v l=k∧∀ t (h:t<l.length),l[t]=v->t=k:=by
 obtain⟨k,hk,e⟩:=List.getElem_of_mem hv
 have huniq:∀ t (h:t<l.length),l[t]=v->t=k:=fun t ht h=>by
  rw[List.pairwise_iff_getElem]at hinc
  rcases Nat.lt_trichotomy t k with h1 | h1 | h1
  · have:=hinc t k ht hk h1; omega
  · exact h1
  · have:=hinc k t hk ht h1; omega
 refine⟨k,hk,e,?_,huniq⟩
 have:l.findIdx? (· == v)=some k:=by
  rw[List.findIdx?_eq_some_iff_getElem]
  refine⟨hk,by simpa using e,fun j hj => ?_⟩
  intro h
  have:=huniq j (by omega) (by simpa using h)
  omega
 unfold fstAt; rw[this]
section
variable {H:List AO} {g:Gm}
def nbox (x:Nd):AO:=⟨[i64 x.k,i64 x.p,i64 x.i,.slc (ints x.nx) x.nx.length,.slc (ints x.ws) x.ws.length,.slc (ints x.ps) x.ps.length],59,0,true⟩
set_option maxRecDepth 10000 in
theorem loop56_1 {x:Nd} {pl:Int} {node idx:Nat} (hx60:x.nx.length≤60) (hidx:idx<x.nx.length) (hat:x.nx[idx]=node) (huniq:∀ t (h:t<x.nx.length),x.nx[t]=node->t=idx) {l:List (Int×Int)} (hl:l.length≤2000) {A:AO} {q:Nat}
   {N:Nat} {K:XE->Env->List AO->Prop} {v7:SV}
   (hexit:∀ env M (l':List (Int×Int)),(l'=if x.k=2∧x.p=pl then l++[(x.i,(idx:Int))]else l)->env.get 2=i64 pl->env.get 3=.ptr (.own H.length 0 0 0 0) 0->env.get 7=v7->env.get 8=.own (H.length+1) 0 l'.length 2 l'.length->env.get 9=i64 node →
     K (.exit 2) env (H++A::prow l' l'.length::M)) :
   ∀ (n k:Nat) (env:Env) (acc:List (Int×Int)) (M:List AO),k+n=x.nx.length->(x.k=2∧x.p=pl∨k=0)->acc=(if idx<k then l++[(x.i,(idx:Int))]else l)->M[q]? = some (nbox x) →
     env.get 2=i64 pl->env.get 3=.ptr (.own H.length 0 0 0 0) 0->env.get 7=v7->env.get 8=.own (H.length+1) 0 acc.length 2 acc.length->env.get 9=i64 node->env.get 10=.ptr (.own (H.length+(q+1+1)) 0 0 0 0) 0->env.get 11=i64 k →
     LI Try.prog N drawB l87_1 env (H++A::prow acc acc.length::M) K:=by
 intro n
 induction n with
 | zero =>
   intro k env acc M hk hc hacc hq h2 h3 h7 h8 h9 h10 h11
   refine li_go hm l87_1.eq_1 ?_
   have e:k=x.nx.length:=by omega
   subst e
   have hq':objCells M q 0=[i64 x.k,i64 x.p,i64 x.i,.slc (ints x.nx) x.nx.length,.slc (ints x.ws) x.ws.length,.slc (ints x.ps) x.ps.length]:=objCells_of (o:=nbox x) hq rfl
   have hc':x.k=2∧x.p=pl:=by rcases hc with h | h; exact h; omega
   simp -implicitDefEqProofs[h2,h3,h7,h8,h9,h10,h11,hq',hc'.1,hc'.2]
   exact hexit _ M acc (by rw[if_pos hc',hacc,if_pos hidx]) (by simp) (by simp) (by simp) (by simp) (by simp)
 | succ n ih =>
   intro k env acc M hk hc hacc hq h2 h3 h7 h8 h9 h10 h11
   refine li_go hm l87_1.eq_1 ?_
   have hlt:k<x.nx.length:=by omega
   have w1:IntKind.i64.wrap ((k:Int)+1)=((k+1:Nat):Int):=wrap_succ (by omega)
   have hq':objCells M q 0=[i64 x.k,i64 x.p,i64 x.i,.slc (ints x.nx) x.nx.length,.slc (ints x.ws) x.ws.length,.slc (ints x.ps) x.ps.length]:=objCells_of (o:=nbox x) hq rfl
   have hql:=getElem?_lt hq
   have hacl:acc.length≤2001:=by rw[hacc]; split<;>(try simp only[List.length_append,List.length_singleton])<;>omega
   by_cases hm1:x.k=2∧x.p=pl
   · by_cases he:x.nx[k]=node
     · have hki:=huniq k hlt he
       subst hki
       rw[if_neg (by omega)]at hacc
       subst hacc
       simp -implicitDefEqProofs[h2,h3,h7,h8,h9,h10,h11,hq',hlt,hm1.1,hm1.2,he,prow,infs_len,Nat.mul_comm]
       rw[w1]
       refine⟨by omega,by omega,by omega,?_⟩
       have e1:(⟨infs acc++[i64 x.i,i64 k],146,acc.length+1,true⟩:AO)=prow (acc++[(x.i,(k:Int))]) (acc++[(x.i,(k:Int))]).length:=by simp[prow,infs_snoc]
       rw[e1]
       refine ih (k+1) _ (acc++[(x.i,(k:Int))]) _ (by omega) (.inl hm1) (by rw[if_pos (by omega)]) (by rw[List.getElem?_append_left hql]; exact hq) ?_ ?_ ?_ ?_ ?_ ?_ ?_
       · simp
       · simp
       · simp
       · simp
       · simp
       · simp
       · simp
     · have hki:k≠idx:=fun e=>by subst e; exact he hat
       simp -implicitDefEqProofs[h2,h3,h7,h8,h9,h10,h11,hq',hlt,hm1.1,hm1.2,he]
       rw[w1]
       refine⟨by omega,?_⟩
       refine ih (k + 1) _ acc _ (by omega) (.inl hm1) (by rw [hacc]; by_cases h : idx < k
                                                           · rw[if_pos h,if_pos (by omega)]
                                                           · rw[if_neg h,if_neg (by omega)]) hq ?_ ?_ ?_ ?_ ?_ ?_ ?_
       · simp
       · simp
       · simp
       · simp
       · simp
       · simp
       · simp
   · have hk0:k=0:=by rcases hc with h | h; exact(hm1 h).elim; exact h
     subst hk0
     by_cases hk2:x.k=2
     · have hpl:¬ x.p=pl:=fun h=>hm1 ⟨hk2,h⟩
       simp -implicitDefEqProofs[h2,h3,h7,h8,h9,h10,h11,hq',hlt,hk2,hpl]
       exact hexit _ M acc (by rw[if_neg hm1,hacc,if_neg (by omega)]) (by simp) (by simp) (by simp) (by simp) (by simp)
     · simp -implicitDefEqProofs[h2,h3,h7,h8,h9,h10,h11,hq',hlt,hk2]
       exact hexit _ M acc (by rw[if_neg hm1,hacc,if_neg (by omega)]) (by simp) (by simp) (by simp) (by simp) (by simp)
theorem up_step {pl:Int} (hW:Wg g) {f node p:Nat} (hp:p<g.ns.length) (hP:gi g.wk.2.P node=p) {l:List (Int×Int)} :
 abv g pl (fun _ _ _=>true) (fun l k a=>l++[(infoAt g k,a)]) (f+1) node l=abv g pl (fun _ _ _=>true) (fun l k a=>l++[(infoAt g k,a)]) f p (if g.ns[p].k=2∧g.ns[p].p=pl then l++[(g.ns[p].i,fstAt node g.ns[p].nx)]else l):=by
 have hinf:infoAt g p=g.ns[p].i:=by unfold infoAt; rw[List.getElem?_eq_getElem hp]
 conv=>lhs; unfold abv
 rw[if_neg (by omega),hP,show((p:Nat):Int).toNat=p by omega,List.getElem?_eq_getElem hp]
 simp only
 by_cases h:g.ns[p].k=2∧g.ns[p].p=pl
 · rw[if_pos h,if_pos h,if_pos trivial,hinf]
 · rw[if_neg h,if_neg h]
set_option maxRecDepth 10000 in
theorem loop56_0 (hW:Wg g) {pl:Int} {N:Nat} {K:XE->Env->List AO->Prop} {Q:List (Int×Int)} (hQl:Q.length≤2000)
 (hexit:∀ env M,env.get 8=.own (H.length+1) 0 Q.length 2 Q.length->K (.exit 0) env (H++gbox g::prow Q Q.length::M)) :
 ∀ (f node:Nat) (env:Env) (l:List (Int×Int)) (M:List AO),node<f->node<g.ns.length->abv g pl (fun _ _ _=>true) (fun l k a=>l++[(infoAt g k,a)]) f node l=Q->l.length+node≤2000 →
  env.get 2=i64 pl->env.get 3=.ptr (.own H.length 0 0 0 0) 0->env.get 7=.slc (ints g.wk.2.P) g.wk.2.P.length->env.get 8=.own (H.length+1) 0 l.length 2 l.length->env.get 9=i64 node →
  LI Try.prog N drawB l87_0 env (H++gbox g::prow l l.length::M) K:=by
 have hf:=hW.wf
 have hgn:=hW.gd.n
 have hlen:g.wk.2.P.length=g.ns.length:=wk_len.1
 intro f
 induction f with
 | zero=>intro node env l M h; omega
 | succ f ih =>
  intro node env l M hnf hn hQ hll h2 h3 h7 h8 h9
  refine li_go hm l87_0.eq_1 ?_
  have hget:g.wk.2.P[node]'(by omega)=gi g.wk.2.P node:=gi_get (by omega)
  rcases Nat.eq_zero_or_pos node with hz | hz
  · subst hz
    have hp0:=hf.p0
    have hneg:gi g.wk.2.P 0<0:=by omega
    have hhd:(ints g.wk.2.P).head? = some (i64 (-1)):=by
     rw[List.head?_eq_getElem?]
     have:(0:Nat)<g.wk.2.P.length:=by omega
     simp[ints,this,hget,hp0]
    unfold abv at hQ
    rw[if_pos hneg]at hQ
    subst hQ
    simp -implicitDefEqProofs[h2,h3,h7,h8,h9,hlen,hn,hhd]
    exact⟨by omega,hexit _ M (by simp)⟩
  · obtain⟨p,hp,k1,k2,k3⟩:=hf.pf node hz hn
    rw[up_step hW hp k1]at hQ
    obtain⟨idx,hidx,e1,e2,e3⟩:=fstAt_of (hf.nf p hp).inc k3
    rw[e2]at hQ
    simp -implicitDefEqProofs[h2,h3,h7,h8,h9,hlen,hn,hget,k1,gbox,hp,nds_at hp,nds_min hp,nds_ge hp,sl]
    refine⟨by omega,?_⟩
    refine loop56_1 (x:=g.ns[p]) (pl:=pl) (node:=node) (idx:=idx) (nx_of (hW.gd.e _ (List.getElem_mem hp))) hidx e1 e3 (l:=l) (by omega) (A:=gbox g) (q:=M.length) (v7:=.slc (ints g.wk.2.P) g.ns.length) (fun env M' l' hl' g2 g3 g7 g8 g9 => ?_)
     g.ns[p].nx.length 0 _ l _ (by omega) (.inr rfl) (by rw[if_neg (by omega)]) (by simp[nbox]) (by simp) (by simp) (by simp) (by simp) (by simp) (by simp) (by simp)
    rw[←hl']at hQ
    simp -implicitDefEqProofs[g2,g3,g7,g8,g9,hn,hget,k1,hlen]
    refine⟨by omega,?_⟩
    refine ih p _ l' M' (by omega) hp hQ (by rw[hl']; split<;>(try simp only[List.length_append,List.length_singleton])<;>omega) ?_ ?_ ?_ ?_ ?_
    · simp[g2]
    · simp[g3]
    · simp[g7,hlen]
    · simp[g8]
    · simp
set_option maxRecDepth 10000 in
theorem loop56_2 {l:List (Int×Int)} (hl:l.length≤2000) {A:AO} {N:Nat} {K:XE->Env->List AO->Prop}
 (hexit:∀ env M q,M[q]? = some (prow l.reverse l.length)->env.get 12=.own (H.length+(q+1+1)) 0 l.length 2 l.length->K (.exit 4) env (H++A::prow l l.length::M)) :
 ∀ (n:Nat) (env:Env) (M:List AO) (q:Nat),n≤l.length->M[q]? = some (prow (l.drop n).reverse (l.length-n)) →
  env.get 8=.own (H.length+1) 0 l.length 2 l.length->env.get 12=.own (H.length+(q+1+1)) 0 (l.length-n) 2 (l.length-n)->env.get 13=i64 ((n:Int)-1) →
  LI Try.prog N drawB l87_2 env (H++A::prow l l.length::M) K:=by
 intro n
 induction n with
 | zero =>
  intro env M q hn hq h8 h12 h13
  refine li_go hm l87_2.eq_1 ?_
  simp -implicitDefEqProofs[h8,h12,h13]
  exact hexit _ M q (by simpa using hq) (by simp)
 | succ n ih =>
  intro env M q hn hq h8 h12 h13
  refine li_go hm l87_2.eq_1 ?_
  have hlt:n<l.length:=by omega
  have e:((n+1:Nat):Int)-1=n:=by omega
  rw[e]at h13
  have w1:IntKind.i64.wrap ((n:Int)-1)=(n:Int)-1:=wrap_id (by omega) (by omega)
  have hql:=getElem?_lt hq
  have hd:(l.drop (n+1)).length=l.length-(n+1):=by simp
  simp -implicitDefEqProofs[h8,h12,h13,prow,hlt,infs_at hlt,infs_len,setObj_old hq,objIs_old hq,objCells_set0,objCells_setk,len_addn]
  refine⟨by omega,by omega,by omega,?_⟩
  rw[w1]
  have en:l.length-(n+1)+1=l.length-n:=by omega
  rw[en]
  refine ih _ (M.set q _++[_]) q (by omega) ?_ ?_ ?_ ?_
  · rw[List.getElem?_append_left (by simpa using hql),List.getElem?_set_self hql]
    rw[List.drop_eq_getElem_cons hlt,List.reverse_cons]
    simp[prow,infs_snoc]
  · simp
  · simp
  · simp
set_option maxRecDepth 10000 in
theorem ok87 (hW:Wg g) {node:Nat} (hn:node<g.ns.length) (pl:Int):Ok Try.prog 87 [.agg g.cells,i64 node,i64 pl] H (.ret (ws (g.way node pl))) H:=by
 have hgn:=hW.gd.n
 refine ok_fn hm Try.func87 c87 (by simp) fun hcl => ?_
 simp -implicitDefEqProofs[i87,r87,Gm.cells]
 have hh:=fun H=>ok101 (H:=H) hW
 simp only[Gm.cells,sl]at hh
 refine call_go (hh _) ?_
 simp -implicitDefEqProofs
 have hul:(g.up node pl).length≤2000:=by
  have:=way_len (g:=g) (node:=node) (pl:=pl)
  unfold Gm.way at this
  rw[List.length_reverse]at this; omega
 refine loop56_0 (g:=g) (H:=H) hW (pl:=pl) (Q:=g.up node pl) hul (fun env M h8 => ?_) g.ns.length node _ [] [] hn hn rfl (by simp; omega) (by simp) (by simp) (by simp) (by simp) (by simp)
 have w1:IntKind.i64.wrap (((g.up node pl).length:Int)-1)=((g.up node pl).length:Int)-1:=wrap_id (by omega) (by omega)
 simp -implicitDefEqProofs[h8,w1]
 refine loop56_2 (l:=g.up node pl) hul (fun env M' q hq h12 => ?_) (g.up node pl).length _ (M++[prow [] 0]) M.length (Nat.le_refl _) (by simp) (by simp[h8]) (by simp) (by simp)
 simp -implicitDefEqProofs[h12]
 refine cv_fz 3 hcl rfl ?_
 have hql:=getElem?_lt hq
 simp[hq,prow,infs_len,Nat.mul_comm,Gm.way,ws]
 exact List.take_of_length_le (by rw[infs_len,List.length_reverse]; omega)
end
end Go.Proofs.Ytogjmpkehjfecaa.Rc
namespace Go.Proofs.Ytogjmpkehjfecaa.Rc
open Go.Ab
section
variable {H:List AO} {g:Gm} {a b:List (Int×Int)}
set_option maxRecDepth 10000 in
theorem loop72 (hl:a.length≤100000) (hab:a.length=b.length) {N:Nat} {K:XE->Env->List AO->Prop}
 (hret:a≠b->∀ env,env.get 4=bl false->K .ret env H) (hexit:a=b->∀ env,K (.exit 0) env H) :
 ∀ (n i:Nat) (env:Env),i+n=a.length->(∀ k (h:k<a.length),k<i->a[k]=b[k]'(by omega))->env.get 0=ws a->env.get 1=ws b->env.get 5=i64 i →
  LI Try.prog N drawB l113_0 env H K:=by
 intro n
 induction n with
 | zero =>
  intro i env hi hp h0 h1 h5
  refine li_go hm l113_0.eq_1 ?_
  have e:i=a.length:=by omega
  subst e
  simp -implicitDefEqProofs[h0,h1,h5,ws]
  exact hexit (List.ext_getElem hab fun k h1 h2=>hp k h1 h1) _
 | succ n ih =>
  intro i env hi hp h0 h1 h5
  refine li_go hm l113_0.eq_1 ?_
  have hlt:i<a.length:=by omega
  have hlt':i<b.length:=by omega
  have w1:IntKind.i64.wrap ((i:Int)+1)=((i+1:Nat):Int):=wrap_succ (by omega)
  simp -implicitDefEqProofs[h0,h1,h5,ws,hlt,hlt',infs_at hlt,infs_at hlt',infs_min hlt,infs_ge hlt,infs_min hlt',infs_ge hlt']
  by_cases hc:a[i]=b[i]
  · rw[if_neg (by rw[hc]; simp)]
    rw[w1]
    refine ih (i+1) _ (by omega) ?_ ?_ ?_ ?_
    rotate_left
    · simp[ws]
    · simp[ws]
    · simp
    intro k hk hki
    by_cases e:k=i
    · subst e; exact hc
    · exact hp k hk (by omega)
  · rw[if_pos (by
     by_cases h1:a[i].1=b[i].1
     · exact .inr fun h2=>hc (Prod.ext h1 h2)
     · exact .inl h1)]
    exact hret (fun e=>hc (by subst e; rfl)) _ (by simp)
theorem ok113 (hl:a.length≤100000):Ok Try.prog 113 [ws a,ws b] H (.ret (bl (decide (a=b)))) H:=by
 refine ok_fn hm Try.func113 c113 (by simp) fun hcl => ?_
 by_cases hab:a.length=b.length
 · simp -implicitDefEqProofs[i113,r113,ws,hab]
   refine loop72 (a:=a) (b:=b) hl hab (fun hne env h4 => ?_) (fun he env => ?_) a.length 0 _ (by omega) (by omega) (by simp[ws,hab]) (by simp[ws]) (by simp)
   · simp -implicitDefEqProofs[h4,hne]
     exact cv_id
   · simp -implicitDefEqProofs[he]
     exact cv_id
 · simp -implicitDefEqProofs[i113,r113,ws,show ¬ ((a.length:Int)=b.length)by omega,hab]
   have:a≠b:=fun e=>hab (by rw[e])
   simp[this]
   exact cv_id
theorem Wg.ty (h:Wg g) {x:Nd} (hx:x∈g.ns) (hk:x.k=2):g.is[x.i.toNat]? = some (x.p,(x.nx.length:Int)):=by
 have hse:=h.se
 unfold Gm.setsE at hse
 by_cases hb:∃ x∈g.ns,x.tyBad g
 · rw[if_pos hb]at hse; cases hse
 · by_cases h1:g.is[x.i.toNat]? = some (x.p,(x.nx.length:Int))
   · exact h1
   · exact(hb ⟨x,hx,hk,h1⟩).elim
def dq (g:Gm) (pl info:Int) (f node:Nat):Int:=abv g pl (fun d k _=>decide (dpn g info d k<0)) (fun d k _=>dpn g info d k) f node (-1)
theorem dq_step (hW:Wg g) {info:Nat} (hinfo:info<g.is.length) {f node p:Nat} (hp:p<g.ns.length) (hP:gi g.wk.2.P node=p) :
 dq g g.is[info].1 info (f+1) node=if g.ns[p].k=2∧g.ns[p].i=info then(p:Int)else dq g g.is[info].1 info f p:=by
 have hinf:infoAt g p=g.ns[p].i:=by unfold infoAt; rw[List.getElem?_eq_getElem hp]
 have hmem:g.ns[p]∈g.ns:=List.getElem_mem hp
 unfold dq
 conv=>lhs; unfold abv
 rw[if_neg (by omega),hP,show((p:Nat):Int).toNat=p by omega,List.getElem?_eq_getElem hp]
 simp only
 by_cases h1:g.ns[p].k=2∧g.ns[p].i=info
 · have hty:=hW.ty hmem h1.1
   rw[h1.2,show((info:Nat):Int).toNat=info by omega,List.getElem?_eq_getElem hinfo]at hty
   simp only[Option.some.injEq]at hty
   have e:dpn g info (-1) p=p:=by unfold dpn; rw[if_pos (by rw[hinf]; exact h1.2)]
   rw[if_pos h1,if_pos ⟨h1.1,by rw[hty]⟩,e,if_neg (by simp)]
 · rw[if_neg h1]
   by_cases h2:g.ns[p].k=2∧g.ns[p].p=g.is[info].1
   · have e:dpn g info (-1) p = -1:=by unfold dpn; rw[if_neg (by rw[hinf]; exact fun h=>h1 ⟨h2.1,h⟩)]
     rw[if_pos h2,e,if_pos (by simp)]
   · rw[if_neg h2]
theorem dq_neg {pl info:Int} {f node:Nat} (h:gi g.wk.2.P node<0):dq g pl info (f+1) node = -1:=by
 unfold dq abv; rw[if_pos h]
def fr (l:List Fl):AO:=⟨fls l,128,l.length,true⟩
set_option maxRecDepth 10000 in
theorem loop55_2 (hW:Wg g) {info:Nat} (hinfo:info<g.is.length) {v:Int} {l:List Fl} (hl:l.length≤1000000) {N:Nat} {K:XE->Env->List AO->Prop} {Q:Int} {e5 e7 e8:SV}
 (hexit:∀ env M (l':List Fl),l'=(if 0≤Q then l++[⟨1,v,info,Q⟩]else l)->env.get 1=.ptr (.own H.length 0 0 0 0) 0->env.get 3=.own (H.length+1) 0 l'.length 4 l'.length->env.get 4=.slc (ints g.wk.2.P) g.wk.2.P.length->env.get 5=e5->env.get 6=i64 info->env.get 7=e7->env.get 8=e8->env.get 9=i64 v →
  K (.exit 4) env (H++gbox g::fr l'::M)) :
 ∀ (f node:Nat) (env:Env) (M:List AO),node<f->node<g.ns.length->dq g g.is[info].1 info f node=Q →
  env.get 1=.ptr (.own H.length 0 0 0 0) 0->env.get 3=.own (H.length+1) 0 l.length 4 l.length->env.get 4=.slc (ints g.wk.2.P) g.wk.2.P.length->env.get 5=e5->env.get 6=i64 info->env.get 7=e7->env.get 8=e8->env.get 9=i64 v->env.get 10=i64 (gi g.wk.2.P node) →
  LI Try.prog N drawB l100_2 env (H++gbox g::fr l::M) K:=by
 have hf:=hW.wf
 have hgn:=hW.gd.n
 have hlen:g.wk.2.P.length=g.ns.length:=wk_len.1
 intro f
 induction f with
 | zero=>intro node env M h; omega
 | succ f ih =>
  intro node env M hnf hn hQ h1 h3 h4 h5 h6 h7 h8 h9 h10
  refine li_go hm l100_2.eq_1 ?_
  by_cases hneg:gi g.wk.2.P node<0
  · rw[dq_neg hneg]at hQ
    subst hQ
    simp -implicitDefEqProofs[h1,h3,h4,h5,h6,h7,h8,h9,h10,show ¬ 0≤gi g.wk.2.P node by omega]
    exact hexit _ M l (by rw[if_neg (by omega)]) (by simp[h1]) (by simp[h3]) (by simp[h4]) (by simp[h5]) (by simp[h6]) (by simp[h7]) (by simp[h8]) (by simp[h9])
  · have hz:0<node:=by
     rcases Nat.eq_zero_or_pos node with h | h
     · subst h; rw[hf.p0]at hneg; omega
     · exact h
    obtain⟨p,hp,k1,k2,k3⟩:=hf.pf node hz hn
    rw[dq_step hW hinfo hp k1]at hQ
    rw[k1]at h10
    have hget:g.wk.2.P[p]'(by omega)=gi g.wk.2.P p:=gi_get (by omega)
    have g0:(nds g.ns)[p*6]? = some (i64 g.ns[p].k):=by have:=nds_get (l:=g.ns) (t:=0) hp (by omega); simpa[Nd.cells]using this
    by_cases hc:g.ns[p].k=2∧g.ns[p].i=info
    · rw[if_pos hc]at hQ
      subst hQ
      simp -implicitDefEqProofs[h1,h3,h4,h5,h6,h7,h8,h9,h10,gbox,hp,nds_at hp,nds_g2 hp,g0,nds_len,hc.1,hc.2,fr,fls_len]
      refine⟨by omega,by omega,by omega,by omega,?_⟩
      have e1:(⟨fls l++[i64 1,i64 v,i64 info,i64 p],128,l.length+1,true⟩:AO)=fr (l++[⟨1,v,info,p⟩]):=by simp[fr,fls_snoc]
      rw[e1]
      refine hexit _ _ (l++[⟨1,v,info,p⟩]) ?_ ?_ ?_ ?_ ?_ ?_ ?_ ?_ ?_
      · rw[if_pos (by omega)]
      · simp
      · simp
      · simp
      · simp
      · simp
      · simp
      · simp
      · simp
    · rw[if_neg hc]at hQ
      by_cases hk2:g.ns[p].k=2
      · have hi2:¬ g.ns[p].i=info:=fun h=>hc ⟨hk2,h⟩
        simp -implicitDefEqProofs[h1,h3,h4,h5,h6,h7,h8,h9,h10,gbox,hp,nds_at hp,nds_g2 hp,g0,nds_len,hk2,hi2,hlen]
        refine⟨by omega,by omega,?_⟩
        rw[hget]
        refine ih p _ M (by omega) hp hQ ?_ ?_ ?_ ?_ ?_ ?_ ?_ ?_ ?_
        · simp
        · simp
        · simp[hlen]
        · simp
        · simp
        · simp
        · simp
        · simp
        · simp
      · simp -implicitDefEqProofs[h1,h3,h4,h5,h6,h7,h8,h9,h10,gbox,hp,nds_at hp,nds_g2 hp,g0,nds_len,hk2,hlen]
        refine⟨by omega,?_⟩
        rw[hget]
        refine ih p _ M (by omega) hp hQ ?_ ?_ ?_ ?_ ?_ ?_ ?_ ?_ ?_
        · simp
        · simp
        · simp[hlen]
        · simp
        · simp
        · simp
        · simp
        · simp
        · simp
def stepF (g:Gm) (pl info n0:Int) (first:List (Int×Int)) (v:Int) (l:List Fl):List Fl :=
 if g.way v.toNat pl=first then(if 0≤g.deep v.toNat pl info then l++[⟨1,v,info,g.deep v.toNat pl info⟩]else l)
 else(if 0≤g.deep v.toNat pl info then l++[⟨1,v,info,g.deep v.toNat pl info⟩]else l)++[⟨2,v,info,n0⟩]
theorem seek_true {pl info n0:Int} {first:List (Int×Int)} {v:Int} {r:List Int} {l:List Fl} :
 seekS g (fun _ _=>true) nxF info pl n0 first (v::r) l=seekS g (fun _ _=>true) nxF info pl n0 first r (stepF g pl info n0 first v l):=by
 conv=>lhs; unfold seekS
 simp only
 rw[if_neg (by simp)]
 unfold stepF
 by_cases hw:g.way v.toNat pl=first
 · rw[if_pos hw,if_pos hw]; rfl
 · rw[if_neg hw,if_neg hw,if_pos trivial]; rfl
theorem stepF_len {pl info n0:Int} {first:List (Int×Int)} {v:Int} {l:List Fl}:(stepF g pl info n0 first v l).length≤l.length+2:=by
 unfold stepF
 split<;>split<;>simp
set_option maxRecDepth 10000 in
theorem loop55_1 (hW:Wg g) {i:Nat} (hi:i<g.is.length) {n0:Int} (hn0:(g.sets[i]'(by rw[sets_len]; exact hi)).head? = some n0) {N:Nat} {K:XE->Env->List AO->Prop} {Q:List Fl}
 (hexit:∀ env M,Q.length≤4000*(i+1)->env.get 1=.ptr (.own H.length 0 0 0 0) 0->env.get 3=.own (H.length+1) 0 Q.length 4 Q.length->env.get 4=.slc (ints g.wk.2.P) g.wk.2.P.length->env.get 5=g.setsV->env.get 6=i64 i->K (.exit 2) env (H++gbox g::fr Q::M)) :
 ∀ (n k:Nat) (env:Env) (l:List Fl) (M:List AO),k+n=(g.sets[i]'(by rw[sets_len]; exact hi)).length->l.length≤4000*i+2*k->(seekS g (fun _ _=>true) nxF i g.is[i].1 n0 (g.way n0.toNat g.is[i].1) ((g.sets[i]'(by rw[sets_len]; exact hi)).drop k) l).2=Q →
  env.get 1=.ptr (.own H.length 0 0 0 0) 0->env.get 3=.own (H.length+1) 0 l.length 4 l.length->env.get 4=.slc (ints g.wk.2.P) g.wk.2.P.length->env.get 5=g.setsV->env.get 6=i64 i->env.get 7=i64 g.is[i].1->env.get 8=i64 k →
  LI Try.prog N drawB l100_1 env (H++gbox g::fr l::M) K:=by
 have hf:=hW.wf
 have hgn:=hW.gd.n
 have hgi:=hW.gd.i
 have hlen:g.wk.2.P.length=g.ns.length:=wk_len.1
 have hls:i<g.sets.length:=by rw[sets_len]; exact hi
 have hne:=hW.ne i hls
 have hlk:=sets_lenk (g:=g) hls
 have hpos:0<g.sets[i].length:=List.length_pos_iff.2 hne
 have hhead:(ints g.sets[i]).head? = some (i64 n0):=by
  cases hc:g.sets[i]with
  | nil=>exact(hne hc).elim
  | cons y r=>rw[hc]at hn0; simp at hn0; subst hn0; rfl
 have hv0:=sets_mem hls (List.mem_of_head? hn0)
 intro n
 induction n with
 | zero =>
  intro k env l M hk hl hQ h1 h3 h4 h5 h6 h7 h8
  refine li_go hm l100_1.eq_1 ?_
  have e:k=g.sets[i].length:=by omega
  subst e
  rw[List.drop_length]at hQ
  simp only[seekS]at hQ
  subst hQ
  simp -implicitDefEqProofs[h1,h3,h4,h5,h6,h7,h8,Gm.setsV,hi,hls,slN_at hls,slN_ne hne]
  exact hexit _ M (by omega) (by simp) (by simp) (by simp) (by simp[Gm.setsV]) (by simp)
 | succ n ih =>
  intro k env l M hk hl hQ h1 h3 h4 h5 h6 h7 h8
  refine li_go hm l100_1.eq_1 ?_
  have hlt:k<g.sets[i].length:=by omega
  have w1:IntKind.i64.wrap ((k:Int)+1)=((k+1:Nat):Int):=wrap_succ (by omega)
  have hv:=sets_mem hls (List.getElem_mem hlt)
  have hvn:g.sets[i][k]=((g.sets[i][k].toNat:Nat):Int):=by omega
  have hvl:g.sets[i][k].toNat<g.ns.length:=by omega
  rw[List.drop_eq_getElem_cons hlt,seek_true]at hQ
  have hget:g.wk.2.P[g.sets[i][k].toNat]'(by omega)=gi g.wk.2.P g.sets[i][k].toNat:=gi_get (by omega)
  simp -implicitDefEqProofs[h1,h3,h4,h5,h6,h7,h8,Gm.setsV,hi,hls,slN_at hls,slN_ne hne,hlt,hlen,hvl,hget,hv.1,hv.2]
  refine⟨by omega,by omega,?_⟩
  have hdeep:dq g g.is[i].1 i g.ns.length g.sets[i][k].toNat=g.deep g.sets[i][k].toNat g.is[i].1 i:=rfl
  refine loop55_2 (g:=g) hW hi (v:=g.sets[i][k]) (l:=l) (by omega) (Q:=g.deep g.sets[i][k].toNat g.is[i].1 i) (e5:=g.setsV) (e7:=i64 g.is[i].1) (e8:=i64 k) (fun env M' l' hl' q1 q3 q4 q5 q6 q7 q8 q9 => ?_)
   g.ns.length g.sets[i][k].toNat _ M hvl hvl hdeep (by simp) (by simp) (by simp[hlen]) (by simp[Gm.setsV]) (by simp) (by simp) (by simp) (by simp) (by simp)
  have hl'l:l'.length≤l.length+1:=by rw[hl']; split<;>simp
  have h56:=fun H=>ok87 (H:=H) hW (node:=g.sets[i][k].toNat) hvl g.is[i].1
  rw[←hvn]at h56
  simp only[Gm.cells]at h56
  have h56':=fun H=>ok87 (H:=H) hW (node:=n0.toNat) (by omega) g.is[i].1
  rw[show((n0.toNat:Nat):Int)=n0 by omega]at h56'
  simp only[Gm.cells]at h56'
  simp -implicitDefEqProofs[q1,q3,q4,q5,q6,q7,q8,q9,gbox,Gm.setsV]
  refine callq_go (fun _=>h56 _) ?_
  simp -implicitDefEqProofs[q1,q3,q4,q5,q6,q7,q8,q9,gbox,Gm.setsV,hi,hls,slN_at hls,slN_ne hne,hhead,hpos]
  refine⟨by omega,by omega,?_⟩
  refine callq_go (fun _=>h56' _) ?_
  refine callq_go (fun _=>ok113 (by have:=way_len (g:=g) (node:=g.sets[i][k].toNat) (pl:=g.is[i].1); omega)) ?_
  by_cases hw:g.way g.sets[i][k].toNat g.is[i].1=g.way n0.toNat g.is[i].1
  · have hst:stepF g g.is[i].1 i n0 (g.way n0.toNat g.is[i].1) g.sets[i][k] l=l':=by
     unfold stepF; rw[if_pos hw,hl']
    rw[hst]at hQ
    simp -implicitDefEqProofs[hw]
    rw[w1]
    refine ih (k+1) _ l' M' (by omega) (by omega) hQ ?_ ?_ ?_ ?_ ?_ ?_ ?_
    · simp[q1]
    · simp[q3]
    · simp[q4]
    · simp[q5]
    · simp[q6]
    · simp[q7]
    · simp
  · have hst:stepF g g.is[i].1 i n0 (g.way n0.toNat g.is[i].1) g.sets[i][k] l=l'++[⟨2,g.sets[i][k],i,n0⟩]:=by
     unfold stepF; rw[if_neg hw,hl']
    rw[hst]at hQ
    simp -implicitDefEqProofs[hw,q1,q3,q4,q5,q6,q7,q8,q9,Gm.setsV,hi,hls,slN_at hls,slN_ne hne,hhead,hpos,fr,fls_len]
    refine⟨by omega,by omega,by omega,by omega,by omega,?_⟩
    rw[w1]
    have e1:(⟨fls l'++[i64 2,i64 g.sets[i][k],i64 i,i64 n0],128,l'.length+1,true⟩:AO)=fr (l'++[⟨2,g.sets[i][k],i,n0⟩]):=by simp[fr,fls_snoc]
    rw[e1]
    refine ih (k+1) _ (l'++[⟨2,g.sets[i][k],i,n0⟩]) _ (by omega) (by simp; omega) hQ ?_ ?_ ?_ ?_ ?_ ?_ ?_
    · simp[q1]
    · simp
    · simp[q4]
    · simp[q5,Gm.setsV]
    · simp[q6]
    · simp[q7]
    · simp
set_option maxRecDepth 10000 in
theorem loop55_0 (hW:Wg g) {N:Nat} {K:XE->Env->List AO->Prop} {Q:List Fl}
 (hexit:∀ env M,Q.length≤1000000->env.get 3=.own (H.length+1) 0 Q.length 4 Q.length->K (.exit 0) env (H++gbox g::fr Q::M)) :
 ∀ (n i:Nat) (env:Env) (l:List Fl) (M:List AO),i+n=g.is.length->l.length≤4000*i->setsL g (fun _ _=>true) nxF (fun _=>true) false n i l=Q →
  env.get 1=.ptr (.own H.length 0 0 0 0) 0->env.get 3=.own (H.length+1) 0 l.length 4 l.length->env.get 4=.slc (ints g.wk.2.P) g.wk.2.P.length->env.get 5=g.setsV->env.get 6=i64 i →
  LI Try.prog N drawB l100_0 env (H++gbox g::fr l::M) K:=by
 have hgi:=hW.gd.i
 have hgn:=hW.gd.n
 have hsl:g.sets.length=g.is.length:=sets_len
 intro n
 induction n with
 | zero =>
  intro i env l M hi hl hQ h1 h3 h4 h5 h6
  refine li_go hm l100_0.eq_1 ?_
  have e:i=g.is.length:=by omega
  subst e
  simp only[setsL]at hQ
  subst hQ
  simp -implicitDefEqProofs[h1,h3,h4,h5,h6,Gm.setsV]
  exact hexit _ M (by omega) (by simp)
 | succ n ih =>
  intro i env l M hi hl hQ h1 h3 h4 h5 h6
  refine li_go hm l100_0.eq_1 ?_
  have hlt:i<g.is.length:=by omega
  have hls:i<g.sets.length:=by omega
  have w1:IntKind.i64.wrap ((i:Int)+1)=((i+1:Nat):Int):=wrap_succ (by omega)
  have hne:=hW.ne i hls
  have hlk:=sets_lenk (g:=g) hls
  unfold setsL at hQ
  rw[List.getElem?_eq_getElem hlt,List.getElem?_eq_getElem hls]at hQ
  simp only[if_true]at hQ
  rw[if_neg (by simp)]at hQ
  obtain⟨n0,hn0⟩:∃ n0,g.sets[i].head? = some n0:=by
   cases h:g.sets[i]with
   | nil=>exact(hne h).elim
   | cons y r=>exact⟨y,rfl⟩
  have hd0:g.sets[i].headD 0=n0:=by rw[List.headD_eq_head?_getD,hn0]; rfl
  rw[hd0]at hQ
  simp -implicitDefEqProofs[h1,h3,h4,h5,h6,Gm.setsV,hlt,hls,gbox,infs_g0 hlt,infs_len]
  refine⟨by omega,?_⟩
  refine loop55_1 (g:=g) hW hlt hn0 (Q:=(seekS g (fun _ _=>true) nxF i g.is[i].1 n0 (g.way n0.toNat g.is[i].1) g.sets[i] l).2) (fun env M' hQl q1 q3 q4 q5 q6 => ?_) g.sets[i].length 0 _ l M (by omega) (by omega) rfl (by simp) (by simp) (by simp[h4]) (by simp[Gm.setsV]) (by simp) (by simp) (by simp)
  simp -implicitDefEqProofs[q6]
  rw[w1]
  refine ih (i+1) _ _ M' (by omega) hQl hQ ?_ ?_ ?_ ?_ ?_
  · simp[q1]
  · simp[q3]
  · simp[q4]
  · simp[q5]
  · simp
def fs (l:List Fl):SV:=.slc (fls l) l.length
theorem flaws_len (hW:Wg g):g.flaws.length≤1000000:=by
 have hgi:=hW.gd.i
 have hgn:=hW.gd.n
 have hsk:∀ (r:List Int) (i:Nat) (pl n0:Int) (first:List (Int×Int)) (l:List Fl),(seekS g (fun _ _=>true) nxF i pl n0 first r l).2.length≤l.length+2*r.length:=by
  intro r
  induction r with
  | nil=>intro i pl n0 first l; simp[seekS]
  | cons v r ih =>
   intro i pl n0 first l
   rw[seek_true]
   have h1:=ih i pl n0 first (stepF g pl i n0 first v l)
   have h2:=stepF_len (g:=g) (pl:=pl) (info:=i) (n0:=n0) (first:=first) (v:=v) (l:=l)
   simp only[List.length_cons]; omega
 have:∀ (n i:Nat) (l:List Fl),(setsL g (fun _ _=>true) nxF (fun _=>true) false n i l).length≤l.length+4000*n:=by
  intro n
  induction n with
  | zero=>intro i l; simp[setsL]
  | succ n ih =>
   intro i l
   unfold setsL
   by_cases hls:i<g.sets.length
   · have hlt:i<g.is.length:=by rw[←sets_len]; exact hls
     rw[List.getElem?_eq_getElem hls,List.getElem?_eq_getElem hlt]
     simp only[if_true]
     rw[if_neg (by simp)]
     refine Nat.le_trans (ih _ _) ?_
     have h1:=hsk g.sets[i] i g.is[i].1 (g.sets[i].headD 0) (g.way (g.sets[i].headD 0).toNat g.is[i].1) l
     have h2:=sets_lenk (g:=g) hls
     omega
   · rw[List.getElem?_eq_none (by omega)]
     simp only; omega
 have h:=this g.is.length 0 []
 unfold Gm.flaws
 simp only[List.length_nil]at h
 omega
set_option maxRecDepth 10000 in
theorem ok100 (hW:Wg g):Ok Try.prog 100 [.agg g.cells] H (.ret (fs g.flaws)) H:=by
 refine ok_fn hm Try.func100 c100 (by simp) fun hcl => ?_
 simp -implicitDefEqProofs[i100,r100,Gm.cells]
 have hh:=fun H=>ok101 (H:=H) hW
 simp only[Gm.cells,sl]at hh
 refine call_go (hh _) ?_
 simp -implicitDefEqProofs
 have hh:=fun H=>ok85 (H:=H) hW.gd
 simp only[Gm.cells]at hh
 refine call_go (hh _) ?_
 simp -implicitDefEqProofs
 refine loop55_0 (g:=g) (H:=H) hW (Q:=g.flaws) (fun env M hl h3 => ?_) g.is.length 0 _ [] [] (by omega) (by simp) rfl (by simp) (by simp) (by simp) (by simp[Gm.setsV]) (by simp)
 simp -implicitDefEqProofs[h3]
 refine cv_fz 3 hcl rfl ?_
 simp[fr,fls_len,Nat.mul_comm,fs]
 exact List.take_of_length_le (by rw[fls_len]; omega)
end
end Go.Proofs.Ytogjmpkehjfecaa.Rc
namespace Go.Proofs.Ytogjmpkehjfecaa.Rc
open Go.Ab
section
variable {H:List AO} {g:Gm}
theorem flaws_info {f:Fl} (hf:f∈g.flaws):0≤f.i∧f.i<g.is.length:=by
 have hsk:∀ (r:List Int) (i:Nat) (pl n0:Int) (first:List (Int×Int)) (l:List Fl),i<g.is.length->(∀ f∈l,0≤f.i∧f.i<g.is.length)->∀ f∈(seekS g (fun _ _=>true) nxF i pl n0 first r l).2,0≤f.i∧f.i<g.is.length:=by
  intro r
  induction r with
  | nil=>intro i pl n0 first l hi hl; simpa[seekS]using hl
  | cons v r ih =>
   intro i pl n0 first l hi hl
   rw[seek_true]
   refine ih i pl n0 first _ hi (fun f hf => ?_)
   unfold stepF at hf
   have key:∀ f∈(if 0≤g.deep v.toNat pl i then l++[⟨1,v,i,g.deep v.toNat pl i⟩]else l),0≤f.i∧f.i<g.is.length:=by
    intro f hf
    split at hf
    · rcases List.mem_append.1 hf with h | h
      · exact hl f h
      · simp only[List.mem_singleton]at h; subst h; simp only; omega
    · exact hl f hf
   split at hf
   · exact key f hf
   · rcases List.mem_append.1 hf with h | h
     · exact key f h
     · simp only[List.mem_singleton]at h; subst h; simp only; omega
 have:∀ (n i:Nat) (l:List Fl),(∀ f∈l,0≤f.i∧f.i<g.is.length)->∀ f∈setsL g (fun _ _=>true) nxF (fun _=>true) false n i l,0≤f.i∧f.i<g.is.length:=by
  intro n
  induction n with
  | zero=>intro i l hl; simpa[setsL]using hl
  | succ n ih =>
   intro i l hl
   unfold setsL
   by_cases hls:i<g.sets.length
   · have hlt:i<g.is.length:=by rw[←sets_len]; exact hls
     rw[List.getElem?_eq_getElem hls,List.getElem?_eq_getElem hlt]
     simp only[if_true]
     rw[if_neg (by simp)]
     exact ih _ _ (hsk _ _ _ _ _ _ hlt hl)
   · rw[List.getElem?_eq_none (by omega)]
     exact hl
 exact this _ _ _ (by simp) f hf
theorem fls_drop:∀ {l:List Fl} {k:Nat} (h:k<l.length),(fls l).drop (4*k)=i64 l[k].k::i64 l[k].n::i64 l[k].i::i64 l[k].o::fls (l.drop (k+1))
 | [],k,h=>by simp at h
 | x::r,0,h=>rfl
 | x::r,k+1,h=>by
  rw[show 4*(k+1)=4*k+4 by omega]
  simp only[fls,List.drop_succ_cons]
  rw[fls_drop (l:=r) (k:=k) (by simpa using h)]
  simp
theorem fls_at {l:List Fl} {k:Nat} (h:k<l.length):(fls l).drop (k*4)=i64 l[k].k::i64 l[k].n::i64 l[k].i::i64 l[k].o::fls (l.drop (k+1)):=by rw[Nat.mul_comm,fls_drop h]
theorem fls_g2 {l:List Fl} {k:Nat} (h:k<l.length):(fls l)[k*4+2]? = some (i64 l[k].i):=by
 rw[←List.getElem?_drop,fls_at h]; rfl
def plAt (g:Gm) (i:Int):Int:=match g.is[i.toNat]? with | some x=>x.1 | none=>0
def Gm.perfR (g:Gm) (pl:Int):Bool:=decide (¬ ∃ f∈g.flaws,plAt g f.i=pl)
set_option maxRecDepth 10000 in
theorem loop54 {l:List Fl} (hl:l.length≤1000000) (hin:∀ f∈l,0≤f.i∧f.i<g.is.length) {pl:Int} {N:Nat} {K:XE->Env->List AO->Prop}
 (hret:(∃ f∈l,plAt g f.i=pl)->∀ env,env.get 4=bl false->K .ret env (H++[gbox g])) (hexit:(¬ ∃ f∈l,plAt g f.i=pl)->∀ env,K (.exit 0) env (H++[gbox g])) :
 ∀ (n k:Nat) (env:Env),k+n=l.length->(∀ t (h:t<l.length),t<k->plAt g l[t].i≠pl)->env.get 1=i64 pl->env.get 2=.ptr (.own H.length 0 0 0 0) 0->env.get 5=fs l->env.get 6=i64 k →
  LI Try.prog N drawB l86_0 env (H++[gbox g]) K:=by
 intro n
 induction n with
 | zero =>
  intro k env hk hp h1 h2 h5 h6
  refine li_go hm l86_0.eq_1 ?_
  have e:k=l.length:=by omega
  subst e
  simp -implicitDefEqProofs[h1,h2,h5,h6,fs]
  refine hexit ?_ _
  rintro⟨f,hf,hh⟩
  obtain⟨t,ht,rfl⟩:=List.getElem_of_mem hf
  exact hp t ht ht hh
 | succ n ih =>
  intro k env hk hp h1 h2 h5 h6
  refine li_go hm l86_0.eq_1 ?_
  have hlt:k<l.length:=by omega
  have w1:IntKind.i64.wrap ((k:Int)+1)=((k+1:Nat):Int):=wrap_succ (by omega)
  have hi:=hin _ (List.getElem_mem hlt)
  have hit:l[k].i.toNat<g.is.length:=by omega
  have hpa:plAt g l[k].i=g.is[l[k].i.toNat].1:=by unfold plAt; rw[List.getElem?_eq_getElem hit]
  simp -implicitDefEqProofs[h1,h2,h5,h6,fs,hlt,gbox,fls_g2 hlt,fls_len,hi.1,hi.2,infs_g0 hit,infs_len]
  refine⟨by omega,by omega,?_⟩
  by_cases hc:g.is[l[k].i.toNat].1=pl
  · rw[if_pos hc]
    exact hret ⟨_,List.getElem_mem hlt,by rw[hpa]; exact hc⟩ _ (by simp)
  · rw[if_neg hc,w1]
    refine ih (k+1) _ (by omega) ?_ ?_ ?_ ?_ ?_
    rotate_left
    · simp
    · simp
    · simp[fs]
    · simp
    intro t ht htk
    by_cases e:t=k
    · subst e; rw[hpa]; exact hc
    · exact hp t ht (by omega)
theorem ok86 (hW:Wg g) (pl:Int):Ok Try.prog 86 [.agg g.cells,i64 pl] H (.ret (bl (g.perfR pl))) H:=by
 refine ok_fn hm Try.func86 c86 (by simp) fun hcl => ?_
 simp -implicitDefEqProofs[i86,r86,Gm.cells]
 have hh:=fun H=>ok100 (H:=H) hW
 simp only[Gm.cells]at hh
 refine call_go (hh _) ?_
 simp -implicitDefEqProofs
 refine loop54 (g:=g) (l:=g.flaws) (flaws_len hW) (fun f hf=>flaws_info hf) (pl:=pl) (fun hx env h4 => ?_) (fun hx env => ?_) g.flaws.length 0 _ (by omega) (by omega) (by simp) (by simp) (by simp) (by simp)
 · simp -implicitDefEqProofs[h4]
   refine cv_fz 1 hcl rfl ?_
   simp only[Gm.perfR,decide_not,hx,decide_true,Bool.not_true]
   simp
 · simp -implicitDefEqProofs
   refine cv_fz 1 hcl rfl ?_
   simp only[Gm.perfR,decide_not,hx,decide_false,Bool.not_false]
   simp
end
end Go.Proofs.Ytogjmpkehjfecaa.Rc
namespace Go.Proofs.Ytogjmpkehjfecaa.Rc
open Go.Ab
section
variable {g:Gm}
def upf (g:Gm) (pl:Int) (f node:Nat) (l:List (Int×Int)):List (Int×Int):=abv g pl (fun _ _ _=>true) (fun l k a=>l++[(infoAt g k,a)]) f node l
theorem upf_root (hW:Wg g) {pl:Int} {f:Nat} {l:List (Int×Int)}:upf g pl (f+1) 0 l=l:=by
 unfold upf abv; rw[if_pos (by rw[hW.wf.p0]; omega)]
theorem upf_app (hW:Wg g) {pl:Int}:∀ (f node:Nat) (l:List (Int×Int)),node<f->node<g.ns.length->upf g pl f node l=l++upf g pl f node []
 | 0,node,l,h,_=>by omega
 | f+1,node,l,h,hn=>by
  rcases Nat.eq_zero_or_pos node with hz | hz
  · subst hz; rw[upf_root hW,upf_root hW]; simp
  · obtain⟨p,hp,k1,k2,k3⟩:=hW.wf.pf node hz hn
    unfold upf
    rw[up_step hW hp k1,up_step hW hp k1]
    have h1:=upf_app hW (pl:=pl) f p
    unfold upf at h1
    by_cases hc:g.ns[p].k=2∧g.ns[p].p=pl
    · rw[if_pos hc,if_pos hc,h1 _ (by omega) hp,h1 ([]++_) (by omega) hp]
      simp
    · rw[if_neg hc,if_neg hc,h1 _ (by omega) hp]
theorem upf_fuel (hW:Wg g) {pl:Int}:∀ (f f' node:Nat) (l:List (Int×Int)),node<f->node<f'->node<g.ns.length->upf g pl f node l=upf g pl f' node l
 | 0,f',node,l,h,_,_=>by omega
 | f+1,0,node,l,_,h,_=>by omega
 | f+1,f'+1,node,l,h,h',hn=>by
  rcases Nat.eq_zero_or_pos node with hz | hz
  · subst hz; rw[upf_root hW,upf_root hW]
  · obtain⟨p,hp,k1,k2,k3⟩:=hW.wf.pf node hz hn
    unfold upf
    rw[up_step hW hp k1,up_step hW hp k1]
    exact upf_fuel hW f f' p _ (by omega) (by omega) hp
theorem up_len (hW:Wg g) {pl:Int} {node:Nat} (hn:node<g.ns.length) (f:Nat) (hf:node<f):(g.way node pl).length=(upf g pl f node []).length:=by
 unfold Gm.way Gm.up
 rw[List.length_reverse]
 show(upf g pl g.ns.length node []).length=_
 rw[upf_fuel hW g.ns.length f node [] hn hf hn]
theorem dq_up (hW:Wg g) {info:Nat} (hinfo:info<g.is.length):∀ (f node:Nat),node<f->node<g.ns.length->0≤dq g g.is[info].1 info f node →
 ∃ p,∃ h:p<g.ns.length,p<node∧g.ns[p].k=2∧g.ns[p].i=info∧(g.way p g.is[info].1).length<(g.way node g.is[info].1).length
 | 0,node,h,_,_=>by omega
 | f+1,node,h,hn,hd=>by
  rcases Nat.eq_zero_or_pos node with hz | hz
  · subst hz; rw[dq_neg (by rw[hW.wf.p0]; omega)]at hd; omega
  · obtain⟨p,hp,k1,k2,k3⟩:=hW.wf.pf node hz hn
    rw[dq_step hW hinfo hp k1]at hd
    have hlen:(g.way node g.is[info].1).length=(if g.ns[p].k=2∧g.ns[p].p=g.is[info].1 then 1 else 0)+(g.way p g.is[info].1).length:=by
     rw[up_len hW hn (node+1+1) (by omega),up_len hW hp (node+1) (by omega)]
     have:upf g g.is[info].1 (node+1+1) node []=upf g g.is[info].1 (node+1) p (if g.ns[p].k=2∧g.ns[p].p=g.is[info].1 then []++[(g.ns[p].i,fstAt node g.ns[p].nx)]else []):=up_step hW hp k1
     rw[this,upf_app hW _ _ _ (by omega) hp]
     split<;>simp<;>omega
    by_cases hc:g.ns[p].k=2∧g.ns[p].i=info
    · have hty:=hW.ty (List.getElem_mem hp) hc.1
      rw[hc.2,show((info:Nat):Int).toNat=info by omega,List.getElem?_eq_getElem hinfo]at hty
      simp only[Option.some.injEq]at hty
      refine⟨p,hp,k2,hc.1,hc.2,?_⟩
      rw[hlen,if_pos ⟨hc.1,by rw[hty]⟩]; omega
    · rw[if_neg hc]at hd
      obtain⟨q,hq,m1,m2,m3,m4⟩:=dq_up hW hinfo f p (by omega) hp hd
      refine⟨q,hq,by omega,m2,m3,?_⟩
      omega
theorem mem_occ {s:Nat}:∀ {l:List Nd} {o t:Nat} (ht:t<l.length),l[t].k=2->l[t].i.toNat=s->((o+t:Nat):Int)∈occ s l o
 | [],o,t,ht,_,_=>by simp at ht
 | x::r,o,0,ht,h1,h2=>by
  unfold occ
  rw[if_pos ⟨h1,h2⟩]
  simp
 | x::r,o,t+1,ht,h1,h2=>by
  have:=mem_occ (s:=s) (l:=r) (o:=o+1) (t:=t) (by simpa using ht) h1 h2
  rw[show o+1+t=o+(t+1)by omega]at this
  unfold occ
  split
  · exact List.mem_cons_of_mem _ this
  · exact this
def Bad (g:Gm) (i:Nat):Prop:=∃ h:i<g.sets.length,∃ h':i<g.is.length,∃ v∈g.sets[i],g.way v.toNat g.is[i].1≠g.way (g.sets[i].headD 0).toNat g.is[i].1
theorem bad_of_again (hW:Wg g) {i:Nat} (hs:i<g.sets.length) (hi:i<g.is.length) {v:Int} (hv:v∈g.sets[i]) (hd:0≤g.deep v.toNat g.is[i].1 i):Bad g i:=by
 have hr:=sets_mem hs hv
 obtain⟨p,hp,k1,k2,k3,k4⟩:=dq_up hW hi g.ns.length v.toNat (by omega) (by omega) hd
 have hpm:((p:Nat):Int)∈g.sets[i]:=by
  rw[sets_occ hs]
  have:=mem_occ (s:=i) (l:=g.ns) (o:=0) (t:=p) hp k2 (by omega)
  simpa using this
 by_cases h1:g.way v.toNat g.is[i].1=g.way (g.sets[i].headD 0).toNat g.is[i].1
 · refine⟨hs,hi,p,hpm,fun h2 => ?_⟩
   rw[show((p:Nat):Int).toNat=p by omega]at h2
   rw[h1,h2]at k4; omega
 · exact⟨hs,hi,v,hv,h1⟩
theorem seekP {i:Nat} {pl n0:Int} {first:List (Int×Int)}:∀ (l:List Int),seekS g nxP nxP i pl n0 first l true=if ∃ v∈l,g.way v.toNat pl≠first then(false,false)else(true,true)
 | []=>by simp[seekS]
 | v::r=>by
  have e1:nxP true ⟨1,v,i,g.deep v.toNat pl i⟩=true:=by simp[nxP]
  have e2:∀ b,nxP b ⟨2,v,i,n0⟩=false:=fun b=>by simp[nxP]
  unfold seekS
  simp only
  rw[if_neg (by rw[e1]; simp),e1]
  have e3:(if 0≤g.deep v.toNat pl i then true else true)=true:=by split<;>rfl
  rw[e3]
  by_cases hw:g.way v.toNat pl=first
  · rw[if_pos hw,seekP r]
    by_cases hx:∃ u∈r,g.way u.toNat pl≠first
    · obtain⟨u,hu,hh⟩:=hx
      rw[if_pos ⟨u,hu,hh⟩,if_pos ⟨u,List.mem_cons_of_mem _ hu,hh⟩]
    · rw[if_neg hx,if_neg]
      rintro⟨u,hu,hh⟩
      rcases List.mem_cons.1 hu with rfl | hu
      · exact hh hw
      · exact hx ⟨u,hu,hh⟩
  · rw[if_neg hw,e2,if_neg (by simp),if_pos ⟨v,List.mem_cons_self,hw⟩]
theorem setsP (hW:Wg g) {pl:Int}:∀ (n i:Nat),i+n=g.is.length->(setsL g nxP nxP (fun p=>decide (p=pl)) true n i true=true↔∀ t,i≤t->(h:t<g.is.length)->g.is[t].1=pl->¬ Bad g t)
 | 0,i,hi=>by
  simp only[setsL,true_iff]
  intro t h1 h2; omega
 | n+1,i,hi=>by
  have hlt:i<g.is.length:=by omega
  have hls:i<g.sets.length:=by rw[sets_len]; exact hlt
  unfold setsL
  rw[List.getElem?_eq_getElem hlt,List.getElem?_eq_getElem hls]
  simp only
  have ih:=setsP hW (pl:=pl) n (i+1) (by omega)
  by_cases hp:g.is[i].1=pl
  · rw[if_pos (by simpa using hp),seekP]
    by_cases hb:∃ v∈g.sets[i],g.way v.toNat g.is[i].1≠g.way (g.sets[i].headD 0).toNat g.is[i].1
    · rw[if_pos hb]
      simp only[and_self,if_true]
      constructor
      · intro h; cases h
      · intro h; exact(h i (Nat.le_refl _) hlt hp ⟨hls,hlt,hb⟩).elim
    · rw[if_neg hb]
      rw[if_neg (by simp),ih]
      constructor
      · intro h t h1 h2 h3
        by_cases e:t=i
        · subst e; rintro⟨_,_,h4⟩; exact hb h4
        · exact h t (by omega) h2 h3
      · intro h t h1 h2 h3; exact h t (by omega) h2 h3
  · rw[if_neg (by simpa using hp),ih]
    constructor
    · intro h t h1 h2 h3
      by_cases e:t=i
      · subst e; exact(hp h3).elim
      · exact h t (by omega) h2 h3
    · intro h t h1 h2 h3; exact h t (by omega) h2 h3
theorem seekF_mem {i:Nat} {pl n0:Int} {first:List (Int×Int)}:∀ (r:List Int) (l:List Fl) (f:Fl),f∈(seekS g (fun _ _=>true) nxF i pl n0 first r l).2↔f∈l∨∃ v∈r,(0≤g.deep v.toNat pl i∧f=⟨1,v,i,g.deep v.toNat pl i⟩)∨(g.way v.toNat pl≠first∧f=⟨2,v,i,n0⟩)
 | [],l,f=>by simp[seekS]
 | v::r,l,f=>by
  rw[seek_true,seekF_mem r]
  have:f∈stepF g pl i n0 first v l↔f∈l∨(0≤g.deep v.toNat pl i∧f=⟨1,v,i,g.deep v.toNat pl i⟩)∨(g.way v.toNat pl≠first∧f=⟨2,v,i,n0⟩):=by
   unfold stepF
   by_cases hw:g.way v.toNat pl=first
   · rw[if_pos hw]
     by_cases hd:0≤g.deep v.toNat pl i
     · rw[if_pos hd]; simp[hw,hd]
     · rw[if_neg hd]; simp[hw,hd]
   · rw[if_neg hw]
     by_cases hd:0≤g.deep v.toNat pl i
     · rw[if_pos hd]; simp[hw,hd]
     · rw[if_neg hd]; simp[hw,hd]
  rw[this]
  simp only[List.mem_cons,exists_eq_or_imp,or_assoc]
theorem setsF_mem (hW:Wg g):∀ (n i:Nat) (l:List Fl),i+n=g.is.length->∀ f,f∈setsL g (fun _ _=>true) nxF (fun _=>true) false n i l↔f∈l∨∃ t,i≤t∧∃ h:t<g.is.length,∃ h':t<g.sets.length,∃ v∈g.sets[t],
     (0≤g.deep v.toNat g.is[t].1 t∧f=⟨1,v,t,g.deep v.toNat g.is[t].1 t⟩)∨(g.way v.toNat g.is[t].1≠g.way (g.sets[t].headD 0).toNat g.is[t].1∧f=⟨2,v,t,g.sets[t].headD 0⟩)
 | 0,i,l,hi,f=>by
   simp only[setsL]
   constructor
   · exact .inl
   · rintro(h | ⟨t,h1,h2,_⟩)
     · exact h
     · omega
 | n+1,i,l,hi,f=>by
   have hlt:i<g.is.length:=by omega
   have hls:i<g.sets.length:=by rw[sets_len]; exact hlt
   unfold setsL
   rw[List.getElem?_eq_getElem hlt,List.getElem?_eq_getElem hls]
   simp only[if_true]
   rw[if_neg (by simp),setsF_mem hW n (i+1) _ (by omega),seekF_mem]
   constructor
   · rintro((h | h) | ⟨t,h1,h2⟩)
     · exact .inl h
     · exact .inr ⟨i,Nat.le_refl _,hlt,hls,h⟩
     · exact .inr ⟨t,by omega,h2⟩
   · rintro(h | ⟨t,h1,h2,h3,h4⟩)
     · exact .inl (.inl h)
     · by_cases e:t=i
       · subst e; exact .inl (.inr h4)
       · exact .inr ⟨t,by omega,h2,h3,h4⟩
theorem flaws_bad (hW:Wg g) {t:Nat} (ht:t<g.is.length):(∃ f∈g.flaws,f.i=(t:Int))↔Bad g t:=by
 have hs:t<g.sets.length:=by rw[sets_len]; exact ht
 constructor
 · rintro⟨f,hf,hi⟩
   unfold Gm.flaws at hf
   rw[setsF_mem hW _ _ _ (by omega)]at hf
   rcases hf with hf | ⟨u,_,h2,h3,v,hv,⟨h4,h5⟩ | ⟨h4,h5⟩⟩
   · simp at hf
   · have:u=t:=by rw[h5]at hi; simp only at hi; omega
     subst this
     exact bad_of_again hW h3 h2 hv h4
   · have:u=t:=by rw[h5]at hi; simp only at hi; omega
     subst this
     exact⟨h3,h2,v,hv,h4⟩
 · rintro⟨h3,h2,v,hv,h4⟩
   refine⟨⟨2,v,t,g.sets[t].headD 0⟩,?_,rfl⟩
   unfold Gm.flaws
   rw[setsF_mem hW _ _ _ (by omega)]
   exact .inr ⟨t,by omega,h2,h3,v,hv,.inr ⟨h4,rfl⟩⟩
theorem perf_iff (hW:Wg g) {pl:Int}:g.perf pl=true↔∀ t,(h:t<g.is.length)->g.is[t].1=pl->¬ Bad g t:=by
 unfold Gm.perf
 rw[setsP hW _ _ (by omega)]
 constructor
 · intro h t h1 h2; exact h t (by omega) h1 h2
 · intro h t _ h1 h2; exact h t h1 h2
theorem perf_eq (hW:Wg g) {pl:Int}:g.perf pl=g.perfR pl:=by
 rw[Bool.eq_iff_iff,perf_iff hW]
 unfold Gm.perfR
 rw[decide_eq_true_iff]
 constructor
 · rintro h ⟨f,hf,hp⟩
   have hr:=flaws_info hf
   have ht:f.i.toNat<g.is.length:=by omega
   have e:plAt g f.i=g.is[f.i.toNat].1:=by unfold plAt; rw[List.getElem?_eq_getElem ht]
   exact h f.i.toNat ht (by rw[←e]; exact hp) ((flaws_bad hW ht).1 ⟨f,hf,by omega⟩)
 · intro h t ht hp hb
   obtain⟨f,hf,hi⟩:=(flaws_bad hW ht).2 hb
   refine h ⟨f,hf,?_⟩
   unfold plAt
   rw[hi,show((t:Nat):Int).toNat=t by omega,List.getElem?_eq_getElem ht]
   exact hp
end
end Go.Proofs.Ytogjmpkehjfecaa.Rc
namespace Go.Proofs.Ytogjmpkehjfecaa.Rc
open Go.Ab Go.Ab.Shr
structure TS where
 rnd:Int
 seed:Int
 A:Nat->List Int
 P:Nat->List Int
 S:Nat->List Int
 V:List Int
 R:List Int
 O:List Int
 ord:List Int
structure TC where
 M:List Int
 F:List Int
def pAo (H:List AO) (_g:Gm):Nat:=H.length
def pA (H:List AO) (_g:Gm) (i:Nat):Nat:=H.length+1+i
def pPo (H:List AO) (g:Gm):Nat:=H.length+1+g.is.length
def pP (H:List AO) (g:Gm) (i:Nat):Nat:=H.length+2+g.is.length+i
def pM (H:List AO) (g:Gm):Nat:=H.length+4+2*g.is.length
def pF (H:List AO) (g:Gm):Nat:=H.length+5+2*g.is.length
def pSo (H:List AO) (g:Gm):Nat:=H.length+7+2*g.is.length
def pS (H:List AO) (g:Gm) (i:Nat):Nat:=H.length+9+2*g.is.length+2*i
def pW (H:List AO) (g:Gm):Nat:=H.length+8+4*g.is.length
def pV (H:List AO) (g:Gm):Nat:=H.length+9+4*g.is.length
def pR (H:List AO) (g:Gm):Nat:=H.length+10+4*g.is.length
def pO (H:List AO) (g:Gm):Nat:=H.length+11+4*g.is.length
def pE (H:List AO) (g:Gm):Nat:=H.length+12+4*g.is.length
def outs (I:Nat) (p:Nat->Nat) (n:Nat->Nat) (ver:Nat):List SV:=(List.range I).map fun i=>.own (p i) 0 (n i) 1 ver
def wHead (g:Gm) (H:List AO) (s:TS):List SV :=
 [i64 g.pl,.slc (nds g.ns) g.ns.length,.slc (infs g.is) g.is.length,.own (pM H g) 0 g.ns.length 1 1,.own (pF H g) 0 g.is.length 1 1,i64 s.rnd,i64 s.seed,.own (pAo H g) 0 g.is.length 1 0,.own (pPo H g) 0 g.is.length 1 0,.own (pSo H g) 0 g.is.length 1 0,
  .own (pV H g) 0 g.ns.length 4 1,.own (pR H g) 0 g.ns.length 4 1,.own (pO H g) 0 g.ns.length 4 1]
def wObj (g:Gm) (H:List AO) (s:TS):AO:=oI (wHead g H s) s.ord [] 73 0
def Gm.acts (g:Gm) (i:Nat):Nat:=((g.is.getD i (0,0)).2).toNat
structure TL (g:Gm) (c:TC) (s:TS):Prop where
 A:∀ i,i<g.is.length->(s.A i).length=g.acts i
 P:∀ i,i<g.is.length->(s.P i).length=g.acts i
 S:∀ i,i<g.is.length->(s.S i).length=g.acts i
 V:s.V.length=4*g.ns.length
 R:s.R.length=4*g.ns.length
 O:s.O.length=4*g.ns.length
 ord:s.ord.length=10
 M:c.M.length=g.ns.length
 F:c.F.length=g.is.length
structure TW (g:Gm) (H:List AO) (c:TC) (s:TS) (G:List AO):Prop where
 l:TL g c s
 len:G.length=pE H g
 low:∀ i,i<H.length->G[i]? = H[i]?
 cl:closed G
 w:G[pW H g]? = some (wObj g H s)
 m:G[pM H g]? = some ⟨ints c.M,3,1,true⟩
 f:G[pF H g]? = some ⟨ints c.F,3,1,true⟩
 ao:G[pAo H g]? = some ⟨outs g.is.length (pA H g) g.acts 1,36,0,true⟩
 a:∀ i,i<g.is.length->G[pA H g i]? = some ⟨ints (s.A i),3,1,true⟩
 po:G[pPo H g]? = some ⟨outs g.is.length (pP H g) g.acts 1,36,0,true⟩
 p:∀ i,i<g.is.length->G[pP H g i]? = some ⟨ints (s.P i),3,1,true⟩
 so:G[pSo H g]? = some ⟨outs g.is.length (pS H g) g.acts 0,36,0,true⟩
 ss:∀ i,i<g.is.length->G[pS H g i]? = some ⟨ints (s.S i),3,0,true⟩
 v:G[pV H g]? = some ⟨ints s.V,101,1,true⟩
 r:G[pR H g]? = some ⟨ints s.R,101,1,true⟩
 o:G[pO H g]? = some ⟨ints s.O,101,1,true⟩
section
variable {g:Gm} {H G:List AO} {c:TC} {s:TS}
theorem TW.setV (h:TW g H c s G) {V:List Int} (hV:V.length=4*g.ns.length):TW g H c { s with V:=V } (G.set (pV H g) ⟨ints V,101,1,true⟩):=by
 have hlt:=getElem?_lt h.v
 have ne:∀ {j:Nat} {x:Option AO},pV H g≠j->G[j]? = x->(G.set (pV H g) ⟨ints V,101,1,true⟩)[j]? = x:=fun hn hx=>by rw[List.getElem?_set_ne hn]; exact hx
 constructor
 case l=>exact⟨h.l.A,h.l.P,h.l.S,hV,h.l.R,h.l.O,h.l.ord,h.l.M,h.l.F⟩
 case len=>simpa using h.len
 case cl=>exact closed_set h.cl _ (by simp)
 case v=>rw[List.getElem?_set_self hlt]
 case low=>intro i hi; exact ne (by unfold pV; omega) (h.low i hi)
 case a=>intro i hi; exact ne (by unfold pV pA; omega) (h.a i hi)
 case p=>intro i hi; exact ne (by unfold pV pP; omega) (h.p i hi)
 case ss=>intro i hi; exact ne (by unfold pV pS; omega) (h.ss i hi)
 case w=>exact ne (by unfold pV pW; omega) h.w
 case m=>exact ne (by unfold pV pM; omega) h.m
 case f=>exact ne (by unfold pV pF; omega) h.f
 case ao=>exact ne (by unfold pV pAo; omega) h.ao
 case po=>exact ne (by unfold pV pPo; omega) h.po
 case so=>exact ne (by unfold pV pSo; omega) h.so
 case r=>exact ne (by unfold pV pR; omega) h.r
 case o=>exact ne (by unfold pV pO; omega) h.o
theorem TW.setR (h:TW g H c s G) {X:List Int} (hV:X.length=4*g.ns.length):TW g H c { s with R:=X } (G.set (pR H g) ⟨ints X,101,1,true⟩):=by
 have hlt:=getElem?_lt h.r
 have ne:∀ {j:Nat} {x:Option AO},pR H g≠j->G[j]? = x->(G.set (pR H g) ⟨ints X,101,1,true⟩)[j]? = x:=fun hn hx=>by rw[List.getElem?_set_ne hn]; exact hx
 constructor
 case l=>exact⟨h.l.A,h.l.P,h.l.S,h.l.V,hV,h.l.O,h.l.ord,h.l.M,h.l.F⟩
 case len=>simpa using h.len
 case cl=>exact closed_set h.cl _ (by simp)
 case r=>rw[List.getElem?_set_self hlt]
 case low=>intro i hi; exact ne (by unfold pR; omega) (h.low i hi)
 case a=>intro i hi; exact ne (by unfold pR pA; omega) (h.a i hi)
 case p=>intro i hi; exact ne (by unfold pR pP; omega) (h.p i hi)
 case ss=>intro i hi; exact ne (by unfold pR pS; omega) (h.ss i hi)
 case w=>exact ne (by unfold pR pW; omega) h.w
 case m=>exact ne (by unfold pR pM; omega) h.m
 case f=>exact ne (by unfold pR pF; omega) h.f
 case ao=>exact ne (by unfold pR pAo; omega) h.ao
 case po=>exact ne (by unfold pR pPo; omega) h.po
 case so=>exact ne (by unfold pR pSo; omega) h.so
 case v=>exact ne (by unfold pR pV; omega) h.v
 case o=>exact ne (by unfold pR pO; omega) h.o
theorem TW.setO (h:TW g H c s G) {X:List Int} (hV:X.length=4*g.ns.length):TW g H c { s with O:=X } (G.set (pO H g) ⟨ints X,101,1,true⟩):=by
 have hlt:=getElem?_lt h.o
 have ne:∀ {j:Nat} {x:Option AO},pO H g≠j->G[j]? = x->(G.set (pO H g) ⟨ints X,101,1,true⟩)[j]? = x:=fun hn hx=>by rw[List.getElem?_set_ne hn]; exact hx
 constructor
 case l=>exact⟨h.l.A,h.l.P,h.l.S,h.l.V,h.l.R,hV,h.l.ord,h.l.M,h.l.F⟩
 case len=>simpa using h.len
 case cl=>exact closed_set h.cl _ (by simp)
 case o=>rw[List.getElem?_set_self hlt]
 case low=>intro i hi; exact ne (by unfold pO; omega) (h.low i hi)
 case a=>intro i hi; exact ne (by unfold pO pA; omega) (h.a i hi)
 case p=>intro i hi; exact ne (by unfold pO pP; omega) (h.p i hi)
 case ss=>intro i hi; exact ne (by unfold pO pS; omega) (h.ss i hi)
 case w=>exact ne (by unfold pO pW; omega) h.w
 case m=>exact ne (by unfold pO pM; omega) h.m
 case f=>exact ne (by unfold pO pF; omega) h.f
 case ao=>exact ne (by unfold pO pAo; omega) h.ao
 case po=>exact ne (by unfold pO pPo; omega) h.po
 case so=>exact ne (by unfold pO pSo; omega) h.so
 case r=>exact ne (by unfold pO pR; omega) h.r
 case v=>exact ne (by unfold pO pV; omega) h.v
end
end Go.Proofs.Ytogjmpkehjfecaa.Rc
namespace Go.Proofs.Ytogjmpkehjfecaa.Rc
open Go.Ab Go.Ab.Shr
theorem oc_at {G:List AO} {p:Nat} {c:List SV} {T:TypeId} {v:Nat} (h:G[p]? = some ⟨c,T,v,true⟩) (L:List AO):objCells (G++L) p v=c:=by
 rw[objCells_app L (getElem?_lt h)]; exact objCells_of (o:=⟨c,T,v,true⟩) h rfl
theorem so_at {G:List AO} {p:Nat} {o:AO} (h:G[p]? = some o) (L:List AO) (f:AO->AO):Ab.setObj (G++L) p f=G.set p (f o)++L:=by
 have hlt:=getElem?_lt h
 rw[setObj_some (o:=o) (by rw[List.getElem?_append_left hlt]; exact h),List.set_append_left _ _ hlt]
theorem outs_get {I:Nat} {p n:Nat->Nat} {ver i:Nat} (h:i<I):(outs I p n ver)[i]?.getD .any=.own (p i) 0 (n i) 1 ver:=by simp[outs,h]
@[simp] theorem outs_getG {I:Nat} {p n:Nat->Nat} {ver i:Nat} (h:i<(outs I p n ver).length):(outs I p n ver)[i]'h=.own (p i) 0 (n i) 1 ver:=by simp[outs]
@[simp] theorem outs_len (I:Nat) (p n:Nat->Nat) (ver:Nat):(outs I p n ver).length=I:=by simp[outs]
theorem ints_at {l:List Int} {i:Nat} (h:i<l.length):(ints l)[i]?.getD .any=i64 (l.getD i 0):=by simp[ints,h]
section
variable {l:List Nd} {i:Nat}
theorem nd0 (h:i<l.length):(nds l)[i*6]?.getD .any=i64 l[i].k:=by have:=nds_get (t:=0) h (by omega); rw[Nat.add_zero]at this; rw[this]; rfl
theorem nd1 (h:i<l.length):(nds l)[i*6+1]?.getD .any=i64 l[i].p:=by rw[nds_get h (by omega)]; rfl
theorem nd2 (h:i<l.length):(nds l)[i*6+2]?.getD .any=i64 l[i].i:=by rw[nds_get h (by omega)]; rfl
theorem nd3 (h:i<l.length):(nds l)[i*6+3]?.getD .any=.slc (ints l[i].nx) l[i].nx.length:=by rw[nds_get h (by omega)]; rfl
theorem nd4 (h:i<l.length):(nds l)[i*6+4]?.getD .any=.slc (ints l[i].ws) l[i].ws.length:=by rw[nds_get h (by omega)]; rfl
theorem nd5 (h:i<l.length):(nds l)[i*6+5]?.getD .any=.slc (ints l[i].ps) l[i].ps.length:=by rw[nds_get h (by omega)]; rfl
end
def brP (g:Gm) (S:Nat->List Int) (i k:Nat):Int:=match g.ns[i]? with
 | none=>0
 | some x=>if x.k=1 then x.ws.getD k 0 else(S x.i.toNat).getD k 0
def brW (g:Gm) (M:List Int) (i:Nat):Int:=match g.ns[i]? with
 | none=>0
 | some x=>if x.k=1 then M.getD i 0 else 65536
section
variable {g:Gm} {H G:List AO} {c:TC} {s:TS}
theorem TW.cw (h:TW g H c s G) (L:List AO):objCells (G++L) (pW H g) 0=wHead g H s++(ints s.ord++[]):=oc_at h.w L
theorem TW.ltw (h:TW g H c s G):pW H g<G.length:=getElem?_lt h.w
theorem mv_of (hW:Wg g) {i:Nat} (hi:i<g.ns.length) (hk:g.ns[i].k=2):g.ns[i].i.toNat<g.is.length∧(g.ns[i].i.toNat:Int)=g.ns[i].i∧g.acts g.ns[i].i.toNat=g.ns[i].nx.length∧1≤g.ns[i].nx.length∧g.ns[i].nx.length≤10:=by
 have h1:=hW.gd.inf (List.getElem_mem hi) hk
 have h2:=hW.ty (List.getElem_mem hi) hk
 have h3:=hW.gd.e _ (List.getElem_mem hi)
 refine⟨by omega,by omega,?_,?_⟩
 · simp[Gm.acts,h2]
 · unfold Nd.err Nd.move at h3
   rw[if_neg (by omega),if_neg (by omega),if_pos hk]at h3
   split at h3
   · omega
   · omega
theorem ch_of (hW:Wg g) {i:Nat} (hi:i<g.ns.length) (hk:g.ns[i].k=1):g.ns[i].ws.length=g.ns[i].nx.length∧1≤g.ns[i].nx.length∧g.ns[i].nx.length≤60∧∀ w∈g.ns[i].ws,1≤w∧w≤1000:=by
 have h3:=hW.gd.e _ (List.getElem_mem hi)
 unfold Nd.err Nd.chance at h3
 rw[if_neg (by omega),if_pos hk]at h3
 split at h3
 · omega
 · rename_i hn
   refine⟨by omega,by omega,by omega,fun w hw => ?_⟩
   unfold within at h3
   split at h3
   · omega
   · rename_i ha
     simp only[List.any_eq_true,not_exists,not_and,outR,Bool.or_eq_true,decide_eq_true_eq]at ha
     have:=ha w hw
     omega
theorem en_of (hW:Wg g) {i:Nat} (hi:i<g.ns.length) (hk:g.ns[i].k=3):g.ns[i].nx=[]∧(g.ns[i].ps.length:Int)=g.pl∧∀ w∈g.ns[i].ps,-1000000≤w∧w≤1000000:=by
 have h3:=hW.gd.e _ (List.getElem_mem hi)
 unfold Nd.err Nd.end at h3
 rw[if_neg (by omega),if_neg (by omega),if_neg (by omega)]at h3
 split at h3
 · omega
 · rename_i hn
   refine⟨List.eq_nil_of_length_eq_zero (by omega),by omega,fun w hw => ?_⟩
   unfold within at h3
   split at h3
   · omega
   · rename_i ha
     simp only[List.any_eq_true,not_exists,not_and,outR,Bool.or_eq_true,decide_eq_true_eq]at ha
     have:=ha w hw
     omega
theorem kd_of (hW:Wg g) {i:Nat} (hi:i<g.ns.length):g.ns[i].k=1∨g.ns[i].k=2∨g.ns[i].k=3:=by
 have h3:=hW.gd.e _ (List.getElem_mem hi)
 unfold Nd.err at h3
 split at h3
 · omega
 · omega
set_option maxRecDepth 10000 in
theorem ok70 (hW:Wg g) (h:TW g H c s G) (L:List AO) {i k:Nat} (hi:i<g.ns.length) (hk:k<g.ns[i].nx.length) :
 Ok Try.prog 70 [.ptr (.own (pW H g) 0 0 0 0) 0,i64 i,i64 k] (G++L) (.ret (.tup [i64 (brP g s.S i k),i64 (brW g c.M i)])) (G++L):=by
 have hw:=h.cw L
 have hlt:=h.ltw
 refine ok_fn hm Try.func70 c70 (by simp[show pW H g<G.length+L.length by omega]) fun hcl => ?_
 have hx:g.ns[i]? = some g.ns[i]:=List.getElem?_eq_getElem hi
 have hn:=hW.gd.n
 have hg3:g.ns[i].k=1∨g.ns[i].k=2:=by
  rcases kd_of hW hi with h | h | h
  · exact .inl h
  · exact .inr h
  · have:=(en_of hW hi h).1
    rw[this]at hk; simp at hk
 rcases hg3 with hk1 | hk2
 · obtain⟨a1,a2,a3,a4⟩:=ch_of hW hi hk1
   have hm0:=oc_at h.m L
   have hmi:i<c.M.length:=by rw[h.l.M]; exact hi
   have e1:brP g s.S i k=g.ns[i].ws.getD k 0:=by simp[brP,hx,hk1]
   have e2:brW g c.M i=c.M.getD i 0:=by simp[brW,hx,hk1]
   have hkw:k<g.ns[i].ws.length:=by omega
   rw[e1,e2]
   simp -implicitDefEqProofs[i70,r70,hw,wHead,hi,nd0 hi,nd4 hi,nds_len,hk1,hkw,hm0,hmi,ints_at hmi]
   repeat (refine⟨by omega,?_⟩)
   exact cv_id
 · obtain⟨a1,a2,a3,a4,a5⟩:=mv_of hW hi hk2
   have hso:=oc_at h.so L
   have hs:=oc_at (h.ss _ a1) L
   have hl:=h.l.S _ a1
   have e1:brP g s.S i k=(s.S g.ns[i].i.toNat).getD k 0:=by simp[brP,hx,hk2]
   have e2:brW g c.M i=65536:=by simp[brW,hx,hk2]
   have hks:k<(s.S g.ns[i].i.toNat).length:=by omega
   rw[e1,e2]
   simp -implicitDefEqProofs[i70,r70,hw,wHead,hi,nd0 hi,nd2 hi,nds_len,hk2,hso,outs_get a1,a1,hs,hks,ints_at hks,a3,hk]
   repeat (refine⟨by omega,?_⟩)
   exact cv_id
end
end Go.Proofs.Ytogjmpkehjfecaa.Rc
namespace Go.Proofs.Ytogjmpkehjfecaa.Rc
open Go.Ab Go.Ab.Shr
def accQ (g:Gm) (S:Nat->List Int) (V nx:List Int) (i q:Nat):Nat->Int
 | 0=>0
 | k+1=>IntKind.i64.wrap (accQ g S V nx i q k+IntKind.i64.wrap (V.getD ((nx.getD k 0).toNat*4+q) 0*brP g S i k))
def valQ (g:Gm) (M:List Int) (S:Nat->List Int) (V:List Int) (i q:Nat):Int:=match g.ns[i]? with
 | none=>0
 | some x=>if x.k=3 then IntKind.i64.wrap (x.ps.getD q 0*1024)else IntKind.i64.wrap ((accQ g S V x.nx i q x.nx.length).tdiv (brW g M i))
def plF (g:Gm) (f:Nat->Int):Nat->Int:=fun q=>if(q:Int)<g.pl then f q else 0
def mixF (q:Nat) (a b:Nat->Int):Nat->Int:=fun x=>if x<q then a x else b x
theorem mix_0 (a b:Nat->Int):mixF 0 a b=b:=by funext x; simp[mixF]
theorem mix_put (q:Nat) (a b:Nat->Int):put (mixF q a b) q (a q)=mixF (q+1) a b:=by
 funext x
 unfold put mixF
 by_cases h1:x=q
 · subst h1; simp
 · rw[if_neg h1]
   by_cases h2:x<q
   · rw[if_pos h2,if_pos (by omega)]
   · rw[if_neg h2,if_neg (by omega)]
theorem mix_at (q:Nat) (a b:Nat->Int):mixF q a b q=b q:=by simp[mixF]
theorem mix_all {g:Gm} {n:Nat} (h:(n:Int)=g.pl) (a b:Nat->Int):mixF n (plF g a) (plF g b)=plF g a:=by
 funext x
 unfold mixF plF
 by_cases h1:x<n
 · rw[if_pos h1]
 · rw[if_neg h1,if_neg (by omega),if_neg (by omega)]
def blk4 (V:List Int) (i:Nat) (f:Nat->Int):List Int:=V.take (i*4)++(rowF 4 f++V.drop (i*4+4))
theorem blk_len {V:List Int} {i n:Nat} (hV:V.length=4*n) (hi:i<n) (f:Nat->Int):(blk4 V i f).length=4*n:=by
 simp[blk4]; omega
theorem out_row {G:List AO} (L:List AO) (f:Nat->Int):objCells (G++⟨ints (rowF 4 f),101,0,true⟩::L) G.length 0=ints (rowF 4 f):=by
 rw[objCells_new0]; exact objCells_of (o:=⟨ints (rowF 4 f),101,0,true⟩) rfl rfl
section
variable {g:Gm} {H G:List AO} {c:TC} {s:TS}
set_option maxRecDepth 10000 in
theorem tlp50_2 (hW:Wg g) (h:TW g H c s G) {i k ch:Nat} {nx:List Int} (hc:ch<g.ns.length) (hnx:nx.getD k 0=ch) {x1 x12 x53 x54:SV} {N:Nat} {K:XE->Env->List AO->Prop}
 (hexit:∀ env,env.get 0=.ptr (.own (pW H g) 0 0 0 0) 0->env.get 1=x1->env.get 5=.ptr (.own G.length 0 0 0 0) 0->env.get 12=x12->env.get 53=x53->env.get 54=x54->env.get 55=i64 k →
  K (.exit 4) env (G++[⟨ints (rowF 4 (plF g fun q=>accQ g s.S s.V nx i q (k+1))),101,0,true⟩])) :
 ∀ (m q:Nat) (env:Env),((q+m:Nat):Int)=g.pl->env.get 0=.ptr (.own (pW H g) 0 0 0 0) 0->env.get 1=x1->env.get 5=.ptr (.own G.length 0 0 0 0) 0->env.get 10=i64 ch->env.get 11=i64 (brP g s.S i k)->env.get 12=x12 →
  env.get 53=x53->env.get 54=x54->env.get 55=i64 k->env.get 71=i64 g.pl->env.get 72=i64 q →
  LI Try.prog N drawB l50_2 env (G++[⟨ints (rowF 4 (mixF q (plF g fun q=>accQ g s.S s.V nx i q (k+1)) (plF g fun q=>accQ g s.S s.V nx i q k))),101,0,true⟩]) K:=by
 intro m
 induction m with
 | zero =>
  intro q env hq h0 h1 h5 h10 h11 h12 h53 h54 h55 h71 h72
  refine li_go hm l50_2.eq_1 ?_
  simp -implicitDefEqProofs[h71,h72,show ¬ (q:Int)<g.pl by omega]
  rw[mix_all (by omega)]
  exact hexit _ (by simp[h0]) (by simp[h1]) (by simp[h5]) (by simp[h12]) (by simp[h53]) (by simp[h54]) (by simp[h55])
 | succ m ih =>
  intro q env hq h0 h1 h5 h10 h11 h12 h53 h54 h55 h71 h72
  refine li_go hm l50_2.eq_1 ?_
  have hp4:=hW.gd.p4
  have hq4:q<4:=by omega
  have hqp:(q:Int)<g.pl:=by omega
  have hw:=fun L=>h.cw L
  have hv:=fun L=>oc_at h.v L
  have hl:=h.l.V
  have hcq:ch*4+q<s.V.length:=by omega
  have hG:=h.len
  have e1:accQ g s.S s.V nx i q (k+1)=IntKind.i64.wrap (accQ g s.S s.V nx i q k+IntKind.i64.wrap (s.V.getD (ch*4+q) 0*brP g s.S i k)):=by simp only[accQ,hnx]; simp
  have e2:(plF g fun q=>accQ g s.S s.V nx i q k) q=accQ g s.S s.V nx i q k:=by simp[plF,hqp]
  have e3:(plF g fun q=>accQ g s.S s.V nx i q (k+1)) q=accQ g s.S s.V nx i q (k+1):=by simp[plF,hqp]
  have e4:∀ f:Nat->Int,(ints (rowF 4 f))[q]?.getD .any=i64 (f q):=fun f=>by rw[ints_at (by simpa using hq4),rowF_getD hq4]
  have e5:∀ (f:Nat->Int) (y:Int),List.take q (ints (rowF 4 f))++i64 y::List.drop (q+1) (ints (rowF 4 f))=ints (rowF 4 (put f q y)):=fun f y=>by rw[ints_set (by simpa using hq4),rowF_set]
  have e6:=mix_put q (plF g fun q=>accQ g s.S s.V nx i q (k+1)) (plF g fun q=>accQ g s.S s.V nx i q k)
  have eV:s.V.getD (ch*4+q) 0=s.V[ch*4+q]:=by simp[hcq]
  rw[e3,e1,eV]at e6
  have e7:=mix_at q (plF g fun q=>accQ g s.S s.V nx i q (k+1)) (plF g fun q=>accQ g s.S s.V nx i q k)
  rw[e2]at e7
  generalize mixF q (plF g fun q=>accQ g s.S s.V nx i q (k+1)) (plF g fun q=>accQ g s.S s.V nx i q k)=f at *
  have hov:=fun(f:Nat->Int)=>out_row (G:=G) [] f
  simp -implicitDefEqProofs[h0,h1,h5,h10,h11,h12,h71,h72,hqp,hw,wHead,hv,hc,hcq,hq4,hov,e4,e5,e7,rowF_get hq4]
  repeat (refine⟨by omega,?_⟩)
  rw[e6]
  refine ih (q+1) _ (by omega) ?_ ?_ ?_ ?_ ?_ ?_ ?_ ?_ ?_ ?_ ?_
  · simp
  · simp
  · simp
  · simp
  · simp
  · simp
  · simp[h53]
  · simp[h54]
  · simp[h55]
  · simp
  · simp[wrap_suc (show q<9223372036854775807 by omega)]
set_option maxRecDepth 10000 in
theorem tlp50_1 (hW:Wg g) (h:TW g H c s G) {i:Nat} (hi:i<g.ns.length) {N:Nat} {K:XE->Env->List AO->Prop}
 (hexit:∀ env,env.get 0=.ptr (.own (pW H g) 0 0 0 0) 0->env.get 1=i64 i->env.get 5=.ptr (.own G.length 0 0 0 0) 0->env.get 8=i64 (brW g c.M i) →
  K (.exit 2) env (G++[⟨ints (rowF 4 (plF g fun q=>accQ g s.S s.V g.ns[i].nx i q g.ns[i].nx.length)),101,0,true⟩])) :
 ∀ (m k:Nat) (env:Env),k+m=g.ns[i].nx.length->(k≠0->env.get 8=i64 (brW g c.M i))->(m=0->k≠0)->env.get 0=.ptr (.own (pW H g) 0 0 0 0) 0->env.get 1=i64 i->env.get 5=.ptr (.own G.length 0 0 0 0) 0 →
  env.get 53=.slc (ints g.ns[i].nx) g.ns[i].nx.length->env.get 54=i64 g.ns[i].nx.length->env.get 55=i64 k →
  LI Try.prog N drawB l50_1 env (G++[⟨ints (rowF 4 (plF g fun q=>accQ g s.S s.V g.ns[i].nx i q k)),101,0,true⟩]) K:=by
 have hnx60:g.ns[i].nx.length≤60:=nx_of (hW.gd.e _ (List.getElem_mem hi))
 intro m
 induction m with
 | zero =>
  intro k env hk h8 hk0 h0 h1 h5 h53 h54 h55
  refine li_go hm l50_1.eq_1 ?_
  have e:k=g.ns[i].nx.length:=by omega
  subst e
  simp -implicitDefEqProofs[h54,h55]
  exact hexit _ (by simp[h0]) (by simp[h1]) (by simp[h5]) (by simp[h8 (hk0 rfl)])
 | succ m ih =>
  intro k env hk h8 hk0 h0 h1 h5 h53 h54 h55
  refine li_go hm l50_1.eq_1 ?_
  have hkl:k<g.ns[i].nx.length:=by omega
  have hch:=(hW.wf.nf i hi).ch _ (List.getElem_mem hkl)
  have hw:=fun L=>h.cw L
  simp -implicitDefEqProofs[h0,h1,h5,h53,h54,h55,hkl]
  refine⟨by omega,call_go (ok70 hW h _ hi hkl) ?_⟩
  simp -implicitDefEqProofs[h0,h1,h5,h53,h54,h55,hw,wHead]
  have hcn:((g.ns[i].nx[k].toNat:Nat):Int)=g.ns[i].nx[k]:=by omega
  have e0:=mix_0 (plF g fun q=>accQ g s.S s.V g.ns[i].nx i q (k+1)) (plF g fun q=>accQ g s.S s.V g.ns[i].nx i q k)
  rw[←e0]
  have hp:=hW.gd.p1
  refine tlp50_2 hW h (i:=i) (k:=k) (ch:=g.ns[i].nx[k].toNat) (nx:=g.ns[i].nx) (by omega) (by simp[hkl,hcn]) (x1:=i64 i) (x12:=i64 (brW g c.M i)) (x53:=.slc (ints g.ns[i].nx) g.ns[i].nx.length) (x54:=i64 g.ns[i].nx.length) (fun env g0 g1 g5 g12 g53 g54 g55 => ?_) g.pl.toNat 0 _ (by omega) (by simp) (by simp) (by simp) (by simp[hcn]) (by simp) (by simp) (by simp) (by simp) (by simp) (by simp) (by simp)
  simp -implicitDefEqProofs[g0,g1,g5,g12,g53,g54,g55]
  refine ih (k+1) _ (by omega) (fun _=>by simp) (fun _=>by omega) ?_ ?_ ?_ ?_ ?_ ?_
  · simp[g0]
  · simp[g1]
  · simp[g5]
  · simp[g53]
  · simp[g54]
  · simp[wrap_suc (show k<9223372036854775807 by omega)]
set_option maxRecDepth 10000 in
theorem tlp50_3 (hW:Wg g) {d:Int} (hd:d≠0) {f:Nat->Int} {x1:SV} {N:Nat} {K:XE->Env->List AO->Prop}
 (hexit:∀ env,env.get 0=.ptr (.own (pW H g) 0 0 0 0) 0->env.get 1=x1->env.get 5=.ptr (.own G.length 0 0 0 0) 0 →
  K (.exit 6) env (G++[⟨ints (rowF 4 (plF g fun q=>IntKind.i64.wrap ((f q).tdiv d))),101,0,true⟩])) :
 ∀ (m q:Nat) (env:Env),((q+m:Nat):Int)=g.pl->env.get 0=.ptr (.own (pW H g) 0 0 0 0) 0->env.get 1=x1->env.get 5=.ptr (.own G.length 0 0 0 0) 0->env.get 8=i64 d->env.get 98=i64 g.pl->env.get 99=i64 q →
  LI Try.prog N drawB l50_3 env (G++[⟨ints (rowF 4 (mixF q (plF g fun q=>IntKind.i64.wrap ((f q).tdiv d)) (plF g f))),101,0,true⟩]) K:=by
 have hp4:=hW.gd.p4
 intro m
 induction m with
 | zero =>
  intro q env hq h0 h1 h5 h8 h98 h99
  refine li_go hm l50_3.eq_1 ?_
  simp -implicitDefEqProofs[h98,h99,show ¬ (q:Int)<g.pl by omega]
  rw[mix_all (by omega)]
  exact hexit _ (by simp[h0]) (by simp[h1]) (by simp[h5])
 | succ m ih =>
  intro q env hq h0 h1 h5 h8 h98 h99
  refine li_go hm l50_3.eq_1 ?_
  have hq4:q<4:=by omega
  have hqp:(q:Int)<g.pl:=by omega
  have e4:∀ f:Nat->Int,(ints (rowF 4 f))[q]?.getD .any=i64 (f q):=fun f=>by rw[ints_at (by simpa using hq4),rowF_getD hq4]
  have e5:∀ (f:Nat->Int) (y:Int),List.take q (ints (rowF 4 f))++i64 y::List.drop (q+1) (ints (rowF 4 f))=ints (rowF 4 (put f q y)):=fun f y=>by rw[ints_set (by simpa using hq4),rowF_set]
  have e6:=mix_put q (plF g fun q=>IntKind.i64.wrap ((f q).tdiv d)) (plF g f)
  have e3:(plF g fun q=>IntKind.i64.wrap ((f q).tdiv d)) q=IntKind.i64.wrap ((f q).tdiv d):=by simp[plF,hqp]
  rw[e3]at e6
  have e7:=mix_at q (plF g fun q=>IntKind.i64.wrap ((f q).tdiv d)) (plF g f)
  have e2:(plF g f) q=f q:=by simp[plF,hqp]
  rw[e2]at e7
  generalize mixF q (plF g fun q=>IntKind.i64.wrap ((f q).tdiv d)) (plF g f)=F at *
  have hov:=fun(f:Nat->Int)=>out_row (G:=G) [] f
  simp -implicitDefEqProofs[h0,h1,h5,h8,h98,h99,hqp,hq4,hov,e4,e5,e7,rowF_get hq4,hd]
  repeat (refine⟨by omega,?_⟩)
  rw[e6]
  refine ih (q+1) _ (by omega) ?_ ?_ ?_ ?_ ?_ ?_
  · simp[h0]
  · simp[h1]
  · simp
  · simp
  · simp
  · simp[wrap_suc (show q<9223372036854775807 by omega)]
set_option maxRecDepth 10000 in
theorem tlp50_0 (hW:Wg g) {ps:List Int} (hps:(ps.length:Int)=g.pl) {x1:SV} {N:Nat} {K:XE->Env->List AO->Prop}
 (hexit:∀ env,env.get 0=.ptr (.own (pW H g) 0 0 0 0) 0->env.get 1=x1->env.get 5=.ptr (.own G.length 0 0 0 0) 0 →
  K (.exit 0) env (G++[⟨ints (rowF 4 (plF g fun q=>IntKind.i64.wrap (ps.getD q 0*1024))),101,0,true⟩])) :
 ∀ (m q:Nat) (env:Env),((q+m:Nat):Int)=g.pl->env.get 0=.ptr (.own (pW H g) 0 0 0 0) 0->env.get 1=x1->env.get 5=.ptr (.own G.length 0 0 0 0) 0->env.get 31=.slc (ints ps) ps.length->env.get 32=i64 ps.length->env.get 33=i64 q →
  LI Try.prog N drawB l50_0 env (G++[⟨ints (rowF 4 (mixF q (plF g fun q=>IntKind.i64.wrap (ps.getD q 0*1024)) (plF g fun _=>0))),101,0,true⟩]) K:=by
 have hp4:=hW.gd.p4
 intro m
 induction m with
 | zero =>
  intro q env hq h0 h1 h5 h31 h32 h33
  refine li_go hm l50_0.eq_1 ?_
  have e:q=ps.length:=by omega
  subst e
  simp -implicitDefEqProofs[h32,h33]
  rw[mix_all (by omega)]
  exact hexit _ (by simp[h0]) (by simp[h1]) (by simp[h5])
 | succ m ih =>
  intro q env hq h0 h1 h5 h31 h32 h33
  refine li_go hm l50_0.eq_1 ?_
  have hq4:q<4:=by omega
  have hqp:(q:Int)<g.pl:=by omega
  have hql:q<ps.length:=by omega
  have e5:∀ (f:Nat->Int) (y:Int),List.take q (ints (rowF 4 f))++i64 y::List.drop (q+1) (ints (rowF 4 f))=ints (rowF 4 (put f q y)):=fun f y=>by rw[ints_set (by simpa using hq4),rowF_set]
  have e6:=mix_put q (plF g fun q=>IntKind.i64.wrap (ps.getD q 0*1024)) (plF g fun _=>0)
  have e3:(plF g fun q=>IntKind.i64.wrap (ps.getD q 0*1024)) q=IntKind.i64.wrap (ps[q]*1024):=by simp[plF,hqp,hql]
  rw[e3]at e6
  generalize mixF q (plF g fun q=>IntKind.i64.wrap (ps.getD q 0*1024)) (plF g fun _=>0)=F at *
  have hov:=fun(f:Nat->Int)=>out_row (G:=G) [] f
  simp -implicitDefEqProofs[h0,h1,h5,h31,h32,h33,hql,hq4,hov,e5]
  repeat (refine⟨by omega,?_⟩)
  rw[e6]
  refine ih (q+1) _ (by omega) ?_ ?_ ?_ ?_ ?_ ?_
  · simp[h0]
  · simp[h1]
  · simp
  · simp
  · simp
  · simp[wrap_suc (show q<9223372036854775807 by omega)]
end
end Go.Proofs.Ytogjmpkehjfecaa.Rc
namespace Go.Proofs.Ytogjmpkehjfecaa.Rc
open Go.Ab Go.Ab.Shr
structure TC.Ok (g:Gm) (c:TC):Prop where
 m:∀ i (h:i<g.ns.length),g.ns[i].k=1->0<c.M.getD i 0
 f:∀ i,i<g.is.length->0≤c.F.getD i 0∧c.F.getD i 0<g.ns.length
theorem brW_ne {g:Gm} {c:TC} (h:c.Ok g) {i:Nat} (hi:i<g.ns.length):brW g c.M i≠0:=by
 have hx:g.ns[i]? = some g.ns[i]:=List.getElem?_eq_getElem hi
 simp only[brW,hx]
 split
 · rename_i hk; have:=h.m i hi hk; omega
 · decide
section
variable {g:Gm} {H G:List AO} {c:TC} {s:TS}
theorem TW.cw0 (h:TW g H c s G):objCells G (pW H g) 0=wHead g H s++(ints s.ord++[]):=by have:=h.cw []; rwa [List.append_nil]at this
theorem TW.fin (h:TW g H c s G) {L:List AO}:Cv G.length (.tup []) (G++L) (.tup []) G:=cv_drop rfl (Nat.le_refl _) h.cl rfl
theorem blk_ints (V:List Int) (i:Nat) (f:Nat->Int):List.take (i*4) (ints V)++(ints (rowF 4 f)++List.drop (i*4+4) (ints V))=ints (blk4 V i f):=by simp[ints,blk4]
theorem fin50 (h:TW g H c s G) {i:Nat} (hi:i<g.ns.length) {f:Nat->Int} {L:List AO} :
 FinQ G.length (fun out G'=>out=.ret (.tup [])∧TW g H c { s with V:=blk4 s.V i f } G') (.tup []) (G.set (pV H g) ⟨List.take (i*4) (ints s.V)++(ints (rowF 4 f)++List.drop (i*4+4) (ints s.V)),101,1,true⟩++L):=by
 rw[blk_ints]
 have h2:=h.setV (blk_len h.l.V hi f)
 have h3:=h2.fin (L:=L)
 rw[List.length_set]at h3
 exact⟨_,_,⟨rfl,h2⟩,h3⟩
set_option maxRecDepth 10000 in
theorem ok50 (hW:Wg g) (h:TW g H c s G) (hc:c.Ok g) {i:Nat} (hi:i<g.ns.length) :
 OkP Try.prog 50 [.ptr (.own (pW H g) 0 0 0 0) 0,i64 i] G fun out G'=>out=.ret (.tup [])∧TW g H c { s with V:=blk4 s.V i (plF g (valQ g c.M s.S s.V i)) } G':=by
 have hlt:=h.ltw
 have hx:g.ns[i]? = some g.ns[i]:=List.getElem?_eq_getElem hi
 have hw:=fun L=>h.cw L
 have hw0:=h.cw0
 have hn:=hW.gd.n
 have hp:=hW.gd.p1
 have hVl:=h.l.V
 have hcv:=fun L=>oc_at h.v L
 have hsv:=fun L f=>so_at h.v L f
 refine okP_fn hm Try.func50 c50 (by simp[hlt]) fun hcl => ?_
 have hk12:g.ns[i].k≠3->1≤g.ns[i].nx.length:=fun h3=>by
  rcases kd_of hW hi with h | h | h
  · exact(ch_of hW hi h).2.1
  · exact(mv_of hW hi h).2.2.2.1
  · exact absurd h h3
 by_cases hk:g.ns[i].k≠3
 · have ep:(fun q=>IntKind.i64.wrap ((accQ g s.S s.V g.ns[i].nx i q g.ns[i].nx.length).tdiv (brW g c.M i)))=valQ g c.M s.S s.V i:=by funext q; simp[valQ,hx,hk]
   simp -implicitDefEqProofs[i50,r50,hw,hw0,wHead,hi,nd0 hi,nd3 hi,nds_len,hk]
   repeat (refine⟨by omega,?_⟩)
   have e0:[i64 0,i64 0,i64 0,i64 0]=ints (rowF 4 (plF g fun q=>accQ g s.S s.V g.ns[i].nx i q 0)):=by
    simp[accQ,plF,rowF,ints,List.range_succ]
   rw[e0]
   refine tlp50_1 hW h hi (fun env g0 g1 g5 g8 => ?_) g.ns[i].nx.length 0 _ (by omega) (fun h=>absurd rfl h) (fun h=>by have:=hk12 hk; omega) (by simp) (by simp) (by simp) (by simp) (by simp) (by simp)
   simp -implicitDefEqProofs[g0,g1,g5,g8,hw,wHead]
   have e1:=mix_0 (plF g fun q=>IntKind.i64.wrap ((accQ g s.S s.V g.ns[i].nx i q g.ns[i].nx.length).tdiv (brW g c.M i))) (plF g fun q=>accQ g s.S s.V g.ns[i].nx i q g.ns[i].nx.length)
   rw[←e1]
   refine tlp50_3 (H:=H) hW (brW_ne hc hi) (x1:=i64 i) (fun env g0 g1 g5 => ?_) g.pl.toNat 0 _ (by omega) (by simp[g0]) (by simp[g1]) (by simp[g5]) (by simp[g8]) (by simp) (by simp)
   rw[ep]
   simp -implicitDefEqProofs[g0,g1,g5,hw,wHead,out_row,hcv,hsv,hi]
   exact⟨by omega,fin50 h hi⟩
 · have hk:g.ns[i].k=3:=by omega
   obtain⟨a1,a2,a3⟩:=en_of hW hi hk
   have ep:(fun q=>IntKind.i64.wrap (g.ns[i].ps.getD q 0*1024))=valQ g c.M s.S s.V i:=by funext q; simp[valQ,hx,hk]
   simp -implicitDefEqProofs[i50,r50,hw,hw0,wHead,hi,nd0 hi,nd5 hi,nds_len,hk]
   repeat (refine⟨by omega,?_⟩)
   have e0:[i64 0,i64 0,i64 0,i64 0]=ints (rowF 4 (mixF 0 (plF g fun q=>IntKind.i64.wrap (g.ns[i].ps.getD q 0*1024)) (plF g fun _=>0))):=by
    rw[mix_0]; simp[plF,rowF,ints,List.range_succ]
   rw[e0]
   refine tlp50_0 (H:=H) hW a2 (x1:=i64 i) (fun env g0 g1 g5 => ?_) g.pl.toNat 0 _ (by omega) (by simp) (by simp) (by simp) (by simp) (by simp) (by simp)
   rw[ep]
   simp -implicitDefEqProofs[g0,g1,g5,hw,wHead,out_row,hcv,hsv,hi]
   exact⟨by omega,fin50 h hi⟩
end
end Go.Proofs.Ytogjmpkehjfecaa.Rc
namespace Go.Proofs.Ytogjmpkehjfecaa.Rc
open Go.Ab Go.Ab.Shr
theorem oc0 {G:List AO} {p:Nat} {c:List SV} {T:TypeId} {v:Nat} (h:G[p]? = some ⟨c,T,v,true⟩):objCells G p v=c:=objCells_of (o:=⟨c,T,v,true⟩) h rfl
theorem blk_get {V:List Int} {n ch i q:Nat} (hV:V.length=4*n) (hc:ch<n) (hi:i<n) (hq:q<4) (hne:i≠ch) (f:Nat->Int):(blk4 V ch f).getD (i*4+q) 0=V.getD (i*4+q) 0:=by
 simp only[List.getD_eq_getElem?_getD,blk4]
 congr 1
 by_cases hlt:i<ch
 · rw[List.getElem?_append_left (by simp; omega),List.getElem?_take_of_lt (by omega)]
 · rw[List.getElem?_append_right (by simp; omega),List.getElem?_append_right (by simp; omega),List.getElem?_drop]
   congr 1
   simp; omega
theorem blk_self {V:List Int} {n ch q:Nat} (hV:V.length=4*n) (hc:ch<n) (hq:q<4) (f:Nat->Int):(blk4 V ch f).getD (ch*4+q) 0=f q:=by
 simp only[List.getD_eq_getElem?_getD,blk4]
 rw[List.getElem?_append_right (by simp; omega),List.getElem?_append_left (by simp; omega)]
 have:ch*4+q-(List.take (ch*4) V).length=q:=by simp; omega
 rw[this,List.getElem?_eq_getElem (by simpa using hq),rowF_get hq]; rfl
theorem blk_set {V:List Int} {n ch q:Nat} (hV:V.length=4*n) (hc:ch<n) (hq:q<4) (f:Nat->Int) (y:Int):(blk4 V ch f).set (ch*4+q) y=blk4 V ch (put f q y):=by
 unfold blk4
 have e:ch*4+q-(List.take (ch*4) V).length=q:=by simp; omega
 rw[List.set_append_right _ _ (by simp; omega),e,List.set_append_left _ _ (by simp; omega),rowF_set]
theorem put_mix {q:Nat} {a b:Nat->Int} (h:a q=b q):mixF q a b=mixF (q+1) a b:=by
 rw[←mix_put]
 funext x
 unfold put
 split
 · rename_i e; subst e; rw[mix_at,h]
 · rfl
def hisQ (g:Gm) (i q:Nat):Bool:=match g.ns[i]? with
 | none=>false
 | some x=>decide (x.k=2∧x.p=q)
def rowQ (V:List Int) (i q:Nat):Int:=V.getD (i*4+q) 0
def qoF (a part whole:Int):Int:=IntKind.i64.wrap ((IntKind.i64.wrap (a*part)).tdiv whole)
def rchF (g:Gm) (own:Bool) (S:Nat->List Int) (M R:List Int) (i k q:Nat):Int :=
 if hisQ g i q=own then qoF (R.getD (i*4+q) 0) (brP g S i k) (brW g M i)else R.getD (i*4+q) 0
theorem blk_cpy {V:List Int} {n ch i:Nat} (hV:V.length=4*n) (hi:i<n):List.take (ch*4) (ints V)++(List.take 4 (List.drop (i*4) (ints V))++List.drop (ch*4+4) (ints V))=ints (blk4 V ch (rowQ V i)):=by
 have e:List.take 4 (List.drop (i*4) V)=rowF 4 (rowQ V i):=by
  apply List.ext_getElem?
  intro q
  by_cases hq:q<4
  · rw[List.getElem?_take_of_lt hq,List.getElem?_drop,List.getElem?_eq_getElem (by omega),List.getElem?_eq_getElem (by simpa using hq),rowF_get hq]
    simp[rowQ,show i*4+q<V.length by omega]
  · rw[List.getElem?_eq_none (by simp; omega),List.getElem?_eq_none (by simp; omega)]
 simp only[blk4,<- e,ints,List.map_append,List.map_take,List.map_drop]
section
variable {g:Gm} {H:List AO} {c:TC}
set_option maxRecDepth 10000 in
theorem tlp51_1 (hW:Wg g) (hc:c.Ok g) {i k ch:Nat} (hi:i<g.ns.length) (hch:ch<g.ns.length) (hne:i≠ch) {s:TS} {R O:List Int} (hR:R.length=4*g.ns.length) (hO:O.length=4*g.ns.length) {x20 x21 x22:SV} {N:Nat} {K:XE->Env->List AO->Prop}
 (hexit:∀ env G',TW g H c { s with R:=blk4 R ch (mixF g.pl.toNat (rchF g false s.S c.M R i k) (rowQ R i)),O:=blk4 O ch (mixF g.pl.toNat (rchF g true s.S c.M O i k) (rowQ O i)) } G' →
  env.get 0=.ptr (.own (pW H g) 0 0 0 0) 0->env.get 1=i64 i->env.get 4=.ptr (.slc (nds g.ns) g.ns.length) (i*6)->env.get 20=x20->env.get 21=x21->env.get 22=x22->K (.exit 2) env G') :
 ∀ (m q:Nat) (env:Env) (G:List AO),((q+m:Nat):Int)=g.pl →
  TW g H c { s with R:=blk4 R ch (mixF q (rchF g false s.S c.M R i k) (rowQ R i)),O:=blk4 O ch (mixF q (rchF g true s.S c.M O i k) (rowQ O i)) } G →
  env.get 0=.ptr (.own (pW H g) 0 0 0 0) 0->env.get 1=i64 i->env.get 4=.ptr (.slc (nds g.ns) g.ns.length) (i*6)->env.get 6=i64 ch->env.get 7=i64 (brP g s.S i k)->env.get 8=i64 (brW g c.M i)->env.get 20=x20->env.get 21=x21->env.get 22=x22->env.get 64=i64 g.pl->env.get 65=i64 q →
  LI Try.prog N drawB l51_1 env G K:=by
 have hp4:=hW.gd.p4
 have hn:=hW.gd.n
 have hx:g.ns[i]? = some g.ns[i]:=List.getElem?_eq_getElem hi
 have hwn:=brW_ne hc hi
 intro m
 induction m with
 | zero =>
  intro q env G hq h h0 h1 h4 h6 h7 h8 h20 h21 h22 h64 h65
  refine li_go hm l51_1.eq_1 ?_
  have e:q=g.pl.toNat:=by omega
  rw[e]at h
  simp -implicitDefEqProofs[h64,h65,show ¬ (q:Int)<g.pl by omega]
  exact hexit _ _ h (by simp[h0]) (by simp[h1]) (by simp[h4]) (by simp[h20]) (by simp[h21]) (by simp[h22])
 | succ m ih =>
  intro q env G hq h h0 h1 h4 h6 h7 h8 h20 h21 h22 h64 h65
  refine li_go hm l51_1.eq_1 ?_
  have hq4:q<4:=by omega
  have hqp:(q:Int)<g.pl:=by omega
  have hw:=h.cw0
  have w1:=wrap_suc (show q<9223372036854775807 by omega)
  by_cases hh:hisQ g i q=true
  · have hk:g.ns[i].k=2∧g.ns[i].p=q:=by simpa[hisQ,hx]using hh
    have eR:rchF g false s.S c.M R i k q=R.getD (i*4+q) 0:=by simp[rchF,hh]
    have eO:rchF g true s.S c.M O i k q=qoF (O.getD (i*4+q) 0) (brP g s.S i k) (brW g c.M i):=by simp[rchF,hh]
    have eP:=mix_put q (rchF g true s.S c.M O i k) (rowQ O i)
    rw[put_mix (q:=q) (a:=rchF g false s.S c.M R i k) (b:=(rowQ R i)) eR]at h
    have hO2:=oc0 h.o
    have hg:=blk_get hO hch hi hq4 hne (mixF q (rchF g true s.S c.M O i k) (rowQ O i))
    have hs:=blk_set hO hch hq4 (mixF q (rchF g true s.S c.M O i k) (rowQ O i))
    have hl:=blk_len hO hch (mixF q (rchF g true s.S c.M O i k) (rowQ O i))
    generalize hF:mixF q (rchF g true s.S c.M O i k) (rowQ O i)=F at *
    have hst:=setObj_some h.o
    have eI:(ints (blk4 O ch F))[i*4+q]?.getD .any=i64 (O.getD (i*4+q) 0):=by rw[ints_at (by omega),hg]
    have hse:∀ y:Int,List.take (ch*4+q) (ints (blk4 O ch F))++i64 y::List.drop (ch*4+q+1) (ints (blk4 O ch F))=ints (blk4 O ch (put F q y)):=fun y=>by rw[ints_set (by omega),hs]
    have hF2:=h.setO (X:=blk4 O ch (put F q (qoF (O.getD (i*4+q) 0) (brP g s.S i k) (brW g c.M i)))) (blk_len hO hch _)
    rw[←eO,eP]at hF2
    simp only[qoF]at eO
    generalize O.getD (i*4+q) 0=y at *
    simp -implicitDefEqProofs[h0,h1,h4,h6,h7,h8,h64,h65,hqp,hw,wHead,hi,nd0 hi,nd1 hi,nds_len,hk.1,hk.2,hO2,hch,hst,hq4,hl,hwn,eI,hse]
    repeat (refine⟨by omega,?_⟩)
    rw[←eO,eP]
    refine ih (q+1) _ _ (by omega) hF2 ?_ ?_ ?_ ?_ ?_ ?_ ?_ ?_ ?_ ?_ ?_
    · simp
    · simp
    · simp
    · simp
    · simp
    · simp
    · simp[h20]
    · simp[h21]
    · simp[h22]
    · simp
    · simp[w1]
  · have hh':hisQ g i q=false:=by simpa using hh
    have eR:rchF g false s.S c.M R i k q=qoF (R.getD (i*4+q) 0) (brP g s.S i k) (brW g c.M i):=by simp[rchF,hh']
    have eO:rchF g true s.S c.M O i k q=O.getD (i*4+q) 0:=by simp[rchF,hh']
    have eP:=mix_put q (rchF g false s.S c.M R i k) (rowQ R i)
    rw[put_mix (q:=q) (a:=rchF g true s.S c.M O i k) (b:=(rowQ O i)) eO]at h
    have hR2:=oc0 h.r
    have hg:=blk_get hR hch hi hq4 hne (mixF q (rchF g false s.S c.M R i k) (rowQ R i))
    have hs:=blk_set hR hch hq4 (mixF q (rchF g false s.S c.M R i k) (rowQ R i))
    have hl:=blk_len hR hch (mixF q (rchF g false s.S c.M R i k) (rowQ R i))
    generalize hF:mixF q (rchF g false s.S c.M R i k) (rowQ R i)=F at *
    have hst:=setObj_some h.r
    have eI:(ints (blk4 R ch F))[i*4+q]?.getD .any=i64 (R.getD (i*4+q) 0):=by rw[ints_at (by omega),hg]
    have hse:∀ y:Int,List.take (ch*4+q) (ints (blk4 R ch F))++i64 y::List.drop (ch*4+q+1) (ints (blk4 R ch F))=ints (blk4 R ch (put F q y)):=fun y=>by rw[ints_set (by omega),hs]
    have hF2:=h.setR (X:=blk4 R ch (put F q (qoF (R.getD (i*4+q) 0) (brP g s.S i k) (brW g c.M i)))) (blk_len hR hch _)
    rw[←eR,eP]at hF2
    simp only[qoF]at eR
    generalize R.getD (i*4+q) 0=y at *
    by_cases hk:g.ns[i].k=2
    · have hp:¬ g.ns[i].p=q:=fun e=>by simp[hisQ,hx,hk,e]at hh
      simp -implicitDefEqProofs[h0,h1,h4,h6,h7,h8,h64,h65,hqp,hw,wHead,hi,nd0 hi,nd1 hi,nds_len,hk,hp,hR2,hch,hst,hq4,hl,hwn,eI,hse]
      repeat (refine⟨by omega,?_⟩)
      rw[←eR,eP]
      refine ih (q+1) _ _ (by omega) hF2 ?_ ?_ ?_ ?_ ?_ ?_ ?_ ?_ ?_ ?_ ?_
      · simp
      · simp
      · simp
      · simp
      · simp
      · simp
      · simp[h20]
      · simp[h21]
      · simp[h22]
      · simp
      · simp[w1]
    · simp -implicitDefEqProofs[h0,h1,h4,h6,h7,h8,h64,h65,hqp,hw,wHead,hi,nd0 hi,nd1 hi,nds_len,hk,hR2,hch,hst,hq4,hl,hwn,eI,hse]
      repeat (refine⟨by omega,?_⟩)
      rw[←eR,eP]
      refine ih (q+1) _ _ (by omega) hF2 ?_ ?_ ?_ ?_ ?_ ?_ ?_ ?_ ?_ ?_ ?_
      · simp
      · simp
      · simp
      · simp
      · simp
      · simp
      · simp[h20]
      · simp[h21]
      · simp[h22]
      · simp
      · simp[w1]
def chR (g:Gm) (own:Bool) (S:Nat->List Int) (M R:List Int) (i k:Nat):List Int:=match g.ns[i]? with
 | none=>R
 | some x=>blk4 R (x.nx.getD k 0).toNat (mixF g.pl.toNat (rchF g own S M R i k) (rowQ R i))
def chsR (g:Gm) (own:Bool) (S:Nat->List Int) (M R:List Int) (i:Nat):Nat->List Int
 | 0=>R
 | k+1=>chR g own S M (chsR g own S M R i k) i k
theorem chs_len {g:Gm} (hW:Wg g) {own:Bool} {S:Nat->List Int} {M R:List Int} {i:Nat} (hi:i<g.ns.length) (hR:R.length=4*g.ns.length):∀ k,k≤g.ns[i].nx.length->(chsR g own S M R i k).length=4*g.ns.length
 | 0,_=>hR
 | k+1,hk=>by
  have hx:g.ns[i]? = some g.ns[i]:=List.getElem?_eq_getElem hi
  have h1:=chs_len hW hi hR k (by omega) (own:=own) (S:=S) (M:=M)
  have hkl:k<g.ns[i].nx.length:=by omega
  have hch:=(hW.wf.nf i hi).ch _ (List.getElem_mem hkl)
  simp only[chsR,chR,hx]
  have e:g.ns[i].nx.getD k 0=g.ns[i].nx[k]:=by simp[hkl]
  rw[e]
  exact blk_len h1 (by omega) _
set_option maxRecDepth 10000 in
theorem tlp51_0 (hW:Wg g) (hc:c.Ok g) {i:Nat} (hi:i<g.ns.length) {s:TS} {R O:List Int} (hR:R.length=4*g.ns.length) (hO:O.length=4*g.ns.length) {N:Nat} {K:XE->Env->List AO->Prop}
 (hexit:∀ env G',TW g H c { s with R:=chsR g false s.S c.M R i g.ns[i].nx.length,O:=chsR g true s.S c.M O i g.ns[i].nx.length } G'->K (.exit 0) env G') :
 ∀ (m k:Nat) (env:Env) (G:List AO),k+m=g.ns[i].nx.length →
  TW g H c { s with R:=chsR g false s.S c.M R i k,O:=chsR g true s.S c.M O i k } G →
  env.get 0=.ptr (.own (pW H g) 0 0 0 0) 0->env.get 1=i64 i->env.get 4=.ptr (.slc (nds g.ns) g.ns.length) (i*6)->env.get 20=.slc (ints g.ns[i].nx) g.ns[i].nx.length->env.get 21=i64 g.ns[i].nx.length->env.get 22=i64 k →
  LI Try.prog N drawB l51_0 env G K:=by
 have hn:=hW.gd.n
 have hnx60:g.ns[i].nx.length≤60:=nx_of (hW.gd.e _ (List.getElem_mem hi))
 have hx:g.ns[i]? = some g.ns[i]:=List.getElem?_eq_getElem hi
 have hp1:=hW.gd.p1
 have hp4:=hW.gd.p4
 intro m
 induction m with
 | zero =>
  intro k env G hk h h0 h1 h4 h20 h21 h22
  refine li_go hm l51_0.eq_1 ?_
  have e:k=g.ns[i].nx.length:=by omega
  subst e
  simp -implicitDefEqProofs[h21,h22]
  exact hexit _ _ h
 | succ m ih =>
  intro k env G hk h h0 h1 h4 h20 h21 h22
  refine li_go hm l51_0.eq_1 ?_
  have hkl:k<g.ns[i].nx.length:=by omega
  have hch:=(hW.wf.nf i hi).ch _ (List.getElem_mem hkl)
  have hcn:((g.ns[i].nx[k].toNat:Nat):Int)=g.ns[i].nx[k]:=by omega
  have hgd:g.ns[i].nx.getD k 0=g.ns[i].nx[k]:=by simp[hkl]
  have hRl:=chs_len hW hi hR k (by omega) (own:=false) (S:=s.S) (M:=c.M)
  have hOl:=chs_len hW hi hO k (by omega) (own:=true) (S:=s.S) (M:=c.M)
  have key1:chsR g false s.S c.M R i (k+1)=blk4 (chsR g false s.S c.M R i k) g.ns[i].nx[k].toNat (mixF g.pl.toNat (rchF g false s.S c.M (chsR g false s.S c.M R i k) i k) (rowQ (chsR g false s.S c.M R i k) i)):=by simp only[chsR,chR,hx,hgd]
  have key2:chsR g true s.S c.M O i (k+1)=blk4 (chsR g true s.S c.M O i k) g.ns[i].nx[k].toNat (mixF g.pl.toNat (rchF g true s.S c.M (chsR g true s.S c.M O i k) i k) (rowQ (chsR g true s.S c.M O i k) i)):=by simp only[chsR,chR,hx,hgd]
  have ih2:=fun(env:Env) (G:List AO)=>ih (k+1) env G (by omega)
  rw[key1,key2]at ih2
  generalize chsR g false s.S c.M R i k=R1 at *
  generalize chsR g true s.S c.M O i k=O1 at *
  have hw:=h.cw0
  have w1:=wrap_suc (show k<9223372036854775807 by omega)
  simp -implicitDefEqProofs[h0,h1,h4,h20,h21,h22,hkl]
  have hcall:=ok70 hW h [] hi hkl
  rw[List.append_nil]at hcall
  refine⟨by omega,call_go hcall ?_⟩
  generalize hc2:g.ns[i].nx[k].toNat=ch at *
  have hchn:ch<g.ns.length:=by omega
  rw[←hcn]
  have hR2:=oc0 h.r
  have hO2:=oc0 h.o
  have hs1:=setObj_some h.r
  have hA:=h.setR (X:=blk4 R1 ch (rowQ R1 i)) (blk_len hRl hchn _)
  have hs2:=setObj_some hA.o
  have hO3:=oc0 hA.o
  have hB:=hA.setO (X:=blk4 O1 ch (rowQ O1 i)) (blk_len hOl hchn _)
  have hw2:=hB.cw0
  have m1:min 4 (R1.length-i*4)=4:=by omega
  have m2:min 4 (O1.length-i*4)=4:=by omega
  have c1:∀ l:List Int,cellsOk (List.take 4 (List.drop (i*4) (ints l))):=fun l=>by rw[ints_drop,ints_take]; simp
  simp -implicitDefEqProofs[h0,h1,h4,h20,h21,h22,hw,hw2,wHead,hR2,hO2,hO3,hi,hchn,m1,m2,c1,hs1,hs2,blk_cpy hRl hi,blk_cpy hOl hi]
  repeat (refine⟨by omega,?_⟩)
  rw[←mix_0 (rchF g false s.S c.M R1 i k) (rowQ R1 i),<- mix_0 (rchF g true s.S c.M O1 i k) (rowQ O1 i)]at hB
  have hne:i≠ch:=by omega
  refine tlp51_1 (H:=H) hW hc (k:=k) hi hchn hne (s:=s) (R:=R1) (O:=O1) hRl hOl (x20:=.slc (ints g.ns[i].nx) g.ns[i].nx.length) (x21:=i64 g.ns[i].nx.length) (x22:=i64 k) (fun env G' hG' g0 g1 g4 g20 g21 g22 => ?_) g.pl.toNat 0 _ _ (by omega) ?_ (by simp) (by simp) (by simp) (by simp) (by simp) (by simp) (by simp) (by simp) (by simp) (by simp) (by simp)
  · simp -implicitDefEqProofs[g0,g1,g4,g20,g21,g22]
    refine ih2 _ _ hG' ?_ ?_ ?_ ?_ ?_ ?_
    · simp[g0]
    · simp[g1]
    · simp[g4]
    · simp[g20]
    · simp[g21]
    · simp[w1]
  · rw[mix_0,mix_0]at hB ⊢
    exact hB
set_option maxRecDepth 10000 in
theorem ok51 (hW:Wg g) (hc:c.Ok g) {s:TS} {G:List AO} (h:TW g H c s G) {i:Nat} (hi:i<g.ns.length) :
 OkP Try.prog 51 [.ptr (.own (pW H g) 0 0 0 0) 0,i64 i] G fun out G'=>out=.ret (.tup [])∧TW g H c { s with R:=chsR g false s.S c.M s.R i g.ns[i].nx.length,O:=chsR g true s.S c.M s.O i g.ns[i].nx.length } G':=by
 have hlt:=h.ltw
 have hn:=hW.gd.n
 have hw:=h.cw0
 refine okP_fn hm Try.func51 c51 (by simp[hlt]) fun hcl => ?_
 simp -implicitDefEqProofs[i51,r51,hw,wHead,hi,nd3 hi,nds_len]
 repeat (refine⟨by omega,?_⟩)
 refine tlp51_0 (H:=H) hW hc hi (s:=s) (R:=s.R) (O:=s.O) h.l.R h.l.O (fun env G' hG' => ?_) g.ns[i].nx.length 0 _ _ (by omega) h (by simp) (by simp) (by simp) (by simp) (by simp) (by simp)
 simp -implicitDefEqProofs
 exact⟨_,_,⟨rfl,hG'⟩,cv_id⟩
end
end Go.Proofs.Ytogjmpkehjfecaa.Rc
namespace Go.Proofs.Ytogjmpkehjfecaa.Rc
open Go.Ab Go.Ab.Shr
def upA (A:Nat->List Int) (j:Nat) (X:List Int):Nat->List Int:=fun k=>if k=j then X else A k
theorem upA_self (A:Nat->List Int) (j:Nat) (X:List Int):upA A j X j=X:=by simp[upA]
theorem upA_up (A:Nat->List Int) (j:Nat) (X Y:List Int):upA (upA A j X) j Y=upA A j Y:=by funext k; simp only[upA]; split<;>rfl
theorem upA_id (A:Nat->List Int) (j:Nat):upA A j (A j)=A:=by funext k; simp only[upA]; split; rename_i e; rw[e]; rfl
theorem rowF_self (l:List Int):rowF l.length (fun a=>l.getD a 0)=l:=by
 apply List.ext_getElem?
 intro j
 by_cases h:j<l.length
 · rw[List.getElem?_eq_getElem (by simpa using h),rowF_get h,List.getElem?_eq_getElem h]; simp[h]
 · rw[List.getElem?_eq_none (by simp; omega),List.getElem?_eq_none (by omega)]
theorem mp_of {g:Gm} (hW:Wg g) {i:Nat} (hi:i<g.ns.length) (hk:g.ns[i].k=2):0≤g.ns[i].p∧g.ns[i].p<g.pl:=by
 have h3:=hW.gd.e _ (List.getElem_mem hi)
 unfold Nd.err Nd.move at h3
 rw[if_neg (by omega),if_neg (by omega),if_pos hk]at h3
 split at h3
 · omega
 · split at h3
   · rename_i h4; exact absurd h3 h4
   · rename_i h4
     rw[within1]at h4
     split at h4
     · exact absurd (by decide) h4
     · omega
def dltA (g:Gm) (V R:List Int) (i a:Nat):Int:=match g.ns[i]? with
 | none=>0
 | some x=>IntKind.i64.wrap ((IntKind.i64.wrap (R.getD (i*4+x.p.toNat) 0*IntKind.i64.wrap (V.getD ((x.nx.getD a 0).toNat*4+x.p.toNat) 0-V.getD (i*4+x.p.toNat) 0))).tdiv 1073741824)
def lrnA (g:Gm) (V R:List Int) (A:Nat->List Int) (i:Nat):Nat->List Int:=match g.ns[i]? with
 | none=>A
 | some x=>if x.k=2 then upA A x.i.toNat (rowF x.nx.length fun a=>IntKind.i64.wrap ((A x.i.toNat).getD a 0+dltA g V R i a))else A
section
variable {g:Gm} {H G:List AO} {c:TC} {s:TS}
theorem TW.setA (h:TW g H c s G) {j:Nat} (hj:j<g.is.length) {X:List Int} (hX:X.length=g.acts j):TW g H c { s with A:=upA s.A j X } (G.set (pA H g j) ⟨ints X,3,1,true⟩):=by
 have hlt:=getElem?_lt (h.a j hj)
 have ne:∀ {k:Nat} {x:Option AO},pA H g j≠k->G[k]? = x->(G.set (pA H g j) ⟨ints X,3,1,true⟩)[k]? = x:=fun hn hx=>by rw[List.getElem?_set_ne hn]; exact hx
 constructor
 case l=>exact⟨fun i hi=>by simp only[upA]; split; rename_i e; rw[e]; exact hX; exact h.l.A i hi,h.l.P,h.l.S,h.l.V,h.l.R,h.l.O,h.l.ord,h.l.M,h.l.F⟩
 case len=>simpa using h.len
 case cl=>exact closed_set h.cl _ (by simp)
 case a => intro i hi; by_cases e : i = j
           · subst e; rw[List.getElem?_set_self hlt]; simp[upA]
           · simp only[upA,if_neg e]; exact ne (by unfold pA; omega) (h.a i hi)
 case low=>intro i hi; exact ne (by unfold pA; omega) (h.low i hi)
 case p=>intro i hi; exact ne (by unfold pA pP; omega) (h.p i hi)
 case ss=>intro i hi; exact ne (by unfold pA pS; omega) (h.ss i hi)
 case w=>exact ne (by unfold pA pW; omega) h.w
 case m=>exact ne (by unfold pA pM; omega) h.m
 case f=>exact ne (by unfold pA pF; omega) h.f
 case ao=>exact ne (by unfold pA pAo; omega) h.ao
 case po=>exact ne (by unfold pA pPo; omega) h.po
 case so=>exact ne (by unfold pA pSo; omega) h.so
 case v=>exact ne (by unfold pA pV; omega) h.v
 case r=>exact ne (by unfold pA pR; omega) h.r
 case o=>exact ne (by unfold pA pO; omega) h.o
theorem TW.setP (h:TW g H c s G) {j:Nat} (hj:j<g.is.length) {X:List Int} (hX:X.length=g.acts j):TW g H c { s with P:=upA s.P j X } (G.set (pP H g j) ⟨ints X,3,1,true⟩):=by
 have hlt:=getElem?_lt (h.p j hj)
 have ne:∀ {k:Nat} {x:Option AO},pP H g j≠k->G[k]? = x->(G.set (pP H g j) ⟨ints X,3,1,true⟩)[k]? = x:=fun hn hx=>by rw[List.getElem?_set_ne hn]; exact hx
 constructor
 case l=>exact⟨h.l.A,fun i hi=>by simp only[upA]; split; rename_i e; rw[e]; exact hX; exact h.l.P i hi,h.l.S,h.l.V,h.l.R,h.l.O,h.l.ord,h.l.M,h.l.F⟩
 case len=>simpa using h.len
 case cl=>exact closed_set h.cl _ (by simp)
 case p => intro i hi; by_cases e : i = j
           · subst e; rw[List.getElem?_set_self hlt]; simp[upA]
           · simp only[upA,if_neg e]; exact ne (by unfold pP; omega) (h.p i hi)
 case low=>intro i hi; exact ne (by unfold pP; omega) (h.low i hi)
 case a=>intro i hi; exact ne (by unfold pA pP; omega) (h.a i hi)
 case ss=>intro i hi; exact ne (by unfold pP pS; omega) (h.ss i hi)
 case w=>exact ne (by unfold pP pW; omega) h.w
 case m=>exact ne (by unfold pP pM; omega) h.m
 case f=>exact ne (by unfold pP pF; omega) h.f
 case ao=>exact ne (by unfold pP pAo; omega) h.ao
 case po=>exact ne (by unfold pP pPo; omega) h.po
 case so=>exact ne (by unfold pP pSo; omega) h.so
 case v=>exact ne (by unfold pP pV; omega) h.v
 case r=>exact ne (by unfold pP pR; omega) h.r
 case o=>exact ne (by unfold pP pO; omega) h.o
set_option maxRecDepth 10000 in
theorem tlp52_0 (hW:Wg g) {i:Nat} (hi:i<g.ns.length) (hk:g.ns[i].k=2) {A:Nat->List Int} (hA:(A g.ns[i].i.toNat).length=g.ns[i].nx.length) {N:Nat} {K:XE->Env->List AO->Prop}
 (hexit:∀ env G',TW g H c { s with A:=upA A g.ns[i].i.toNat (rowF g.ns[i].nx.length fun a=>IntKind.i64.wrap ((A g.ns[i].i.toNat).getD a 0+dltA g s.V s.R i a)) } G'->K (.exit 0) env G') :
 ∀ (m a:Nat) (env:Env) (G:List AO),a+m=g.ns[i].nx.length →
  TW g H c { s with A:=upA A g.ns[i].i.toNat (rowF g.ns[i].nx.length (mixF a (fun a=>IntKind.i64.wrap ((A g.ns[i].i.toNat).getD a 0+dltA g s.V s.R i a)) fun a=>(A g.ns[i].i.toNat).getD a 0)) } G →
  env.get 0=.ptr (.own (pW H g) 0 0 0 0) 0->env.get 1=i64 i->env.get 5=.own (pA H g g.ns[i].i.toNat) 0 g.ns[i].nx.length 1 1->env.get 6=i64 g.ns[i].p->env.get 39=.slc (ints g.ns[i].nx) g.ns[i].nx.length->env.get 40=i64 g.ns[i].nx.length->env.get 41=i64 a →
  LI Try.prog N drawB l52_0 env G K:=by
 have hn:=hW.gd.n
 have hx:g.ns[i]? = some g.ns[i]:=List.getElem?_eq_getElem hi
 obtain⟨a1,a2,a3,a4,a5⟩:=mv_of hW hi hk
 obtain⟨p1,p2⟩:=mp_of hW hi hk
 have hp4:=hW.gd.p4
 have hpn:((g.ns[i].p.toNat:Nat):Int)=g.ns[i].p:=by omega
 intro m
 induction m with
 | zero =>
  intro a env G ha h h0 h1 h5 h6 h39 h40 h41
  refine li_go hm l52_0.eq_1 ?_
  have e:a=g.ns[i].nx.length:=by omega
  subst e
  simp -implicitDefEqProofs[h40,h41]
  refine hexit _ _ ?_
  have e2:rowF g.ns[i].nx.length (mixF g.ns[i].nx.length (fun a=>IntKind.i64.wrap ((A g.ns[i].i.toNat).getD a 0+dltA g s.V s.R i a)) fun a=>(A g.ns[i].i.toNat).getD a 0)=rowF g.ns[i].nx.length fun a=>IntKind.i64.wrap ((A g.ns[i].i.toNat).getD a 0+dltA g s.V s.R i a):=by
   unfold rowF
   apply List.map_congr_left
   intro x hx
   simp only[List.mem_range]at hx
   simp only[mixF,if_pos hx]
  rw[e2]at h
  exact h
 | succ m ih =>
  intro a env G ha h h0 h1 h5 h6 h39 h40 h41
  refine li_go hm l52_0.eq_1 ?_
  have hal:a<g.ns[i].nx.length:=by omega
  have hch:=(hW.wf.nf i hi).ch _ (List.getElem_mem hal)
  have hcn:((g.ns[i].nx[a].toNat:Nat):Int)=g.ns[i].nx[a]:=by omega
  have hw:=h.cw0
  have hr:=oc0 h.r
  have hv:=oc0 h.v
  have hra:=oc0 (h.a _ a1)
  have hst:=setObj_some (h.a _ a1)
  have eD:dltA g s.V s.R i a=IntKind.i64.wrap ((IntKind.i64.wrap (s.R.getD (i*4+g.ns[i].p.toNat) 0*IntKind.i64.wrap (s.V.getD (g.ns[i].nx[a].toNat*4+g.ns[i].p.toNat) 0-s.V.getD (i*4+g.ns[i].p.toNat) 0))).tdiv 1073741824):=by simp[dltA,hx,hal]
  have eP:=mix_put a (fun a=>IntKind.i64.wrap ((A g.ns[i].i.toNat).getD a 0+dltA g s.V s.R i a)) fun a=>(A g.ns[i].i.toNat).getD a 0
  have eM:=mix_at a (fun a=>IntKind.i64.wrap ((A g.ns[i].i.toNat).getD a 0+dltA g s.V s.R i a)) fun a=>(A g.ns[i].i.toNat).getD a 0
  have hA2:=h.setA a1 (X:=rowF g.ns[i].nx.length (mixF (a+1) (fun a=>IntKind.i64.wrap ((A g.ns[i].i.toNat).getD a 0+dltA g s.V s.R i a)) fun a=>(A g.ns[i].i.toNat).getD a 0)) (by simp[a3])
  have w1:=wrap_suc (show a<9223372036854775807 by omega)
  have hlV:=h.l.V
  have hlR:=h.l.R
  simp only[upA_self]at hra hst
  simp only[upA_up]at hA2
  rw[←eP]at hA2
  have ih2:=fun(env:Env) (G:List AO)=>ih (a+1) env G (by omega)
  rw[←eP]at ih2
  generalize mixF a (fun a=>IntKind.i64.wrap ((A g.ns[i].i.toNat).getD a 0+dltA g s.V s.R i a)) (fun a=>(A g.ns[i].i.toNat).getD a 0)=F at *
  have e3:∀ y:Int,List.take a (ints (rowF g.ns[i].nx.length F))++i64 y::List.drop (a+1) (ints (rowF g.ns[i].nx.length F))=ints (rowF g.ns[i].nx.length (put F a y)):=fun y=>by rw[ints_set (by simpa using hal),rowF_set]
  have e4:(ints (rowF g.ns[i].nx.length F))[a]?.getD .any=i64 (F a):=by rw[ints_at (by simpa using hal),rowF_getD hal]
  have b1:i*4+g.ns[i].p.toNat<s.R.length:=by simp only at hlR; omega
  have b2:i*4+g.ns[i].p.toNat<s.V.length:=by simp only at hlV; omega
  have b3:g.ns[i].nx[a].toNat*4+g.ns[i].p.toNat<s.V.length:=by simp only at hlV; omega
  simp only at hr hv
  have eV1:s.V.getD (g.ns[i].nx[a].toNat*4+g.ns[i].p.toNat) 0=s.V[g.ns[i].nx[a].toNat*4+g.ns[i].p.toNat]:=by simp[b3]
  have eV2:s.V.getD (i*4+g.ns[i].p.toNat) 0=s.V[i*4+g.ns[i].p.toNat]:=by simp[b2]
  have eR1:s.R.getD (i*4+g.ns[i].p.toNat) 0=s.R[i*4+g.ns[i].p.toNat]:=by simp[b1]
  rw[eV1,eV2,eR1]at eD
  simp -implicitDefEqProofs[h0,h1,h5,h6,h39,h40,h41,hal,hw,hr,hv,hra,wHead,hi,b1,b2,b3,hst,e3,e4,rowF_get hal]
  repeat (refine⟨by omega,?_⟩)
  rw[←eD,eM]
  refine ih2 _ _ hA2 ?_ ?_ ?_ ?_ ?_ ?_ ?_
  · simp
  · simp
  · simp
  · simp
  · simp
  · simp
  · simp[w1]
set_option maxRecDepth 10000 in
theorem ok52 (hW:Wg g) (h:TW g H c s G) {i:Nat} (hi:i<g.ns.length) :
 OkP Try.prog 52 [.ptr (.own (pW H g) 0 0 0 0) 0,i64 i] G fun out G'=>out=.ret (.tup [])∧TW g H c { s with A:=lrnA g s.V s.R s.A i } G':=by
 have hlt:=h.ltw
 have hn:=hW.gd.n
 have hw:=h.cw0
 have hx:g.ns[i]? = some g.ns[i]:=List.getElem?_eq_getElem hi
 refine okP_fn hm Try.func52 c52 (by simp[hlt]) fun hcl => ?_
 by_cases hk:g.ns[i].k=2
 · obtain⟨a1,a2,a3,a4,a5⟩:=mv_of hW hi hk
   obtain⟨p1,p2⟩:=mp_of hW hi hk
   have hao:=oc0 h.ao
   have e:lrnA g s.V s.R s.A i=upA s.A g.ns[i].i.toNat (rowF g.ns[i].nx.length fun a=>IntKind.i64.wrap ((s.A g.ns[i].i.toNat).getD a 0+dltA g s.V s.R i a)):=by simp only[lrnA,hx,if_pos hk]
   have hl:(s.A g.ns[i].i.toNat).length=g.ns[i].nx.length:=by rw[h.l.A _ a1,a3]
   simp -implicitDefEqProofs[i52,r52,hw,wHead,hi,nd0 hi,nd1 hi,nd2 hi,nd3 hi,nds_len,hk,hao,outs_get a1,a1,a2,a3]
   repeat (refine⟨by omega,?_⟩)
   rw[e]
   have h0:TW g H c { s with A:=upA s.A g.ns[i].i.toNat (rowF g.ns[i].nx.length (mixF 0 (fun a=>IntKind.i64.wrap ((s.A g.ns[i].i.toNat).getD a 0+dltA g s.V s.R i a)) fun a=>(s.A g.ns[i].i.toNat).getD a 0)) } G:=by
    rw[mix_0,<- hl,rowF_self,upA_id]; exact h
   refine tlp52_0 (s:=s) hW hi hk hl (fun env G' hG' => ?_) g.ns[i].nx.length 0 _ _ (by omega) h0 (by simp) (by simp) (by simp) (by simp) (by simp) (by simp) (by simp)
   simp -implicitDefEqProofs
   exact⟨_,_,⟨rfl,hG'⟩,cv_id⟩
 · have e:lrnA g s.V s.R s.A i=s.A:=by simp only[lrnA,hx,if_neg hk]
   rw[e]
   simp -implicitDefEqProofs[i52,r52,hw,wHead,hi,nd0 hi,nds_len,hk]
   repeat (refine⟨by omega,?_⟩)
   exact⟨_,_,⟨rfl,h⟩,cv_id⟩
end
end Go.Proofs.Ytogjmpkehjfecaa.Rc
namespace Go.Proofs.Ytogjmpkehjfecaa.Rc
open Go.Ab Go.Ab.Shr
def okAt (s:TS) (i a:Nat):Prop:=¬ (s.A i).getD a 0 < -70368744177664∧¬ 70368744177664<(s.A i).getD a 0∧¬ 70368744177664<(s.P i).getD a 0
def okTS (g:Gm) (s:TS):Prop:=∀ i,i<g.is.length->∀ a,a<g.acts i->okAt s i a
def panV:SV:=.ifc 64 (.agg [i64 5])
theorem occ_head {s:Nat}:∀ {l:List Nd} {o:Nat} {a:Int} {r:List Int},occ s l o=a::r->∃ t,∃ ht:t<l.length,a=((o+t:Nat):Int)∧l[t].k=2∧l[t].i.toNat=s∧∀ u (hu:u<t),¬ (l[u].k=2∧l[u].i.toNat=s)
 | [],o,a,r,h=>by simp[occ]at h
 | x::l,o,a,r,h=>by
  unfold occ at h
  by_cases hc:x.k=2∧x.i.toNat=s
  · rw[if_pos hc]at h
    cases h
    exact⟨0,by simp,by simp,hc.1,hc.2,fun u hu=>by omega⟩
  · rw[if_neg hc]at h
    obtain⟨t,ht,h1,h2,h3,h4⟩:=occ_head h
    refine⟨t+1,by simp; omega,by rw[h1]; congr 1; omega,by simpa using h2,by simpa using h3,fun u hu => ?_⟩
    cases u with
    | zero=>simpa using hc
    | succ u=>simpa using h4 u (by omega)
theorem fn_of {g:Gm} (hW:Wg g) {i:Nat} (hi:i<g.is.length):∃ t,∃ ht:t<g.ns.length,(g.sets.getD i []).head? = some (t:Int)∧g.ns[t].k=2∧g.ns[t].i.toNat=i∧∀ u (hu:u<t),¬ (g.ns[u].k=2∧g.ns[u].i.toNat=i):=by
 have hl:i<g.sets.length:=by rw[sets_len]; exact hi
 have h0:=hW.ne i hl
 rw[sets_occ hl]at h0
 cases h:occ i g.ns 0 with
 | nil=>exact absurd h h0
 | cons a r =>
  obtain⟨t,ht,h1,h2,h3,h4⟩:=occ_head h
  refine⟨t,ht,?_,h2,h3,h4⟩
  rw[sets_at hi,h,h1]
  simp
theorem acts_le {g:Gm} (hW:Wg g) {i:Nat} (hi:i<g.is.length):1≤g.acts i∧g.acts i≤10:=by
 obtain⟨t,ht,_,h2,h3,_⟩:=fn_of hW hi
 obtain⟨a1,a2,a3,a4,a5⟩:=mv_of hW ht h2
 rw[h3]at a3
 omega
section
variable {g:Gm} {H G:List AO} {c:TC} {s:TS}
set_option maxRecDepth 10000 in
theorem tlp53_1 (hW:Wg g) (h:TW g H c s G) {i:Nat} (hi:i<g.is.length) {x10:SV} {N:Nat} {K:XE->Env->List AO->Prop}
 (hpan:¬ okTS g s->∀ env,K (.panic panV) env G)
 (hexit:(∀ a,a<g.acts i->okAt s i a)->∀ env,env.get 0=.ptr (.own (pW H g) 0 0 0 0) 0->env.get 10=x10->env.get 11=i64 i->K (.exit 2) env G) :
 ∀ (m a:Nat) (env:Env),a+m=g.acts i->(∀ b,b<a->okAt s i b)->env.get 0=.ptr (.own (pW H g) 0 0 0 0) 0->env.get 2=i64 i->env.get 10=x10->env.get 11=i64 i →
  env.get 21=.own (pA H g i) 0 (g.acts i) 1 1->env.get 22=i64 (g.acts i)->env.get 23=i64 a->LI Try.prog N drawB l53_1 env G K:=by
 have hac:=acts_le hW hi
 intro m
 induction m with
 | zero =>
  intro a env ha hb h0 h2 h10 h11 h21 h22 h23
  refine li_go hm l53_1.eq_1 ?_
  have e:a=g.acts i:=by omega
  subst e
  simp -implicitDefEqProofs[h22,h23]
  exact hexit hb _ (by simp[h0]) (by simp[h10]) (by simp[h11])
 | succ m ih =>
  intro a env ha hb h0 h2 h10 h11 h21 h22 h23
  refine li_go hm l53_1.eq_1 ?_
  have hal:a<g.acts i:=by omega
  have hw:=h.cw0
  have hA:=oc0 (h.a _ hi)
  have hP:=oc0 (h.p _ hi)
  have hpo:=oc0 h.po
  have lA:=h.l.A _ hi
  have lP:=h.l.P _ hi
  have bA:a<(s.A i).length:=by omega
  have bP:a<(s.P i).length:=by omega
  have gA:(s.A i).getD a 0=(s.A i)[a]:=by simp[bA]
  have gP:(s.P i).getD a 0=(s.P i)[a]:=by simp[bP]
  have bad:¬ okAt s i a->¬ okTS g s:=fun hn hk=>hn (hk i hi a hal)
  have w1:=wrap_suc (show a<9223372036854775807 by omega)
  by_cases c1:(s.A i)[a] < -70368744177664
  · simp -implicitDefEqProofs[h0,h2,h10,h11,h21,h22,h23,hal,hw,hA,hP,hpo,wHead,bA,bP,c1,outs_get hi,hi]
    repeat (refine⟨by omega,?_⟩)
    exact hpan (bad fun h=>h.1 (by rw[gA]; exact c1)) _
  · by_cases c2:70368744177664<(s.A i)[a]
    · simp -implicitDefEqProofs[h0,h2,h10,h11,h21,h22,h23,hal,hw,hA,hP,hpo,wHead,bA,bP,c1,c2,outs_get hi,hi]
      repeat (refine⟨by omega,?_⟩)
      exact hpan (bad fun h=>h.2.1 (by rw[gA]; exact c2)) _
    · by_cases c3:70368744177664<(s.P i)[a]
      · simp -implicitDefEqProofs[h0,h2,h10,h11,h21,h22,h23,hal,hw,hA,hP,hpo,wHead,bA,bP,c1,c2,c3,outs_get hi,hi]
        repeat (refine⟨by omega,?_⟩)
        exact hpan (bad fun h=>h.2.2 (by rw[gP]; exact c3)) _
      · simp -implicitDefEqProofs[h0,h2,h10,h11,h21,h22,h23,hal,hw,hA,hP,hpo,wHead,bA,bP,c1,c2,c3,outs_get hi,hi]
        repeat (refine⟨by omega,?_⟩)
        refine ih (a+1) _ (by omega) (fun b hb' => ?_) ?_ ?_ ?_ ?_ ?_ ?_ ?_
        rotate_left
        · simp
        · simp
        · simp[h10]
        · simp[h11]
        · simp
        · simp
        · simp[w1]
        by_cases e:b=a
        · subst e; exact⟨by rw[gA]; exact c1,by rw[gA]; exact c2,by rw[gP]; exact c3⟩
        · exact hb b (by omega)
set_option maxRecDepth 10000 in
theorem tlp53_0 (hW:Wg g) (h:TW g H c s G) {N:Nat} {K:XE->Env->List AO->Prop}
 (hpan:¬ okTS g s->∀ env,K (.panic panV) env G) (hexit:okTS g s->∀ env,K (.exit 0) env G) :
 ∀ (m i:Nat) (env:Env),i+m=g.is.length->(∀ j,j<i->∀ a,a<g.acts j->okAt s j a)->env.get 0=.ptr (.own (pW H g) 0 0 0 0) 0->env.get 10=i64 g.is.length->env.get 11=i64 i->LI Try.prog N drawB l53_0 env G K:=by
 have hil:=hW.gd.i
 intro m
 induction m with
 | zero =>
  intro i env ha hb h0 h10 h11
  refine li_go hm l53_0.eq_1 ?_
  have e:i=g.is.length:=by omega
  subst e
  simp -implicitDefEqProofs[h10,h11]
  exact hexit hb _
 | succ m ih =>
  intro i env ha hb h0 h10 h11
  refine li_go hm l53_0.eq_1 ?_
  have hi:i<g.is.length:=by omega
  have hw:=h.cw0
  have hao:=oc0 h.ao
  have w1:=wrap_suc (show i<9223372036854775807 by omega)
  have hac:=acts_le hW hi
  simp -implicitDefEqProofs[h0,h10,h11,hi,hw,hao,wHead,outs_get hi]
  repeat (refine⟨by omega,?_⟩)
  refine tlp53_1 hW h hi (x10:=i64 g.is.length) (fun hn env => ?_) (fun hk env g0 g10 g11 => ?_) (g.acts i) 0 _ (by omega) (fun b hb=>by omega) (by simp) (by simp) (by simp[h10]) (by simp[h11]) (by simp) (by simp) (by simp)
  · exact hpan hn _
  · simp -implicitDefEqProofs[g0,g10,g11]
    refine ih (i+1) _ (by omega) (fun j hj => ?_) ?_ ?_ ?_
    rotate_left
    · simp[g0]
    · simp[g10]
    · simp[w1]
    by_cases e:j=i
    · subst e; exact hk
    · exact hb j (by omega)
theorem ok53 (hW:Wg g) (h:TW g H c s G) :
 OkP Try.prog 53 [.ptr (.own (pW H g) 0 0 0 0) 0] G fun out G'=>G'=G∧((okTS g s∧out=.ret (.tup []))∨(¬ okTS g s∧out=.pan panV)):=by
 have hlt:=h.ltw
 have hw:=h.cw0
 refine okP_fn hm Try.func53 c53 (by simp[hlt]) fun hcl => ?_
 simp -implicitDefEqProofs[i53,r53,hw,wHead]
 refine tlp53_0 hW h (fun hn env => ?_) (fun hk env => ?_) g.is.length 0 _ (by omega) (fun j hj=>by omega) (by simp) (by simp) (by simp)
 · simp -implicitDefEqProofs
   exact⟨_,_,⟨rfl,.inr ⟨hn,rfl⟩⟩,cv_id⟩
 · simp -implicitDefEqProofs
   exact⟨_,_,⟨rfl,.inl ⟨hk,rfl⟩⟩,cv_id⟩
end
end Go.Proofs.Ytogjmpkehjfecaa.Rc
namespace Go.Proofs.Ytogjmpkehjfecaa.Rc
open Go.Ab Go.Ab.Shr
def shL (s:TS):Nat->TS
 | 0=>s
 | k+1=>{ shL s k with S:=upA (shL s k).S k (shrI (s.A k)),ord:=((ordI (s.A k)).map fun(n:Nat)=>(n:Int))++(shL s k).ord.drop (s.A k).length }
theorem shL_A (s:TS):∀ k,(shL s k).A=s.A∧(shL s k).P=s.P∧(shL s k).V=s.V∧(shL s k).R=s.R∧(shL s k).O=s.O∧(shL s k).rnd=s.rnd∧(shL s k).seed=s.seed
 | 0=>⟨rfl,rfl,rfl,rfl,rfl,rfl,rfl⟩
 | k+1=>shL_A s k
theorem ord_len (l:List Int):(ordI l).length=l.length:=by
 unfold ordI
 split
 · exact len_srt _
 · simp
section
variable {g:Gm} {H G:List AO} {c:TC} {s:TS}
theorem TW.setS (h:TW g H c s G) {j:Nat} (hj:j<g.is.length) {X q:List Int} (hX:X.length=g.acts j) (hq:q.length=10):TW g H c { s with S:=upA s.S j X,ord:=q } (G2 G (pS H g j) (pW H g) ⟨ints X,3,0,true⟩ (oI (wHead g H s) q [] 73 0)):=by
 have hlt:=getElem?_lt (h.ss j hj)
 have hlw:=h.ltw
 have hne:pS H g j≠pW H g:=by unfold pS pW; omega
 have ne:∀ {k:Nat} {x:Option AO},pS H g j≠k->pW H g≠k->G[k]? = x->(G2 G (pS H g j) (pW H g) ⟨ints X,3,0,true⟩ (oI (wHead g H s) q [] 73 0))[k]? = x:=fun hn hn2 hx=>by unfold G2; rw[List.getElem?_set_ne hn2,List.getElem?_set_ne hn]; exact hx
 constructor
 case l=>exact⟨h.l.A,h.l.P,fun i hi=>by simp only[upA]; split; rename_i e; rw[e]; exact hX; exact h.l.S i hi,h.l.V,h.l.R,h.l.O,hq,h.l.M,h.l.F⟩
 case len=>simpa using h.len
 case cl =>
   refine g2_closed h.cl (by simp) ?_
   have:=h.len
   simp only[oI,SV.underL_append,wHead,Bool.and_eq_true]
   unfold pE at this
   unfold pM pF pAo pPo pSo pV pR pO
   refine⟨?_,by simp⟩
   simp[nds_under,infs_under]
   omega
 case ss => intro i hi; by_cases e : i = j
            · subst e; have:=g2_a (L:=[]) hlt hne (o:=⟨ints X,3,0,true⟩) (p:=oI (wHead g H s) q [] 73 0); rw[List.append_nil]at this; rw[this]; simp[upA]
            · simp only[upA,if_neg e]; exact ne (by unfold pS; omega) (by unfold pW pS; omega) (h.ss i hi)
 case w=>have:=g2_k (L:=[]) hlw (a:=pS H g j) (o:=⟨ints X,3,0,true⟩) (p:=oI (wHead g H s) q [] 73 0); rw[List.append_nil]at this; exact this
 case a=>intro i hi; exact ne (by unfold pS pA; omega) (by unfold pW pA; omega) (h.a i hi)
 case low=>intro i hi; exact ne (by unfold pS; omega) (by unfold pW; omega) (h.low i hi)
 case p=>intro i hi; exact ne (by unfold pS pP; omega) (by unfold pW pP; omega) (h.p i hi)
 case m=>exact ne (by unfold pS pM; omega) (by unfold pW pM; omega) h.m
 case f=>exact ne (by unfold pS pF; omega) (by unfold pW pF; omega) h.f
 case ao=>exact ne (by unfold pS pAo; omega) (by unfold pW pAo; omega) h.ao
 case po=>exact ne (by unfold pS pPo; omega) (by unfold pW pPo; omega) h.po
 case so=>exact ne (by unfold pS pSo; omega) (by unfold pW pSo; omega) h.so
 case v=>exact ne (by unfold pS pV; omega) (by unfold pW pV; omega) h.v
 case r=>exact ne (by unfold pS pR; omega) (by unfold pW pR; omega) h.r
 case o=>exact ne (by unfold pS pO; omega) (by unfold pW pO; omega) h.o
theorem g2_same {k a:Nat} {o p:AO} (ho:G[a]? = some o) (hp:G[k]? = some p):G2 G a k o p=G:=by
 have h1:G.set a o=G:=by
  apply List.ext_getElem?
  intro i
  by_cases e:a=i
  · subst e; rw[List.getElem?_set_self (getElem?_lt ho),ho]
  · rw[List.getElem?_set_ne e]
 unfold G2
 rw[h1]
 apply List.ext_getElem?
 intro i
 by_cases e:k=i
 · subst e; rw[List.getElem?_set_self (getElem?_lt hp),hp]
 · rw[List.getElem?_set_ne e]
theorem ok38w (hW:Wg g) (h:TW g H c s G) (hk:okTS g s) {j:Nat} (hj:j<g.is.length) {A:Nat->List Int} (hA:s.A j=A j) :
 OkP Try.prog 38 [.own (pA H g j) 0 (g.acts j) 1 1,.own (pS H g j) 0 (g.acts j) 1 0,.own (pW H g) 13 (g.acts j) 1 0] G fun out G'=>out=.ret (.tup []) ∧
  TW g H c { s with S:=upA s.S j (shrI (A j)),ord:=((ordI (A j)).map fun(n:Nat)=>(n:Int))++s.ord.drop (A j).length } G':=by
 have hac:=acts_le hW hj
 have hl:=h.l.A j hj
 have hlo:=h.l.ord
 have hlS:=h.l.S j hj
 have hne:pS H g j≠pW H g:=by unfold pS pW; omega
 have hl2:(A j).length=g.acts j:=by rw[←hA]; exact hl
 have hP:P2 G (pS H g j) (pW H g):=⟨getElem?_lt (h.ss j hj),h.ltw,hne⟩
 have hG:G2 G (pS H g j) (pW H g) ⟨ints (s.S j),3,0,true⟩ (oI (wHead g H s) (s.ord.take (g.acts j)) (ints (s.ord.drop (g.acts j))) 73 0)=G:=by
  refine g2_same (h.ss j hj) ?_
  rw[h.w]
  have e:ints s.ord++[]=ints (s.ord.take (g.acts j))++ints (s.ord.drop (g.acts j)):=by
   simp only[List.append_nil,ints,<- List.map_append,List.take_append_drop]
  unfold wObj oI
  rw[e]
 have hu:=h.setS hj (X:=s.S j) (q:=s.ord) hlS hlo
 have hcu:=h.len
 have hC:SV.underL G.length (wHead g H s)=true:=by
  simp only[wHead]
  unfold pE at hcu
  unfold pM pF pAo pPo pSo pV pR pO
  simp[nds_under,infs_under]
  omega
 have hx:∀ (o p:List Int) (L:List AO),IsI (G2 G (pS H g j) (pW H g) ⟨ints o,3,0,true⟩ (oI (wHead g H s) p (ints (s.ord.drop (g.acts j))) 73 0)++L) (.own (pA H g j) 0 (g.acts j) 1 1) (s.A j):=fun o p L=>by
  have hat:(G2 G (pS H g j) (pW H g) ⟨ints o,3,0,true⟩ (oI (wHead g H s) p (ints (s.ord.drop (g.acts j))) 73 0)++L)[pA H g j]? = some ⟨ints (s.A j),3,1,true⟩:=by
   rw[List.getElem?_append_left (by rw[g2_len]; exact getElem?_lt (h.a j hj))]
   unfold G2
   rw[List.getElem?_set_ne (by unfold pW pA; omega),List.getElem?_set_ne (by unfold pS pA; omega)]
   exact h.a j hj
  have:=IsI.whole (H:=[]) (L:=G2 G (pS H g j) (pW H g) ⟨ints o,3,0,true⟩ (oI (wHead g H s) p (ints (s.ord.drop (g.acts j))) 73 0)++L) (k:=pA H g j) (n:=g.acts j) hat hl.symm
  simpa using this
 have hr:∀ v∈s.A j,-70368744177664≤v∧v≤70368744177664:=fun v hv=>by
  obtain⟨a,ha,rfl⟩:=List.getElem_of_mem hv
  have h1:=hk j hj a (by omega)
  have h2:(s.A j).getD a 0=(s.A j)[a]:=by simp[ha]
  unfold okAt at h1
  rw[h2]at h1
  omega
 have key:=ok38 (va:=0) (v:=0) (T:=73) (D:=ints (s.ord.drop (g.acts j))) (o0:=s.S j) (p0:=s.ord.take (g.acts j)) hP ⟨hC,by simp⟩ hx (by omega) (by omega) hr (by rw[hlS,hl]) (by rw[List.length_take,hl]; omega)
 rw[hG,hl]at key
 have hX:=h.setS hj (X:=shrI (A j)) (q:=((ordI (A j)).map fun(n:Nat)=>(n:Int))++s.ord.drop (A j).length) (by rw[shr_len,hl2]) (by simp[ord_len,hl2]; omega)
 have e:oN (wHead g H s) (ordI (s.A j)) (ints (s.ord.drop (g.acts j))) 73 0=oI (wHead g H s) (((ordI (A j)).map fun(n:Nat)=>(n:Int))++s.ord.drop (A j).length) [] 73 0:=by
  rw[hA,hl2]
  simp[oN,oI,nats,ints]
 rw[e,hA]at key
 exact key.toP.mono fun out G' hP=>by
  obtain⟨rfl,rfl⟩:=hP
  exact⟨rfl,hX⟩
end
end Go.Proofs.Ytogjmpkehjfecaa.Rc
namespace Go.Proofs.Ytogjmpkehjfecaa.Rc
open Go.Ab Go.Ab.Shr
theorem okTS_sh {g:Gm} {s:TS} (h:okTS g s) (k:Nat):okTS g (shL s k):=fun i hi a ha=>by
 obtain⟨h1,h2,_⟩:=shL_A s k
 have:=h i hi a ha
 unfold okAt at this ⊢
 rw[h1,h2]; exact this
def valL (g:Gm) (M:List Int) (S:Nat->List Int) (V:List Int):Nat->List Int
 | 0=>V
 | m+1=>blk4 (valL g M S V m) (g.ns.length-1-m) (plF g (valQ g M S (valL g M S V m) (g.ns.length-1-m)))
def desL (g:Gm) (own:Bool) (S:Nat->List Int) (M R:List Int):Nat->List Int
 | 0=>R
 | i+1=>chsR g own S M (desL g own S M R i) i (match g.ns[i]? with | none=>0 | some x=>x.nx.length)
def lrnL (g:Gm) (V R:List Int) (A:Nat->List Int):Nat->Nat->List Int
 | 0=>A
 | i+1=>lrnA g V R (lrnL g V R A i) i
section
variable {g:Gm} {H G:List AO} {c:TC} {s:TS}
set_option maxRecDepth 10000 in
theorem tlp30_0 (hW:Wg g) (hk:okTS g s) {N:Nat} {K:XE->Env->List AO->Prop}
 (hexit:∀ env G,env.get 0=.ptr (.own (pW H g) 0 0 0 0) 0->TW g H c (shL s g.is.length) G->K (.exit 0) env G) :
 ∀ (m i:Nat) (env:Env) (G:List AO),i+m=g.is.length->TW g H c (shL s i) G->env.get 0=.ptr (.own (pW H g) 0 0 0 0) 0->env.get 16=.own (pSo H g) 0 g.is.length 1 0->env.get 17=i64 g.is.length->env.get 18=i64 i->LI Try.prog N drawB l30_0 env G K:=by
 have hil:=hW.gd.i
 intro m
 induction m with
 | zero =>
  intro i env G hi h h0 h16 h17 h18
  refine li_go hm l30_0.eq_1 ?_
  have e:i=g.is.length:=by omega
  subst e
  simp -implicitDefEqProofs[h17,h18]
  exact hexit _ _ (by simp[h0]) h
 | succ m ih =>
  intro i env G hi h h0 h16 h17 h18
  refine li_go hm l30_0.eq_1 ?_
  have hii:i<g.is.length:=by omega
  have hw:=h.cw0
  have hao:=oc0 h.ao
  have hso:=oc0 h.so
  have hac:=acts_le hW hii
  have w1:=wrap_suc (show i<9223372036854775807 by omega)
  have hlo:=h.l.ord
  have hca:SV.cutA 1 0 (g.acts i) (.ptr (.own (pW H g) 0 0 0 0) 13)=.own (pW H g) 13 (g.acts i) 1 0:=by simp[SV.cutA]
  simp -implicitDefEqProofs[h0,h16,h17,h18,hii,hw,hao,hso,wHead,outs_get hii,hca]
  refine⟨by omega,by omega,call_goP (ok38w hW h (okTS_sh hk i) hii (A:=s.A) (by rw[(shL_A s i).1])) fun out G' hP => ?_⟩
  obtain⟨rfl,h2⟩:=hP
  have hw2:=h2.cw0
  simp -implicitDefEqProofs[h0,h16,h17,h18,hii,hw2,wHead]
  refine ih (i+1) _ _ (by omega) h2 ?_ ?_ ?_ ?_
  · simp
  · simp
  · simp
  · simp[w1]
set_option maxRecDepth 10000 in
theorem tlp30_1 (hW:Wg g) (hc:c.Ok g) {V:List Int} {N:Nat} {K:XE->Env->List AO->Prop}
 (hexit:∀ env G,env.get 0=.ptr (.own (pW H g) 0 0 0 0) 0->TW g H c { s with V:=valL g c.M s.S V g.ns.length } G->K (.exit 2) env G) :
 ∀ (m i:Nat) (env:Env) (G:List AO),i+m=g.ns.length->TW g H c { s with V:=valL g c.M s.S V i } G->env.get 0=.ptr (.own (pW H g) 0 0 0 0) 0->env.get 4=i64 ((g.ns.length:Int)-1-i)->LI Try.prog N drawB l30_1 env G K:=by
 have hn:=hW.gd.n
 intro m
 induction m with
 | zero =>
  intro i env G hi h h0 h4
  refine li_go hm l30_1.eq_1 ?_
  have e:i=g.ns.length:=by omega
  subst e
  have e2:((g.ns.length:Int)-1-g.ns.length) = -1:=by omega
  rw[e2]at h4
  simp -implicitDefEqProofs[h4]
  exact hexit _ _ (by simp[h0]) h
 | succ m ih =>
  intro i env G hi h h0 h4
  refine li_go hm l30_1.eq_1 ?_
  have hii:g.ns.length-1-i<g.ns.length:=by omega
  have e2:((g.ns.length:Int)-1-i)=((g.ns.length-1-i:Nat):Int):=by omega
  rw[e2]at h4
  have w1:IntKind.i64.wrap (((g.ns.length-1-i:Nat):Int)-1)=(g.ns.length:Int)-1-((i+1:Nat):Int):=by rw[wrap_id (by omega) (by omega)]; omega
  simp -implicitDefEqProofs[h0,h4]
  refine call_goP (ok50 hW h hc hii) fun out G' hP => ?_
  obtain⟨rfl,h2⟩:=hP
  simp -implicitDefEqProofs[h0,h4]
  refine ih (i+1) _ _ (by omega) h2 ?_ ?_
  · simp
  · simp[w1]
set_option maxRecDepth 10000 in
theorem tlp30_2 (hW:Wg g) {R O:List Int} (hR:R.length=4*g.ns.length) (hO:O.length=4*g.ns.length) {N:Nat} {K:XE->Env->List AO->Prop}
 (hexit:∀ env G,env.get 0=.ptr (.own (pW H g) 0 0 0 0) 0->TW g H c { s with R:=blk4 R 0 (mixF g.pl.toNat (fun _=>1073741824) (rowQ R 0)),O:=blk4 O 0 (mixF g.pl.toNat (fun _=>1073741824) (rowQ O 0)) } G->K (.exit 4) env G) :
 ∀ (m q:Nat) (env:Env) (G:List AO),((q+m:Nat):Int)=g.pl->TW g H c { s with R:=blk4 R 0 (mixF q (fun _=>1073741824) (rowQ R 0)),O:=blk4 O 0 (mixF q (fun _=>1073741824) (rowQ O 0)) } G->env.get 0=.ptr (.own (pW H g) 0 0 0 0) 0->env.get 58=i64 g.pl->env.get 59=i64 q->LI Try.prog N drawB l30_2 env G K:=by
 have hp4:=hW.gd.p4
 have hn1:=hW.gd.n1
 intro m
 induction m with
 | zero =>
  intro q env G hq h h0 h58 h59
  refine li_go hm l30_2.eq_1 ?_
  have e:q=g.pl.toNat:=by omega
  rw[e]at h
  simp -implicitDefEqProofs[h58,h59,show ¬ (q:Int)<g.pl by omega]
  exact hexit _ _ (by simp[h0]) h
 | succ m ih =>
  intro q env G hq h h0 h58 h59
  refine li_go hm l30_2.eq_1 ?_
  have hq4:q<4:=by omega
  have hqp:(q:Int)<g.pl:=by omega
  have hw:=h.cw0
  have eP:=mix_put q (fun _=>(1073741824:Int)) (rowQ R 0)
  have eP2:=mix_put q (fun _=>(1073741824:Int)) (rowQ O 0)
  have lR:=blk_len hR hn1 (mixF q (fun _=>(1073741824:Int)) (rowQ R 0))
  have lO:=blk_len hO hn1 (mixF q (fun _=>(1073741824:Int)) (rowQ O 0))
  have sR:=blk_set hR hn1 hq4 (mixF q (fun _=>(1073741824:Int)) (rowQ R 0)) 1073741824
  have sO:=blk_set hO hn1 hq4 (mixF q (fun _=>(1073741824:Int)) (rowQ O 0)) 1073741824
  rw[eP,Nat.zero_mul,Nat.zero_add]at sR
  rw[eP2,Nat.zero_mul,Nat.zero_add]at sO
  have hR2:=oc0 h.r
  have hs1:=setObj_some h.r
  have hA:=h.setR (X:=blk4 R 0 (mixF (q+1) (fun _=>(1073741824:Int)) (rowQ R 0))) (blk_len hR hn1 _)
  have hs2:=setObj_some hA.o
  have hO3:=oc0 hA.o
  have hB:=hA.setO (X:=blk4 O 0 (mixF (q+1) (fun _=>(1073741824:Int)) (rowQ O 0))) (blk_len hO hn1 _)
  have w1:=wrap_suc (show q<9223372036854775807 by omega)
  have ih2:=fun(env:Env) (G:List AO)=>ih (q+1) env G (by omega)
  generalize mixF (q+1) (fun _=>(1073741824:Int)) (rowQ R 0)=F1 at *
  generalize mixF (q+1) (fun _=>(1073741824:Int)) (rowQ O 0)=F2 at *
  generalize mixF q (fun _=>(1073741824:Int)) (rowQ R 0)=F3 at *
  generalize mixF q (fun _=>(1073741824:Int)) (rowQ O 0)=F4 at *
  have e3:List.take q (ints (blk4 R 0 F3))++i64 1073741824::List.drop (q+1) (ints (blk4 R 0 F3))=ints (blk4 R 0 F1):=by rw[ints_set (by omega),sR]
  have e4:List.take q (ints (blk4 O 0 F4))++i64 1073741824::List.drop (q+1) (ints (blk4 O 0 F4))=ints (blk4 O 0 F2):=by rw[ints_set (by omega),sO]
  simp -implicitDefEqProofs[h0,h58,h59,hqp,hw,wHead,hR2,hO3,hs1,hs2,e3,e4,hq4,lR,lO]
  repeat (refine⟨by omega,?_⟩)
  refine ih2 _ _ hB ?_ ?_ ?_
  · simp
  · simp
  · simp[w1]
set_option maxRecDepth 10000 in
theorem tlp30_3 (hW:Wg g) (hc:c.Ok g) {R O:List Int} {N:Nat} {K:XE->Env->List AO->Prop}
 (hexit:∀ env G,env.get 0=.ptr (.own (pW H g) 0 0 0 0) 0->TW g H c { s with R:=desL g false s.S c.M R g.ns.length,O:=desL g true s.S c.M O g.ns.length } G->K (.exit 6) env G) :
 ∀ (m i:Nat) (env:Env) (G:List AO),i+m=g.ns.length->TW g H c { s with R:=desL g false s.S c.M R i,O:=desL g true s.S c.M O i } G->env.get 0=.ptr (.own (pW H g) 0 0 0 0) 0->env.get 82=i64 g.ns.length->env.get 83=i64 i->LI Try.prog N drawB l30_3 env G K:=by
 have hn:=hW.gd.n
 intro m
 induction m with
 | zero =>
  intro i env G hi h h0 h82 h83
  refine li_go hm l30_3.eq_1 ?_
  have e:i=g.ns.length:=by omega
  subst e
  simp -implicitDefEqProofs[h82,h83]
  exact hexit _ _ (by simp[h0]) h
 | succ m ih =>
  intro i env G hi h h0 h82 h83
  refine li_go hm l30_3.eq_1 ?_
  have hii:i<g.ns.length:=by omega
  have hx:g.ns[i]? = some g.ns[i]:=List.getElem?_eq_getElem hii
  have w1:=wrap_suc (show i<9223372036854775807 by omega)
  simp -implicitDefEqProofs[h0,h82,h83,hii]
  refine call_goP (ok51 hW hc h hii) fun out G' hP => ?_
  obtain⟨rfl,h2⟩:=hP
  simp -implicitDefEqProofs[h0,h82,h83]
  have e1:∀ own X,desL g own s.S c.M X (i+1)=chsR g own s.S c.M (desL g own s.S c.M X i) i g.ns[i].nx.length:=fun own X=>by simp only[desL,hx]
  refine ih (i+1) _ _ (by omega) (by rw[e1,e1]; exact h2) ?_ ?_ ?_
  · simp
  · simp
  · simp[w1]
set_option maxRecDepth 10000 in
theorem tlp30_4 (hW:Wg g) {A:Nat->List Int} {N:Nat} {K:XE->Env->List AO->Prop}
 (hexit:∀ env G,env.get 0=.ptr (.own (pW H g) 0 0 0 0) 0->TW g H c { s with A:=lrnL g s.V s.R A g.ns.length } G->K (.exit 8) env G) :
 ∀ (m i:Nat) (env:Env) (G:List AO),i+m=g.ns.length->TW g H c { s with A:=lrnL g s.V s.R A i } G->env.get 0=.ptr (.own (pW H g) 0 0 0 0) 0->env.get 95=i64 g.ns.length->env.get 96=i64 i->LI Try.prog N drawB l30_4 env G K:=by
 have hn:=hW.gd.n
 intro m
 induction m with
 | zero =>
  intro i env G hi h h0 h95 h96
  refine li_go hm l30_4.eq_1 ?_
  have e:i=g.ns.length:=by omega
  subst e
  simp -implicitDefEqProofs[h95,h96]
  exact hexit _ _ (by simp[h0]) h
 | succ m ih =>
  intro i env G hi h h0 h95 h96
  refine li_go hm l30_4.eq_1 ?_
  have hii:i<g.ns.length:=by omega
  have w1:=wrap_suc (show i<9223372036854775807 by omega)
  simp -implicitDefEqProofs[h0,h95,h96,hii]
  refine call_goP (ok52 hW h hii) fun out G' hP => ?_
  obtain⟨rfl,h2⟩:=hP
  simp -implicitDefEqProofs[h0,h95,h96]
  refine ih (i+1) _ _ (by omega) h2 ?_ ?_ ?_
  · simp
  · simp
  · simp[w1]
end
end Go.Proofs.Ytogjmpkehjfecaa.Rc
