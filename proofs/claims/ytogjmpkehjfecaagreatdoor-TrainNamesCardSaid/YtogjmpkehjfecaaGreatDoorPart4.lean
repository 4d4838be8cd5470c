/-
  Steps of the proof: contracts of functions and plain facts that the statement rests on.
-/
import Derived.Test.YtogjmpkehjfecaaGreatDoorPart3
import Derived.Test.YtogjmpkehjfecaaGreatDoorCore5
set_option linter.all false
namespace Go.Proofs.YtogjmpkehjfecaaGreatDoor.Rc
open Go.Ab Go.Ab.Shr
theorem okTS_sh {g:Gm} {s:TS} (h:okTS g s) (k:Nat):okTS g (shL s k):=fun i hi a ha=>by
 obtain⟨h1,h2,_⟩:=shL_A s k
 have:=h i hi a ha
 unfold okAt at this ⊢
 rw[h1,h2]; exact this
def valL (g:Gm) (M:List Int) (S:Nat->List Int) (V:List Int):Nat->List Int
 | 0=>V
 | m+1=>blk4 (valL g M S V m) (g.ns.length-1-m) (plF g (valQ g M S (valL g M S V m) (g.ns.length-1-m)))
def desL (g:Gm) (own:Bool) (S:Nat->List Int) (M R:List Int):Nat->List Int
 | 0=>R
 | i+1=>chsR g own S M (desL g own S M R i) i (match g.ns[i]? with | none=>0 | some x=>x.nx.length)
def lrnL (g:Gm) (V R:List Int) (A:Nat->List Int):Nat->Nat->List Int
 | 0=>A
 | i+1=>lrnA g V R (lrnL g V R A i) i
section
variable {g:Gm} {H G:List AO} {c:TC} {s:TS}
set_option maxRecDepth 10000 in
theorem tlp30_0 (hW:Wg g) (hk:okTS g s) {N:Nat} {K:XE->Env->List AO->Prop}
 (hexit:∀ env G,env.get 0=.ptr (.own (pW H g) 0 0 0 0) 0->TW g H c (shL s g.is.length) G->K (.exit 0) env G) :
 ∀ (m i:Nat) (env:Env) (G:List AO),i+m=g.is.length->TW g H c (shL s i) G->env.get 0=.ptr (.own (pW H g) 0 0 0 0) 0->env.get 16=.own (pSo H g) 0 g.is.length 1 0->env.get 17=i64 g.is.length->env.get 18=i64 i->LI Tryz.prog N drawB l35_0 env G K:=by
 have hil:=hW.gd.i
 intro m
 induction m with
 | zero =>
  intro i env G hi h h0 h16 h17 h18
  refine li_go hm l35_0.eq_1 ?_
  have e:i=g.is.length:=by omega
  subst e
  simp -implicitDefEqProofs[h17,h18]
  exact hexit _ _ (by simp[h0]) h
 | succ m ih =>
  intro i env G hi h h0 h16 h17 h18
  refine li_go hm l35_0.eq_1 ?_
  have hii:i<g.is.length:=by omega
  have hw:=h.cw0
  have hao:=oc0 h.ao
  have hso:=oc0 h.so
  have hac:=acts_le hW hii
  have w1:=wrap_suc (show i<9223372036854775807 by omega)
  have hlo:=h.l.ord
  have hca:SV.cutA 1 0 (g.acts i) (.ptr (.own (pW H g) 0 0 0 0) 13)=.own (pW H g) 13 (g.acts i) 1 0:=by simp[SV.cutA]
  simp -implicitDefEqProofs[h0,h16,h17,h18,hii,hw,hao,hso,wHead,outs_get hii,hca]
  refine⟨by omega,by omega,call_goP (ok31w hW h (okTS_sh hk i) hii (A:=s.A) (by rw[(shL_A s i).1])) fun out G' hP => ?_⟩
  obtain⟨rfl,h2⟩:=hP
  have hw2:=h2.cw0
  simp -implicitDefEqProofs[h0,h16,h17,h18,hii,hw2,wHead]
  refine ih (i+1) _ _ (by omega) h2 ?_ ?_ ?_ ?_
  · simp
  · simp
  · simp
  · simp[w1]
set_option maxRecDepth 10000 in
theorem tlp30_1 (hW:Wg g) (hc:c.Ok g) {V:List Int} {N:Nat} {K:XE->Env->List AO->Prop}
 (hexit:∀ env G,env.get 0=.ptr (.own (pW H g) 0 0 0 0) 0->TW g H c { s with V:=valL g c.M s.S V g.ns.length } G->K (.exit 2) env G) :
 ∀ (m i:Nat) (env:Env) (G:List AO),i+m=g.ns.length->TW g H c { s with V:=valL g c.M s.S V i } G->env.get 0=.ptr (.own (pW H g) 0 0 0 0) 0->env.get 4=i64 ((g.ns.length:Int)-1-i)->LI Tryz.prog N drawB l35_1 env G K:=by
 have hn:=hW.gd.n
 intro m
 induction m with
 | zero =>
  intro i env G hi h h0 h4
  refine li_go hm l35_1.eq_1 ?_
  have e:i=g.ns.length:=by omega
  subst e
  have e2:((g.ns.length:Int)-1-g.ns.length) = -1:=by omega
  rw[e2]at h4
  simp -implicitDefEqProofs[h4]
  exact hexit _ _ (by simp[h0]) h
 | succ m ih =>
  intro i env G hi h h0 h4
  refine li_go hm l35_1.eq_1 ?_
  have hii:g.ns.length-1-i<g.ns.length:=by omega
  have e2:((g.ns.length:Int)-1-i)=((g.ns.length-1-i:Nat):Int):=by omega
  rw[e2]at h4
  have w1:IntKind.i64.wrap (((g.ns.length-1-i:Nat):Int)-1)=(g.ns.length:Int)-1-((i+1:Nat):Int):=by rw[wrap_id (by omega) (by omega)]; omega
  simp -implicitDefEqProofs[h0,h4]
  refine call_goP (ok57 hW h hc hii) fun out G' hP => ?_
  obtain⟨rfl,h2⟩:=hP
  simp -implicitDefEqProofs[h0,h4]
  refine ih (i+1) _ _ (by omega) h2 ?_ ?_
  · simp
  · simp[w1]
set_option maxRecDepth 10000 in
theorem tlp30_2 (hW:Wg g) {R O:List Int} (hR:R.length=4*g.ns.length) (hO:O.length=4*g.ns.length) {N:Nat} {K:XE->Env->List AO->Prop}
 (hexit:∀ env G,env.get 0=.ptr (.own (pW H g) 0 0 0 0) 0->TW g H c { s with R:=blk4 R 0 (mixF g.pl.toNat (fun _=>1073741824) (rowQ R 0)),O:=blk4 O 0 (mixF g.pl.toNat (fun _=>1073741824) (rowQ O 0)) } G->K (.exit 4) env G) :
 ∀ (m q:Nat) (env:Env) (G:List AO),((q+m:Nat):Int)=g.pl->TW g H c { s with R:=blk4 R 0 (mixF q (fun _=>1073741824) (rowQ R 0)),O:=blk4 O 0 (mixF q (fun _=>1073741824) (rowQ O 0)) } G->env.get 0=.ptr (.own (pW H g) 0 0 0 0) 0->env.get 58=i64 g.pl->env.get 59=i64 q->LI Tryz.prog N drawB l35_2 env G K:=by
 have hp4:=hW.gd.p4
 have hn1:=hW.gd.n1
 intro m
 induction m with
 | zero =>
  intro q env G hq h h0 h58 h59
  refine li_go hm l35_2.eq_1 ?_
  have e:q=g.pl.toNat:=by omega
  rw[e]at h
  simp -implicitDefEqProofs[h58,h59,show ¬ (q:Int)<g.pl by omega]
  exact hexit _ _ (by simp[h0]) h
 | succ m ih =>
  intro q env G hq h h0 h58 h59
  refine li_go hm l35_2.eq_1 ?_
  have hq4:q<4:=by omega
  have hqp:(q:Int)<g.pl:=by omega
  have hw:=h.cw0
  have eP:=mix_put q (fun _=>(1073741824:Int)) (rowQ R 0)
  have eP2:=mix_put q (fun _=>(1073741824:Int)) (rowQ O 0)
  have lR:=blk_len hR hn1 (mixF q (fun _=>(1073741824:Int)) (rowQ R 0))
  have lO:=blk_len hO hn1 (mixF q (fun _=>(1073741824:Int)) (rowQ O 0))
  have sR:=blk_set hR hn1 hq4 (mixF q (fun _=>(1073741824:Int)) (rowQ R 0)) 1073741824
  have sO:=blk_set hO hn1 hq4 (mixF q (fun _=>(1073741824:Int)) (rowQ O 0)) 1073741824
  rw[eP,Nat.zero_mul,Nat.zero_add]at sR
  rw[eP2,Nat.zero_mul,Nat.zero_add]at sO
  have hR2:=oc0 h.r
  have hs1:=setObj_some h.r
  have hA:=h.setR (X:=blk4 R 0 (mixF (q+1) (fun _=>(1073741824:Int)) (rowQ R 0))) (blk_len hR hn1 _)
  have hs2:=setObj_some hA.o
  have hO3:=oc0 hA.o
  have hB:=hA.setO (X:=blk4 O 0 (mixF (q+1) (fun _=>(1073741824:Int)) (rowQ O 0))) (blk_len hO hn1 _)
  have w1:=wrap_suc (show q<9223372036854775807 by omega)
  have ih2:=fun(env:Env) (G:List AO)=>ih (q+1) env G (by omega)
  generalize mixF (q+1) (fun _=>(1073741824:Int)) (rowQ R 0)=F1 at *
  generalize mixF (q+1) (fun _=>(1073741824:Int)) (rowQ O 0)=F2 at *
  generalize mixF q (fun _=>(1073741824:Int)) (rowQ R 0)=F3 at *
  generalize mixF q (fun _=>(1073741824:Int)) (rowQ O 0)=F4 at *
  have e3:List.take q (ints (blk4 R 0 F3))++i64 1073741824::List.drop (q+1) (ints (blk4 R 0 F3))=ints (blk4 R 0 F1):=by rw[ints_set (by omega),sR]
  have e4:List.take q (ints (blk4 O 0 F4))++i64 1073741824::List.drop (q+1) (ints (blk4 O 0 F4))=ints (blk4 O 0 F2):=by rw[ints_set (by omega),sO]
  simp -implicitDefEqProofs[h0,h58,h59,hqp,hw,wHead,hR2,hO3,hs1,hs2,e3,e4,hq4,lR,lO]
  repeat (refine⟨by omega,?_⟩)
  refine ih2 _ _ hB ?_ ?_ ?_
  · simp
  · simp
  · simp[w1]
set_option maxRecDepth 10000 in
theorem tlp30_3 (hW:Wg g) (hc:c.Ok g) {R O:List Int} {N:Nat} {K:XE->Env->List AO->Prop}
 (hexit:∀ env G,env.get 0=.ptr (.own (pW H g) 0 0 0 0) 0->TW g H c { s with R:=desL g false s.S c.M R g.ns.length,O:=desL g true s.S c.M O g.ns.length } G->K (.exit 6) env G) :
 ∀ (m i:Nat) (env:Env) (G:List AO),i+m=g.ns.length->TW g H c { s with R:=desL g false s.S c.M R i,O:=desL g true s.S c.M O i } G->env.get 0=.ptr (.own (pW H g) 0 0 0 0) 0->env.get 82=i64 g.ns.length->env.get 83=i64 i->LI Tryz.prog N drawB l35_3 env G K:=by
 have hn:=hW.gd.n
 intro m
 induction m with
 | zero =>
  intro i env G hi h h0 h82 h83
  refine li_go hm l35_3.eq_1 ?_
  have e:i=g.ns.length:=by omega
  subst e
  simp -implicitDefEqProofs[h82,h83]
  exact hexit _ _ (by simp[h0]) h
 | succ m ih =>
  intro i env G hi h h0 h82 h83
  refine li_go hm l35_3.eq_1 ?_
  have hii:i<g.ns.length:=by omega
  have hx:g.ns[i]? = some g.ns[i]:=List.getElem?_eq_getElem hii
  have w1:=wrap_suc (show i<9223372036854775807 by omega)
  simp -implicitDefEqProofs[h0,h82,h83,hii]
  refine call_goP (ok58 hW hc h hii) fun out G' hP => ?_
  obtain⟨rfl,h2⟩:=hP
  simp -implicitDefEqProofs[h0,h82,h83]
  have e1:∀ own X,desL g own s.S c.M X (i+1)=chsR g own s.S c.M (desL g own s.S c.M X i) i g.ns[i].nx.length:=fun own X=>by simp only[desL,hx]
  refine ih (i+1) _ _ (by omega) (by rw[e1,e1]; exact h2) ?_ ?_ ?_
  · simp
  · simp
  · simp[w1]
set_option maxRecDepth 10000 in
theorem tlp30_4 (hW:Wg g) {A:Nat->List Int} {N:Nat} {K:XE->Env->List AO->Prop}
 (hexit:∀ env G,env.get 0=.ptr (.own (pW H g) 0 0 0 0) 0->TW g H c { s with A:=lrnL g s.V s.R A g.ns.length } G->K (.exit 8) env G) :
 ∀ (m i:Nat) (env:Env) (G:List AO),i+m=g.ns.length->TW g H c { s with A:=lrnL g s.V s.R A i } G->env.get 0=.ptr (.own (pW H g) 0 0 0 0) 0->env.get 95=i64 g.ns.length->env.get 96=i64 i->LI Tryz.prog N drawB l35_4 env G K:=by
 have hn:=hW.gd.n
 intro m
 induction m with
 | zero =>
  intro i env G hi h h0 h95 h96
  refine li_go hm l35_4.eq_1 ?_
  have e:i=g.ns.length:=by omega
  subst e
  simp -implicitDefEqProofs[h95,h96]
  exact hexit _ _ (by simp[h0]) h
 | succ m ih =>
  intro i env G hi h h0 h95 h96
  refine li_go hm l35_4.eq_1 ?_
  have hii:i<g.ns.length:=by omega
  have w1:=wrap_suc (show i<9223372036854775807 by omega)
  simp -implicitDefEqProofs[h0,h95,h96,hii]
  refine call_goP (ok59 hW h hii) fun out G' hP => ?_
  obtain⟨rfl,h2⟩:=hP
  simp -implicitDefEqProofs[h0,h95,h96]
  refine ih (i+1) _ _ (by omega) h2 ?_ ?_ ?_
  · simp
  · simp
  · simp[w1]
end
end Go.Proofs.YtogjmpkehjfecaaGreatDoor.Rc
namespace Go.Proofs.YtogjmpkehjfecaaGreatDoor.Rc
open Go.Ab Go.Ab.Shr
def plyD (own share:Int):Int:=IntKind.i64.wrap ((IntKind.i64.wrap (own*share)).tdiv 65536)
def plyF (own:Int) (P S:List Int) (a:Nat):Int:=IntKind.i64.wrap (P.getD a 0+plyD own (S.getD a 0))
def ownI (g:Gm) (F O:List Int) (i:Nat):Int:=O.getD ((F.getD i 0).toNat*4+(g.is.getD i (0,0)).1.toNat) 0
def plyL (g:Gm) (F O:List Int) (S P:Nat->List Int):Nat->Nat->List Int
 | 0=>P
 | i+1=>upA (plyL g F O S P i) i (rowF (g.acts i) (plyF (ownI g F O i) (P i) (S i)))
theorem plyL_at (g:Gm) (F O:List Int) (S P:Nat->List Int) (j:Nat):∀ i,plyL g F O S P i j=if j<i then rowF (g.acts j) (plyF (ownI g F O j) (P j) (S j))else P j
 | 0=>by simp[plyL]
 | i+1=>by
  simp only[plyL,upA]
  by_cases e:j=i
  · subst e; simp
  · rw[if_neg e,plyL_at g F O S P j i]
    by_cases h:j<i
    · rw[if_pos h,if_pos (by omega)]
    · rw[if_neg h,if_neg (by omega)]
theorem is_of {g:Gm} (hW:Wg g) {i:Nat} (hi:i<g.is.length):0≤g.is[i].1∧g.is[i].1<g.pl:=by
 obtain⟨t,ht,_,h2,h3,_⟩:=fn_of hW hi
 have h4:=hW.ty (List.getElem_mem ht) h2
 obtain⟨p1,p2⟩:=mp_of hW ht h2
 rw[h3,List.getElem?_eq_getElem hi]at h4
 cases hh:g.is[i]with
 | mk a b=>rw[hh]at h4; cases h4; exact⟨p1,p2⟩
section
variable {g:Gm} {H G:List AO} {c:TC} {s:TS}
set_option maxRecDepth 10000 in
theorem tlp30_6 (hW:Wg g) {i:Nat} (hi:i<g.is.length) {own:Int} {P:Nat->List Int} (hP:(P i).length=g.acts i) {x106 x107:SV} {N:Nat} {K:XE->Env->List AO->Prop}
 (hexit:∀ env G',TW g H c { s with P:=upA P i (rowF (g.acts i) (plyF own (P i) (s.S i))) } G'->env.get 0=.ptr (.own (pW H g) 0 0 0 0) 0->env.get 106=x106->env.get 107=x107->env.get 108=i64 i->K (.exit 12) env G') :
 ∀ (m a:Nat) (env:Env) (G:List AO),a+m=g.acts i->TW g H c { s with P:=upA P i (rowF (g.acts i) (mixF a (plyF own (P i) (s.S i)) fun a=>(P i).getD a 0)) } G →
  env.get 0=.ptr (.own (pW H g) 0 0 0 0) 0->env.get 8=i64 i->env.get 10=i64 own->env.get 106=x106->env.get 107=x107->env.get 108=i64 i->env.get 136=.own (pS H g i) 0 (g.acts i) 1 0->env.get 137=i64 (g.acts i)->env.get 138=i64 a →
  LI Tryz.prog N drawB l35_6 env G K:=by
 have hac:=acts_le hW hi
 intro m
 induction m with
 | zero =>
  intro a env G ha h h0 h8 h10 h106 h107 h108 h136 h137 h138
  refine li_go hm l35_6.eq_1 ?_
  have e:a=g.acts i:=by omega
  subst e
  simp -implicitDefEqProofs[h137,h138]
  have e2:rowF (g.acts i) (mixF (g.acts i) (plyF own (P i) (s.S i)) fun a=>(P i).getD a 0)=rowF (g.acts i) (plyF own (P i) (s.S i)):=by
   unfold rowF
   apply List.map_congr_left
   intro x hx
   simp only[List.mem_range]at hx
   simp only[mixF,if_pos hx]
  rw[e2]at h
  exact hexit _ _ h (by simp[h0]) (by simp[h106]) (by simp[h107]) (by simp[h108])
 | succ m ih =>
  intro a env G ha h h0 h8 h10 h106 h107 h108 h136 h137 h138
  refine li_go hm l35_6.eq_1 ?_
  have hal:a<g.acts i:=by omega
  have hw:=h.cw0
  have hS:=oc0 (h.ss _ hi)
  have hPr:=oc0 (h.p _ hi)
  have hpo:=oc0 h.po
  have hst:=setObj_some (h.p _ hi)
  have lS:=h.l.S _ hi
  have eP:=mix_put a (plyF own (P i) (s.S i)) fun a=>(P i).getD a 0
  have eM:=mix_at a (plyF own (P i) (s.S i)) fun a=>(P i).getD a 0
  have hP2:=h.setP hi (X:=rowF (g.acts i) (mixF (a+1) (plyF own (P i) (s.S i)) fun a=>(P i).getD a 0)) (by simp)
  have w1:=wrap_suc (show a<9223372036854775807 by omega)
  simp only[upA_self]at hPr hst
  simp only[upA_up]at hP2
  simp only at lS hS
  have bS:a<(s.S i).length:=by omega
  have ih2:=fun(env:Env) (G:List AO)=>ih (a+1) env G (by omega)
  have eD:plyF own (P i) (s.S i) a=IntKind.i64.wrap ((P i).getD a 0+IntKind.i64.wrap ((IntKind.i64.wrap (own*(s.S i)[a])).tdiv 65536)):=by simp[plyF,plyD,bS]
  rw[←eP]at hP2 ih2
  rw[eD]at hP2 ih2
  generalize mixF a (plyF own (P i) (s.S i)) (fun a=>(P i).getD a 0)=F at *
  have e3:∀ y:Int,List.take a (ints (rowF (g.acts i) F))++i64 y::List.drop (a+1) (ints (rowF (g.acts i) F))=ints (rowF (g.acts i) (put F a y)):=fun y=>by rw[ints_set (by simpa using hal),rowF_set]
  have e4:(ints (rowF (g.acts i) F))[a]?.getD .any=i64 (F a):=by rw[ints_at (by simpa using hal),rowF_getD hal]
  rw[←eM]at hP2 ih2
  simp -implicitDefEqProofs[h0,h8,h10,h106,h107,h108,h136,h137,h138,hal,hw,hS,hPr,hpo,wHead,outs_get hi,hi,bS,hst,e3,e4,rowF_get hal]
  repeat (refine⟨by omega,?_⟩)
  refine ih2 _ _ hP2 ?_ ?_ ?_ ?_ ?_ ?_ ?_ ?_ ?_
  · simp
  · simp
  · simp
  · simp[h106]
  · simp[h107]
  · simp[h108]
  · simp
  · simp
  · simp[w1]
set_option maxRecDepth 10000 in
theorem tlp30_5 (hW:Wg g) (hc:c.Ok g) {P:Nat->List Int} (hP:∀ i,i<g.is.length->(P i).length=g.acts i) {N:Nat} {K:XE->Env->List AO->Prop}
 (hexit:∀ env G,env.get 0=.ptr (.own (pW H g) 0 0 0 0) 0->TW g H c { s with P:=plyL g c.F s.O s.S P g.is.length } G->K (.exit 10) env G) :
 ∀ (m i:Nat) (env:Env) (G:List AO),i+m=g.is.length->TW g H c { s with P:=plyL g c.F s.O s.S P i } G->env.get 0=.ptr (.own (pW H g) 0 0 0 0) 0->env.get 106=.own (pSo H g) 0 g.is.length 1 0->env.get 107=i64 g.is.length->env.get 108=i64 i →
  LI Tryz.prog N drawB l35_5 env G K:=by
 have hil:=hW.gd.i
 have hn:=hW.gd.n
 have hp4:=hW.gd.p4
 intro m
 induction m with
 | zero =>
  intro i env G hi h h0 h106 h107 h108
  refine li_go hm l35_5.eq_1 ?_
  have e:i=g.is.length:=by omega
  subst e
  simp -implicitDefEqProofs[h107,h108]
  exact hexit _ _ (by simp[h0]) h
 | succ m ih =>
  intro i env G hi h h0 h106 h107 h108
  refine li_go hm l35_5.eq_1 ?_
  have hii:i<g.is.length:=by omega
  have hac:=acts_le hW hii
  have hw:=h.cw0
  have hso:=oc0 h.so
  have ho:=oc0 h.o
  have hf:=oc0 h.f
  have lO:=h.l.O
  have lF:=h.l.F
  obtain⟨f1,f2⟩:=hc.f i hii
  obtain⟨q1,q2⟩:=is_of hW hii
  have bF:i<c.F.length:=by omega
  have gF:c.F.getD i 0=c.F[i]:=by simp[bF]
  rw[gF]at f1 f2
  simp only at lO ho
  have bO:c.F[i].toNat*4+g.is[i].1.toNat<s.O.length:=by omega
  have eO:ownI g c.F s.O i=s.O[c.F[i].toNat*4+g.is[i].1.toNat]:=by
   have e1:g.is.getD i (0,0)=g.is[i]:=by simp[hii]
   unfold ownI
   rw[gF,e1]
   simp[bO]
  have w1:=wrap_suc (show i<9223372036854775807 by omega)
  have hPi:plyL g c.F s.O s.S P i i=P i:=by rw[plyL_at]; simp
  have hst:TW g H c { s with P:=upA (plyL g c.F s.O s.S P i) i (rowF (g.acts i) (mixF 0 (plyF (ownI g c.F s.O i) (plyL g c.F s.O s.S P i i) (s.S i)) fun a=>(plyL g c.F s.O s.S P i i).getD a 0)) } G:=by
   rw[mix_0,hPi,<- hP i hii,rowF_self,<- hPi,upA_id]; exact h
  simp -implicitDefEqProofs[h0,h106,h107,h108,hii,hw,hso,ho,hf,wHead,outs_get hii,infs_at hii,infs_min hii,infs_ge hii,bF,bO]
  repeat (refine⟨by omega,?_⟩)
  rw[←eO]
  refine tlp30_6 (s:=s) (P:=plyL g c.F s.O s.S P i) hW hii (by rw[hPi]; exact hP i hii) (x106:=.own (pSo H g) 0 g.is.length 1 0) (x107:=i64 g.is.length) (fun env G' hG' g0 g106 g107 g108 => ?_) (g.acts i) 0 _ _ (by omega) hst (by simp) (by simp) (by simp) (by simp) (by simp) (by simp) (by simp) (by simp) (by simp)
  simp -implicitDefEqProofs[g0,g106,g107,g108]
  rw[hPi]at hG'
  refine ih (i+1) _ _ (by omega) hG' ?_ ?_ ?_ ?_
  · simp[g0]
  · simp[g106]
  · simp[g107]
  · simp[w1]
theorem TW.setN (h:TW g H c s G) (n:Int):TW g H c { s with rnd:=n } (G.set (pW H g) (wObj g H { s with rnd:=n })):=by
 have hlt:=h.ltw
 have ne:∀ {k:Nat} {x:Option AO},pW H g≠k->G[k]? = x->(G.set (pW H g) (wObj g H { s with rnd:=n }))[k]? = x:=fun hn hx=>by rw[List.getElem?_set_ne hn]; exact hx
 constructor
 case l=>exact⟨h.l.A,h.l.P,h.l.S,h.l.V,h.l.R,h.l.O,h.l.ord,h.l.M,h.l.F⟩
 case len=>simpa using h.len
 case cl =>
  refine closed_set h.cl _ ?_
  have:=h.len
  simp only[wObj,oI,SV.underL_append,wHead,Bool.and_eq_true]
  unfold pE at this
  unfold pM pF pAo pPo pSo pV pR pO
  refine⟨?_,by simp⟩
  simp[nds_under,infs_under]
  omega
 case w=>rw[List.getElem?_set_self hlt]
 case ss=>intro i hi; exact ne (by unfold pW pS; omega) (h.ss i hi)
 case a=>intro i hi; exact ne (by unfold pW pA; omega) (h.a i hi)
 case low=>intro i hi; exact ne (by unfold pW; omega) (h.low i hi)
 case p=>intro i hi; exact ne (by unfold pW pP; omega) (h.p i hi)
 case m=>exact ne (by unfold pW pM; omega) h.m
 case f=>exact ne (by unfold pW pF; omega) h.f
 case ao=>exact ne (by unfold pW pAo; omega) h.ao
 case po=>exact ne (by unfold pW pPo; omega) h.po
 case so=>exact ne (by unfold pW pSo; omega) h.so
 case v=>exact ne (by unfold pW pV; omega) h.v
 case r=>exact ne (by unfold pW pR; omega) h.r
 case o=>exact ne (by unfold pW pO; omega) h.o
def rndT (g:Gm) (c:TC) (s:TS):TS :=
 let s1:=shL s g.is.length
 let s2:TS:={ s1 with V:=valL g c.M s1.S s1.V g.ns.length }
 let s3:TS:={ s2 with R:=blk4 s2.R 0 (mixF g.pl.toNat (fun _=>1073741824) (rowQ s2.R 0)),O:=blk4 s2.O 0 (mixF g.pl.toNat (fun _=>1073741824) (rowQ s2.O 0)) }
 let s4:TS:={ s3 with R:=desL g false s3.S c.M s3.R g.ns.length,O:=desL g true s3.S c.M s3.O g.ns.length }
 let s5:TS:={ s4 with A:=lrnL g s4.V s4.R s4.A g.ns.length }
 let s6:TS:={ s5 with P:=plyL g c.F s5.O s5.S s5.P g.is.length }
 { s6 with rnd:=IntKind.i64.wrap (s6.rnd+1) }
set_option maxRecDepth 10000 in
theorem ok35 (hW:Wg g) (hc:c.Ok g) (h:TW g H c s G) (hk:okTS g s) :
 OkP Tryz.prog 35 [.ptr (.own (pW H g) 0 0 0 0) 0] G fun out G'=>TW g H c (rndT g c s) G'∧((okTS g (rndT g c s)∧out=.ret (.tup []))∨(¬ okTS g (rndT g c s)∧out=.pan panV)):=by
 have hlt:=h.ltw
 have hw:=h.cw0
 have hn:=hW.gd.n
 have hn1:=hW.gd.n1
 have hp1:=hW.gd.p1
 refine okP_fn hm Tryz.func35 c35 (by simp[hlt]) fun hcl => ?_
 unfold rndT
 simp -implicitDefEqProofs[i35,r35,hw,wHead]
 refine tlp30_0 (s:=s) hW hk (fun env G1 g0 h1 => ?_) g.is.length 0 _ _ (by omega) h (by simp) (by simp) (by simp) (by simp)
 generalize shL s g.is.length=s1 at *
 have hw1:=h1.cw0
 have w1:IntKind.i64.wrap ((g.ns.length:Int)-1)=(g.ns.length:Int)-1-(0:Nat):=by rw[wrap_id (by omega) (by omega)]; omega
 simp -implicitDefEqProofs[g0,hw1,wHead]
 refine tlp30_1 (s:=s1) (V:=s1.V) hW hc (fun env G2 g0 h2 => ?_) g.ns.length 0 _ _ (by omega) h1 (by simp[g0]) (by simp[w1])
 generalize valL g c.M s1.S s1.V g.ns.length=V1 at *
 have hw2:=h2.cw0
 simp -implicitDefEqProofs[g0,hw2,wHead]
 have h20:TW g H c { s1 with V:=V1,R:=blk4 s1.R 0 (mixF 0 (fun _=>1073741824) (rowQ s1.R 0)),O:=blk4 s1.O 0 (mixF 0 (fun _=>1073741824) (rowQ s1.O 0)) } G2:=by
  rw[mix_0,mix_0]
  have e:∀ X:List Int,X.length=4*g.ns.length->blk4 X 0 (rowQ X 0)=X:=fun X hX=>by
   have e1:rowF 4 (rowQ X 0)=X.take 4:=by
    apply List.ext_getElem?
    intro q
    by_cases hq:q<4
    · rw[List.getElem?_eq_getElem (by simpa using hq),rowF_get hq,List.getElem?_take_of_lt hq,List.getElem?_eq_getElem (by omega)]
      simp[rowQ,show q<X.length by omega]
    · rw[List.getElem?_eq_none (by simp; omega),List.getElem?_eq_none (by simp; omega)]
   unfold blk4
   rw[e1]; simp
  rw[e _ h2.l.R,e _ h2.l.O]
  exact h2
 refine tlp30_2 (s:={ s1 with V:=V1 }) (R:=s1.R) (O:=s1.O) hW h2.l.R h2.l.O (fun env G3 g0 h3 => ?_) g.pl.toNat 0 _ _ (by omega) h20 (by simp[g0]) (by simp) (by simp)
 generalize blk4 s1.R 0 (mixF g.pl.toNat (fun _=>1073741824) (rowQ s1.R 0))=R3 at *
 generalize blk4 s1.O 0 (mixF g.pl.toNat (fun _=>1073741824) (rowQ s1.O 0))=O3 at *
 have hw3:=h3.cw0
 simp -implicitDefEqProofs[g0,hw3,wHead]
 refine tlp30_3 (s:={ s1 with V:=V1 }) (R:=R3) (O:=O3) hW hc (fun env G4 g0 h4 => ?_) g.ns.length 0 _ _ (by omega) h3 (by simp[g0]) (by simp) (by simp)
 simp only at h4
 generalize desL g false s1.S c.M R3 g.ns.length=R4 at *
 generalize desL g true s1.S c.M O3 g.ns.length=O4 at *
 have hw4:=h4.cw0
 simp -implicitDefEqProofs[g0,hw4,wHead]
 refine tlp30_4 (s:={ s1 with V:=V1,R:=R4,O:=O4 }) (A:=s1.A) hW (fun env G5 g0 h5 => ?_) g.ns.length 0 _ _ (by omega) h4 (by simp[g0]) (by simp) (by simp)
 simp only at h5
 generalize lrnL g V1 R4 s1.A g.ns.length=A5 at *
 have hw5:=h5.cw0
 simp -implicitDefEqProofs[g0,hw5,wHead]
 refine tlp30_5 (s:={ s1 with V:=V1,R:=R4,O:=O4,A:=A5 }) (P:=s1.P) hW hc h5.l.P (fun env G6 g0 h6 => ?_) g.is.length 0 _ _ (by omega) h5 (by simp[g0]) (by simp) (by simp) (by simp)
 simp only at h6
 generalize plyL g c.F O4 s1.S s1.P g.is.length=P6 at *
 have hw6:=h6.cw0
 have hst:=setObj_some h6.w
 have h7:=h6.setN (IntKind.i64.wrap (s1.rnd+1))
 simp only[wObj,wHead]at hst
 simp -implicitDefEqProofs[g0,hw6,wHead,hst,oI]
 refine call_goP (OkP.cast rfl (by simp[wObj,oI,wHead]) (ok60 hW h7)) fun out G' hP => ?_
 obtain⟨rfl,hP | hP⟩:=hP
 · obtain⟨hk2,rfl⟩:=hP
   simp -implicitDefEqProofs
   exact⟨_,_,⟨h7,.inl ⟨hk2,rfl⟩⟩,cv_id⟩
 · obtain⟨hk2,rfl⟩:=hP
   simp -implicitDefEqProofs
   exact⟨_,_,⟨h7,.inr ⟨hk2,rfl⟩⟩,cv_id⟩
end
end Go.Proofs.YtogjmpkehjfecaaGreatDoor.Rc
namespace Go.Proofs.YtogjmpkehjfecaaGreatDoor.Rc
open Go.Ab Go.Ab.Shr
def rowO (v:Nat) (l:List Int):AO:=⟨ints l,3,v,true⟩
section
variable {H:List AO}
theorem ok56 {l:List Int} (h0:l≠[]) (hl:l.length≤1000000):Ok Tryz.prog 56 [sl l] H (.ret (.own H.length 0 l.length 1 1)) (H++[rowO 1 l]):=by
 have hl0:l.length≠0:=fun h=>h0 (List.eq_nil_of_length_eq_zero h)
 refine ok_fn hm Tryz.func56 c56 (by simp[sl]) fun hcl => ?_
 simp -implicitDefEqProofs[i56,r56,sl,hl0]
 exact⟨by omega,by omega,cv_id⟩
def outP (h I i:Nat) (n:Nat->Nat):List SV:=(List.range I).map fun j=>if j<i then .own (h+1+j) 0 (n j) 1 1 else .val (.slice none 0 0)
theorem outP_set {h I i:Nat} {n:Nat->Nat} (hi:i<I):List.take i (outP h I i n)++SV.own (h+1+i) 0 (n i) 1 1::List.drop (i+1) (outP h I i n)=outP h I (i+1) n:=by
 have hl:i<(outP h I i n).length:=by simp[outP,hi]
 have:=List.set_eq_take_append_cons_drop (l:=outP h I i n) (i:=i) (a:=SV.own (h+1+i) 0 (n i) 1 1)
 rw[if_pos hl]at this
 rw[←this]
 apply List.ext_getElem?
 intro j
 by_cases e:i=j
 · subst e; rw[List.getElem?_set_self hl]; simp[outP,hi]
 · rw[List.getElem?_set_ne e]
   by_cases hj:j<I
   · have:(j<i)=(j<i+1):=by simp; omega
     simp[outP,hj,this]
   · rw[List.getElem?_eq_none (by simp[outP]; omega),List.getElem?_eq_none (by simp[outP]; omega)]
@[simp] theorem outP_len {h I i:Nat} {n:Nat->Nat}:(outP h I i n).length=I:=by simp[outP]
def lenL (L:List (List Int)) (i:Nat):Nat:=(L.getD i []).length
theorem lenL_at {L:List (List Int)} {i:Nat} (h:i<L.length):lenL L i=L[i].length:=by simp[lenL,h]
def sls (L:List (List Int)):List SV:=L.map sl
@[simp] theorem sls_len (L:List (List Int)):(sls L).length=L.length:=by simp[sls]
theorem sls_get {L:List (List Int)} {i:Nat} (h:i<L.length):(sls L)[i]'(by simpa using h)=sl L[i]:=by simp[sls]
theorem sls_under (n:Nat) (L:List (List Int)):SV.underL n (sls L)=true:=by
 rw[SV.underL_iff]
 intro x hx
 simp only[sls,List.mem_map]at hx
 obtain⟨l,_,rfl⟩:=hx
 simp[sl]
set_option maxRecDepth 10000 in
theorem tlp29_0 {L:List (List Int)} (hL:∀ l∈L,l≠[]∧l.length≤1000000) (hL2:L.length≤1000000) {N:Nat} {K:XE->Env->List AO->Prop}
 (hexit:∀ env,env.get 3=.own H.length 0 L.length 1 0->K (.exit 0) env (H++⟨outP H.length L.length L.length (lenL L),45,0,true⟩::L.map (rowO 1))) :
 ∀ (m i:Nat) (env:Env),i+m=L.length->env.get 3=.own H.length 0 L.length 1 0->env.get 9=.slc (sls L) L.length->env.get 10=i64 L.length->env.get 11=i64 i →
  LI Tryz.prog N drawB l34_0 env (H++⟨outP H.length L.length i (lenL L),45,0,true⟩::(L.map (rowO 1)).take i) K:=by
 intro m
 induction m with
 | zero =>
  intro i env hi h3 h9 h10 h11
  refine li_go hm l34_0.eq_1 ?_
  have e:i=L.length:=by omega
  subst e
  have e0:(L.map (rowO 1)).take L.length=L.map (rowO 1):=List.take_of_length_le (by simp)
  rw[e0]
  simp -implicitDefEqProofs[h10,h11]
  exact hexit _ (by simp[h3])
 | succ m ih =>
  intro i env hi h3 h9 h10 h11
  refine li_go hm l34_0.eq_1 ?_
  have hii:i<L.length:=by omega
  obtain⟨n1,n2⟩:=hL _ (List.getElem_mem hii)
  have w1:=wrap_suc (show i<9223372036854775807 by omega)
  have hg:L.getD i []=L[i]:=by simp[hii]
  have es:=outP_set (h:=H.length) (I:=L.length) (n:=lenL L) hii
  rw[lenL_at hii]at es
  have et:(L.map (rowO 1)).take (i+1)=(L.map (rowO 1)).take i++[rowO 1 L[i]]:=by rw[List.take_succ_eq_append_getElem (by simpa using hii)]; simp
  have em:min i L.length=i:=by omega
  have ep:H.length+(i+1)=H.length+1+i:=by omega
  simp -implicitDefEqProofs[h3,h9,h10,h11,hii,sls_get hii]
  refine⟨by omega,call_go (ok56 n1 n2) ?_⟩
  simp -implicitDefEqProofs[h3,h9,h10,h11,hii,em]
  refine⟨by omega,?_⟩
  rw[ep,es,<- et]
  refine ih (i+1) _ (by omega) ?_ ?_ ?_ ?_
  · simp
  · simp
  · simp
  · simp[w1]
theorem outP_all (h I:Nat) (n:Nat->Nat):outP h I I n=outs I (fun i=>h+1+i) n 1:=by
 unfold outP outs
 apply List.map_congr_left
 intro j hj
 simp only[List.mem_range]at hj
 rw[if_pos hj]
set_option maxRecDepth 10000 in
theorem ok34 {L:List (List Int)} (hL:∀ l∈L,l≠[]∧l.length≤1000000) (hL2:L.length≤1000000) :
 Ok Tryz.prog 34 [.slc (sls L) L.length] H (.ret (.own H.length 0 L.length 1 0)) (H++⟨outs L.length (fun i=>H.length+1+i) (lenL L) 1,45,0,true⟩::L.map (rowO 1)):=by
 refine ok_fn hm Tryz.func34 c34 (by simp[sls_under]) fun hcl => ?_
 simp -implicitDefEqProofs[i34,r34]
 refine⟨by omega,by omega,?_⟩
 have e:List.replicate L.length (SV.val (.slice none 0 0))=outP H.length L.length 0 (lenL L):=by simp[outP,List.map_const']
 rw[e]
 refine tlp29_0 hL hL2 (fun env g3 => ?_) L.length 0 _ (by omega) (by simp) (by simp) (by simp) (by simp)
 simp -implicitDefEqProofs[g3]
 rw[outP_all]
 exact cv_id
end
end Go.Proofs.YtogjmpkehjfecaaGreatDoor.Rc
namespace Go.Proofs.YtogjmpkehjfecaaGreatDoor.Rc
open Go.Ab Go.Ab.Shr
def outQ (p:Nat->Nat) (n:Nat->Nat) (ver I i:Nat):List SV:=(List.range I).map fun j=>if j<i then .own (p j) 0 (n j) 1 ver else .val (.slice none 0 0)
@[simp] theorem outQ_len {p n:Nat->Nat} {ver I i:Nat}:(outQ p n ver I i).length=I:=by simp[outQ]
theorem outQ_set {p n:Nat->Nat} {ver I i:Nat} (hi:i<I):List.take i (outQ p n ver I i)++SV.own (p i) 0 (n i) 1 ver::List.drop (i+1) (outQ p n ver I i)=outQ p n ver I (i+1):=by
 have hl:i<(outQ p n ver I i).length:=by simp[hi]
 have:=List.set_eq_take_append_cons_drop (l:=outQ p n ver I i) (i:=i) (a:=SV.own (p i) 0 (n i) 1 ver)
 rw[if_pos hl]at this
 rw[←this]
 apply List.ext_getElem?
 intro j
 by_cases e:i=j
 · subst e; rw[List.getElem?_set_self hl]; simp[outQ,hi]
 · rw[List.getElem?_set_ne e]
   by_cases hj:j<I
   · have:(j<i)=(j<i+1):=by simp; omega
     simp[outQ,hj,this]
   · rw[List.getElem?_eq_none (by simp; omega),List.getElem?_eq_none (by simp; omega)]
theorem outQ_0 (p n:Nat->Nat) (ver I:Nat):outQ p n ver I 0=List.replicate I (.val (.slice none 0 0)):=by simp[outQ,List.map_const']
theorem outQ_all (p n:Nat->Nat) (ver I:Nat):outQ p n ver I I=outs I p n ver:=by
 unfold outQ outs
 apply List.map_congr_left
 intro j hj
 simp only[List.mem_range]at hj
 rw[if_pos hj]
def zers (n:Nat):List Int:=List.replicate n 0
@[simp] theorem zers_len (n:Nat):(zers n).length=n:=by simp[zers]
def blkO (g:Gm):Nat->List AO
 | 0=>[]
 | k+1=>blkO g k++[⟨[i64 (g.is.getD k (0,0)).1,i64 (g.is.getD k (0,0)).2],55,0,true⟩,rowO 0 (zers (g.acts k))]
theorem blkO_len (g:Gm):∀ k,(blkO g k).length=2*k
 | 0=>rfl
 | k+1=>by simp[blkO,blkO_len g k]; omega
section
variable {H:List AO} {g:Gm}
def pB (h i:Nat):Nat:=h+3+2*i
set_option maxRecDepth 10000 in
theorem tlp37_0 (hW:Wg g) {N:Nat} {K:XE->Env->List AO->Prop}
 (hexit:∀ env,env.get 3=.own (H.length+1) 0 g.is.length 1 0->K (.exit 0) env (H++gbox g::⟨outQ (pB H.length) g.acts 0 g.is.length g.is.length,45,0,true⟩::blkO g g.is.length)) :
 ∀ (m i:Nat) (env:Env),i+m=g.is.length->env.get 3=.own (H.length+1) 0 g.is.length 1 0->env.get 11=.slc (infs g.is) g.is.length->env.get 12=i64 g.is.length->env.get 13=i64 i →
  LI Tryz.prog N drawB l30_0 env (H++gbox g::⟨outQ (pB H.length) g.acts 0 g.is.length i,45,0,true⟩::blkO g i) K:=by
 have hil:=hW.gd.i
 intro m
 induction m with
 | zero =>
  intro i env hi h3 h11 h12 h13
  refine li_go hm l30_0.eq_1 ?_
  have e:i=g.is.length:=by omega
  subst e
  simp -implicitDefEqProofs[h12,h13]
  exact hexit _ (by simp[h3])
 | succ m ih =>
  intro i env hi h3 h11 h12 h13
  refine li_go hm l30_0.eq_1 ?_
  have hii:i<g.is.length:=by omega
  obtain⟨n1,n2⟩:=acts_le hW hii
  have hg:g.is.getD i (0,0)=g.is[i]:=by simp[hii]
  have ha:(g.acts i:Int)=g.is[i].2:=by unfold Gm.acts; rw[hg]; unfold Gm.acts at n1; rw[hg]at n1; omega
  have w1:=wrap_suc (show i<9223372036854775807 by omega)
  have es:=outQ_set (p:=pB H.length) (n:=g.acts) (ver:=0) (I:=g.is.length) hii
  have eb:blkO g (i+1)=blkO g i++[⟨[i64 g.is[i].1,i64 g.is[i].2],55,0,true⟩,rowO 0 (zers (g.acts i))]:=by simp only[blkO,hg]
  have hMl:=blkO_len g i
  rw[←ha]at eb
  have ih2:=ih (i+1)
  rw[eb]at ih2
  generalize blkO g i=M at *
  simp -implicitDefEqProofs[h3,h11,h12,h13,hii,infs_at hii,infs_min hii,infs_ge hii,<- ha]
  repeat (refine⟨by omega,?_⟩)
  have e1:H.length+(M.length+3)=pB H.length i:=by unfold pB; omega
  have e2:List.replicate (g.acts i) (i64 0)=ints (zers (g.acts i)):=by simp[ints,zers]
  rw[e1,es,e2]
  refine ih2 _ (by omega) ?_ ?_ ?_ ?_
  · simp
  · simp
  · simp
  · simp[w1]
theorem ok30 (hW:Wg g):Ok Tryz.prog 30 [.agg g.cells] H (.ret (.own (H.length+1) 0 g.is.length 1 0)) (H++gbox g::⟨outs g.is.length (pB H.length) g.acts 0,45,0,true⟩::blkO g g.is.length):=by
 have hil:=hW.gd.i
 refine ok_fn hm Tryz.func30 c30 (by simp[Gm.cells,nds_under,infs_under]) fun hcl => ?_
 simp -implicitDefEqProofs[i30,r30,Gm.cells]
 refine⟨by omega,by omega,?_⟩
 rw[←outQ_0 (pB H.length) g.acts 0]
 refine tlp37_0 hW (fun env g3 => ?_) g.is.length 0 _ (by omega) (by simp) (by simp) (by simp) (by simp)
 simp -implicitDefEqProofs[g3]
 rw[outQ_all]
 exact cv_id
end
end Go.Proofs.YtogjmpkehjfecaaGreatDoor.Rc
namespace Go.Proofs.YtogjmpkehjfecaaGreatDoor.Rc
open Go.Ab Go.Ab.Shr
@[simp ↓] theorem rs_calln (n:Nat) (f:Od) (l:List Od):(E.calln f l).rs n=.calln f l:=rfl
@[simp ↓] theorem rs_stw (n:Nat) (ws:List Nat) (k:Nat) (p x:Od):(E.stw ws k p x).rs n=.stw ws k p x:=rfl
end Go.Proofs.YtogjmpkehjfecaaGreatDoor.Rc
namespace Go.Proofs.YtogjmpkehjfecaaGreatDoor.Rc
open Go.Ab Go.Ab.Shr
section
variable {g:Gm} {H G:List AO} {c:TC} {s:TS}
theorem TW.setM (h:TW g H c s G) {X:List Int} (hV:X.length=g.ns.length):TW g H { c with M:=X } s (G.set (pM H g) ⟨ints X,3,1,true⟩):=by
 have hlt:=getElem?_lt h.m
 have ne:∀ {j:Nat} {x:Option AO},pM H g≠j->G[j]? = x->(G.set (pM H g) ⟨ints X,3,1,true⟩)[j]? = x:=fun hn hx=>by rw[List.getElem?_set_ne hn]; exact hx
 constructor
 case l=>exact⟨h.l.A,h.l.P,h.l.S,h.l.V,h.l.R,h.l.O,h.l.ord,hV,h.l.F⟩
 case len=>simpa using h.len
 case cl=>exact closed_set h.cl _ (by simp)
 case m=>rw[List.getElem?_set_self hlt]
 case low=>intro i hi; exact ne (by unfold pM; omega) (h.low i hi)
 case a=>intro i hi; exact ne (by unfold pM pA; omega) (h.a i hi)
 case p=>intro i hi; exact ne (by unfold pM pP; omega) (h.p i hi)
 case ss=>intro i hi; exact ne (by unfold pM pS; omega) (h.ss i hi)
 case w=>exact ne (by unfold pM pW; omega) h.w
 case v=>exact ne (by unfold pM pV; omega) h.v
 case f=>exact ne (by unfold pM pF; omega) h.f
 case ao=>exact ne (by unfold pM pAo; omega) h.ao
 case po=>exact ne (by unfold pM pPo; omega) h.po
 case so=>exact ne (by unfold pM pSo; omega) h.so
 case r=>exact ne (by unfold pM pR; omega) h.r
 case o=>exact ne (by unfold pM pO; omega) h.o
theorem TW.setF (h:TW g H c s G) {X:List Int} (hV:X.length=g.is.length):TW g H { c with F:=X } s (G.set (pF H g) ⟨ints X,3,1,true⟩):=by
 have hlt:=getElem?_lt h.f
 have ne:∀ {j:Nat} {x:Option AO},pF H g≠j->G[j]? = x->(G.set (pF H g) ⟨ints X,3,1,true⟩)[j]? = x:=fun hn hx=>by rw[List.getElem?_set_ne hn]; exact hx
 constructor
 case l=>exact⟨h.l.A,h.l.P,h.l.S,h.l.V,h.l.R,h.l.O,h.l.ord,h.l.M,hV⟩
 case len=>simpa using h.len
 case cl=>exact closed_set h.cl _ (by simp)
 case f=>rw[List.getElem?_set_self hlt]
 case low=>intro i hi; exact ne (by unfold pF; omega) (h.low i hi)
 case a=>intro i hi; exact ne (by unfold pF pA; omega) (h.a i hi)
 case p=>intro i hi; exact ne (by unfold pF pP; omega) (h.p i hi)
 case ss=>intro i hi; exact ne (by unfold pF pS; omega) (h.ss i hi)
 case w=>exact ne (by unfold pF pW; omega) h.w
 case m=>exact ne (by unfold pF pM; omega) h.m
 case v=>exact ne (by unfold pF pV; omega) h.v
 case ao=>exact ne (by unfold pF pAo; omega) h.ao
 case po=>exact ne (by unfold pF pPo; omega) h.po
 case so=>exact ne (by unfold pF pSo; omega) h.so
 case r=>exact ne (by unfold pF pR; omega) h.r
 case o=>exact ne (by unfold pF pO; omega) h.o
end
def wsK (ws:List Int):Nat->Int
 | 0=>0
 | k+1=>IntKind.i64.wrap (wsK ws k+ws.getD k 0)
def wsum (ws:List Int):Int:=wsK ws ws.length
theorem wsK_rng {ws:List Int} (h:∀ w∈ws,1≤w∧w≤1000) (hl:ws.length≤60):∀ k,k≤ws.length->(k:Int)≤wsK ws k∧wsK ws k≤1000*k
 | 0,_=>by simp[wsK]
 | k+1,hk=>by
  have h1:=wsK_rng h hl k (by omega)
  have h2:=h _ (List.getElem_mem (show k<ws.length by omega))
  have h3:ws.getD k 0=ws[k]:=by simp[show k<ws.length by omega]
  simp only[wsK,h3]
  rw[wrap_id (by omega) (by omega)]
  omega
def wtF (g:Gm) (i:Nat):Int:=match g.ns[i]? with
 | none=>0
 | some x=>wsum x.ws
def wtM (g:Gm) (j:Nat) (i:Nat):Int:=if j≤i then wtF g i else 0
def fsL (g:Gm):Nat->List Int
 | 0=>zers g.is.length
 | m+1=>match g.ns[g.ns.length-1-m]? with
  | none=>fsL g m
  | some x=>if x.k=2 then(fsL g m).set x.i.toNat ((g.ns.length-1-m:Nat):Int)else fsL g m
@[simp] theorem fsL_len (g:Gm):∀ m,(fsL g m).length=g.is.length
 | 0=>by simp[fsL]
 | m+1=>by
  simp only[fsL]
  split
  · exact fsL_len g m
  · split
    · simp[fsL_len g m]
    · exact fsL_len g m
theorem fsL_at {g:Gm} {i t:Nat} (hi:i<g.is.length) (ht:t<g.ns.length) (h2:g.ns[t].k=2) (h3:g.ns[t].i.toNat=i) (h4:∀ u (hu:u<t),¬ (g.ns[u].k=2∧g.ns[u].i.toNat=i)) :
 ∀ m,m≤g.ns.length->g.ns.length-m≤t->(fsL g m).getD i 0=t
 | 0,hm,hg=>by omega
 | m+1,hm,hg=>by
  have hx:g.ns[g.ns.length-1-m]? = some (g.ns[g.ns.length-1-m]'(by omega)):=List.getElem?_eq_getElem (by omega)
  simp only[fsL,hx]
  by_cases e:g.ns.length-1-m=t
  · subst e
    rw[if_pos h2,h3]
    simp[hi]
  · have ih:=fsL_at hi ht h2 h3 h4 m (by omega)
    by_cases e2:g.ns.length-m≤t
    · split
      · rename_i hk
        have hne:¬ (g.ns[g.ns.length-1-m]'(by omega)).i.toNat=i:=fun hh=>h4 (g.ns.length-1-m) (by omega) ⟨hk,hh⟩
        have:=ih e2
        simp only[List.getD_eq_getElem?_getD]at this ⊢
        rw[List.getElem?_set_ne hne]; exact this
      · exact ih e2
    · omega
def cTC (g:Gm):TC:=⟨rowF g.ns.length (wtF g),fsL g g.ns.length⟩
theorem cTC_ok {g:Gm} (hW:Wg g):(cTC g).Ok g where
 m:=fun i hi hk=>by
  obtain⟨a1,a2,a3,a4⟩:=ch_of hW hi hk
  have hx:g.ns[i]? = some g.ns[i]:=List.getElem?_eq_getElem hi
  simp only[cTC]
  rw[rowF_getD hi]
  simp only[wtF,hx,wsum]
  have:=wsK_rng a4 (by omega) g.ns[i].ws.length (Nat.le_refl _)
  omega
 f:=fun i hi=>by
  obtain⟨t,ht,_,h2,h3,h4⟩:=fn_of hW hi
  have:=fsL_at hi ht h2 h3 h4 g.ns.length (Nat.le_refl _) (by omega)
  simp only[cTC]
  rw[this]; omega
end Go.Proofs.YtogjmpkehjfecaaGreatDoor.Rc
namespace Go.Proofs.YtogjmpkehjfecaaGreatDoor.Rc
open Go.Ab Go.Ab.Shr
def pGb (H:List AO) (g:Gm):Nat:=H.length+2+2*g.is.length
theorem put_put (f:Nat->Int) (i:Nat) (x y:Int):put (put f i x) i y=put f i y:=by funext k; unfold put; split<;>rfl
theorem put_self (f:Nat->Int) (i:Nat):put f i (f i)=f:=by funext k; unfold put; split; rename_i e; rw[e]; rfl
theorem wtM_put (g:Gm) (i:Nat):put (wtM g (i+1)) i (wtF g i)=wtM g i:=by
 funext k
 unfold put wtM
 by_cases e:k=i
 · subst e; simp
 · rw[if_neg e]
   by_cases h:i≤k
   · rw[if_pos h,if_pos (by omega)]
   · rw[if_neg h,if_neg (by omega)]
section
variable {g:Gm} {H G:List AO} {c:TC} {s:TS}
theorem gb_keep (h:TW g H c s G) (hb:G[pGb H g]? = some (gbox g)) {p:Nat} (hp:p≠pGb H g) (o:AO):(G.set p o)[pGb H g]? = some (gbox g):=by rw[List.getElem?_set_ne hp]; exact hb
set_option maxRecDepth 10000 in
theorem tlp28_1 (hW:Wg g) {i:Nat} (hi:i<g.ns.length) {f:Nat->Int} {F:List Int} {N:Nat} {K:XE->Env->List AO->Prop}
 (hexit:∀ env G,env.get 2=.ptr (.own (pGb H g) 0 0 0 0) 0->env.get 6=.ptr (.own (pW H g) 0 0 0 0) 0->env.get 7=i64 i->TW g H ⟨rowF g.ns.length (put f i (wsum g.ns[i].ws)),F⟩ s G->G[pGb H g]? = some (gbox g)->K (.exit 2) env G) :
 ∀ (m k:Nat) (env:Env) (G:List AO),k+m=g.ns[i].ws.length->TW g H ⟨rowF g.ns.length (put f i (wsK g.ns[i].ws k)),F⟩ s G->G[pGb H g]? = some (gbox g) →
  env.get 2=.ptr (.own (pGb H g) 0 0 0 0) 0->env.get 6=.ptr (.own (pW H g) 0 0 0 0) 0->env.get 7=i64 i->env.get 51=.slc (ints g.ns[i].ws) g.ns[i].ws.length->env.get 52=i64 g.ns[i].ws.length->env.get 53=i64 k->g.ns[i].ws.length≤60 →
  LI Tryz.prog N drawB l33_1 env G K:=by
 intro m
 induction m with
 | zero =>
  intro k env G hk h hb h2 h6 h7 h51 h52 h53 hl
  refine li_go hm l33_1.eq_1 ?_
  have e:k=g.ns[i].ws.length:=by omega
  subst e
  simp -implicitDefEqProofs[h52,h53]
  exact hexit _ _ (by simp[h2]) (by simp[h6]) (by simp[h7]) h hb
 | succ m ih =>
  intro k env G hk h hb h2 h6 h7 h51 h52 h53 hl
  refine li_go hm l33_1.eq_1 ?_
  have hkl:k<g.ns[i].ws.length:=by omega
  have hw:=h.cw0
  have hM:=oc0 h.m
  have hst:=setObj_some h.m
  have w1:=wrap_suc (show k<9223372036854775807 by omega)
  have eK:wsK g.ns[i].ws (k+1)=IntKind.i64.wrap (wsK g.ns[i].ws k+g.ns[i].ws[k]):=by simp[wsK,hkl]
  have h5:=h.setM (X:=rowF g.ns.length (put f i (wsK g.ns[i].ws (k+1)))) (by simp)
  have hb5:=gb_keep h hb (p:=pM H g) (by unfold pM pGb; omega) ⟨ints (rowF g.ns.length (put f i (wsK g.ns[i].ws (k+1)))),3,1,true⟩
  have ea:(put f i (wsK g.ns[i].ws k)) i=wsK g.ns[i].ws k:=by simp[put]
  have e4:(ints (rowF g.ns.length (put f i (wsK g.ns[i].ws k))))[i]?.getD .any=i64 (wsK g.ns[i].ws k):=by rw[ints_at (by simpa using hi),rowF_getD hi,ea]
  have e3:∀ y:Int,List.take i (ints (rowF g.ns.length (put f i (wsK g.ns[i].ws k))))++i64 y::List.drop (i+1) (ints (rowF g.ns.length (put f i (wsK g.ns[i].ws k))))=ints (rowF g.ns.length (put f i y)):=fun y=>by rw[ints_set (by simpa using hi),rowF_set,put_put]
  have e5:(rowF g.ns.length (put f i (wsK g.ns[i].ws k)))[i]'(by simpa using hi)=wsK g.ns[i].ws k:=by rw[rowF_get hi,ea]
  rw[eK]at h5 hb5
  simp -implicitDefEqProofs[h2,h6,h7,h51,h52,h53,hkl,hw,wHead,hM,hi,hst,e3,e4,e5]
  repeat (refine⟨by omega,?_⟩)
  refine ih (k+1) _ _ (by omega) (by rw[eK]; exact h5) hb5 ?_ ?_ ?_ ?_ ?_ ?_ hl
  · simp[h2]
  · simp
  · simp
  · simp
  · simp
  · simp[w1]
set_option maxRecDepth 10000 in
theorem tlp28_0 (hW:Wg g) {N:Nat} {K:XE->Env->List AO->Prop}
 (hexit:∀ env G,env.get 6=.ptr (.own (pW H g) 0 0 0 0) 0->TW g H (cTC g) s G->K (.exit 0) env G) :
 ∀ (m:Nat) (env:Env) (G:List AO),m≤g.ns.length->TW g H ⟨rowF g.ns.length (wtM g m),fsL g (g.ns.length-m)⟩ s G->G[pGb H g]? = some (gbox g) →
  env.get 2=.ptr (.own (pGb H g) 0 0 0 0) 0->env.get 6=.ptr (.own (pW H g) 0 0 0 0) 0->env.get 7=i64 ((m:Int)-1) →
  LI Tryz.prog N drawB l33_0 env G K:=by
 have hn:=hW.gd.n
 intro m
 induction m with
 | zero =>
  intro env G hm' h hb h2 h6 h7
  refine li_go hm l33_0.eq_1 ?_
  have e:((0:Nat):Int)-1 = -1:=by omega
  rw[e]at h7
  simp -implicitDefEqProofs[h7]
  refine hexit _ _ (by simp[h6]) ?_
  have e2:wtM g 0=wtF g:=by funext k; simp[wtM]
  rw[e2,Nat.sub_zero]at h
  exact h
 | succ i ih =>
  intro env G hm' h hb h2 h6 h7
  refine li_go hm l33_0.eq_1 ?_
  have hi:i<g.ns.length:=by omega
  have hx:g.ns[i]? = some g.ns[i]:=List.getElem?_eq_getElem hi
  have e:((i+1:Nat):Int)-1=(i:Int):=by omega
  rw[e]at h7
  have hgb:objCells G (pGb H g) 0=[i64 g.pl,.slc (nds g.ns) g.ns.length,.slc (infs g.is) g.is.length]:=oc0 (T:=26) hb
  have hws:g.ns[i].ws.length≤60:=by
   rcases kd_of hW hi with hk | hk | hk
   · have:=ch_of hW hi hk; omega
   · have h3:=hW.gd.e _ (List.getElem_mem hi)
     unfold Nd.err Nd.move at h3
     rw[if_neg (by omega),if_neg (by omega),if_pos hk]at h3
     split at h3
     · omega
     · omega
   · have h3:=hW.gd.e _ (List.getElem_mem hi)
     unfold Nd.err Nd.end at h3
     rw[if_neg (by omega),if_neg (by omega),if_neg (by omega)]at h3
     split at h3
     · omega
     · omega
  have h0:TW g H ⟨rowF g.ns.length (put (wtM g (i+1)) i (wsK g.ns[i].ws 0)),fsL g (g.ns.length-(i+1))⟩ s G:=by
   have e0:put (wtM g (i+1)) i (wsK g.ns[i].ws 0)=wtM g (i+1):=by
    have:wsK g.ns[i].ws 0=wtM g (i+1) i:=by simp only[wsK,wtM]; rw[if_neg (by omega)]
    rw[this,put_self]
   rw[e0]; exact h
  have w1:IntKind.i64.wrap ((i:Int)-1)=(i:Int)-1:=wrap_id (by omega) (by omega)
  simp -implicitDefEqProofs[h2,h6,h7,hgb,hi,nd4 hi,nds_len]
  repeat (refine⟨by omega,?_⟩)
  refine tlp28_1 (H:=H) (s:=s) hW hi (fun env G1 g2 g6 g7 h1 hb1 => ?_) g.ns[i].ws.length 0 _ _ (by omega) h0 hb (by simp[h2]) (by simp[h6]) (by simp[h7]) (by simp) (by simp) (by simp) hws
  have eW:put (wtM g (i+1)) i (wsum g.ns[i].ws)=wtM g i:=by
   have:wsum g.ns[i].ws=wtF g i:=by simp only[wtF,hx]
   rw[this,wtM_put]
  rw[eW]at h1
  have hgb1:objCells G1 (pGb H g) 0=[i64 g.pl,.slc (nds g.ns) g.ns.length,.slc (infs g.is) g.is.length]:=oc0 (T:=26) hb1
  have hw1:=h1.cw0
  have efs:g.ns.length-i=(g.ns.length-(i+1))+1:=by omega
  have efi:g.ns.length-1-(g.ns.length-(i+1))=i:=by omega
  have hx2:g.ns[g.ns.length-1-(g.ns.length-(i+1))]? = some g.ns[i]:=by rw[efi]; exact hx
  by_cases hk:g.ns[i].k=2
  · obtain⟨a1,a2,a3,a4,a5⟩:=mv_of hW hi hk
    have eF:fsL g (g.ns.length-i)=(fsL g (g.ns.length-(i+1))).set g.ns[i].i.toNat (i:Int):=by
     rw[efs]; simp only[fsL,hx2]; rw[if_pos hk,efi]
    have hF:=oc0 h1.f
    have hst:=setObj_some h1.f
    have h5:=h1.setF (X:=fsL g (g.ns.length-i)) (by simp)
    have hb5:=gb_keep h1 hb1 (p:=pF H g) (by unfold pF pGb; omega) ⟨ints (fsL g (g.ns.length-i)),3,1,true⟩
    have e3:List.take g.ns[i].i.toNat (ints (fsL g (g.ns.length-(i+1))))++i64 (i:Int)::List.drop (g.ns[i].i.toNat+1) (ints (fsL g (g.ns.length-(i+1))))=ints (fsL g (g.ns.length-i)):=by rw[ints_set (by rw[fsL_len]; exact a1),eF]
    simp -implicitDefEqProofs[g2,g6,g7,hgb1,hw1,wHead,hi,nd0 hi,nd2 hi,nds_len,hk,hF,hst,e3,a1]
    repeat (refine⟨by omega,?_⟩)
    refine ih _ _ (by omega) h5 hb5 ?_ ?_ ?_
    · simp[g2]
    · simp[g6]
    · simp[w1]
  · have eF:fsL g (g.ns.length-i)=fsL g (g.ns.length-(i+1)):=by
     rw[efs]; simp only[fsL,hx2,if_neg hk]
    simp -implicitDefEqProofs[g2,g6,g7,hgb1,hw1,wHead,hi,nd0 hi,nds_len,hk]
    repeat (refine⟨by omega,?_⟩)
    refine ih _ _ (by omega) (by rw[eF]; exact h1) hb1 ?_ ?_ ?_
    · simp[g2]
    · simp[g6]
    · simp[w1]
end
end Go.Proofs.YtogjmpkehjfecaaGreatDoor.Rc
namespace Go.Proofs.YtogjmpkehjfecaaGreatDoor.Rc
open Go.Ab Go.Ab.Shr
theorem blkO_row (g:Gm):∀ (k i:Nat),i<k->(blkO g k)[2*i+1]? = some (rowO 0 (zers (g.acts i)))
 | 0,i,h=>by omega
 | k+1,i,h=>by
  have hl:=blkO_len g k
  by_cases e:i=k
  · subst e
    simp only[blkO]
    rw[List.getElem?_append_right (by omega),hl,show 2*i+1-2*i=1 by omega]
    rfl
  · simp only[blkO]
    rw[List.getElem?_append_left (by omega)]
    exact blkO_row g k i (by omega)
theorem zers_flat (n:Nat):(List.replicate n [i64 0,i64 0,i64 0,i64 0]).flatten=ints (zers (4*n)):=by
 have h:[i64 0,i64 0,i64 0,i64 0]=List.replicate 4 (i64 0):=rfl
 rw[h,List.flatten_replicate_replicate]
 simp[ints,zers,Nat.mul_comm]
def s0T (g:Gm) (rnd seed:Int) (LA LP:List (List Int)):TS:=⟨rnd,seed,fun i=>LA.getD i [],fun i=>LP.getD i [],fun i=>zers (g.acts i),zers (4*g.ns.length),zers (4*g.ns.length),zers (4*g.ns.length),zers 10⟩
def c0T (g:Gm):TC:=⟨zers g.ns.length,zers g.is.length⟩
def baseT (H:List AO) (LA LP:List (List Int)):List AO :=
 (H++(⟨outs LA.length (fun i=>H.length+1+i) (lenL LA) 1,45,0,true⟩::LA.map (rowO 1)))++(⟨outs LP.length (fun i=>H.length+1+LA.length+1+i) (lenL LP) 1,45,0,true⟩::LP.map (rowO 1))
def initT (g:Gm) (H:List AO) (rnd seed:Int) (LA LP:List (List Int)):List AO :=
 baseT H LA LP++([gbox g,⟨[i64 rnd,i64 seed,.own H.length 0 g.is.length 1 0,.own (H.length+1+g.is.length) 0 g.is.length 1 0],30,0,true⟩,⟨ints (zers g.ns.length),3,1,true⟩,⟨ints (zers g.is.length),3,1,true⟩,
  gbox g,⟨outs g.is.length (pS H g) g.acts 0,45,0,true⟩]++(blkO g g.is.length++[wObj g H (s0T g rnd seed LA LP),⟨ints (zers (4*g.ns.length)),105,1,true⟩,⟨ints (zers (4*g.ns.length)),105,1,true⟩,⟨ints (zers (4*g.ns.length)),105,1,true⟩]))
section
variable {g:Gm} {H:List AO} {rnd seed:Int} {LA LP:List (List Int)}
theorem init_gb (hA:LA.length=g.is.length) (hP:LP.length=g.is.length):(initT g H rnd seed LA LP)[pGb H g]? = some (gbox g):=by
 have hB:(baseT H LA LP).length=H.length+2+2*g.is.length:=by simp[baseT]; omega
 unfold initT
 rw[List.getElem?_append_right (by unfold pGb; omega),hB,show pGb H g-(H.length+2+2*g.is.length)=0 by unfold pGb; omega]
 rfl
set_option maxRecDepth 10000 in
theorem TW.init (hcl:closed H) (hA:LA.length=g.is.length) (hP:LP.length=g.is.length) (hlA:∀ i,i<g.is.length->lenL LA i=g.acts i) (hlP:∀ i,i<g.is.length->lenL LP i=g.acts i) :
 TW g H (c0T g) (s0T g rnd seed LA LP) (initT g H rnd seed LA LP):=by
 have hB:(baseT H LA LP).length=H.length+2+2*g.is.length:=by simp[baseT]; omega
 have hbl:=blkO_len g g.is.length
 have up:∀ k:Nat,(initT g H rnd seed LA LP)[H.length+2+2*g.is.length+k]? = ([gbox g,⟨[i64 rnd,i64 seed,.own H.length 0 g.is.length 1 0,.own (H.length+1+g.is.length) 0 g.is.length 1 0],30,0,true⟩,⟨ints (zers g.ns.length),3,1,true⟩,⟨ints (zers g.is.length),3,1,true⟩,
  gbox g,⟨outs g.is.length (pS H g) g.acts 0,45,0,true⟩]++(blkO g g.is.length++[wObj g H (s0T g rnd seed LA LP),⟨ints (zers (4*g.ns.length)),105,1,true⟩,⟨ints (zers (4*g.ns.length)),105,1,true⟩,⟨ints (zers (4*g.ns.length)),105,1,true⟩]))[k]? := fun k=>by
  unfold initT
  rw[List.getElem?_append_right (by omega),hB]
  congr 1; omega
 have up6:∀ k:Nat,(initT g H rnd seed LA LP)[H.length+8+2*g.is.length+k]? = (blkO g g.is.length++[wObj g H (s0T g rnd seed LA LP),⟨ints (zers (4*g.ns.length)),105,1,true⟩,⟨ints (zers (4*g.ns.length)),105,1,true⟩,⟨ints (zers (4*g.ns.length)),105,1,true⟩])[k]? := fun k=>by
  rw[show H.length+8+2*g.is.length+k=H.length+2+2*g.is.length+(6+k)by omega,up,List.getElem?_append_right (by simp)]
  congr 1; simp
 have upE:∀ k:Nat,(initT g H rnd seed LA LP)[H.length+8+4*g.is.length+k]? = [wObj g H (s0T g rnd seed LA LP),⟨ints (zers (4*g.ns.length)),105,1,true⟩,⟨ints (zers (4*g.ns.length)),105,1,true⟩,⟨ints (zers (4*g.ns.length)),105,1,true⟩][k]? := fun k=>by
  rw[show H.length+8+4*g.is.length+k=H.length+8+2*g.is.length+(2*g.is.length+k)by omega,up6,List.getElem?_append_right (by omega),hbl]
  congr 1; omega
 have dn:∀ k:Nat,k<(baseT H LA LP).length->(initT g H rnd seed LA LP)[k]? = (baseT H LA LP)[k]? := fun k hk=>by
  unfold initT
  rw[List.getElem?_append_left hk]
 have b1:∀ k:Nat,k<H.length+1+g.is.length->(baseT H LA LP)[k]? = (H++(⟨outs LA.length (fun i=>H.length+1+i) (lenL LA) 1,45,0,true⟩::LA.map (rowO 1)))[k]? := fun k hk=>by
  unfold baseT
  rw[List.getElem?_append_left (by simp; omega)]
 have b2:∀ k:Nat,(baseT H LA LP)[H.length+1+g.is.length+k]? = ((⟨outs LP.length (fun i=>H.length+1+LA.length+1+i) (lenL LP) 1,45,0,true⟩::LP.map (rowO 1)):List AO)[k]? := fun k=>by
  unfold baseT
  rw[List.getElem?_append_right (by simp; omega)]
  congr 1; simp; omega
 have outs_c:∀ {I J:Nat} {p q n m:Nat->Nat},I=J->(∀ i,i<J->p i=q i)->(∀ i,i<J->n i=m i)->outs I p n 1=outs J q m 1:=fun {I J p q n m} hI hp hn=>by
  subst hI
  unfold outs
  apply List.map_congr_left
  intro j hj
  simp only[List.mem_range]at hj
  rw[hp j hj,hn j hj]
 have hgd:∀ (L:List (List Int)) (i:Nat),(s0T g rnd seed LA LP).A=(fun i=>LA.getD i []):=fun _ _=>rfl
 constructor
 case l =>
  refine⟨fun i hi => ?_,fun i hi => ?_,fun i hi=>by simp[s0T],by simp[s0T],by simp[s0T],by simp[s0T],by simp[s0T],by simp[c0T],by simp[c0T]⟩
  · have:=hlA i hi; simpa[s0T,lenL]using this
  · have:=hlP i hi; simpa[s0T,lenL]using this
 case len=>simp[initT,hB,hbl,pE]; omega
 case low =>
  intro i hi
  rw[dn i (by omega),b1 i (by omega),List.getElem?_append_left hi]
 case m=>rw[show pM H g=H.length+2+2*g.is.length+2 by unfold pM; omega,up]; rfl
 case f=>rw[show pF H g=H.length+2+2*g.is.length+3 by unfold pF; omega,up]; rfl
 case so=>rw[show pSo H g=H.length+2+2*g.is.length+5 by unfold pSo; omega,up]; rfl
 case ss=>intro i hi; rw[show pS H g i=H.length+8+2*g.is.length+(2*i+1)by unfold pS; omega,up6,List.getElem?_append_left (by omega),blkO_row g _ i hi]; rfl
 case w=>rw[show pW H g=H.length+8+4*g.is.length+0 by unfold pW; omega,upE]; rfl
 case v=>rw[show pV H g=H.length+8+4*g.is.length+1 by unfold pV; omega,upE]; rfl
 case r=>rw[show pR H g=H.length+8+4*g.is.length+2 by unfold pR; omega,upE]; rfl
 case o=>rw[show pO H g=H.length+8+4*g.is.length+3 by unfold pO; omega,upE]; rfl
 case ao =>
  unfold pAo
  rw[dn _ (by omega),b1 _ (by omega),List.getElem?_append_right (by omega)]
  simp only[Nat.sub_self,List.getElem?_cons_zero]
  have:=outs_c (q:=pA H g) (m:=g.acts) hA (fun i _=>by unfold pA; omega) hlA (p:=fun i=>H.length+1+i)
  rw[this]
 case a =>
  intro i hi
  rw[show pA H g i=H.length+(i+1)by unfold pA; omega,dn _ (by omega),b1 _ (by omega),List.getElem?_append_right (by omega),show H.length+(i+1)-H.length=i+1 by omega]
  simp[s0T,rowO,hA,hi]
 case po =>
  rw[show pPo H g=H.length+1+g.is.length+0 by unfold pPo; omega,dn _ (by omega),b2]
  simp only[List.getElem?_cons_zero]
  have:=outs_c (q:=pP H g) (m:=g.acts) hP (fun i _=>by unfold pP; omega) hlP (p:=fun i=>H.length+1+LA.length+1+i)
  rw[this]
 case p =>
  intro i hi
  rw[show pP H g i=H.length+1+g.is.length+(i+1)by unfold pP; omega,dn _ (by omega),b2]
  simp[s0T,rowO,hP,hi]
 case cl =>
  have hlen:(initT g H rnd seed LA LP).length=pE H g:=by simp[initT,hB,hbl,pE]; omega
  have hou:∀ (I:Nat) (p n:Nat->Nat) (v:Nat),(∀ i,i<I->p i<pE H g)->∀ x∈outs I p n v,x.under (pE H g)=true:=fun I p n v hp x hx=>by
   simp only[outs,List.mem_map,List.mem_range]at hx
   obtain⟨i,hi,rfl⟩:=hx
   simpa using hp i hi
  have hin:∀ (l:List Int),∀ x∈ints l,x.under (pE H g)=true:=fun l x hx=>by
   simp only[ints,List.mem_map]at hx
   obtain⟨n,_,rfl⟩:=hx
   rfl
  have hbk:∀ (k:Nat),∀ o∈blkO g k,∀ x∈o.cells,x.under (pE H g)=true:=fun k=>by
   induction k with
   | zero=>intro o ho; simp[blkO]at ho
   | succ k ih =>
    intro o ho x hx
    simp only[blkO,List.mem_append,List.mem_cons,List.not_mem_nil,or_false]at ho
    rcases ho with ho | rfl | rfl
    · exact ih o ho x hx
    · simp at hx; rcases hx with rfl | rfl<;>rfl
    · exact hin _ x hx
  have hgb:∀ x∈(gbox g).cells,x.under (pE H g)=true:=fun x hx=>by
   simp only[gbox,List.mem_cons,List.not_mem_nil,or_false]at hx
   rcases hx with rfl | rfl | rfl
   · rfl
   · simp[nds_under]
   · simp[infs_under]
  have hwb:∀ x∈(wObj g H (s0T g rnd seed LA LP)).cells,x.under (pE H g)=true:=by
   rw[←SV.underL_iff]
   simp only[wObj,oI,SV.underL_append,wHead,Bool.and_eq_true]
   unfold pM pF pAo pPo pSo pV pR pO pE
   refine⟨?_,by simp⟩
   simp[nds_under,infs_under]
   omega
  intro i o ho x hx
  rw[hlen]
  have hm:o∈initT g H rnd seed LA LP:=List.mem_of_getElem? ho
  unfold initT baseT at hm
  simp only[List.mem_append,List.mem_cons,List.not_mem_nil,or_false,List.mem_map]at hm
  rcases hm with ((hm | rfl | ⟨l,_,rfl⟩) | rfl | ⟨l,_,rfl⟩) | (rfl | rfl | rfl | rfl | rfl | rfl) | hm | rfl | rfl | rfl | rfl
  · obtain⟨j,hj⟩:=List.getElem?_of_mem hm
    exact SV.under_mono (by unfold pE; omega) x (hcl j o hj x hx)
  · exact hou _ _ _ _ (fun i hi=>by unfold pE; omega) x hx
  · exact hin _ x hx
  · exact hou _ _ _ _ (fun i hi=>by unfold pE; omega) x hx
  · exact hin _ x hx
  · exact hgb x hx
  · simp only[List.mem_cons,List.not_mem_nil,or_false]at hx
    rcases hx with rfl | rfl | rfl | rfl
    · rfl
    · rfl
    · show decide (_<_)=true
      rw[decide_eq_true_iff]; unfold pE; omega
    · show decide (_<_)=true
      rw[decide_eq_true_iff]; unfold pE; omega
  · exact hin _ x hx
  · exact hin _ x hx
  · exact hgb x hx
  · exact hou _ _ _ _ (fun i hi=>by unfold pS pE; omega) x hx
  · exact hbk _ o hm x hx
  · exact hwb x hx
  · exact hin _ x hx
  · exact hin _ x hx
  · exact hin _ x hx
end
end Go.Proofs.YtogjmpkehjfecaaGreatDoor.Rc
namespace Go.Proofs.YtogjmpkehjfecaaGreatDoor.Rc
open Go.Ab Go.Ab.Shr
section
variable {H:List AO} {g:Gm} {rnd seed:Int} {LA LP:List (List Int)}
set_option maxRecDepth 10000 in
theorem ok33 (hW:Wg g) (hcl0:closed H) (hA:LA.length=g.is.length) (hP:LP.length=g.is.length) (hlA:∀ i,i<g.is.length->lenL LA i=g.acts i) (hlP:∀ i,i<g.is.length->lenL LP i=g.acts i) :
 OkP Tryz.prog 33 [.agg g.cells,.agg [i64 rnd,i64 seed,.own H.length 0 g.is.length 1 0,.own (H.length+1+g.is.length) 0 g.is.length 1 0]] (baseT H LA LP) fun out G' =>
  out=.ret (.ptr (.own (pW H g) 0 0 0 0) 0)∧TW g H (cTC g) (s0T g rnd seed LA LP) G':=by
 have hn:=hW.gd.n
 have hil:=hW.gd.i
 have hB:(baseT H LA LP).length=H.length+2+2*g.is.length:=by simp[baseT]; omega
 have hti:=TW.init (rnd:=rnd) (seed:=seed) hcl0 hA hP hlA hlP
 have htb:=init_gb (rnd:=rnd) (seed:=seed) (H:=H) hA hP
 have hin:initT g H rnd seed LA LP=baseT H LA LP++([gbox g,⟨[i64 rnd,i64 seed,.own H.length 0 g.is.length 1 0,.own (H.length+1+g.is.length) 0 g.is.length 1 0],30,0,true⟩,⟨ints (zers g.ns.length),3,1,true⟩,⟨ints (zers g.is.length),3,1,true⟩,
  gbox g,⟨outs g.is.length (pS H g) g.acts 0,45,0,true⟩]++(blkO g g.is.length++[wObj g H (s0T g rnd seed LA LP),⟨ints (zers (4*g.ns.length)),105,1,true⟩,⟨ints (zers (4*g.ns.length)),105,1,true⟩,⟨ints (zers (4*g.ns.length)),105,1,true⟩])):=rfl
 generalize baseT H LA LP=B at *
 refine okP_fn hm Tryz.func33 c33 (by simp[Gm.cells,nds_under,infs_under]; try omega) fun hcl => ?_
 have h37:=fun H'=>ok30 (H:=H') hW
 simp only[Gm.cells]at h37
 simp -implicitDefEqProofs[i33,r33,Gm.cells]
 repeat (refine⟨by omega,?_⟩)
 refine calln_go (L:=gbox g::⟨outs g.is.length (pB (B.length+4)) g.acts 0,45,0,true⟩::blkO g g.is.length) (r:=.own (B.length+4+1) 0 g.is.length 1 0) (fun H' hl => ?_) ?_
 · have:=h37 H'
   simp at hl
   rw[hl]at this
   exact this
 have hbl:=blkO_len g g.is.length
 generalize blkO g g.is.length=M at *
 simp -implicitDefEqProofs[gbox]
 refine⟨rfl,by omega,by omega,by omega,by omega,by omega,by omega,?_⟩
 have w1:IntKind.i64.wrap ((g.ns.length:Int)-1)=(g.ns.length:Int)-1:=wrap_id (by omega) (by omega)
 have p6:B.length+(M.length+6)=pW H g:=by unfold pW; omega
 have p7:B.length+(M.length+7)=pV H g:=by unfold pV; omega
 have p8:B.length+(M.length+8)=pR H g:=by unfold pR; omega
 have p9:B.length+(M.length+9)=pO H g:=by unfold pO; omega
 have p2:B.length+2=pM H g:=by unfold pM; omega
 have p3:B.length+3=pF H g:=by unfold pF; omega
 have p5:B.length+5=pSo H g:=by unfold pSo; omega
 have p0:B.length=pGb H g:=by unfold pGb; omega
 have ps:pB (B.length+4)=pS H g:=by funext i; unfold pB pS; omega
 refine LI.cong (H':=initT g H rnd seed LA LP) ?_ ?_
 · rw[hin,p7,p8,p9,p2,p3,p5,ps]
   simp[wObj,oI,wHead,s0T,gbox,zers_flat,ints,zers,pAo,pPo]
 · rw[p6,p0]
   refine tlp28_0 (s:=s0T g rnd seed LA LP) hW (fun env G g6 h => ?_) g.ns.length _ _ (Nat.le_refl _) ?_ htb (by simp) (by simp) (by simp[w1])
   · simp -implicitDefEqProofs[g6]
     exact⟨_,_,⟨rfl,h⟩,cv_id⟩
   · have e1:rowF g.ns.length (wtM g g.ns.length)=zers g.ns.length:=by
      apply List.ext_getElem?
      intro i
      by_cases hi:i<g.ns.length
      · simp[rowF,zers,wtM,hi]; omega
      · rw[List.getElem?_eq_none (by simp; omega),List.getElem?_eq_none (by simp; omega)]
     rw[e1,Nat.sub_self]
     exact hti
end
end Go.Proofs.YtogjmpkehjfecaaGreatDoor.Rc
namespace Go.Proofs.YtogjmpkehjfecaaGreatDoor.Rc
open Go.Ab Go.Ab.Shr
def fstE (f:Nat->Int):Nat->Nat->Int
 | 0,_=>0
 | m+1,i=>if f i≠0 then f i else fstE f m (i+1)
theorem fstE_zero {f:Nat->Int}:∀ (m i:Nat),fstE f m i=0↔∀ j,i≤j->j<i+m->f j=0
 | 0,i=>by simp only[fstE,true_iff]; intro j h1 h2; omega
 | m+1,i=>by
  simp only[fstE]
  by_cases h:f i=0
  · rw[if_neg (by simpa using h),fstE_zero m (i+1)]
    constructor
    · intro hh j h1 h2
      by_cases e:j=i
      · subst e; exact h
      · exact hh j (by omega) (by omega)
    · intro hh j h1 h2; exact hh j (by omega) (by omega)
  · rw[if_pos h]
    constructor
    · intro e; exact absurd e h
    · intro hh; exact hh i (Nat.le_refl _) (by omega)
def perQ (g:Gm) (p:Nat):Int:=if g.perf p=true then 0 else 13
def Gm.prpE (g:Gm):Int:=if g.formE≠0 then g.formE else fstE (perQ g) g.pl.toNat 0
section
variable {g:Gm} {H:List AO}
theorem perf_at (hf:g.formE=0) {p:Nat} (hp:(p:Int)<g.pl):g.perfV p=g.perf p∧g.perfE p=0:=by
 have h1:g.perfE p=0:=by
  unfold Gm.perfE
  rw[if_neg (by simpa using hf),if_neg (by omega)]
 exact⟨by unfold Gm.perfV; rw[if_pos h1],h1⟩
theorem tlp36_0 (hf:g.formE=0) {B:List AO} (hB:objCells B H.length 0=g.cells) {N:Nat} {K:XE->Env->List AO->Prop}
 (hret:∀ e env,fstE (perQ g) g.pl.toNat 0=e->e≠0->env.get 2=i64 e->K .ret env B) (hexit:fstE (perQ g) g.pl.toNat 0=0->∀ env,K (.exit 0) env B) :
 ∀ (m p:Nat) (env:Env),((p+m:Nat):Int)=g.pl->fstE (perQ g) m p=fstE (perQ g) g.pl.toNat 0->env.get 1=.ptr (.own H.length 0 0 0 0) 0->env.get 13=i64 g.pl->env.get 14=i64 p->LI Tryz.prog N drawB l29_0 env B K:=by
 have hW:=wg_of hf
 have hp4:=hW.gd.p4
 intro m
 induction m with
 | zero =>
  intro p env hp hE h1 h13 h14
  refine li_go hm l29_0.eq_1 ?_
  simp -implicitDefEqProofs[h13,h14,show ¬ (p:Int)<g.pl by omega]
  exact hexit hE.symm _
 | succ m ih =>
  intro p env hp hE h1 h13 h14
  refine li_go hm l29_0.eq_1 ?_
  have hpp:(p:Int)<g.pl:=by omega
  obtain⟨q1,q2⟩:=perf_at hf hpp
  have h63:=fun H=>ok52 (H:=H) (g:=g) p
  rw[q1,q2]at h63
  simp only[Gm.cells]at h63 hB
  have w1:=wrap_suc (show p<9223372036854775807 by omega)
  simp -implicitDefEqProofs[h1,h13,h14,hpp,hB]
  refine call_go (h63 _) ?_
  by_cases hq:g.perf p=true
  · have hE2:fstE (perQ g) m (p+1)=fstE (perQ g) g.pl.toNat 0:=by rw[←hE]; simp[fstE,perQ,hq]
    simp -implicitDefEqProofs[hq,h1,h13,h14]
    refine ih (p+1) _ (by omega) hE2 ?_ ?_ ?_
    · simp
    · simp
    · simp[w1]
  · have hE2:fstE (perQ g) g.pl.toNat 0=13:=by rw[←hE]; simp[fstE,perQ,hq]
    have hq':g.perf p=false:=by simpa using hq
    simp -implicitDefEqProofs[hq']
    exact hret 13 _ hE2 (by decide) (by simp)
theorem ok29:Ok Tryz.prog 29 [.agg g.cells] H (.ret (i64 g.prpE)) H:=by
 refine ok_fn hm Tryz.func29 c29 (by simp[Gm.cells,nds_under,infs_under]) fun hcl => ?_
 have h62:=fun H=>ok51 (H:=H) (g:=g)
 simp only[Gm.cells]at h62
 simp -implicitDefEqProofs[i29,r29,Gm.cells]
 refine call_go (h62 _) ?_
 by_cases hf:g.formE=0
 · have e:g.prpE=fstE (perQ g) g.pl.toNat 0:=by unfold Gm.prpE; rw[if_neg (by simpa using hf)]
   have hp:=(wg_of hf).gd.p1
   simp -implicitDefEqProofs[hf]
   rw[e]
   refine tlp36_0 (H:=H) hf (by simp[Gm.cells]) (fun e env he hne h2 => ?_) (fun he env => ?_) g.pl.toNat 0 _ (by omega) rfl (by simp) (by simp) (by simp)
   · simp -implicitDefEqProofs[h2]
     rw[he]
     exact cv_fz 1 hcl rfl (by simp)
   · simp -implicitDefEqProofs
     rw[he]
     exact cv_fz 1 hcl rfl (by simp)
 · have e:g.prpE=g.formE:=by unfold Gm.prpE; rw[if_pos hf]
   simp -implicitDefEqProofs[hf,e]
   exact cv_fz 1 hcl rfl (by simp)
end
def rowE (g:Gm) (L:List (List Int)) (least:Int) (i:Nat):Int :=
 if((lenL L i:Nat):Int)≠(g.is.getD i (0,0)).2 then 3 else if(L.getD i []).any (fun x=>decide (x<least)||decide (70368744177664<x))=true then 2 else 0
def lstE (g:Gm) (L:List (List Int)) (least:Int):Int:=if L.length≠g.is.length then 3 else fstE (rowE g L least) g.is.length 0
section
variable {g:Gm} {H B:List AO} {L:List (List Int)} {least:Int}
set_option maxRecDepth 10000 in
theorem tlp39_1 {l:List Int} (hl:l.length≤10) {x17 x18 x19:SV} {N:Nat} {K:XE->Env->List AO->Prop}
 (hret:l.any (fun x=>decide (x<least)||decide (70368744177664<x))=true->∀ env,env.get 6=i64 2->K .ret env B)
 (hexit:l.any (fun x=>decide (x<least)||decide (70368744177664<x))=false->∀ env,env.get 2=i64 least->env.get 3=.ptr (.own H.length 0 0 0 0) 0->env.get 17=x17->env.get 18=x18->env.get 19=x19->K (.exit 2) env B) :
 ∀ (m i:Nat) (env:Env),i+m=l.length->(∀ j (h:j<l.length),j<i->¬ (l[j]<least∨70368744177664<l[j]))->env.get 2=i64 least->env.get 3=.ptr (.own H.length 0 0 0 0) 0->env.get 17=x17->env.get 18=x18->env.get 19=x19 →
  env.get 33=sl l->env.get 34=i64 l.length->env.get 35=i64 i->LI Tryz.prog N drawB l39_1 env B K:=by
 intro m
 induction m with
 | zero =>
  intro i env hi hp h2 h3 h17 h18 h19 h33 h34 h35
  refine li_go hm l39_1.eq_1 ?_
  have e:i=l.length:=by omega
  subst e
  simp -implicitDefEqProofs[h34,h35]
  refine hexit ?_ _ (by simp[h2]) (by simp[h3]) (by simp[h17]) (by simp[h18]) (by simp[h19])
  rw[List.any_eq_false]
  intro x hx
  obtain⟨k,hk,rfl⟩:=List.getElem_of_mem hx
  simpa using hp k hk hk
 | succ m ih =>
  intro i env hi hp h2 h3 h17 h18 h19 h33 h34 h35
  refine li_go hm l39_1.eq_1 ?_
  have hil:i<l.length:=by omega
  have w1:=wrap_suc (show i<9223372036854775807 by omega)
  have bad:(l[i]<least∨70368744177664<l[i])->l.any (fun x=>decide (x<least)||decide (70368744177664<x))=true:=fun hb=>by
   rw[List.any_eq_true]
   exact⟨l[i],List.getElem_mem hil,by simpa using hb⟩
  by_cases c1:l[i]<least
  · simp -implicitDefEqProofs[h2,h3,h17,h18,h19,h33,h34,h35,hil,sl,c1]
    exact⟨by omega,hret (bad (.inl c1)) _ (by simp)⟩
  · by_cases c2:70368744177664<l[i]
    · simp -implicitDefEqProofs[h2,h3,h17,h18,h19,h33,h34,h35,hil,sl,c1,c2]
      exact⟨by omega,hret (bad (.inr c2)) _ (by simp)⟩
    · simp -implicitDefEqProofs[h2,h3,h17,h18,h19,h33,h34,h35,hil,sl,c1,c2]
      refine⟨by omega,ih (i+1) _ (by omega) (fun j hj hji => ?_) ?_ ?_ ?_ ?_ ?_ ?_ ?_ ?_⟩
      rotate_left
      · simp
      · simp[h3]
      · simp[h17]
      · simp[h18]
      · simp[h19]
      · simp[sl]
      · simp
      · simp[w1]
      by_cases e:j=i
      · subst e; exact fun h=>h.elim c1 c2
      · exact hp j hj (by omega)
set_option maxRecDepth 10000 in
theorem tlp39_0 (hW:Wg g) (hB:objCells B H.length 0=g.cells) (hLl:L.length=g.is.length) {N:Nat} {K:XE->Env->List AO->Prop}
 (hret:∀ e env,fstE (rowE g L least) g.is.length 0=e->env.get 6=i64 e->K .ret env B) (hexit:fstE (rowE g L least) g.is.length 0=0->∀ env,K (.exit 0) env B) :
 ∀ (m i:Nat) (env:Env),i+m=g.is.length->fstE (rowE g L least) m i=fstE (rowE g L least) g.is.length 0->env.get 2=i64 least->env.get 3=.ptr (.own H.length 0 0 0 0) 0->env.get 17=.slc (sls L) L.length->env.get 18=i64 L.length->env.get 19=i64 i →
  LI Tryz.prog N drawB l39_0 env B K:=by
 have hil:=hW.gd.i
 intro m
 induction m with
 | zero =>
  intro i env hi hE h2 h3 h17 h18 h19
  refine li_go hm l39_0.eq_1 ?_
  have e:i=L.length:=by omega
  subst e
  simp -implicitDefEqProofs[h18,h19]
  exact hexit hE.symm _
 | succ m ih =>
  intro i env hi hE h2 h3 h17 h18 h19
  refine li_go hm l39_0.eq_1 ?_
  have hii:i<g.is.length:=by omega
  have hiL:i<L.length:=by omega
  have hgi:g.is.getD i (0,0)=g.is[i]:=by simp[hii]
  have hgL:L.getD i []=L[i]:=by simp[hiL]
  have hac:=acts_le hW hii
  have ha:(g.acts i:Int)=g.is[i].2:=by unfold Gm.acts at hac ⊢; rw[hgi]at hac ⊢; omega
  have w1:=wrap_suc (show i<9223372036854775807 by omega)
  have hig:infs_at hii=infs_at hii:=rfl
  have i2:(infs g.is)[i*2+1]?.getD .any=i64 g.is[i].2:=by
   rw[←List.getElem?_drop,infs_at hii]; rfl
  have i3:(infs g.is).length=2*g.is.length:=infs_len _
  simp only[Gm.cells]at hB
  by_cases hl:(L[i].length:Int)=g.is[i].2
  · have hR:rowE g L least i=if L[i].any (fun x=>decide (x<least)||decide (70368744177664<x))=true then 2 else 0:=by
     unfold rowE
     rw[lenL_at hiL,hgi,if_neg (by simpa using hl),hgL]
    simp -implicitDefEqProofs[h2,h3,h17,h18,h19,hiL,hii,sls_get hiL,hB,i2,i3,hl,sl]
    repeat (refine⟨by omega,?_⟩)
    refine tlp39_1 (H:=H) (l:=L[i]) (least:=least) (by omega) (x17:=.slc (sls L) L.length) (x18:=i64 L.length) (x19:=i64 i) (fun hb env g6 => ?_) (fun hb env g2 g3 g17 g18 g19 => ?_) L[i].length 0 _ (by omega) (fun j hj hj0=>by omega) (by simp[h2]) (by simp[h3]) (by simp[h17]) (by simp[h18]) (by simp[h19]) (by simp[sl]) (by simp[hl]) (by simp)
    · simp -implicitDefEqProofs
      refine hret 2 _ ?_ g6
      rw[←hE]; simp[fstE,hR,hb]
    · simp -implicitDefEqProofs[g2,g3,g17,g18,g19]
      refine ih (i+1) _ (by omega) (by rw[←hE]; simp[fstE,hR,hb]) ?_ ?_ ?_ ?_ ?_
      · simp[g2]
      · simp[g3]
      · simp[g17]
      · simp[g18]
      · simp[w1]
  · have hR:rowE g L least i=3:=by
     unfold rowE
     rw[lenL_at hiL,hgi,if_pos hl]
    simp -implicitDefEqProofs[h2,h3,h17,h18,h19,hiL,hii,sls_get hiL,hB,i2,i3,hl,sl]
    repeat (refine⟨by omega,?_⟩)
    refine hret 3 _ ?_ (by simp)
    rw[←hE]; simp[fstE,hR]
theorem ok39 (hW:Wg g):Ok Tryz.prog 39 [.agg g.cells,.slc (sls L) L.length,i64 least] H (.ret (i64 (lstE g L least))) H:=by
 refine ok_fn hm Tryz.func39 c39 (by simp[Gm.cells,nds_under,infs_under,sls_under]) fun hcl => ?_
 simp -implicitDefEqProofs[i39,r39,Gm.cells]
 by_cases hl:L.length=g.is.length
 · have e:lstE g L least=fstE (rowE g L least) g.is.length 0:=by unfold lstE; rw[if_neg (by simpa using hl)]
   rw[e]
   simp -implicitDefEqProofs[hl]
   refine tlp39_0 (H:=H) (least:=least) (L:=L) hW (by simp[Gm.cells]) hl (fun e env he h6 => ?_) (fun he env => ?_) g.is.length 0 _ (by omega) rfl (by simp) (by simp) (by simp[hl]) (by simp[hl]) (by simp)
   · simp -implicitDefEqProofs[h6]
     rw[he]
     exact cv_fz 1 hcl rfl (by simp)
   · simp -implicitDefEqProofs
     rw[he]
     exact cv_fz 1 hcl rfl (by simp)
 · have e:lstE g L least=3:=by unfold lstE; rw[if_pos hl]
   rw[e]
   have hl2:¬ (L.length:Int)=g.is.length:=by omega
   simp -implicitDefEqProofs[hl2,hl]
   exact cv_fz 1 hcl rfl (by simp)
end
structure Tin where
 rnd:Int
 seed:Int
 A:List (List Int)
 P:List (List Int)
def Tin.cells (t:Tin):List SV:=[i64 t.rnd,i64 t.seed,.slc (sls t.A) t.A.length,.slc (sls t.P) t.P.length]
def valE (g:Gm) (t:Tin):Int:=if t.rnd<0∨1000000<t.rnd∨t.seed<0∨2147483646<t.seed then 2 else if lstE g t.A (-70368744177664)≠0 then lstE g t.A (-70368744177664)else lstE g t.P 0
def chkS (g:Gm) (t:Tin):Int:=if g.prpE≠0 then g.prpE else valE g t
theorem prp_form {g:Gm} (h:g.prpE=0):Wg g:=by
 unfold Gm.prpE at h
 by_cases hf:g.formE=0
 · exact wg_of hf
 · rw[if_pos hf]at h; exact absurd h hf
section
variable {g:Gm} {H:List AO} {t:Tin}
set_option maxRecDepth 10000 in
theorem ok14:Ok Tryz.prog 14 [.agg g.cells,.agg t.cells] H (.ret (i64 (chkS g t))) H:=by
 refine ok_fn hm Tryz.func14 c14 (by simp[Gm.cells,nds_under,infs_under,Tin.cells,sls_under]) fun hcl => ?_
 have h36:=fun H=>ok29 (H:=H) (g:=g)
 have h39:=fun H L le hW=>ok39 (H:=H) (g:=g) (L:=L) (least:=le) hW
 simp only[Gm.cells]at h36 h39
 simp -implicitDefEqProofs[i14,r14,Gm.cells,Tin.cells]
 refine call_go (h36 _) ?_
 by_cases hp:g.prpE=0
 · have hW:=prp_form hp
   have e:chkS g t=valE g t:=by unfold chkS; rw[if_neg (by simpa using hp)]
   rw[e]
   by_cases c1:t.rnd<0
   · simp -implicitDefEqProofs[hp,c1]
     exact cv_fz 1 hcl rfl (by simp[valE,c1])
   · by_cases c2:1000000<t.rnd
     · simp -implicitDefEqProofs[hp,c1,c2]
       exact cv_fz 1 hcl rfl (by simp[valE,c1,c2])
     · by_cases c3:t.seed<0
       · simp -implicitDefEqProofs[hp,c1,c2,c3]
         exact cv_fz 1 hcl rfl (by simp[valE,c1,c2,c3])
       · by_cases c4:2147483646<t.seed
         · simp -implicitDefEqProofs[hp,c1,c2,c3,c4]
           exact cv_fz 1 hcl rfl (by simp[valE,c1,c2,c3,c4])
         · simp -implicitDefEqProofs[hp,c1,c2,c3,c4]
           refine call_go (h39 _ _ _ hW) ?_
           by_cases c5:lstE g t.A (-70368744177664)=0
           · simp -implicitDefEqProofs[c5]
             refine call_go (h39 _ _ _ hW) ?_
             simp -implicitDefEqProofs
             exact cv_fz 1 hcl rfl (by simp[valE,c1,c2,c3,c4,c5])
           · simp -implicitDefEqProofs[c5]
             exact cv_fz 1 hcl rfl (by simp[valE,c1,c2,c3,c4,c5])
 · have e:chkS g t=g.prpE:=by unfold chkS; rw[if_pos hp]
   rw[e]
   simp -implicitDefEqProofs[hp]
   exact cv_fz 1 hcl rfl (by simp)
end
end Go.Proofs.YtogjmpkehjfecaaGreatDoor.Rc
namespace Go.Proofs.YtogjmpkehjfecaaGreatDoor.Rc
open Go.Ab Go.Ab.Shr
end Go.Proofs.YtogjmpkehjfecaaGreatDoor.Rc
namespace Go.Proofs.YtogjmpkehjfecaaGreatDoor.Rc
open Go.Ab Go.Ab.Shr
end Go.Proofs.YtogjmpkehjfecaaGreatDoor.Rc
namespace Go.Proofs.YtogjmpkehjfecaaGreatDoor.Rc
open Go.Ab Go.Ab.Shr
abbrev rpt (f:Nat):SV:=.ptr (.own f 0 0 0 0) 0
def zT:AO:=⟨[i64 0,i64 0,nl,nl],30,0,true⟩
def eT (e:Int):AO:=⟨[i64 e],31,0,true⟩
section
variable {H:List AO}
theorem okD27n {f g:Nat} (hf:f<H.length) (hg:g<H.length):OkD Tryz.prog 32 [rpt f,rpt g] H none (fun H'=>H'=H):=by
 refine okD_rc hm Tryz.func32 c32 (by rfl) fun hcl => ?_
 simp -implicitDefEqProofs[i32s,i32,rvD,SV.isIf,SV.ifNil]
 exact cv_id
theorem okD27e {f g:Nat} {c1 c2:List SV} (hf:H[f]? = some ⟨c1,30,0,true⟩) (hc1:c1.length=4) (hg:H[g]? = some ⟨c2,31,0,true⟩) (hc2:c2.length=1) (hne:f≠g) :
 OkD Tryz.prog 32 [rpt f,rpt g] H (some panV) (fun H'=>H'=(H.set f zT).set g (eT 5)):=by
 have hj:=getElem?_lt hf
 have hjg:=getElem?_lt hg
 have e1:∀ L,objCells (H++L) f 0=c1:=fun L=>oc_at hf L
 have e10:objCells H f 0=c1:=oc0 hf
 have e2:∀ (L:List AO) (h:AO->AO),Ab.setObj (H++L) f h=H.set f (h ⟨c1,30,0,true⟩)++L:=fun L h=>so_at hf L h
 have hg':(H.set f zT)[g]? = some ⟨c2,31,0,true⟩:=by rw[List.getElem?_set_ne hne]; exact hg
 have hg2:((H.set f zT).set g (eT 13))[g]? = some (eT 13):=by rw[List.getElem?_set_self (by simpa using hjg)]
 have d1:List.drop 4 c1=[]:=List.drop_of_length_le (by omega)
 have d2:List.drop 1 c2=[]:=List.drop_of_length_le (by omega)
 have d3:c2.tail=[]:=by rw[←List.drop_one]; exact d2
 have s1:∀ h:AO->AO,Ab.setObj H f h=H.set f (h ⟨c1,30,0,true⟩):=fun h=>setObj_some hf h
 have o1:objCells (H.set f zT) g 0=c2:=oc0 hg'
 have s2:∀ h:AO->AO,Ab.setObj (H.set f zT) g h=(H.set f zT).set g (h ⟨c2,31,0,true⟩):=fun h=>setObj_some hg' h
 have o2:∀ L,objCells ((H.set f zT).set g (eT 13)++L) g 0=[i64 13]:=fun L=>oc_at hg2 L
 have s3:∀ (L:List AO) (h:AO->AO),Ab.setObj ((H.set f zT).set g (eT 13)++L) g h=((H.set f zT).set g (eT 13)).set g (h (eT 13))++L:=fun L h=>so_at hg2 L h
 have n1:∀ (L:List AO) (v:Nat),objCells ((H.set f zT).set g (eT 13)++L) H.length v=objCells L 0 v:=fun L v=>g2_n0 (H:=H) (L:=L) (a:=f) (k:=g) (o:=zT) (p:=eT 13) v
 have n2:∀ (L:List AO) (h:AO->AO),Ab.setObj ((H.set f zT).set g (eT 13)++L) H.length h=(H.set f zT).set g (eT 13)++Ab.setObj L 0 h:=fun L h=>by
  have:=g2_sn (H:=H) (L:=L) (a:=f) (k:=g) (o:=zT) (p:=eT 13) 0 h
  simpa[G2]using this
 have hcz:closed H->closed ((H.set f zT).set g (eT 5)):=fun hcl=>closed_set (closed_set hcl f (o:=zT) (by simp[zT])) g (by simp[eT])
 simp only[zT,eT]at o1 s2 o2 s3 n1 n2
 refine okD_rc hm Tryz.func32 c32 (by rfl) fun hcl => ?_
 simp -implicitDefEqProofs[i32s,i32,rvD,SV.isIf,SV.ifNil,panV,e10,s1,hc1,d1,o1,s2,hc2,d2,d3,o2,s3,SV.ifIs,SV.ifVal,n1,n2]
 refine⟨rfl,?_⟩
 exact cv_drop rfl (by simp) (by simpa[zT,eT]using hcz hcl) rfl
end
end Go.Proofs.YtogjmpkehjfecaaGreatDoor.Rc
namespace Go.Proofs.YtogjmpkehjfecaaGreatDoor.Rc
open Go.Ab Go.Ab.Shr
def okB (g:Gm) (s:TS):Bool:=(List.range g.is.length).all fun i=>(List.range (g.acts i)).all fun a => !(decide ((s.A i).getD a 0 < -70368744177664)) && !(decide (70368744177664<(s.A i).getD a 0)) && !(decide (70368744177664<(s.P i).getD a 0))
theorem okB_iff {g:Gm} {s:TS}:okB g s=true↔okTS g s:=by
 unfold okB okTS okAt
 simp only[List.all_eq_true,List.mem_range,Bool.and_eq_true,Bool.not_eq_true',decide_eq_false_iff_not]
 constructor
 · intro h i hi a ha; have:=h i hi a ha; exact⟨this.1.1,this.1.2,this.2⟩
 · intro h i hi a ha; have:=h i hi a ha; exact⟨⟨this.1,this.2.1⟩,this.2.2⟩
def rnds (g:Gm):Nat->TS->Option TS
 | 0,s=>some s
 | n+1,s=>if okB g (rndT g (cTC g) s)=true then rnds g n (rndT g (cTC g) s)else none
def Tin.zero:Tin:=⟨0,0,[],[]⟩
def outT (g:Gm) (s:TS):Tin:=⟨s.rnd,s.seed,(List.range g.is.length).map s.A,(List.range g.is.length).map s.P⟩
def runR (g:Gm) (t:Tin) (n:Int):Tin×Int :=
 if chkS g t≠0 then(.zero,chkS g t)else if n<0∨20000<n∨1000000<t.rnd+n then(.zero,2)else
  match rnds g n.toNat (s0T g t.rnd t.seed t.A t.P)with
  | none=>(.zero,5)
  | some s=>(outT g s,0)
theorem lst_zero {g:Gm} (hW:Wg g) {L:List (List Int)} {least:Int} (h:lstE g L least=0):L.length=g.is.length∧∀ i,i<g.is.length->lenL L i=g.acts i∧∀ x∈L.getD i [],least≤x∧x≤70368744177664:=by
 unfold lstE at h
 by_cases hl:L.length=g.is.length
 · rw[if_neg (by simpa using hl),fstE_zero]at h
   refine⟨hl,fun i hi => ?_⟩
   have hr:=h i (Nat.zero_le _) (by omega)
   have hgi:g.is.getD i (0,0)=g.is[i]:=by simp[hi]
   have hac:=acts_le hW hi
   have ha:(g.acts i:Int)=g.is[i].2:=by unfold Gm.acts at hac ⊢; rw[hgi]at hac ⊢; omega
   unfold rowE at hr
   rw[hgi]at hr
   by_cases h1:((lenL L i:Nat):Int)=g.is[i].2
   · rw[if_neg (by simpa using h1)]at hr
     refine⟨by omega,fun x hx => ?_⟩
     split at hr
     · cases hr
     · rename_i h2
       simp only[List.any_eq_true,not_exists,not_and,Bool.or_eq_true,decide_eq_true_eq]at h2
       have:=h2 x hx
       omega
   · rw[if_pos h1]at hr; cases hr
 · rw[if_pos hl]at h; cases h
theorem chk_zero {g:Gm} {t:Tin} (h:chkS g t=0):Wg g∧0≤t.rnd∧t.rnd≤1000000∧lstE g t.A (-70368744177664)=0∧lstE g t.P 0=0:=by
 unfold chkS at h
 by_cases hp:g.prpE=0
 · rw[if_neg (by simpa using hp)]at h
   unfold valE at h
   split at h
   · cases h
   · split at h
     · rename_i h1 h2; exact absurd h h2
     · rename_i h1 h2
       exact⟨prp_form hp,by omega,by omega,by simpa using h2,h⟩
 · rw[if_pos hp]at h; exact absurd h hp
theorem s0_ok {g:Gm} {t:Tin} (h:chkS g t=0):okTS g (s0T g t.rnd t.seed t.A t.P):=by
 obtain⟨hW,h1,h2,h3,h4⟩:=chk_zero h
 obtain⟨a1,a2⟩:=lst_zero hW h3
 obtain⟨p1,p2⟩:=lst_zero hW h4
 intro i hi a ha
 have la:a<(t.A.getD i []).length:=by have:=(a2 i hi).1; unfold lenL at this; omega
 have lp:a<(t.P.getD i []).length:=by have:=(p2 i hi).1; unfold lenL at this; omega
 have e1:(t.A.getD i []).getD a 0=(t.A.getD i [])[a]:=by rw[List.getD_eq_getElem?_getD,List.getElem?_eq_getElem la]; rfl
 have e2:(t.P.getD i []).getD a 0=(t.P.getD i [])[a]:=by rw[List.getD_eq_getElem?_getD,List.getElem?_eq_getElem lp]; rfl
 have q1:=(a2 i hi).2 _ (List.getElem_mem la)
 have q2:=(p2 i hi).2 _ (List.getElem_mem lp)
 unfold okAt
 simp only[s0T,e1,e2]
 omega
section
variable {H G:List AO}
theorem fz_rowG {p:Nat} (hp:H.length≤p) {l:List Int} {T:TypeId} {v:Nat} (h:G[p]? = some ⟨ints l,T,v,true⟩) (d:Nat):SV.fz H.length [] (G.drop H.length) (d+2) (.own p 0 l.length 1 v)=sl l:=by
 have hg:(G.drop H.length)[p-H.length]? = some ⟨ints l,T,v,true⟩:=by rw[List.getElem?_drop,show H.length+(p-H.length)=p by omega]; exact h
 unfold SV.fz
 rw[if_neg (by simp[SV.under]; omega)]
 simp only[hg,placeOf]
 simp[sl]
theorem fz_outs {g:Gm} {p:Nat} (hp:H.length≤p) {q:Nat->Nat} {n:Nat->Nat} {A:Nat->List Int} {v w:Nat} {T:TypeId} (h:G[p]? = some ⟨outs g.is.length q n v,T,w,true⟩)
 (hq:∀ i,i<g.is.length->H.length≤q i∧G[q i]? = some ⟨ints (A i),3,v,true⟩∧(A i).length=n i) (d:Nat) :
 SV.fz H.length [] (G.drop H.length) (d+3) (.own p 0 g.is.length 1 w)=.slc (sls ((List.range g.is.length).map A)) g.is.length:=by
 have hg:(G.drop H.length)[p-H.length]? = some ⟨outs g.is.length q n v,T,w,true⟩:=by rw[List.getElem?_drop,show H.length+(p-H.length)=p by omega]; exact h
 unfold SV.fz
 rw[if_neg (by simp[SV.under]; omega)]
 simp only[hg,placeOf]
 simp only[outs_len,Nat.mul_one,Nat.zero_add,Nat.le_refl,and_self,if_true,List.drop_zero]
 congr 1
 have e:List.take g.is.length (outs g.is.length q n v)=outs g.is.length q n v:=List.take_of_length_le (by simp)
 rw[e]
 simp only[outs,sls,List.map_map]
 apply List.map_congr_left
 intro i hi
 simp only[List.mem_range]at hi
 obtain⟨q1,q2,q3⟩:=hq i hi
 simp only[Function.comp_apply]
 rw[←q3]
 exact fz_rowG q1 q2 d
end
end Go.Proofs.YtogjmpkehjfecaaGreatDoor.Rc
namespace Go.Proofs.YtogjmpkehjfecaaGreatDoor.Rc
open Go.Ab Go.Ab.Shr
section
variable {H:List AO} {g:Gm}
def hb8 (H:List AO) (g:Gm) (t:Tin):List AO:=H++[gbox g,⟨t.cells,30,0,true⟩,zT,eT 0]
@[simp] theorem hb8_len (t:Tin):(hb8 H g t).length=H.length+4:=by simp[hb8]
theorem hb8_low {t:Tin} {i:Nat} (h:i<H.length):(hb8 H g t)[i]? = H[i]? := by unfold hb8; rw[List.getElem?_append_left h]
theorem hb8_at {t:Tin} (k:Nat):(hb8 H g t)[H.length+k]? = [gbox g,⟨t.cells,30,0,true⟩,zT,eT 0][k]? := by
 unfold hb8; rw[List.getElem?_append_right (by omega)]; congr 1; omega
theorem hb8_closed {t:Tin} (hcl:closed H):closed (hb8 H g t):=by
 intro i o ho s hs
 rw[hb8_len]
 by_cases hi:i<H.length
 · rw[hb8_low hi]at ho
   exact SV.under_mono (by omega) s (hcl i o ho s hs)
 · obtain⟨k,rfl⟩:∃ k,i=H.length+k:=⟨i-H.length,by omega⟩
   rw[hb8_at]at ho
   have hm:=List.mem_of_getElem? ho
   simp only[List.mem_cons,List.not_mem_nil,or_false]at hm
   have:SV.underL (H.length+4) o.cells=true:=by
    rcases hm with rfl | rfl | rfl | rfl
    · simp[gbox,nds_under,infs_under]
    · simp[Tin.cells,sls_under]
    · simp[zT]
    · simp[eT]
   exact(SV.underL_iff _ _).1 this s hs
set_option maxRecDepth 10000 in
theorem tlp8_0 (hW:Wg g) {B:List AO} {x6 x7:SV} {nn:Nat} (hn:nn≤20000) {s0:TS} {N:Nat} {K:XE->Env->List AO->Prop}
 (hpan:rnds g nn s0=none->∀ env G s,TW g B (cTC g) s G->env.get 6=x6->env.get 7=x7->K (.panic panV) env G)
 (hexit:∀ s,rnds g nn s0=some s->∀ env G,TW g B (cTC g) s G->env.get 6=x6->env.get 7=x7->env.get 9=.ptr (.own (pW B g) 0 0 0 0) 0->K (.exit 0) env G) :
 ∀ (m j:Nat) (env:Env) (G:List AO) (s:TS),j+m=nn->okTS g s->rnds g m s=rnds g nn s0->TW g B (cTC g) s G->env.get 6=x6->env.get 7=x7->env.get 9=.ptr (.own (pW B g) 0 0 0 0) 0->env.get 45=i64 nn->env.get 46=i64 j →
  LI Tryz.prog N drawB l11_0 env G K:=by
 intro m
 induction m with
 | zero =>
  intro j env G s hj hk hr h h6 h7 h9 h45 h46
  refine li_go hm l11_0.eq_1 ?_
  have e:j=nn:=by omega
  subst e
  simp -implicitDefEqProofs[h45,h46]
  exact hexit s hr.symm _ _ h (by simp[h6]) (by simp[h7]) (by simp[h9])
 | succ m ih =>
  intro j env G s hj hk hr h h6 h7 h9 h45 h46
  refine li_go hm l11_0.eq_1 ?_
  have hjn:j<nn:=by omega
  have w1:=wrap_suc (show j<9223372036854775807 by omega)
  simp -implicitDefEqProofs[h9,h45,h46,hjn]
  refine call_goP (ok35 hW (cTC_ok hW) h hk) fun out G' hP => ?_
  obtain⟨h2,⟨hk2,rfl⟩ | ⟨hk2,rfl⟩⟩:=hP
  · simp -implicitDefEqProofs[h6,h7,h9,h45,h46]
    refine ih (j+1) _ _ _ (by omega) hk2 ?_ h2 ?_ ?_ ?_ ?_ ?_
    · rw[←hr]; simp[rnds,okB_iff.2 hk2]
    · simp[h6]
    · simp[h7]
    · simp
    · simp
    · simp[w1]
  · simp -implicitDefEqProofs
    refine hpan ?_ _ _ _ h2 (by simp[h6]) (by simp[h7])
    rw[←hr]
    have:¬ okB g (rndT g (cTC g) s)=true:=fun hb=>hk2 (okB_iff.1 hb)
    simp[rnds,this]
theorem fin8e {t:Tin} {n:Int} (hcl:closed H) (he:runR g t n=(.zero,5)) {s:TS} {G:List AO} {env:Env} (h:TW g (hb8 H g t) (cTC g) s G) (h6:env.get 6=rpt (H.length+2)) (h7:env.get 7=rpt (H.length+3)) :
 FinD Tryz.prog H.length r11 (fun o h=>o=.ret (.tup [.agg (runR g t n).1.cells,i64 (runR g t n).2])∧h=H) 32 [rpt (H.length+2),rpt (H.length+3)] (.panic panV) env G:=by
 have g2:G[H.length+2]? = some ⟨[i64 0,i64 0,nl,nl],30,0,true⟩:=by rw[h.low _ (by simp),hb8_at]; rfl
 have g3:G[H.length+3]? = some ⟨[i64 0],31,0,true⟩:=by rw[h.low _ (by simp),hb8_at]; rfl
 refine⟨_,okD27e g2 rfl g3 rfl (by omega),?_⟩
 rintro H4 rfl
 have l2:=getElem?_lt g2
 have l3:=getElem?_lt g3
 have e2:objCells ((G.set (H.length+2) zT).set (H.length+3) (eT 5)) (H.length+2) 0=[i64 0,i64 0,nl,nl]:=oc0 (T:=30) (by rw[List.getElem?_set_ne (by omega),List.getElem?_set_self l2]; rfl)
 have e3:objCells ((G.set (H.length+2) zT).set (H.length+3) (eT 5)) (H.length+3) 0=[i64 5]:=oc0 (T:=31) (by rw[List.getElem?_set_self (by simpa using l3)]; rfl)
 obtain⟨L,hL⟩:∃ L,(G.set (H.length+2) zT).set (H.length+3) (eT 5)=H++L:=by
  refine⟨((G.set (H.length+2) zT).set (H.length+3) (eT 5)).drop H.length,?_⟩
  apply List.ext_getElem?
  intro i
  by_cases hi:i<H.length
  · rw[List.getElem?_set_ne (by omega),List.getElem?_set_ne (by omega),h.low i (by simp; omega),hb8_low hi,List.getElem?_append_left hi]
  · rw[List.getElem?_append_right (by omega),List.getElem?_drop]
    congr 1; omega
 refine⟨?_,_,H,⟨rfl,rfl⟩,?_⟩
 · intro s hs
   simp only[r11,List.mem_cons,List.not_mem_nil,or_false]at hs
   rcases hs with rfl | rfl
   · simp[RS.side,h6,rpt,e2]
   · simp[RS.side,h7,rpt,e3]
 · have hr:resV env ((G.set (H.length+2) zT).set (H.length+3) (eT 5)) r11=.tup [.agg [i64 0,i64 0,nl,nl],i64 5]:=by
    simp[resV,r11,RS.ev,h6,h7,rpt,e2,e3]
   rw[hr,hL,he]
   refine Cv.le (cv_fz (r:=.tup [.agg [i64 0,i64 0,nl,nl],i64 5]) 3 hcl rfl (fz_under rfl)) ?_
   refine le_tup (leL.cons (le_agg (leL.cons (SV.le.refl _) (leL.cons (SV.le.refl _) (leL.cons le_nil (leL.cons le_nil leL.nil))))) (leL.refl _))
end
end Go.Proofs.YtogjmpkehjfecaaGreatDoor.Rc
namespace Go.Proofs.YtogjmpkehjfecaaGreatDoor.Rc
open Go.Ab Go.Ab.Shr
section
variable {H:List AO} {g:Gm}
theorem zero_le (e:Int):SV.le (.tup [.agg [i64 0,i64 0,nl,nl],i64 e]) (.tup [.agg Tin.zero.cells,i64 e]) :=
 le_tup (leL.cons (le_agg (leL.cons (SV.le.refl _) (leL.cons (SV.le.refl _) (leL.cons le_nil (leL.cons le_nil leL.nil))))) (leL.refl _))
theorem cv_zero (hcl:closed H) (e:Int) (L:List AO):Cv H.length (.tup [.agg [i64 0,i64 0,nl,nl],i64 e]) (H++L) (.tup [.agg Tin.zero.cells,i64 e]) H :=
 Cv.le (cv_fz (r:=.tup [.agg [i64 0,i64 0,nl,nl],i64 e]) 3 hcl rfl (fz_under rfl)) (zero_le e)
theorem fin8r {t:Tin} {n:Int} (hcl:closed H) {s:TS} (he:runR g t n=(outT g s,0)) {G:List AO} {env:Env} (h:TW g (hb8 H g t) (cTC g) s G) (h6:env.get 6=rpt (H.length+2)) (h7:env.get 7=rpt (H.length+3)) :
 FinD Tryz.prog H.length r11 (fun o h=>o=.ret (.tup [.agg (runR g t n).1.cells,i64 (runR g t n).2])∧h=H) 32 [rpt (H.length+2),rpt (H.length+3)] .ret env
  ((G.set (H.length+2) ⟨[i64 s.rnd,i64 s.seed,.own (pAo (hb8 H g t) g) 0 g.is.length 1 0,.own (pPo (hb8 H g t) g) 0 g.is.length 1 0],30,0,true⟩).set (H.length+3) (eT 0)):=by
 have g2:G[H.length+2]? = some ⟨[i64 0,i64 0,nl,nl],30,0,true⟩:=by rw[h.low _ (by simp),hb8_at]; rfl
 have g3:G[H.length+3]? = some ⟨[i64 0],31,0,true⟩:=by rw[h.low _ (by simp),hb8_at]; rfl
 have l2:=getElem?_lt g2
 have l3:=getElem?_lt g3
 refine⟨_,okD27n (by simpa using l2) (by simpa using l3),?_⟩
 rintro H4 rfl
 generalize hG2:(G.set (H.length+2) ⟨[i64 s.rnd,i64 s.seed,.own (pAo (hb8 H g t) g) 0 g.is.length 1 0,.own (pPo (hb8 H g t) g) 0 g.is.length 1 0],30,0,true⟩).set (H.length+3) (eT 0)=G2
 have e2:objCells G2 (H.length+2) 0=[i64 s.rnd,i64 s.seed,.own (pAo (hb8 H g t) g) 0 g.is.length 1 0,.own (pPo (hb8 H g t) g) 0 g.is.length 1 0]:=oc0 (T:=30) (by rw[←hG2,List.getElem?_set_ne (by omega),List.getElem?_set_self l2])
 have e3:objCells G2 (H.length+3) 0=[i64 0]:=oc0 (T:=31) (by rw[←hG2,List.getElem?_set_self (by simpa using l3)]; rfl)
 have up:∀ i,H.length+4≤i->G2[i]? = G[i]? := fun i hi=>by rw[←hG2,List.getElem?_set_ne (by omega),List.getElem?_set_ne (by omega)]
 have hL:G2=H++G2.drop H.length:=by
  apply List.ext_getElem?
  intro i
  by_cases hi:i<H.length
  · rw[List.getElem?_append_left hi,<- hG2,List.getElem?_set_ne (by omega),List.getElem?_set_ne (by omega),h.low i (by simp; omega),hb8_low hi]
  · rw[List.getElem?_append_right (by omega),List.getElem?_drop]
    congr 1; omega
 refine⟨?_,_,H,⟨rfl,rfl⟩,?_⟩
 · intro s hs
   simp only[r11,List.mem_cons,List.not_mem_nil,or_false]at hs
   rcases hs with rfl | rfl
   · simp[RS.side,h6,rpt,e2]
   · simp[RS.side,h7,rpt,e3]
 · have hr:resV env G2 r11=.tup [.agg [i64 s.rnd,i64 s.seed,.own (pAo (hb8 H g t) g) 0 g.is.length 1 0,.own (pPo (hb8 H g t) g) 0 g.is.length 1 0],i64 0]:=by
    simp[resV,r11,RS.ev,h6,h7,rpt,e2,e3]
   rw[hr,he]
   have hA:=fz_outs (H:=H) (G:=G2) (g:=g) (p:=pAo (hb8 H g t) g) (by unfold pAo; simp) (A:=s.A) (by rw[up _ (by unfold pAo; simp)]; exact h.ao) (fun i hi=>⟨by unfold pA; simp; omega,by rw[up _ (by unfold pA; simp; omega)]; exact h.a i hi,h.l.A i hi⟩) 1
   have hP:=fz_outs (H:=H) (G:=G2) (g:=g) (p:=pPo (hb8 H g t) g) (by unfold pPo; simp; omega) (A:=s.P) (by rw[up _ (by unfold pPo; simp; omega)]; exact h.po) (fun i hi=>⟨by unfold pP; simp; omega,by rw[up _ (by unfold pP; simp; omega)]; exact h.p i hi,h.l.P i hi⟩) 1
   have hfz:SV.fz H.length [] (G2.drop H.length) 6 (.tup [.agg [i64 s.rnd,i64 s.seed,.own (pAo (hb8 H g t) g) 0 g.is.length 1 0,.own (pPo (hb8 H g t) g) 0 g.is.length 1 0],i64 0])=.tup [.agg (outT g s).cells,i64 0]:=by
    rw[fz_tup]
    simp only[List.map_cons,List.map_nil,fz_i64]
    rw[fz_agg]
    simp only[List.map_cons,List.map_nil,fz_i64]
    rw[hA,hP]
    simp[outT,Tin.cells]
   have:=cv_fz (n0:=H.length) (H:=H) (L:=G2.drop H.length) 6 hcl rfl hfz
   rw[←hL]at this
   exact this
theorem ok11 (t:Tin) (n:Int) (hn : -9223372036854775808≤n∧n≤9223372036854775807):Ok Tryz.prog 11 [.agg g.cells,.agg t.cells,i64 n] H (.ret (.tup [.agg (runR g t n).1.cells,i64 (runR g t n).2])) H:=by
 refine OkP.toOk (okP_ds hm Tryz.func11 c11 (by rfl) fun hcl => ?_)
 have h16:=fun H=>ok14 (H:=H) (g:=g) (t:=t)
 simp only[Gm.cells,Tin.cells]at h16
 simp -implicitDefEqProofs[XL,i11p,i11a0,i11a1,i11a2,Gm.cells,Tin.cells]
 refine call_go (h16 _) ?_
 by_cases hc:chkS g t=0
 · obtain⟨hW,r1,r2,r3,r4⟩:=chk_zero hc
   by_cases hb:n<0∨20000<n∨1000000<t.rnd+n
   · have e:runR g t n=(.zero,2):=by unfold runR; rw[if_neg (by simpa using hc),if_pos hb]
     have fin:FinQ H.length (fun o h=>o=.ret (.tup [.agg (runR g t n).1.cells,i64 (runR g t n).2])∧h=H) (.tup [.agg [i64 0,i64 0,nl,nl],i64 2]) (H++[⟨[i64 g.pl,.slc (nds g.ns) g.ns.length,.slc (infs g.is) g.is.length],26,0,true⟩,⟨[i64 t.rnd,i64 t.seed,.slc (sls t.A) t.A.length,.slc (sls t.P) t.P.length],30,0,true⟩,⟨[i64 0,i64 0,nl,nl],30,0,true⟩,⟨[i64 2],31,0,true⟩]):=by
      rw[e]
      exact⟨_,_,⟨rfl,rfl⟩,cv_zero hcl _ _⟩
     by_cases b1:n<0
     · simp -implicitDefEqProofs[hc,XL,FinE,r11,b1]
       exact⟨rfl,fin⟩
     · by_cases b2:20000<n
       · simp -implicitDefEqProofs[hc,XL,FinE,r11,b1,b2]
         exact⟨rfl,fin⟩
       · have b3:1000000<t.rnd+n:=by omega
         have w1:IntKind.i64.wrap (t.rnd+n)=t.rnd+n:=wrap_id (by omega) (by omega)
         simp -implicitDefEqProofs[hc,XL,FinE,r11,b1,b2,w1,b3]
         exact⟨rfl,fin⟩
   · have b1:¬ n<0:=by omega
     have b2:¬ 20000<n:=by omega
     have b3:¬ 1000000<t.rnd+n:=by omega
     have w1:IntKind.i64.wrap (t.rnd+n)=t.rnd+n:=wrap_id (by omega) (by omega)
     obtain⟨a1,a2⟩:=lst_zero hW r3
     obtain⟨p1,p2⟩:=lst_zero hW r4
     have hil:=hW.gd.i
     have rw_ok:∀ (L:List (List Int)),L.length=g.is.length->(∀ i,i<g.is.length->lenL L i=g.acts i)->∀ l∈L,l≠[]∧l.length≤1000000:=fun L hL hl l hm=>by
      obtain⟨k,hk,rfl⟩:=List.getElem_of_mem hm
      have h1:=hl k (by omega)
      rw[lenL_at hk]at h1
      have h2:=acts_le hW (show k<g.is.length by omega)
      exact⟨fun e=>by rw[e]at h1; simp at h1; omega,by omega⟩
     have hA:=rw_ok t.A a1 fun i hi=>(a2 i hi).1
     have hP:=rw_ok t.P p1 fun i hi=>(p2 i hi).1
     simp -implicitDefEqProofs[hc,XL,FinE,r11,b1,b2,w1,b3,i11s,i11f,i11]
     refine⟨32,_,⟨rfl,rfl⟩,call_go (ok34 hA (by omega)) ?_⟩
     simp -implicitDefEqProofs
     refine call_go (ok34 hP (by omega)) ?_
     simp -implicitDefEqProofs[a1,p1]
     have h28:=ok33 (H:=hb8 H g t) (rnd:=t.rnd) (seed:=t.seed) hW (hb8_closed hcl) a1 p1 (fun i hi=>(a2 i hi).1) (fun i hi=>(p2 i hi).1)
     have q1:H.length+(g.is.length+1+1+1+1+1)=(hb8 H g t).length+1+g.is.length:=by simp; omega
     have q2:(fun i=>H.length+(g.is.length+1+1+1+1+1+1)+i)=fun i=>(hb8 H g t).length+1+t.A.length+1+i:=by funext i; simp; omega
     have q3:(fun i=>H.length+5+i)=fun i=>(hb8 H g t).length+1+i:=by funext i; simp
     have q4:H.length+4=(hb8 H g t).length:=by simp
     have hHeap:(H ++
     ⟨[i64 g.pl,.slc (nds g.ns) g.ns.length,.slc (infs g.is) g.is.length],26,0,true⟩ ::
      ⟨[i64 t.rnd,i64 t.seed,.slc (sls t.A) g.is.length,.slc (sls t.P) g.is.length],30,0,true⟩ ::
       ⟨[i64 0,i64 0,.val (.slice none 0 0),.val (.slice none 0 0)],30,0,true⟩ ::
        ⟨[i64 0],31,0,true⟩ ::
         ⟨outs g.is.length (fun i=>H.length+5+i) (lenL t.A) 1,45,0,true⟩ ::
          (List.map (rowO 1) t.A ++
           ⟨outs g.is.length (fun i=>H.length+(g.is.length+1+1+1+1+1+1)+i) (lenL t.P) 1,45,0,true⟩ ::
            List.map (rowO 1) t.P))=baseT (hb8 H g t) t.A t.P:=by
      rw[q2,q3]
      unfold baseT
      rw[a1,p1]
      simp only[hb8,gbox,zT,eT,Tin.cells,List.append_assoc,List.cons_append,List.nil_append,a1,p1]
     rw[hHeap,q1,q4]
     simp only[Gm.cells]at h28
     refine call_goP h28 fun out G1 hP => ?_
     obtain⟨rfl,h⟩:=hP
     have hgb:objCells G1 H.length 0=[i64 g.pl,.slc (nds g.ns) g.ns.length,.slc (infs g.is) g.is.length]:=oc0 (T:=26) (by rw[h.low _ (by simp)]; have:=hb8_at (H:=H) (g:=g) (t:=t) 0; rw[Nat.add_zero]at this; rw[this]; rfl)
     have htb:objCells G1 (H.length+1) 0=t.cells:=oc0 (T:=30) (by rw[h.low _ (by simp),hb8_at]; rfl)
     simp only[Tin.cells]at htb
     have hrun:∀ o,rnds g n.toNat (s0T g t.rnd t.seed t.A t.P)=o->runR g t n=(match o with | none=>(.zero,5) | some s=>(outT g s,0)):=fun o ho=>by
      unfold runR
      rw[if_neg (by simpa using hc),if_neg hb,ho]
      all_goals (cases o<;>rfl)
     simp -implicitDefEqProofs[hgb,htb]
     have hnn:((n.toNat:Nat):Int)=n:=by omega
     refine tlp8_0 (nn:=n.toNat) hW (x6:=rpt (H.length+2)) (x7:=rpt (H.length+3)) (by omega) (fun hr env G s hG g6 g7 => ?_) (fun s hr env G hG g6 g7 g9 => ?_) n.toNat 0 _ _ _ (by omega) (s0_ok hc) rfl h (by simp) (by simp) (by simp) (by simp[hnn]) (by simp)
     · exact fin8e hcl (hrun _ hr) hG g6 g7
     · have hwc:=hG.cw0
       have k2:G[H.length+2]? = some ⟨[i64 0,i64 0,nl,nl],30,0,true⟩:=by rw[hG.low _ (by simp),hb8_at]; rfl
       have k3:G[H.length+3]? = some ⟨[i64 0],31,0,true⟩:=by rw[hG.low _ (by simp),hb8_at]; rfl
       have o2:=oc0 k2
       have s2:=setObj_some k2
       have k4:(G.set (H.length+2) ⟨[i64 s.rnd,i64 s.seed,.own (pAo (hb8 H g t) g) 0 g.is.length 1 0,.own (pPo (hb8 H g t) g) 0 g.is.length 1 0],30,0,true⟩)[H.length+3]? = some ⟨[i64 0],31,0,true⟩:=by rw[List.getElem?_set_ne (by omega)]; exact k3
       have o3:=oc0 k4
       have s3:=setObj_some k4
       simp -implicitDefEqProofs[g6,g7,g9,hwc,wHead,o2,s2,o3,s3]
       exact fin8r hcl (hrun _ hr) hG (by simp[g6]) (by simp[g7])
 · have e:runR g t n=(.zero,chkS g t):=by unfold runR; rw[if_pos hc]
   simp -implicitDefEqProofs[hc,XL,FinE,r11]
   rw[e]
   exact⟨rfl,_,_,⟨rfl,rfl⟩,cv_zero hcl _ _⟩
end
end Go.Proofs.YtogjmpkehjfecaaGreatDoor.Rc
namespace Go.Proofs.YtogjmpkehjfecaaGreatDoor.Rc
open Go.Ab Go.Ab.Shr
end Go.Proofs.YtogjmpkehjfecaaGreatDoor.Rc
namespace Go.Proofs.YtogjmpkehjfecaaGreatDoor.Rc
open Go.Ab Go.Ab.Shr
end Go.Proofs.YtogjmpkehjfecaaGreatDoor.Rc
namespace Go.Proofs.YtogjmpkehjfecaaGreatDoor.Rc
open Go.Ab Go.Ab.Shr
section
variable {H:List AO}
def ShO (l:List Int):Prop:=l.length≤10∧0<l.length∧∀ v∈l,-70368744177664≤v∧v≤70368744177664
def tB (t:Tin):AO:=⟨t.cells,30,0,true⟩
theorem fz_sls (n:Nat) (ks:List Nat) (L:List AO) (d:Nat) (M:List (List Int)):(sls M).map (SV.fz n ks L (d+1))=sls M:=by
 have:∀ x∈sls M,SV.fz n ks L (d+1) x=x:=fun x hx=>fz_under ((SV.underL_iff _ _).1 (sls_under n M) x hx)
 calc (sls M).map (SV.fz n ks L (d+1))=(sls M).map id:=List.map_congr_left this
  _=sls M:=by simp
end
end Go.Proofs.YtogjmpkehjfecaaGreatDoor.Rc
namespace Go.Proofs.YtogjmpkehjfecaaGreatDoor.Rc
open Go.Ab Go.Ab.Shr
def blkZ (h:Nat) (g:Gm):Nat->List AO
 | 0=>[]
 | k+1=>blkZ h g k++[rowO 0 (zers (g.acts k)),⟨[.own (h+2+2*k) 0 (g.acts k) 1 0],45,0,true⟩]
theorem blkZ_len (h:Nat) (g:Gm):∀ k,(blkZ h g k).length=2*k
 | 0=>rfl
 | k+1=>by simp[blkZ,blkZ_len h g k]; omega
theorem blkZ_at (h:Nat) (g:Gm):∀ (k i:Nat),i<k->(blkZ h g k)[2*i]? = some (rowO 0 (zers (g.acts i)))
 | 0,i,hi=>absurd hi (by omega)
 | k+1,i,hi=>by
  have hl:=blkZ_len h g k
  by_cases e:i=k
  · subst e
    simp only[blkZ]
    rw[List.getElem?_append_right (by omega),hl]
    simp
  · simp only[blkZ]
    rw[List.getElem?_append_left (by omega)]
    exact blkZ_at h g k i (by omega)
end Go.Proofs.YtogjmpkehjfecaaGreatDoor.Rc
namespace Go.Proofs.YtogjmpkehjfecaaGreatDoor.Rc
open Go.Ab Go.Ab.Shr
def rowP (g:Gm) (V:List Int) (j:Nat):List Int:=rowF g.pl.toNat fun p=>V.getD (j*4+p) 0
def qV (h n j:Nat):Nat:=h+3+2*(n-1-j)
def outV (h n i m:Nat):List SV:=(List.range n).map fun j=>if j<i then .val (.slice none 0 0)else .own (qV h n j) 0 m 1 0
structure VN (g:Gm) (H:List AO) (V:List Int) (i:Nat) (f:Nat->Int) (X:List AO):Prop where
 b:X[H.length]? = some (gbox g)
 o:X[H.length+1]? = some ⟨outV H.length g.ns.length i g.pl.toNat,45,0,true⟩
 n:∀ h:i<g.ns.length,X[H.length+2+2*(g.ns.length-1-i)]? = some ⟨g.ns[i].cells,57,0,true⟩
 r0:i<g.ns.length->X[qV H.length g.ns.length i]? = some (rowO 0 (rowF g.pl.toNat f))
 r:∀ j,i<j->j<g.ns.length->X[qV H.length g.ns.length j]? = some (rowO 0 (rowP g V j))
 len:X.length=H.length+2+2*(g.ns.length-i)
 low:∀ j,j<H.length->X[j]? = H[j]?
section
variable {H X:List AO} {g:Gm} {V M:List Int} {S:List (List Int)}
theorem sls_at {L:List (List Int)} {i:Nat} (h:i<L.length):(sls L)[i]?.getD .any=sl L[i]:=by simp[sls,h]
end
end Go.Proofs.YtogjmpkehjfecaaGreatDoor.Rc
namespace Go.Proofs.YtogjmpkehjfecaaGreatDoor.Rc
open Go.Ab Go.Ab.Shr
section
variable {H X:List AO} {g:Gm} {V M:List Int} {S:List (List Int)} {i:Nat} {f f':Nat->Int}
theorem VN.setF (h:VN g H V i f X) (hi:i<g.ns.length) (f':Nat->Int):VN g H V i f' (X.set (qV H.length g.ns.length i) (rowO 0 (rowF g.pl.toNat f'))):=by
 have hl:=h.len
 refine⟨?_,?_,fun h1 => ?_,fun _ => ?_,fun j hj hj2 => ?_,by simp[hl],fun j hj => ?_⟩
 · rw[List.getElem?_set_ne (by unfold qV; omega)]; exact h.b
 · rw[List.getElem?_set_ne (by unfold qV; omega)]; exact h.o
 · rw[List.getElem?_set_ne (by unfold qV; omega)]; exact h.n h1
 · rw[List.getElem?_set_self (by rw[hl]; unfold qV; omega)]
 · rw[List.getElem?_set_ne (by unfold qV; omega)]; exact h.r j hj hj2
 · rw[List.getElem?_set_ne (by unfold qV; omega)]; exact h.low j hj
structure VM (g:Gm) (H:List AO) (V:List Int) (i:Nat) (X:List AO):Prop where
 b:X[H.length]? = some (gbox g)
 o:X[H.length+1]? = some ⟨outV H.length g.ns.length i g.pl.toNat,45,0,true⟩
 r:∀ j,i≤j->j<g.ns.length->X[qV H.length g.ns.length j]? = some (rowO 0 (rowP g V j))
 len:X.length=H.length+2+2*(g.ns.length-i)
 low:∀ j,j<H.length->X[j]? = H[j]?
theorem VM.next (h:VM g H V (i+1) X) (hi:i<g.ns.length) (f:Nat->Int):VN g H V i f (X.set (H.length+1) ⟨outV H.length g.ns.length i g.pl.toNat,45,0,true⟩++[⟨g.ns[i].cells,57,0,true⟩,rowO 0 (rowF g.pl.toNat f)]):=by
 have hl:=h.len
 refine⟨?_,?_,fun h1 => ?_,fun _ => ?_,fun j hj hj2 => ?_,by simp[hl]; omega,fun j hj => ?_⟩
 · rw[List.getElem?_append_left (by simp; omega),List.getElem?_set_ne (by omega)]; exact h.b
 · rw[List.getElem?_append_left (by simp; omega),List.getElem?_set_self (by omega)]
 · rw[List.getElem?_append_right (by simp; omega)]
   rw[show H.length+2+2*(g.ns.length-1-i)-(X.set (H.length+1) _).length=0 by simp; omega]; rfl
 · rw[List.getElem?_append_right (by simp; unfold qV; omega)]
   rw[show qV H.length g.ns.length i-(X.set (H.length+1) _).length=1 by simp; unfold qV; omega]; rfl
 · rw[List.getElem?_append_left (by simp; unfold qV; omega),List.getElem?_set_ne (by unfold qV; omega)]; exact h.r j (by omega) hj2
 · rw[List.getElem?_append_left (by simp; omega),List.getElem?_set_ne (by omega)]; exact h.low j hj
theorem VN.done (h:VN g H V i (fun p=>V.getD (i*4+p) 0) X):VM g H V i X :=
 ⟨h.b,h.o,fun j hj hj2=>by
  by_cases e:i=j
  · subst e; exact h.r0 hj2
  · exact h.r j (by omega) hj2,h.len,h.low⟩
end
end Go.Proofs.YtogjmpkehjfecaaGreatDoor.Rc
namespace Go.Proofs.YtogjmpkehjfecaaGreatDoor.Rc
open Go.Ab Go.Ab.Shr
section
variable {H X G:List AO} {g:Gm} {V M:List Int} {S:List (List Int)}
theorem fz_outsN {I:Nat} {p:Nat} (hp:H.length≤p) {q:Nat->Nat} {n:Nat->Nat} {A:Nat->List Int} {v w:Nat} {T:TypeId} (h:G[p]? = some ⟨outs I q n v,T,w,true⟩)
 (hq:∀ i,i<I->H.length≤q i∧G[q i]? = some ⟨ints (A i),3,v,true⟩∧(A i).length=n i) (d:Nat) :
 SV.fz H.length [] (G.drop H.length) (d+3) (.own p 0 I 1 w)=.slc (sls ((List.range I).map A)) I:=by
 have hg:(G.drop H.length)[p-H.length]? = some ⟨outs I q n v,T,w,true⟩:=by rw[List.getElem?_drop,show H.length+(p-H.length)=p by omega]; exact h
 unfold SV.fz
 rw[if_neg (by simp[SV.under]; omega)]
 simp only[hg,placeOf]
 simp only[outs_len,Nat.mul_one,Nat.zero_add,Nat.le_refl,and_self,if_true,List.drop_zero]
 congr 1
 have e:List.take I (outs I q n v)=outs I q n v:=List.take_of_length_le (by simp)
 rw[e]
 simp only[outs,sls,List.map_map]
 apply List.map_congr_left
 intro i hi
 simp only[List.mem_range]at hi
 obtain⟨q1,q2,q3⟩:=hq i hi
 simp only[Function.comp_apply]
 rw[←q3]
 exact fz_rowG q1 q2 d
theorem tail_of (hlow:∀ j,j<H.length->X[j]? = H[j]?):X=H++X.drop H.length:=by
 apply List.ext_getElem?
 intro i
 by_cases hi:i<H.length
 · rw[List.getElem?_append_left hi,hlow i hi]
 · rw[List.getElem?_append_right (by omega),List.getElem?_drop]
   congr 1; omega
end
end Go.Proofs.YtogjmpkehjfecaaGreatDoor.Rc
namespace Go.Proofs.YtogjmpkehjfecaaGreatDoor.Rc
open Go.Ab Go.Ab.Lm
section
variable {H:List AO} {a b:Nat}
theorem ok99 (hb:0<b) (ha:(lim a).length<10000) (hbn:(lim b).length<10000):Ok Tryz.prog 99 [nS a,nS b] H (.ret (.tup [nS (a / b),nS (a % b)])) H:=by
 have hB:B=1000000000:=rfl
 refine ok_fn hm' Tryz.func99 c99 (by simp[nS,us_under]) fun hcl => ?_
 by_cases hab:a<b
 · have h44:=fun H=>ok105 (H:=H) (a:=a) (b:=b) (by omega) (by omega)
   have e:ordN a b<0:=by unfold ordN; rw[if_pos hab]; decide
   have q1:a / b=0:=Nat.div_eq_of_lt hab
   have q2:a % b=a:=Nat.mod_eq_of_lt hab
   have n0:nS 0=.slc [] 0:=by rw[nS,lim_0]; rfl
   rw[q1,q2,n0]
   simp only[nS]at h44
   simp -implicitDefEqProofs[i99,r99,nS]
   refine call_go (h44 _) ?_
   simp -implicitDefEqProofs[e]
   refine Cv.le (r:=.tup [nl,nS a]) (cv_fz 2 hcl rfl (fz_under (by simp[nS,SV.under,SV.underL,us_under]))) ?_
   exact le_tup (leL.cons le_nil (leL.refl _))
 · have hba:b≤a:=by omega
   have hlb:=lim_mono hba
   have h44:=fun H=>ok105 (H:=H) (a:=a) (b:=b) (by omega) (by omega)
   have e:ordN a b≥0:=by unfold ordN; rw[if_neg hab]; split<;>simp
   simp -implicitDefEqProofs[i99,r99]
   refine call_go (h44 _) ?_
   have hbl:(lim b).length≠0:=fun h=>by
    have:=lim_nil.1 (List.eq_nil_of_length_eq_zero h)
    omega
   have hkl:(lim b).length-1<(lim b).length:=by omega
   obtain⟨t1,t2,t3⟩:=lim_top (n:=b) (by omega) hkl
   obtain⟨tb,htb⟩:∃ tb,tb=(lim b)[(lim b).length-1]:=⟨_,rfl⟩
   obtain⟨kb,hkb⟩:∃ kb,(lim b).length=kb+1:=⟨(lim b).length-1,by omega⟩
   have wkb:IntKind.i64.wrap ((kb:Int))=kb:=wrap_nat (by omega)
   have gb:(us (lim b))[kb]?.getD .any=.val (.int .u32 tb):=by
    rw[us_at (by omega),htb]; simp only[hkb,Nat.add_sub_cancel]; rfl
   have gb':∀ h,(us (lim b))[kb]'h=.val (.int .u32 tb):=fun h=>by
    have:=gb
    rw[List.getElem?_eq_getElem h]at this
    simpa using this
   have htbB:tb<B:=by rw[htb]; exact lim_dig b _ (List.getElem_mem _)
   obtain⟨f,hf⟩:∃ f,f=1000000000 / (tb+1):=⟨_,rfl⟩
   have hf0:0<f:=by rw[hf]; exact Nat.div_pos (by omega) (by omega)
   have hfB:f<B:=by
    rw[hf,hB]
    apply Nat.div_lt_self (by omega)
    rw[←htb]at t1
    omega
   have w1:=wu64 (n:=tb) (by omega)
   have w2:IntKind.u64.wrap ((tb:Int)+1)=((tb+1:Nat):Int):=by rw[show(tb:Int)+1=((tb+1:Nat):Int)by omega,wu64 (by omega)]
   have td:(1000000000:Int).tdiv ((tb+1:Nat):Int)=(f:Int):=by rw[hf]; rfl
   have w3:=wu64 (n:=f) (by omega)
   have w4:=wu32 (n:=f) (by omega)
   have hne:¬ (tb:Int)+1=0:=by omega
   obtain⟨tb1,htb1⟩:∃ tb1,tb1=tb+1:=⟨_,rfl⟩
   rw[←htb1]at w2 td
   have hne1:¬ tb1=0:=by omega
   simp -implicitDefEqProofs[i99,r99,e,show ¬ ordN a b<0 by omega,nS,hkb,wkb,gb,gb',us_len,w1,w2,td,w3,w4,hne1]
   refine⟨by omega,call_go (ok129 hfB) ?_⟩
   have hfl:(lim f).length≤1:=lim_len_le (by simpa using hfB)
   have h42a:=fun H=>ok103 (H:=H) (a:=a) (b:=f) (by omega)
   have h42b:=fun H=>ok103 (H:=H) (a:=b) (b:=f) (by omega)
   simp -implicitDefEqProofs
   refine call_go (h42a _) ?_
   simp -implicitDefEqProofs
   refine call_go (h42b _) ?_
   have hb':0<b*f:=Nat.mul_pos hb hf0
   have hab':b*f≤a*f:=Nat.mul_le_mul_right f hba
   have hla:(lim (a*f)).length≤(lim a).length+1:=lim_len_le (by
    rw[Nat.pow_succ]
    exact Nat.mul_lt_mul'' (lim_lt a) hfB)
   have hQ:a*f / (b*f)=a / b:=Nat.mul_div_mul_right a b hf0
   have hRm:a*f % (b*f) / f=a % b:=by
    rw[Nat.mul_mod_mul_right,Nat.mul_div_cancel _ hf0]
   generalize a*f=a' at *
   generalize b*f=b' at *
   have hlb':=lim_mono hab'
   have hbl':(lim b').length≠0:=fun h=>by
    have:=lim_nil.1 (List.eq_nil_of_length_eq_zero h)
    omega
   obtain⟨u1,u2,u3⟩:=lim_top (n:=b') (by omega) (by omega)
   obtain⟨n,hn⟩:∃ n,(lim b').length=n+1:=⟨(lim b').length-1,by omega⟩
   obtain⟨gq,hgq⟩:∃ gq,(lim a').length=n+1+gq:=⟨(lim a').length-(n+1),by omega⟩
   obtain⟨top,htop⟩:∃ top,top=b' / B ^ n:=⟨_,rfl⟩
   have wn:IntKind.i64.wrap ((n:Int))=n:=wrap_nat (by omega)
   have gt:(us (lim b'))[n]?.getD .any=.val (.int .u32 top):=by
    rw[us_at (by omega),htop,<- (by simpa[hn]using u1:(lim b')[n]=b' / B ^ n)]; rfl
   have gt':∀ h,(us (lim b'))[n]'h=.val (.int .u32 top):=fun h=>by
    have:=gt
    rw[List.getElem?_eq_getElem h]at this
    simpa using this
   have htopB:top<B:=by rw[htop]; simpa[hn]using u3
   have htop0:0<top:=by rw[htop]; simpa[hn]using u2
   have w5:=wu64 (n:=top) (by omega)
   have w6:IntKind.i64.wrap ((n:Int)+1+gq-(n+1))=gq:=by rw[wrap_id (by omega) (by omega)]; omega
   have w7:IntKind.i64.wrap ((gq:Int)+1)=((gq+1:Nat):Int):=wrap_succ (by omega)
   simp -implicitDefEqProofs[nS,hn,hgq,wn,gt,gt',us_len,w5,w6,w7]
   repeat (refine⟨by omega,?_⟩)
   have en:n+1+gq-(gq+1)=n:=by omega
   rw[en]
   have hal:=lim_lt a'
   rw[hgq]at hal
   have hap:a' / B ^ (gq+1)<B ^ n:=by
    apply Nat.div_lt_of_lt_mul
    rw[←Nat.pow_add,show gq+1+n=n+1+gq by omega]
    exact hal
   have hbp:B ^ n≤b':=by
    have:=lim_ge (n:=b') (by omega)
    rw[hn]at this
    simpa using this
   have ed:List.take n (List.drop (gq+1) (us (lim a')))=us (lim (a' / B ^ (gq+1))):=by
    unfold us
    rw[←List.map_drop,lim_drop,<- List.map_take,List.take_of_length_le]
    rw[←lim_drop]
    simp[hgq]; omega
   have edl:(lim (a' / B ^ (gq+1))).length=n:=by rw[←lim_drop]; simp[hgq]; omega
   have ett:List.take n (us (lim (a' / B ^ (gq+1))))=us (lim (a' / B ^ (gq+1))):=List.take_of_length_le (by rw[us_len]; omega)
   rw[ed,ett]
   have hcu:∀ l:List Nat,cellsOk (us l):=fun l y hy=>by
    obtain⟨z,_,rfl⟩:=List.mem_map.1 hy
    rfl
   refine⟨hcu _,by omega,by omega,?_⟩
   have erp:List.replicate (gq+1) (SV.val (.int .u32 0))=us (List.replicate (gq+1) 0):=by simp[us,u32]
   rw[erp]
   have hz1:a' / B ^ (gq+1) / b'=0:=Nat.div_eq_of_lt (by omega)
   have hz2:a' / B ^ (gq+1) % b'=a' / B ^ (gq+1):=Nat.mod_eq_of_lt (by omega)
   have hDV:DV H gq (gq+1) a' b' H.length 1 (H++[⟨us (lim (a' / B ^ (gq+1))),114,1,true⟩,⟨us (List.replicate (gq+1) 0),114,1,true⟩]):=by
    refine⟨fun i hi=>by rw[List.getElem?_append_left hi],⟨List.replicate (gq+1) 0,?_,by simp,fun z hz=>by simp[List.mem_replicate]at hz; rw[hz]; decide,?_⟩,⟨[],?_⟩,by omega,by omega⟩
    · rw[List.getElem?_append_right (by omega),show H.length+1-H.length=1 by omega]; rfl
    · rw[hz1]; simp[val]
    · rw[hz2,List.append_nil]; simp
   refine qlp68_0 (H:=H) (A:=a') (bb:=b') (gq:=gq) (n:=n) (top:=top) (x6:=nS f) hb' hn hgq (by omega) htop htop0 htopB (fun env X k v hD k4 k5 k6 => ?_) (gq+1) _ _ H.length 1 (Nat.le_refl _) hDV ?_ ?_ ?_ ?_ ?_ ?_ ?_
   · obtain⟨s,hs⟩:=hD.hr
     obtain⟨qs,hq1,hq2,hq3,hq4⟩:=hD.hq
     obtain⟨hk1,hk2⟩:=hD.hk
     have hlow:=hD.low
     simp only[Nat.pow_zero,Nat.div_one,List.drop_zero]at hs hq4
     rw[hQ]at hq4
     have hRb:a' % b'<b':=Nat.mod_lt _ hb'
     have hRlen:=lim_mono (Nat.le_of_lt hRb)
     generalize a' % b'=R at *
     have wR:IntKind.i64.wrap (((lim R).length:Int)-1)=((lim R).length:Int)-1:=wrap_id (by omega) (by omega)
     simp -implicitDefEqProofs[k4,k5,k6,wR]
     have hz0:R / B ^ (lim R).length=0:=Nat.div_eq_of_lt (lim_lt R)
     refine qlp68_3 (R:=R) (f:=f) (k:=k) (v:=v) (A:=X) (x4:=.own (H.length+1) 0 (gq+1) 1 1) (n:=0) hf0 hfB (by omega) (fun env X2 l hX2 ho hXl hm g4 g5 => ?_) (lim R).length _ X (lim R++s) s (lim R) (Nat.le_refl _) hs (fun _ _=>rfl) rfl rfl rfl rfl (lim_dig R) (by rw[hz0]; simp[val]) ?_ ?_ ?_ ?_ ?_
     · obtain⟨s2,m2,e1,e2,e3,e4⟩:=hm
       rw[hRm]at e4
       have tr1:=trim_lim e3
       rw[e4]at tr1
       have tq1:=trim_lim hq3
       rw[hq4]at tq1
       have hq1':X2[H.length+1]? = some ⟨us qs,114,1,true⟩:=by rw[ho _ (fun e=>hk2 e.symm)]; exact hq1
       have h69q:=ok130p (X:=X2) (l:=qs) (m:=qs) (s:=[]) hq1' (by simp) (by omega)
       have h69r:=ok130p (X:=X2) (l:=l) (m:=m2) (s:=s2) hX2 e1 (by omega)
       rw[hq2,tq1]at h69q
       rw[e2,tr1]at h69r
       simp -implicitDefEqProofs[g4,g5]
       refine call_goP h69q ?_
       rintro o G' ⟨rfl,hG⟩
       rw[hG]
       simp -implicitDefEqProofs[g4,g5]
       refine call_goP h69r ?_
       rintro o G'' ⟨rfl,hG2⟩
       rw[hG2]
       simp -implicitDefEqProofs[g4,g5]
       have hlow2:∀ j,j<H.length->X2[j]? = H[j]? := fun j hj=>by rw[ho j (by omega)]; exact hlow j hj
       have ht:=tail_of hlow2
       have hdr:∀ k,(X2.drop H.length)[k]? = X2[H.length+k]? := fun k=>by rw[List.getElem?_drop]
       have f1:=fz_trimp (n:=H.length) (L:=X2.drop H.length) (l:=qs) (m:=qs) (s:=[]) (k:=1) (d:=1) (v:=1) (by simp) (by rw[hdr]; exact hq1')
       have f2:=fz_trimp (n:=H.length) (L:=X2.drop H.length) (l:=l) (m:=m2) (s:=s2) (k:=k-H.length) (d:=1) (v:=v) e1 (by rw[hdr,show H.length+(k-H.length)=k by omega]; exact hX2)
       rw[tq1]at f1
       rw[tr1,show H.length+(k-H.length)=k by omega]at f2
       rw[ht]
       refine cv_fz 4 hcl rfl ?_
       rw[fz_tup]
       simp only[List.map_cons,List.map_nil,f1,f2]
       rfl
     · simp[k4]
     · simp[k5]
     · simp[k6]
     · simp[hz0]
     · simp
   all_goals simp[nS,hgq,hn,edl,hz2]
end
end Go.Proofs.YtogjmpkehjfecaaGreatDoor.Rc
namespace Go.Proofs.YtogjmpkehjfecaaGreatDoor.Rc
open Go.Ab Go.Ab.Lm
section
variable {H:List AO} {a b:Nat}
set_option maxRecDepth 10000 in
theorem qlp67 {g:Nat} {N:Nat} {K:XE->Env->List AO->Prop} (hexit:∀ env,env.get 0=nS g->K (.exit 0) env H) :
 ∀ (m x y:Nat) (env:Env),y≤m->(lim x).length<10000->(lim y).length<10000->Nat.gcd x y=g->env.get 0=nS x->env.get 1=nS y->LI Tryz.prog N drawB l98_0 env H K:=by
 intro m
 induction m with
 | zero =>
  intro x y env hm hx hy hg h0 h1
  refine li_go hm' l98_0.eq_1 ?_
  have:y=0:=by omega
  subst this
  simp only[nS,lim_0,us,List.map_nil,List.length_nil]at h1
  simp -implicitDefEqProofs[h0,h1]
  refine hexit _ ?_
  rw[Nat.gcd_zero_right]at hg
  rw[←hg]; simp[h0]
 | succ m ih =>
  intro x y env hm hx hy hg h0 h1
  by_cases hz:y=0
  · exact ih x y env (by omega) hx hy hg h0 h1
  refine li_go hm' l98_0.eq_1 ?_
  have hl:0<(lim y).length:=by
   rcases Nat.eq_zero_or_pos (lim y).length with e | e
   · exact absurd (lim_nil.1 (List.eq_nil_of_length_eq_zero e)) hz
   · exact e
  have h68:=fun H=>ok99 (H:=H) (a:=x) (b:=y) (by omega) hx hy
  have hlt:x % y<y:=Nat.mod_lt _ (by omega)
  have hml:=lim_mono (Nat.le_of_lt hlt)
  have hih:=ih y (x % y)
  simp only[nS]at h0 h1 h68 hih
  simp -implicitDefEqProofs[h0,h1,hl]
  refine call_go (h68 _) ?_
  simp -implicitDefEqProofs[h0,h1,hl]
  refine hih _ (by omega) hy (by omega) ?_ ?_ ?_
  · rw[←hg,Nat.gcd_comm x y,Nat.gcd_rec y x]
    exact Nat.gcd_comm _ _
  · simp
  · simp
theorem ok98 (ha:(lim a).length<10000) (hb:(lim b).length<10000):Ok Tryz.prog 98 [nS a,nS b] H (.ret (nS (Nat.gcd a b))) H:=by
 refine ok_fn hm' Tryz.func98 c98 (by simp[nS,us_under]) fun hcl => ?_
 simp -implicitDefEqProofs[i98,r98]
 refine qlp67 (g:=Nat.gcd a b) (fun env h0 => ?_) b a b _ (Nat.le_refl _) ha hb rfl (by simp) (by simp)
 simp -implicitDefEqProofs[h0]
 exact cv_id
structure Qr where
 neg:Bool
 n:Nat
 d:Nat
def Qr.sv (q:Qr):SV:=.agg [bl q.neg,nS q.n,nS q.d]
def low (neg:Bool) (n d:Nat):Qr:=⟨neg&&decide (n≠0),n / Nat.gcd n d,d / Nat.gcd n d⟩
def qSv (neg:Bool) (n d:Nat):SV:=(⟨neg,n,d⟩:Qr).sv
def lowS (neg:Bool) (n d:Nat):SV:=(low neg n d).sv
theorem nS_under (k n:Nat):(nS n).under k=true:=by simp[nS,SV.under,us_under]
theorem ok70 (neg:Bool) (hb:0<b) (ha:(lim a).length<10000) (hbl:(lim b).length<10000):Ok Tryz.prog 70 [bl neg,nS a,nS b] H (.ret (lowS neg a b)) H:=by
 refine ok_fn hm' Tryz.func70 c70 (by simp[nS_under]) fun hcl => ?_
 by_cases h0:a=0
 · subst h0
   have e1:lim 1=[1]:=by rw[lim_pos (by decide),show 1 % B=1 by decide,show 1 / B=0 by decide,lim_0]
   have e2:lowS neg 0 b=.agg [bl false,.slc [] 0,.slc [.val (.int .u32 1)] 1]:=by
    have hd:b / b=1:=Nat.div_self hb
    simp only[lowS,low,Qr.sv,Nat.gcd_zero_left,Nat.zero_div,hd,nS,lim_0,e1]
    simp[us,u32]
   rw[e2]
   simp -implicitDefEqProofs[i70,r70,nS,lim_0,us]
   refine⟨⟨rfl,rfl,rfl⟩,rfl,rfl,?_⟩
   refine Cv.le (r:=.agg [bl false,nl,.slc [.val (.int .u32 1)] 1]) (cv_fz 3 hcl rfl ?_) (le_agg (leL.cons (SV.le.refl _) (leL.cons le_nil (leL.refl _))))
   rw[fz_agg]
   simp[placeOf]
 · have hl:¬ (lim a).length=0:=fun e=>h0 (lim_nil.1 (List.eq_nil_of_length_eq_zero e))
   have hg:0<Nat.gcd a b:=Nat.gcd_pos_of_pos_right _ hb
   have hgl:=lim_mono (Nat.gcd_le_right a hb)
   have h67:=fun H=>ok98 (H:=H) (a:=a) (b:=b) ha hbl
   have h68:=fun H=>ok99 (H:=H) (a:=a) (b:=Nat.gcd a b) hg ha (by omega)
   have h68b:=fun H=>ok99 (H:=H) (a:=b) (b:=Nat.gcd a b) hg hbl (by omega)
   have hge:(lowS neg a b)=qSv neg (a / Nat.gcd a b) (b / Nat.gcd a b):=by simp[lowS,qSv,low,h0]
   rw[hge]
   generalize Nat.gcd a b=g at *
   simp only[nS]at h67 h68 h68b
   simp -implicitDefEqProofs[i70,r70,nS,hl]
   refine call_go (h67 _) ?_
   simp -implicitDefEqProofs
   refine call_go (h68 _) ?_
   simp -implicitDefEqProofs
   refine call_go (h68b _) ?_
   simp -implicitDefEqProofs
   exact cv_fz 3 hcl rfl (fz_under (by simp[SV.under,SV.underL,us_under]))
def ratS (x y:Int):SV:=lowS (decide (x<0) != decide (y<0)) x.natAbs y.natAbs
theorem lim_int {n:Int} (hn : -9223372036854775808≤n∧n≤9223372036854775807):(lim n.natAbs).length≤3:=lim_len_le (by
 have:B ^ 3=1000000000000000000000000000:=by decide
 omega)
theorem ok45 {x y:Int} (hx : -9223372036854775808≤x∧x≤9223372036854775807) (hy : -9223372036854775808≤y∧y≤9223372036854775807) (h0:y≠0):Ok Tryz.prog 45 [i64 x,i64 y] H (.ret (ratS x y)) H:=by
 refine ok_fn hm' Tryz.func45 c45 (by simp) fun hcl => ?_
 have h41x:=fun H=>ok71 (H:=H) x hx
 have h41y:=fun H=>ok71 (H:=H) y hy
 have lx:=lim_int hx
 have ly:=lim_int hy
 have h40:=fun H=>ok70 (H:=H) (a:=x.natAbs) (b:=y.natAbs) (decide (x<0) != decide (y<0)) (by omega) (by omega) (by omega)
 simp -implicitDefEqProofs[i45,r45]
 refine call_go (h41x _) ?_
 simp -implicitDefEqProofs
 refine call_go (h41y _) ?_
 simp -implicitDefEqProofs
 refine call_go (h40 _) ?_
 simp -implicitDefEqProofs[lowS,low,Qr.sv]
 refine⟨⟨rfl,rfl⟩,?_⟩
 have e:ratS x y=.agg [bl ((decide (x<0) != decide (y<0)) && !decide (x=0)),nS (x.natAbs / x.natAbs.gcd y.natAbs),nS (y.natAbs / x.natAbs.gcd y.natAbs)]:=by
  simp[ratS,lowS,low,Qr.sv]
 rw[e]
 exact cv_fz 3 hcl rfl (fz_under (by simp[SV.under,SV.underL,nS_under]))
theorem Qr.under (q:Qr) (k:Nat):q.sv.under k=true:=by simp[Qr.sv,SV.under,SV.underL,nS_under]
def Qr.mi (q:Qr):Qr:=⟨!q.neg&&decide (0<q.n),q.n,q.d⟩
def Qr.sz (q:Qr):Qr:=⟨false,q.n,q.d⟩
theorem lim_zero {n:Nat}:(lim n).length=0↔n=0:=⟨fun h=>lim_nil.1 (List.eq_nil_of_length_eq_zero h),fun h=>by rw[h,lim_0]; rfl⟩
def Qr.few (q:Qr):Prop:=(lim q.n).length≤1000∧(lim q.d).length≤1000∧0<q.d
def Qr.plus (p q:Qr):Qr:=if p.neg=q.neg then low p.neg (p.n*q.d+q.n*p.d) (p.d*q.d)else if q.n*p.d≤p.n*q.d then low p.neg (p.n*q.d-q.n*p.d) (p.d*q.d)else low q.neg (q.n*p.d-p.n*q.d) (p.d*q.d)
def Qr.ord (p q:Qr):Int:=if(p.plus q.mi).n=0 then 0 else if(p.plus q.mi).neg=true then -1 else 1
end
end Go.Proofs.YtogjmpkehjfecaaGreatDoor.Rc
namespace Go.Proofs.YtogjmpkehjfecaaGreatDoor.Rc
open Go.Ab Go.Ab.Lm
theorem low_bit {k m n:Nat} (hm:m % 2=1) (hn:n=2 ^ k*m) (h:n<18446744073709551616):n &&& (18446744073709551616-n)=2 ^ k:=by
 have h0:0<n:=by
  rw[hn]
  exact Nat.mul_pos (Nat.pow_pos (by decide)) (by omega)
 obtain⟨x,hx⟩:∃ x,n=x+1:=⟨n-1,by omega⟩
 have e64:(18446744073709551616:Nat)=2 ^ 64:=by decide
 apply Nat.eq_of_testBit_eq
 intro i
 rw[Nat.testBit_and,Nat.testBit_two_pow]
 have hb:(18446744073709551616-n).testBit i=(decide (i<64) && !x.testBit i):=by
  rw[e64,hx]
  exact Nat.testBit_two_pow_sub_succ (by omega) i
 rw[hb]
 have hk64:k<64:=by
  apply Nat.lt_of_not_le
  intro hk
  have h1:2 ^ 64≤2 ^ k:=Nat.pow_le_pow_right (by decide) hk
  have h2:2 ^ k*1≤2 ^ k*m:=Nat.mul_le_mul_left _ (by omega)
  omega
 have hxe:x=2 ^ k*(m-1)+(2 ^ k-1):=by
  have hp:0<2 ^ k:=Nat.pow_pos (by decide)
  have:2 ^ k*m=2 ^ k*(m-1)+2 ^ k:=by
   conv=>lhs; rw[show m=(m-1)+1 by omega]
   rw[Nat.mul_add,Nat.mul_one]
  omega
 have hp1:2 ^ k-1<2 ^ k:=by have:0<2 ^ k:=Nat.pow_pos (by decide); omega
 have bx:x.testBit i=if i<k then true else(m-1).testBit (i-k):=by
  rw[hxe,Nat.testBit_two_pow_mul_add _ hp1]
  by_cases hik:i<k
  · rw[if_pos hik,if_pos hik,Nat.testBit_two_pow_sub_one]; simpa using hik
  · rw[if_neg hik,if_neg hik]
 have bn:n.testBit i=(decide (k≤i)&&m.testBit (i-k)):=by
  rw[hn,Nat.testBit_two_pow_mul]
 rw[bx,bn]
 by_cases hik:i<k
 · rw[if_pos hik]; simp; omega
 · rw[if_neg hik]
   by_cases e:k=i
   · subst e
     have b0:m.testBit 0=true:=by rw[Nat.testBit_zero,hm]; rfl
     have b1:(m-1).testBit 0=false:=by rw[Nat.testBit_zero]; simp; omega
     simp[b0,b1,hk64]
   · have e2:m.testBit (i-k)=(m-1).testBit (i-k):=by
      obtain⟨j,hj⟩:∃ j,i-k=j+1:=⟨i-k-1,by omega⟩
      rw[hj,Nat.testBit_succ,Nat.testBit_succ]
      congr 1; omega
     rw[e2]
     cases (m-1).testBit (i-k)<;>simp[e]
theorem ofN {a:Nat} (ha:a<18446744073709551616):(BitVec.ofInt 64 (a:Int)).toNat=a:=by
 rw[BitVec.ofInt_natCast,BitVec.toNat_ofNat]
 exact Nat.mod_eq_of_lt ha
theorem andN {a b:Nat} (ha:a<18446744073709551616) (hb:b<18446744073709551616):bitsI .and .u64 (a:Int) (b:Int)=((a &&& b:Nat):Int):=by
 show IntKind.u64.wrap (((BitVec.ofInt 64 (a:Int)) &&& (BitVec.ofInt 64 (b:Int))).toNat:Int)=_
 rw[BitVec.toNat_and,ofN ha,ofN hb]
 exact wu64 (Nat.lt_of_le_of_lt Nat.and_le_left ha)
theorem orN {a b:Nat} (ha:a<18446744073709551616) (hb:b<18446744073709551616):bitsI .or .u64 (a:Int) (b:Int)=((a ||| b:Nat):Int):=by
 show IntKind.u64.wrap (((BitVec.ofInt 64 (a:Int)) ||| (BitVec.ofInt 64 (b:Int))).toNat:Int)=_
 rw[BitVec.toNat_or,ofN ha,ofN hb]
 exact wu64 (Nat.or_lt_two_pow (n:=64) ha hb)
def bruA (k:Nat):Int:=(IntKind.u64.wrap (((2 ^ k:Nat):Int)*285870213051353865)).fdiv (2 ^ min 58 IntKind.u64.bits)
theorem bru_ok:((List.range 64).all fun k=>decide (0≤bruA k)&&(decide (bruA k<64)&&(brujL[(bruA k).toNat]? == some (k:Int))))=true:=by kernel_rfl
section
variable {H:List AO}
theorem ok143 {k m n:Nat} (hm:m % 2=1) (hn:n=2 ^ k*m) (h:n<18446744073709551616):Ok Tryz.prog 143 [.val (.int .u64 (n:Nat))] H (.ret (i64 k)) H:=by
 refine ok_fn hm' Tryz.func143 c143 (by simp[SV.under]) fun hcl => ?_
 have h0:¬ n=0:=by
  intro e
  rw[hn]at e
  rcases Nat.mul_eq_zero.1 e with e | e
  · have:=Nat.pow_pos (n:=k) (show 0<2 by decide); omega
  · omega
 have hk64:k<64:=by
  apply Nat.lt_of_not_le
  intro hk
  have h1:2 ^ 64≤2 ^ k:=Nat.pow_le_pow_right (by decide) hk
  have h2:2 ^ k*1≤2 ^ k*m:=Nat.mul_le_mul_left _ (by omega)
  omega
 have wn:IntKind.u64.wrap (-(n:Int))=((18446744073709551616-n:Nat):Int):=by
  show(-(n:Int)) % 18446744073709551616=_
  omega
 have hlb:bitsI BinOp.and IntKind.u64 (n:Int) ((18446744073709551616-n:Nat):Int)=((2 ^ k:Nat):Int):=by
  have h2:=andN (a:=n) (b:=18446744073709551616-n) h (by omega)
  have h3:=low_bit hm hn h
  generalize 18446744073709551616-n=c at h2 h3 ⊢
  rw[h3]at h2
  exact h2
 have hbr:=List.all_eq_true.1 bru_ok k (List.mem_range.2 hk64)
 simp only[Bool.and_eq_true,decide_eq_true_eq,beq_iff_eq]at hbr
 obtain⟨b1,b2,b3⟩:=hbr
 have eb:(IntKind.u64.wrap (((2 ^ k:Nat):Int)*285870213051353865)).fdiv (2 ^ min 58 IntKind.u64.bits)=bruA k:=rfl
 have hg:gv0[(bruA k).toNat]?.getD .any=.val (.int .u8 (k:Int)):=by
  unfold gv0
  rw[List.getElem?_map,b3]; rfl
 have hgl:gv0.length=64:=rfl
 have wk:IntKind.i64.wrap (k:Int)=k:=wrap_nat (by omega)
 obtain⟨P,hP⟩:∃ P,P=2 ^ k:=⟨_,rfl⟩
 rw[←hP]at hlb eb
 generalize bruA k=j at *
 simp -implicitDefEqProofs[i143,r143,h0,wn,hlb,eb,hg,hgl,wk]
 have hj:1≤64-j.toNat:=by
  clear eb hlb wn hn hP
  omega
 exact⟨⟨b1,b2⟩,hj,cv_id⟩
end
end Go.Proofs.YtogjmpkehjfecaaGreatDoor.Rc
namespace Go.Proofs.YtogjmpkehjfecaaGreatDoor.Rc
open Go.Ab Go.Ab.Lm
theorem odd_part:∀ n:Nat,0<n->∃ k m,n=2 ^ k*m∧m % 2=1:=by
 intro n
 induction n using Nat.strongRecOn with
 | ind n ih =>
  intro h
  by_cases hm:n % 2=1
  · exact⟨0,n,by simp,hm⟩
  · obtain⟨k,m,h1,h2⟩:=ih (n / 2) (by omega) (by omega)
    refine⟨k+1,m,?_,h2⟩
    rw[Nat.pow_succ,Nat.mul_comm (2 ^ k) 2,Nat.mul_assoc,<- h1]
    omega
theorem gcd_odd {k m x:Nat} (hx:x % 2=1):Nat.gcd (2 ^ k*m) x=Nat.gcd m x:=by
 have h2:Nat.Coprime 2 x:=by
  unfold Nat.Coprime
  rw[Nat.gcd_rec,hx]; rfl
 exact Nat.Coprime.gcd_mul_left_cancel m (h2.pow_left k)
theorem or_shift (s u v:Nat):(2 ^ s*u) ||| (2 ^ s*v)=2 ^ s*(u ||| v):=by
 rw[Nat.mul_comm (2 ^ s) u,Nat.mul_comm (2 ^ s) v,Nat.mul_comm (2 ^ s) (u ||| v),<- Nat.shiftLeft_eq,<- Nat.shiftLeft_eq,<- Nat.shiftLeft_eq,Nat.shiftLeft_or_distrib]
theorem or_odd {u v:Nat} (h:u % 2=1∨v % 2=1):(u ||| v) % 2=1:=by
 have hb:(u ||| v).testBit 0=true:=by
  rw[Nat.testBit_or,Nat.testBit_zero,Nat.testBit_zero]
  rcases h with h | h<;>simp[h]
 rw[Nat.testBit_zero]at hb
 simpa using hb
theorem gcd_two {i j m n:Nat} (hm:m % 2=1) (hn:n % 2=1):Nat.gcd (2 ^ i*m) (2 ^ j*n)=2 ^ min i j*Nat.gcd m n∧∃ w,(2 ^ i*m) ||| (2 ^ j*n)=2 ^ min i j*w∧w % 2=1:=by
 rcases Nat.le_total i j with h | h
 · rw[Nat.min_eq_left h]
   obtain⟨d,rfl⟩:∃ d,j=i+d:=⟨j-i,by omega⟩
   rw[Nat.pow_add,Nat.mul_assoc,Nat.gcd_mul_left,Nat.gcd_comm m,gcd_odd hm,Nat.gcd_comm n]
   exact⟨rfl,_,or_shift i m _,or_odd (.inl hm)⟩
 · rw[Nat.min_eq_right h]
   obtain⟨d,rfl⟩:∃ d,i=j+d:=⟨i-j,by omega⟩
   rw[Nat.pow_add,Nat.mul_assoc,Nat.gcd_mul_left,gcd_odd hn]
   exact⟨rfl,_,or_shift j _ n,or_odd (.inr hn)⟩
theorem two_lt {k m n:Nat} (hm:m % 2=1) (hn:n=2 ^ k*m) (h:n<18446744073709551616):k<64:=by
 apply Nat.lt_of_not_le
 intro hk
 have h1:2 ^ 64≤2 ^ k:=Nat.pow_le_pow_right (by decide) hk
 have h2:2 ^ k*1≤2 ^ k*m:=Nat.mul_le_mul_left _ (by omega)
 omega
theorem shr64 {k m b:Nat} (hb:b=2 ^ k*m) (hk:k<64):((b:Nat):Int).fdiv (2 ^ min k IntKind.u64.bits)=(m:Int):=by
 have e:min k IntKind.u64.bits=k:=Nat.min_eq_left (show k≤64 by omega)
 have e2:(2:Int) ^ k=((2 ^ k:Nat):Int):=by simp
 rw[e,e2,Int.fdiv_eq_ediv_of_nonneg _ (Int.natCast_nonneg _),<- Int.natCast_ediv,hb,Nat.mul_div_cancel_left _ (Nat.pow_pos (by decide))]
def u64 (n:Nat):SV:=.val (.int .u64 n)
section
variable {H:List AO}
set_option maxRecDepth 10000 in
theorem zlp120 {G:Nat} {x5:SV} {N:Nat} {K:XE->Env->List AO->Prop} (hexit:∀ env,env.get 0=u64 G->env.get 5=x5->K (.exit 0) env H) :
 ∀ (f a b:Nat) (env:Env),a+b≤f->a % 2=1->a<18446744073709551616->b<18446744073709551616->Nat.gcd b a=G->env.get 0=u64 a->env.get 1=u64 b->env.get 5=x5->LI Tryz.prog N drawB l120_0 env H K:=by
 intro f
 induction f with
 | zero=>intro a b env h ha; omega
 | succ f ih =>
  intro a b env hf ha hal hbl hG h0 h1 h5
  refine li_go hm' l120_0.eq_1 ?_
  by_cases hb:b=0
  · subst hb
    rw[Nat.gcd_zero_left]at hG
    subst hG
    simp -implicitDefEqProofs[h0,h1,h5,u64]
    exact hexit _ (by simp[h0,u64]) (by simp[h5])
  · obtain⟨k,m,hk,hm⟩:=odd_part b (by omega)
    have h143:=fun H=>ok143 (H:=H) (k:=k) (m:=m) (n:=b) hm hk hbl
    simp only[u64]at h0 h1
    simp -implicitDefEqProofs[h0,h1,h5,hb]
    refine call_go (h143 _) ?_
    simp -implicitDefEqProofs[h0,h1,h5,hb]
    have hk64:=two_lt hm hk hbl
    rw[shr64 hk hk64]
    have hmb:m≤b:=by
     rw[hk]
     exact Nat.le_mul_of_pos_left m (Nat.pow_pos (by decide))
    have hGm:Nat.gcd m a=G:=by rw[←hG,hk,gcd_odd ha]
    clear hk h143
    by_cases hlt:m<a
    · have w:IntKind.u64.wrap ((a:Int)-(m:Int))=((a-m:Nat):Int):=by rw[show(a:Int)-(m:Int)=((a-m:Nat):Int)by omega,wu64 (by omega)]
      rw[if_pos (show(m:Int)<(a:Int)by omega),w]
      refine ih m (a-m) _ (by omega) hm (by omega) (by omega) ?_ ?_ ?_ ?_
      · rw[←hGm,Nat.gcd_comm (a-m) m,Nat.gcd_comm m a,Nat.gcd_comm a m]
        exact Nat.gcd_sub_self_right (by omega)
      · simp[u64]
      · simp[u64]
      · simp
    · have w:IntKind.u64.wrap ((m:Int)-(a:Int))=((m-a:Nat):Int):=by rw[show(m:Int)-(a:Int)=((m-a:Nat):Int)by omega,wu64 (by omega)]
      rw[if_neg (show ¬ (m:Int)<(a:Int)by omega),w]
      refine ih a (m-a) _ (by omega) ha (by omega) (by omega) ?_ ?_ ?_ ?_
      · rw[←hGm,Nat.gcd_comm (m-a) a,Nat.gcd_comm m a]
        exact Nat.gcd_sub_self_right (by omega)
      · simp[u64]
      · simp[u64]
      · simp
theorem ok120 {a b:Nat} (ha:0<a) (hb:0<b) (hal:a<18446744073709551616) (hbl:b<18446744073709551616):Ok Tryz.prog 120 [u64 a,u64 b] H (.ret (u64 (Nat.gcd a b))) H:=by
 refine ok_fn hm' Tryz.func120 c120 (by simp[SV.under,u64]) fun hcl => ?_
 obtain⟨i,m,hi,hm⟩:=odd_part a ha
 obtain⟨j,n,hj,hn⟩:=odd_part b hb
 obtain⟨hg,w,hw,hwo⟩:=gcd_two (i:=i) (j:=j) hm hn
 rw[←hi,<- hj]at hg hw
 have hor:a ||| b<18446744073709551616:=Nat.or_lt_two_pow (n:=64) hal hbl
 have hob:=orN hal hbl
 have h143o:=fun H=>ok143 (H:=H) (k:=min i j) (m:=w) (n:=a ||| b) hwo hw hor
 have h143a:=fun H=>ok143 (H:=H) (k:=i) (m:=m) (n:=a) hm hi hal
 have hsh:=shr64 hi (two_lt hm hi hal)
 have hml:m≤a:=by
  rw[hi]
  exact Nat.le_mul_of_pos_left m (Nat.pow_pos (by decide))
 have hgm:Nat.gcd b m=Nat.gcd m n:=by rw[hj,gcd_odd hm,Nat.gcd_comm]
 have hgl:Nat.gcd a b<18446744073709551616:=Nat.lt_of_le_of_lt (Nat.gcd_le_left b ha) hal
 have hij:min i j<64:=two_lt hwo hw hor
 have ha0:¬ a=0:=by omega
 have hb0:¬ b=0:=by omega
 generalize min i j=s at *
 generalize a ||| b=o at *
 clear hi hj hw
 simp -implicitDefEqProofs[i120,r120,u64,ha0,hb0,hob]
 refine call_go (h143o _) ?_
 simp -implicitDefEqProofs
 refine call_go (h143a _) ?_
 simp -implicitDefEqProofs[hsh]
 refine zlp120 (G:=Nat.gcd m n) (x5:=i64 s) (fun env g0 g5 => ?_) (m+b) m b _ (Nat.le_refl _) hm (by omega) hbl hgm ?_ ?_ ?_
 · simp only[u64]at g0
   simp -implicitDefEqProofs[g0,g5]
   have e:min s IntKind.u64.bits=s:=Nat.min_eq_left (show s≤64 by omega)
   have e3:((Nat.gcd m n:Nat):Int)*2 ^ min s IntKind.u64.bits=((Nat.gcd a b:Nat):Int):=by
    rw[e,hg,Int.natCast_mul,Int.mul_comm]
    simp
   rw[e3,wu64 hgl]
   exact cv_id
 · simp[u64]
 · simp[u64]
 · simp
end
end Go.Proofs.YtogjmpkehjfecaaGreatDoor.Rc
namespace Go.Proofs.YtogjmpkehjfecaaGreatDoor.Rc
open Go.Ab Go.Ab.Lm
section
variable {H:List AO}
set_option maxRecDepth 10000 in
theorem zlp62 {z:List Nat} (hz:z.length<1000000) {N:Nat} {K:XE->Env->List AO->Prop}
 (hexit:∀ env G,env.get 3=.own H.length 0 z.length 1 z.length->K (.exit 0) env (H++⟨us z,114,z.length,true⟩::G)) :
 ∀ (m n:Nat) (p:List Nat) (env:Env) (G:List AO),p.length+m=z.length->n<18446744073709551616->p++lim n=z->env.get 0=u64 n->env.get 3=.own H.length 0 p.length 1 p.length →
  LI Tryz.prog N drawB l62_0 env (H++⟨us p,114,p.length,true⟩::G) K:=by
 have hB:B=1000000000:=rfl
 intro m
 induction m with
 | zero =>
  intro n p env G hm hn hp h0 h3
  refine li_go hm' l62_0.eq_1 ?_
  have hl:=congrArg List.length hp
  simp only[List.length_append]at hl
  have h1:lim n=[]:=List.eq_nil_of_length_eq_zero (by omega)
  have h2:=lim_nil.1 h1
  subst h2
  rw[h1,List.append_nil]at hp
  subst hp
  simp only[u64]at h0
  simp -implicitDefEqProofs[h0,h3]
  exact hexit _ G (by simp[h3])
 | succ m ih =>
  intro n p env G hm hn hp h0 h3
  refine li_go hm' l62_0.eq_1 ?_
  have hl:=congrArg List.length hp
  simp only[List.length_append]at hl
  have hne:n≠0:=by
   intro e
   rw[e,lim_0]at hl
   simp at hl
   omega
  rw[lim_pos hne]at hp
  obtain⟨q,hq⟩:∃ q,q=n / B:=⟨_,rfl⟩
  obtain⟨r,hr⟩:∃ r,r=n % B:=⟨_,rfl⟩
  have td:((n:Nat):Int).tdiv 1000000000=(q:Int):=by rw[hq,hB]; rfl
  have tm:((n:Nat):Int).tmod 1000000000=(r:Int):=by rw[hr,hB]; rfl
  have hrB:r<B:=by rw[hr]; exact Nat.mod_lt _ B_pos
  have hqn:q≤n:=by rw[hq]; exact Nat.div_le_self _ _
  have wq:=wu64 (n:=q) (by omega)
  have wr:=wu32 (n:=r) (by omega)
  have e:us p++[.val (.int .u32 (r:Int))]=us (p++[r]):=by simp[us,u32]
  have hih:=ih q (p++[r])
  have hpl:(p++[r]).length=p.length+1:=by simp
  rw[hpl,<- e]at hih
  rw[←hq,<- hr]at hp
  have hn0:0<n:=by omega
  simp only[u64]at h0
  simp -implicitDefEqProofs[h0,h3,hn0,hne,td,tm,wq,wr,us_len]
  refine⟨⟨rfl,rfl,rfl⟩,rfl,?_⟩
  repeat (refine⟨by omega,?_⟩)
  refine hih _ _ (by omega) (by omega) ?_ ?_ ?_
  · rw[List.append_assoc,List.singleton_append]
    exact hp
  · simp[u64]
  · simp
theorem ok62 {n:Nat} (hn:n<18446744073709551616):Ok Tryz.prog 62 [u64 n] H (.ret (nS n)) H:=by
 refine ok_fn hm' Tryz.func62 c62 (by simp[u64,SV.under]) fun hcl => ?_
 have hz:(lim n).length≤3:=lim_len_le (by
  have:B ^ 3=1000000000000000000000000000:=by decide
  omega)
 simp -implicitDefEqProofs[i62,r62]
 refine zlp62 (H:=H) (z:=lim n) (by omega) (fun env G h3 => ?_) (lim n).length n [] _ [] (by simp) hn (by simp) (by simp) (by simp)
 simp -implicitDefEqProofs[h3]
 refine cv_fz 2 hcl rfl ?_
 simp[nS,us_len,map_fz_under,us_under]
 exact List.take_of_length_le (by rw[us_len]; omega)
theorem ok63 {n:Int} (hn : -9223372036854775808≤n∧n≤9223372036854775807):Ok Tryz.prog 63 [i64 n] H (.ret (u64 n.natAbs)) H:=by
 refine ok_fn hm' Tryz.func63 c63 (by simp) fun hcl => ?_
 by_cases h:n<0
 · have w1:IntKind.u64.wrap n=((18446744073709551616-n.natAbs:Nat):Int):=by
    show n % 18446744073709551616=_
    omega
   have w2:IntKind.u64.wrap (-((18446744073709551616-n.natAbs:Nat):Int))=((n.natAbs:Nat):Int):=by
    show(-((18446744073709551616-n.natAbs:Nat):Int)) % 18446744073709551616=_
    omega
   generalize (18446744073709551616-n.natAbs:Nat)=c at *
   simp -implicitDefEqProofs[i63,r63,h,w1,w2,u64]
   exact cv_id
 · have w1:IntKind.u64.wrap n=((n.natAbs:Nat):Int):=by
    show n % 18446744073709551616=_
    omega
   simp -implicitDefEqProofs[i63,r63,h,w1,u64]
   exact cv_id
set_option maxRecDepth 10000 in
theorem zlp92 {n:Nat} (hn:n<18446744073709551616) (hl:(lim n).length<1000) {N:Nat} {K:XE->Env->List AO->Prop} (hexit:∀ env,env.get 3=u64 n->K (.exit 0) env H) :
 ∀ (k:Nat) (env:Env),k≤(lim n).length->env.get 0=nS n->env.get 3=u64 (n / B ^ k)->env.get 4=i64 ((k:Int)-1)->LI Tryz.prog N drawB l92_0 env H K:=by
 have hB:B=1000000000:=rfl
 intro k
 induction k with
 | zero =>
  intro env hk h0 h3 h4
  refine li_go hm' l92_0.eq_1 ?_
  simp only[Nat.pow_zero,Nat.div_one]at h3
  simp -implicitDefEqProofs[h0,h3,h4]
  exact hexit _ (by simp[h3])
 | succ k ih =>
  intro env hk h0 h3 h4
  refine li_go hm' l92_0.eq_1 ?_
  have hkl:k<(lim n).length:=by omega
  have ej:((k+1:Nat):Int)-1=k:=by omega
  rw[ej]at h4
  have w1:IntKind.i64.wrap ((k:Int)-1)=(k:Int)-1:=wrap_id (by omega) (by omega)
  have g:(us (lim n))[k]?.getD .any=.val (.int .u32 (lim n)[k]):=us_at hkl
  have g':∀ h,(us (lim n))[k]'h=.val (.int .u32 (lim n)[k]):=fun h=>us_get hkl h
  have dj:=lim_dig n _ (List.getElem_mem hkl)
  have hs:n / B ^ k=(n / B ^ (k+1))*B+(lim n)[k]:=by
   rw[lim_at hkl,Nat.pow_succ,<- Nat.div_div_eq_div_mul]
   have:=Nat.div_add_mod (n / B ^ k) B
   rw[Nat.mul_comm]at this
   exact this.symm
  have hle:n / B ^ k≤n:=Nat.div_le_self _ _
  obtain⟨u,hu⟩:∃ u,u=n / B ^ (k+1):=⟨_,rfl⟩
  obtain⟨t,ht⟩:∃ t,t=n / B ^ k:=⟨_,rfl⟩
  obtain⟨p,hp⟩:∃ p,p=u*B:=⟨_,rfl⟩
  rw[←hu,<- ht,<- hp]at hs
  rw[←hu]at h3
  have wp:IntKind.u64.wrap ((u:Int)*1000000000)=(p:Int):=by
   rw[show(u:Int)*1000000000=((p:Nat):Int)by rw[hp,hB]; simp,wu64 (by omega)]
  have wr:=wu64 (n:=(lim n)[k]) (by omega)
  have wt:IntKind.u64.wrap ((p:Int)+((lim n)[k]:Nat))=(t:Int):=by
   rw[show(p:Int)+((lim n)[k]:Nat)=((t:Nat):Int)by omega,wu64 (by omega)]
  have hih:=ih
  rw[←ht]at hih
  simp only[nS,u64]at h0 h3 hih
  simp -implicitDefEqProofs[h0,h3,h4,hkl,us_len,g,g',wp,wr,wt]
  repeat (refine⟨by omega,?_⟩)
  refine hih _ (by omega) ?_ ?_ ?_
  · simp
  · simp
  · simp[w1]
theorem ok92 {n:Nat} (hn:n<18446744073709551616):Ok Tryz.prog 92 [nS n] H (.ret (u64 n)) H:=by
 refine ok_fn hm' Tryz.func92 c92 (by simp[nS_under]) fun hcl => ?_
 have hz:(lim n).length≤3:=lim_len_le (by
  have:B ^ 3=1000000000000000000000000000:=by decide
  omega)
 have w1:IntKind.i64.wrap (((lim n).length:Int)-1)=((lim n).length:Int)-1:=wrap_id (by omega) (by omega)
 have hz0:n / B ^ (lim n).length=0:=Nat.div_eq_of_lt (lim_lt n)
 simp -implicitDefEqProofs[i92,r92,nS,w1]
 refine zlp92 (n:=n) hn (by omega) (fun env h3 => ?_) (lim n).length _ (Nat.le_refl _) (by simp[nS]) (by rw[hz0]; simp[u64]) (by simp)
 simp -implicitDefEqProofs[h3]
 exact cv_id
end
end Go.Proofs.YtogjmpkehjfecaaGreatDoor.Rc
namespace Go.Proofs.YtogjmpkehjfecaaGreatDoor.Rc
open Go.Ab Go.Ab.Lm
section
variable {H:List AO}
theorem lim_1:lim 1=[1]:=by rw[lim_pos (by decide),show 1 % B=1 by decide,show 1 / B=0 by decide,lim_0]
theorem nS_1:nS 1=.slc [.val (.int .u32 1)] 1:=by rw[nS,lim_1]; rfl
theorem nS_0:nS 0=.slc [] 0:=by rw[nS,lim_0]; rfl
theorem ok119:Ok Tryz.prog 119 [] H (.ret (nS 1)) H:=by
 refine ok_fn hm' Tryz.func119 c119 (by simp) fun hcl => ?_
 simp -implicitDefEqProofs[i119,r119]
 refine⟨⟨rfl,rfl,rfl⟩,rfl,?_⟩
 refine cv_fz 2 hcl rfl ?_
 rw[nS_1]
 simp[placeOf]
theorem ok90:Ok Tryz.prog 90 [] H (.ret (⟨false,0,1⟩:Qr).sv) H:=by
 refine ok_fn hm' Tryz.func90 c90 (by simp) fun hcl => ?_
 have h119:=fun H=>ok119 (H:=H)
 simp only[nS_1]at h119
 simp -implicitDefEqProofs[i90,r90]
 refine call_go (h119 _) ?_
 simp -implicitDefEqProofs
 refine⟨rfl,?_⟩
 refine Cv.le (r:=.agg [bl false,nl,.slc [.val (.int .u32 1)] 1]) (cv_fz 3 hcl rfl (fz_under (by simp[SV.under,SV.underL]))) ?_
 simp only[Qr.sv,nS_0,nS_1]
 exact le_agg (leL.cons (SV.le.refl _) (leL.cons le_nil (leL.refl _)))
theorem ok91 {neg:Bool} {x y:Nat} (hx:0<x) (hy:0<y) (hxl:x<18446744073709551616) (hyl:y<18446744073709551616):Ok Tryz.prog 91 [bl neg,u64 x,u64 y] H (.ret (low neg x y).sv) H:=by
 refine ok_fn hm' Tryz.func91 c91 (by simp[u64,SV.under]) fun hcl => ?_
 have h120:=fun H=>ok120 (H:=H) hx hy hxl hyl
 have hg:0<Nat.gcd x y:=Nat.gcd_pos_of_pos_left _ hx
 have e:low neg x y=⟨neg,x / Nat.gcd x y,y / Nat.gcd x y⟩:=by
  have:x≠0:=by omega
  simp[low,this]
 rw[e]
 have hxq:x / Nat.gcd x y≤x:=Nat.div_le_self _ _
 have hyq:y / Nat.gcd x y≤y:=Nat.div_le_self _ _
 obtain⟨p,hp⟩:∃ p,p=x / Nat.gcd x y:=⟨_,rfl⟩
 obtain⟨q,hq⟩:∃ q,q=y / Nat.gcd x y:=⟨_,rfl⟩
 have t1:((x:Nat):Int).tdiv ((Nat.gcd x y:Nat):Int)=(p:Int):=by rw[hp]; rfl
 have t2:((y:Nat):Int).tdiv ((Nat.gcd x y:Nat):Int)=(q:Int):=by rw[hq]; rfl
 rw[←hp]at hxq ⊢
 rw[←hq]at hyq ⊢
 have wp:=wu64 (n:=p) (by omega)
 have wq:=wu64 (n:=q) (by omega)
 have h62p:=fun H=>ok62 (H:=H) (n:=p) (by omega)
 have h62q:=fun H=>ok62 (H:=H) (n:=q) (by omega)
 generalize Nat.gcd x y=g at *
 have hgz:¬ g=0:=by omega
 simp only[u64,nS]at h120 h62p h62q
 simp -implicitDefEqProofs[i91,r91,u64]
 refine call_go (h120 _) ?_
 simp -implicitDefEqProofs[t1,t2,wp,wq,hgz]
 refine callq_go (fun _=>h62p _) ?_
 simp -implicitDefEqProofs[t1,t2,wp,wq,hgz]
 refine callq_go (fun _=>h62q _) ?_
 simp -implicitDefEqProofs[t1,t2,wp,wq,hgz]
 exact cv_fz 3 hcl rfl (fz_under (by simp[SV.under,SV.underL,us_under]))
theorem lim_len2 {n:Nat} (h:n<1000000000000000000):(lim n).length≤2:=lim_len_le (by
 have:B ^ 2=1000000000000000000:=by decide
 omega)
theorem ok61 {neg:Bool} {x y:Nat} (hy:0<y) (hxl:x<1000000000000000000) (hyl:y<1000000000000000000):Ok Tryz.prog 61 [bl neg,nS x,nS y] H (.ret (low neg x y).sv) H:=by
 refine ok_fn hm' Tryz.func61 c61 (by simp[nS_under]) fun hcl => ?_
 have lx:=lim_len2 hxl
 have ly:=lim_len2 hyl
 by_cases h0:x=0
 · subst h0
   have e:low neg 0 y=⟨false,0,1⟩:=by
    have hd:y / y=1:=Nat.div_self hy
    simp[low,hd]
   rw[e]
   have h90:=fun H=>ok90 (H:=H)
   simp only[Qr.sv]at h90 ⊢
   simp -implicitDefEqProofs[i61,r61,nS_0]
   refine call_go (h90 _) ?_
   simp -implicitDefEqProofs
   refine⟨⟨rfl,rfl⟩,?_⟩
   rw[←nS_0]
   exact cv_fz 3 hcl rfl (fz_under (by simp[SV.under,SV.underL,nS_under]))
 · have hl:¬ (lim x).length=0:=fun e=>h0 (lim_zero.1 e)
   have h92x:=fun H=>ok92 (H:=H) (n:=x) (by omega)
   have h92y:=fun H=>ok92 (H:=H) (n:=y) (by omega)
   have h91:=fun H=>ok91 (H:=H) (neg:=neg) (x:=x) (y:=y) (by omega) hy (by omega) (by omega)
   generalize low neg x y=q at *
   simp only[nS]at h92x h92y
   simp only[Qr.sv]at h91 ⊢
   simp -implicitDefEqProofs[i61,r61,nS,hl,show((lim x).length:Int)≤2 by omega,show((lim y).length:Int)≤2 by omega]
   refine call_go (h92x _) ?_
   simp -implicitDefEqProofs
   refine call_go (h92y _) ?_
   simp -implicitDefEqProofs
   refine call_go (h91 _) ?_
   simp -implicitDefEqProofs
   refine⟨⟨rfl,rfl⟩,?_⟩
   exact cv_fz 3 hcl rfl (fz_under (by simp[SV.under,SV.underL,nS_under]))
theorem ok36 {x y:Int} (hy:y≠0) (hxl:x.natAbs<1000000000000000000) (hyl:y.natAbs<1000000000000000000):Ok Tryz.prog 36 [i64 x,i64 y] H (.ret (.tup [ratS x y,i64 0])) H:=by
 refine ok_fn hm' Tryz.func36 c36 (by simp) fun hcl => ?_
 have h63x:=fun H=>ok63 (H:=H) (n:=x) (by omega)
 have h63y:=fun H=>ok63 (H:=H) (n:=y) (by omega)
 have h62x:=fun H=>ok62 (H:=H) (n:=x.natAbs) (by omega)
 have h62y:=fun H=>ok62 (H:=H) (n:=y.natAbs) (by omega)
 have h61:=fun H=>ok61 (H:=H) (neg:=decide (x<0) != decide (y<0)) (x:=x.natAbs) (y:=y.natAbs) (by omega) hxl hyl
 have e:ratS x y=(low (decide (x<0) != decide (y<0)) x.natAbs y.natAbs).sv:=rfl
 rw[e]
 generalize low (decide (x<0) != decide (y<0)) x.natAbs y.natAbs=q at *
 simp only[Qr.sv]at h61 ⊢
 simp -implicitDefEqProofs[i36,r36,hy]
 refine call_go (h63x _) ?_
 simp -implicitDefEqProofs
 refine call_go (h62x _) ?_
 simp -implicitDefEqProofs
 refine call_go (h63y _) ?_
 simp -implicitDefEqProofs
 refine call_go (h62y _) ?_
 simp -implicitDefEqProofs
 refine call_go (h61 _) ?_
 simp -implicitDefEqProofs
 refine⟨⟨rfl,rfl⟩,?_⟩
 exact cv_fz 4 hcl rfl (fz_under (by simp[SV.under,SV.underL,nS_under]))
end
end Go.Proofs.YtogjmpkehjfecaaGreatDoor.Rc
namespace Go.Proofs.YtogjmpkehjfecaaGreatDoor.Rc
open Go.Ab Go.Ab.Shr
def Dn (g:Gm) (R:List Int) (p i:Nat) (f:Nat->Int):Prop:=∀ j,j<g.ns.length->gi g.wk.2.P j<i->f j=R.getD (j*4+p) 0
theorem Dn.put {g:Gm} {R:List Int} {p i:Nat} {f:Nat->Int} (h:Dn g R p i f) (c:Nat):Dn g R p i (put f c (R.getD (c*4+p) 0)):=fun j hj hp=>by
 unfold Shr.put
 split
 · rename_i e; rw[e]
 · exact h j hj hp
theorem Dn.at {g:Gm} {R:List Int} {p i:Nat} {f:Nat->Int} (hW:Wg g) (h:Dn g R p i f) (hi:i<g.ns.length):f i=R.getD (i*4+p) 0:=by
 refine h i hi ?_
 by_cases e:i=0
 · subst e; rw[hW.wf.p0]; omega
 · obtain⟨q,_,h1,h2,_⟩:=hW.wf.pf i (by omega) hi
   omega
end Go.Proofs.YtogjmpkehjfecaaGreatDoor.Rc
namespace Go.Proofs.YtogjmpkehjfecaaGreatDoor.Rc
open Go.Ab Go.Ab.Shr
end Go.Proofs.YtogjmpkehjfecaaGreatDoor.Rc
namespace Go.Proofs.YtogjmpkehjfecaaGreatDoor.Rc
open Go.Ab Go.Ab.Shr
def qSo (h:Nat):Nat:=h+5
def qS (h i:Nat):Nat:=h+6+2*i
def qPo (h n:Nat):Nat:=h+7+2*n
def qP (h n i:Nat):Nat:=h+8+2*n+2*i
def qE (h n:Nat):Nat:=h+8+4*n
def nxO (g:Gm) (h:Nat) (r s:Int):AO:=⟨[i64 r,i64 s,.own (qSo h) 0 g.is.length 1 g.is.length,.own (qPo h g.is.length) 0 g.is.length 1 g.is.length],30,1,true⟩
structure PW (g:Gm) (H:List AO) (t:Tin) (rr:Int) (A P:Nat->List Int) (X:List AO):Prop where
 b:X[H.length]? = some (gbox g)
 tb:X[H.length+1]? = some (tB t)
 rb:X[H.length+2]? = some ⟨[i64 0,i64 0,nl,nl],30,0,true⟩
 nx:X[H.length+3]? = some (nxO g H.length rr t.seed)
 so:X[qSo H.length]? = some ⟨outs g.is.length (qS H.length) g.acts 0,45,g.is.length,true⟩
 po:X[qPo H.length g.is.length]? = some ⟨outs g.is.length (qP H.length g.is.length) g.acts 0,45,g.is.length,true⟩
 s:∀ i,i<g.is.length->X[qS H.length i]? = some ⟨ints (A i),3,0,true⟩
 p:∀ i,i<g.is.length->X[qP H.length g.is.length i]? = some ⟨ints (P i),3,0,true⟩
 ls:∀ i,i<g.is.length->(A i).length=g.acts i
 lp:∀ i,i<g.is.length->(P i).length=g.acts i
 low:∀ j,j<H.length->X[j]? = H[j]?
 len:qE H.length g.is.length≤X.length
section
variable {g:Gm} {H X:List AO} {t:Tin} {rr:Int} {A P:Nat->List Int}
theorem PW.app (h:PW g H t rr A P X) (L:List AO):PW g H t rr A P (X++L):=by
 have up:∀ {i:Nat} {o:AO},X[i]? = some o->(X++L)[i]? = some o:=fun h=>by rw[List.getElem?_append_left (getElem?_lt h)]; exact h
 have hl:=h.len
 exact⟨up h.b,up h.tb,up h.rb,up h.nx,up h.so,up h.po,fun i hi=>up (h.s i hi),fun i hi=>up (h.p i hi),h.ls,h.lp,fun j hj=>by rw[List.getElem?_append_left (by unfold qE at hl; omega)]; exact h.low j hj,by simp; omega⟩
theorem PW.setS (h:PW g H t rr A P X) {j:Nat} (hj:j<g.is.length) {l:List Int} (hl:l.length=g.acts j):PW g H t rr (upA A j l) P (X.set (qS H.length j) ⟨ints l,3,0,true⟩):=by
 have ne:∀ {i:Nat} {o:AO},X[i]? = some o->i≠qS H.length j->(X.set (qS H.length j) ⟨ints l,3,0,true⟩)[i]? = some o:=fun h h2=>by rw[List.getElem?_set_ne (by omega)]; exact h
 have hlt:=getElem?_lt (h.s j hj)
 refine⟨ne h.b (by unfold qS; omega),ne h.tb (by unfold qS; omega),ne h.rb (by unfold qS; omega),ne h.nx (by unfold qS; omega),ne h.so (by unfold qS qSo; omega),ne h.po (by unfold qS qPo; omega),fun i hi => ?_,fun i hi=>ne (h.p i hi) (by unfold qS qP; omega),fun i hi => ?_,h.lp,fun i hi=>by rw[List.getElem?_set_ne (by unfold qS; omega)]; exact h.low i hi,by simp; exact h.len⟩
 · by_cases e:i=j
   · subst e; rw[List.getElem?_set_self hlt]; simp[upA]
   · rw[List.getElem?_set_ne (by unfold qS; omega),h.s i hi]; simp[upA,e]
 · unfold upA; split
   · rename_i e; rw[e]; exact hl
   · exact h.ls i hi
theorem PW.setP (h:PW g H t rr A P X) {j:Nat} (hj:j<g.is.length) {l:List Int} (hl:l.length=g.acts j):PW g H t rr A (upA P j l) (X.set (qP H.length g.is.length j) ⟨ints l,3,0,true⟩):=by
 have ne:∀ {i:Nat} {o:AO},X[i]? = some o->i≠qP H.length g.is.length j->(X.set (qP H.length g.is.length j) ⟨ints l,3,0,true⟩)[i]? = some o:=fun h h2=>by rw[List.getElem?_set_ne (by omega)]; exact h
 have hlt:=getElem?_lt (h.p j hj)
 refine⟨ne h.b (by unfold qP; omega),ne h.tb (by unfold qP; omega),ne h.rb (by unfold qP; omega),ne h.nx (by unfold qP; omega),ne h.so (by unfold qP qSo; omega),ne h.po (by unfold qP qPo; omega),fun i hi=>ne (h.s i hi) (by unfold qS qP; omega),fun i hi => ?_,h.ls,fun i hi => ?_,fun i hi=>by rw[List.getElem?_set_ne (by unfold qP; omega)]; exact h.low i hi,by simp; exact h.len⟩
 · by_cases e:i=j
   · subst e; rw[List.getElem?_set_self hlt]; simp[upA]
   · rw[List.getElem?_set_ne (by unfold qP; omega),h.p i hi]; simp[upA,e]
 · unfold upA; split
   · rename_i e; rw[e]; exact hl
   · exact h.lp i hi
def zersA (g:Gm) (i:Nat):List Int:=zers (g.acts i)
def initP (g:Gm) (H:List AO) (t:Tin) (rr:Int):List AO :=
 H++(gbox g::tB t::⟨[i64 0,i64 0,nl,nl],30,0,true⟩::nxO g H.length rr t.seed::gbox g::⟨outs g.is.length (qS H.length) g.acts 0,45,g.is.length,true⟩::(blkZ (H.length+4) g g.is.length++(gbox g::⟨outs g.is.length (qP H.length g.is.length) g.acts 0,45,g.is.length,true⟩::blkZ (H.length+6+2*g.is.length) g g.is.length)))
theorem PW.init:PW g H t rr (zersA g) (zersA g) (initP g H t rr):=by
 have hb1:=blkZ_len (H.length+4) g g.is.length
 have hb2:=blkZ_len (H.length+6+2*g.is.length) g g.is.length
 have hz1:=fun i hi=>blkZ_at (H.length+4) g g.is.length i hi
 have hz2:=fun i hi=>blkZ_at (H.length+6+2*g.is.length) g g.is.length i hi
 have at':∀ k,(initP g H t rr)[H.length+k]? = (gbox g::tB t::⟨[i64 0,i64 0,nl,nl],30,0,true⟩::nxO g H.length rr t.seed::gbox g::⟨outs g.is.length (qS H.length) g.acts 0,45,g.is.length,true⟩::(blkZ (H.length+4) g g.is.length++(gbox g::⟨outs g.is.length (qP H.length g.is.length) g.acts 0,45,g.is.length,true⟩::blkZ (H.length+6+2*g.is.length) g g.is.length)))[k]? := fun k=>by
  unfold initP
  rw[List.getElem?_append_right (by omega)]
  congr 1; omega
 refine⟨at' 0,at' 1,at' 2,at' 3,?_,?_,fun i hi => ?_,fun i hi => ?_,fun i _=>by simp[zersA,zers],fun i _=>by simp[zersA,zers],fun j hj=>by unfold initP; rw[List.getElem?_append_left hj],?_⟩
 · exact at' 5
 · have:=at' (7+2*g.is.length)
   rw[show qPo H.length g.is.length=H.length+(7+2*g.is.length)by unfold qPo; omega,this]
   rw[show 7+2*g.is.length=(1+2*g.is.length)+6 by omega]
   simp only[List.getElem?_cons_succ]
   rw[List.getElem?_append_right (by omega),hb1,show 1+2*g.is.length-2*g.is.length=1 by omega]
   rfl
 · rw[show qS H.length i=H.length+(2*i+6)by unfold qS; omega,at']
   simp only[List.getElem?_cons_succ]
   rw[List.getElem?_append_left (by omega),hz1 i hi]; rfl
 · rw[show qP H.length g.is.length i=H.length+((2*g.is.length+(2*i+2))+6)by unfold qP; omega,at']
   simp only[List.getElem?_cons_succ]
   rw[List.getElem?_append_right (by omega),hb1,show 2*g.is.length+(2*i+2)-2*g.is.length=2*i+2 by omega]
   simp only[List.getElem?_cons_succ]
   rw[hz2 i hi]; rfl
 · unfold initP qE
   simp[hb1,hb2]; omega
end
end Go.Proofs.YtogjmpkehjfecaaGreatDoor.Rc
namespace Go.Proofs.YtogjmpkehjfecaaGreatDoor.Rc
open Go.Ab Go.Ab.Shr
section
variable {g:Gm} {H X:List AO} {t:Tin} {rr:Int} {A P:Nat->List Int}
structure TinOk (g:Gm) (t:Tin):Prop where
 la:t.A.length=g.is.length
 lp:t.P.length=g.is.length
 a:∀ i (h:i<t.A.length),t.A[i].length=g.acts i
 p:∀ i (h:i<t.P.length),t.P[i].length=g.acts i
end
end Go.Proofs.YtogjmpkehjfecaaGreatDoor.Rc
namespace Go.Proofs.YtogjmpkehjfecaaGreatDoor.Rc
open Go.Ab Go.Ab.Shr
def bls (n:Nat) (s:Nat->Bool):List SV:=(List.range n).map fun j=>bl (s j)
structure PX (g:Gm) (H:List AO) (t:Tin) (rr:Int) (A P:Nat->List Int) (ps:Nat) (sn:Nat->Bool) (pn i:Nat) (X:List AO):Prop where
 w:PW g H t rr A P X
 eps:qE H.length g.is.length≤ps
 epn:ps<pn
 sn:X[ps]? = some ⟨bls g.is.length sn,4,0,true⟩
 n:∀ h:i<g.ns.length,X[pn]? = some ⟨g.ns[i].cells,57,0,true⟩
section
variable {g:Gm} {H X:List AO} {t:Tin} {rr:Int} {A P:Nat->List Int} {ps pn i:Nat} {sn:Nat->Bool}
theorem PX.setS (h:PX g H t rr A P ps sn pn i X) {j:Nat} (hj:j<g.is.length) {l:List Int} (hl:l.length=g.acts j):PX g H t rr (upA A j l) P ps sn pn i (X.set (qS H.length j) ⟨ints l,3,0,true⟩):=by
 have h1:=h.eps; have h2:=h.epn
 refine⟨h.w.setS hj hl,h1,h2,?_,fun hi => ?_⟩
 · rw[List.getElem?_set_ne (by unfold qE at h1; unfold qS; omega)]; exact h.sn
 · rw[List.getElem?_set_ne (by unfold qE at h1; unfold qS; omega)]; exact h.n hi
theorem PX.setP (h:PX g H t rr A P ps sn pn i X) {j:Nat} (hj:j<g.is.length) {l:List Int} (hl:l.length=g.acts j):PX g H t rr A (upA P j l) ps sn pn i (X.set (qP H.length g.is.length j) ⟨ints l,3,0,true⟩):=by
 have h1:=h.eps; have h2:=h.epn
 refine⟨h.w.setP hj hl,h1,h2,?_,fun hi => ?_⟩
 · rw[List.getElem?_set_ne (by unfold qE at h1; unfold qP; omega)]; exact h.sn
 · rw[List.getElem?_set_ne (by unfold qE at h1; unfold qP; omega)]; exact h.n hi
end
end Go.Proofs.YtogjmpkehjfecaaGreatDoor.Rc
namespace Go.Proofs.YtogjmpkehjfecaaGreatDoor.Rc
open Go.Ab Go.Ab.Shr
end Go.Proofs.YtogjmpkehjfecaaGreatDoor.Rc
namespace Go.Proofs.YtogjmpkehjfecaaGreatDoor.Rc
open Go.Ab Go.Ab.Shr
structure PY (g:Gm) (H:List AO) (t:Tin) (rr:Int) (A P:Nat->List Int) (ps:Nat) (sn:Nat->Bool) (X:List AO):Prop where
 w:PW g H t rr A P X
 eps:qE H.length g.is.length≤ps
 sn:X[ps]? = some ⟨bls g.is.length sn,4,0,true⟩
section
variable {g:Gm} {H X:List AO} {t:Tin} {rr:Int} {A P:Nat->List Int} {ps pn i p j:Nat} {sn:Nat->Bool} {V R O:List Int} {S:List (List Int)}
theorem PY.node (h:PY g H t rr A P ps sn X) (hi:i<g.ns.length):PX g H t rr A P ps sn X.length i (X++[⟨g.ns[i].cells,57,0,true⟩]):=by
 have hl:=getElem?_lt h.sn
 refine⟨h.w.app _,h.eps,hl,by rw[List.getElem?_append_left hl]; exact h.sn,fun _ => ?_⟩
 rw[List.getElem?_append_right (Nat.le_refl _)]; simp
theorem PX.y (h:PX g H t rr A P ps sn pn i X):PY g H t rr A P ps sn X:=⟨h.w,h.eps,h.sn⟩
theorem PW.setN (h:PW g H t rr A P X) {q:Nat} (hq:qE H.length g.is.length≤q) (o:AO):PW g H t rr A P (X.set q o):=by
 have ne:∀ {i:Nat} {o':AO},X[i]? = some o'->i<qE H.length g.is.length->(X.set q o)[i]? = some o':=fun h h2=>by rw[List.getElem?_set_ne (by omega)]; exact h
 have hl:=h.len
 exact⟨ne h.b (by unfold qE; omega),ne h.tb (by unfold qE; omega),ne h.rb (by unfold qE; omega),ne h.nx (by unfold qE; omega),ne h.so (by unfold qE qSo; omega),ne h.po (by unfold qE qPo; omega),fun i hi=>ne (h.s i hi) (by unfold qE qS; omega),fun i hi=>ne (h.p i hi) (by unfold qE qP; omega),h.ls,h.lp,fun i hi=>by rw[List.getElem?_set_ne (by unfold qE at hq; omega)]; exact h.low i hi,by simp; exact hl⟩
theorem PY.set (h:PY g H t rr A P ps sn X) (j:Nat):PY g H t rr A P ps (fun k=>if k=j then true else sn k) (X.set ps ⟨bls g.is.length (fun k=>if k=j then true else sn k),4,0,true⟩) :=
 ⟨h.w.setN h.eps _,h.eps,by rw[List.getElem?_set_self (getElem?_lt h.sn)]⟩
end
end Go.Proofs.YtogjmpkehjfecaaGreatDoor.Rc
namespace Go.Proofs.YtogjmpkehjfecaaGreatDoor.Rc
open Go.Ab Go.Ab.Shr
section
variable {g:Gm} {H X:List AO} {t:Tin} {rr:Int} {A P:Nat->List Int} {ps pn i p j:Nat} {sn:Nat->Bool} {V R O M:List Int} {S:List (List Int)}
theorem PW.seen (h:PW g H t rr A P X):PY g H t rr A P X.length (fun _=>false) (X++[⟨bls g.is.length fun _=>false,4,0,true⟩]):=by
 refine⟨h.app _,h.len,?_⟩
 rw[List.getElem?_append_right (Nat.le_refl _)]; simp
end
end Go.Proofs.YtogjmpkehjfecaaGreatDoor.Rc
namespace Go.Proofs.YtogjmpkehjfecaaGreatDoor.Rc
open Go.Ab Go.Ab.Shr
end Go.Proofs.YtogjmpkehjfecaaGreatDoor.Rc
namespace Go.Proofs.YtogjmpkehjfecaaGreatDoor.Rc
open Go.Ab Go.Ab.Shr
end Go.Proofs.YtogjmpkehjfecaaGreatDoor.Rc
namespace Go.Proofs.YtogjmpkehjfecaaGreatDoor.Rc
open Go.Ab Go.Ab.Shr
section
variable {g:Gm} {M:List Int} {S S':Nat->List Int} {own:Bool}
theorem rchF_congr {R R':List Int} {i k q:Nat} (h:R.getD (i*4+q) 0=R'.getD (i*4+q) 0):rchF g own S M R i k q=rchF g own S M R' i k q:=by
 unfold rchF; rw[h]
structure RInv (g:Gm) (own:Bool) (M:List Int) (S:Nat->List Int) (i k:Nat) (R:List Int):Prop where
 len:R.length=4*g.ns.length
 z:∀ q:Nat,(q:Int)<g.pl->R.getD (0*4+q) 0=1073741824
 eq:∀ a t q:Nat,∀ h:a<g.ns.length,(ht:t<g.ns[a].nx.length)->(q:Int)<g.pl->(a<i∨a=i∧t<k)->R.getD (g.ns[a].nx[t].toNat*4+q) 0=rchF g own S M R a t q
theorem RInv.step (hW:Wg g) {i k:Nat} {R:List Int} (h:RInv g own M S i k R) (hi:i<g.ns.length) (hk:k<g.ns[i].nx.length):RInv g own M S i (k+1) (chR g own S M R i k):=by
 have hp4:=hW.gd.p4
 have hx:g.ns[i]? = some g.ns[i]:=List.getElem?_eq_getElem hi
 have hch:=(hW.wf.nf i hi).ch _ (List.getElem_mem hk)
 have hinc:=(hW.wf.nf i hi).inc
 have e:g.ns[i].nx.getD k 0=g.ns[i].nx[k]:=by simp[hk]
 have er:chR g own S M R i k=blk4 R g.ns[i].nx[k].toNat (mixF g.pl.toNat (rchF g own S M R i k) (rowQ R i)):=by
  simp only[chR,hx,e]
 rw[er]
 have hl:=h.len
 have hcl:g.ns[i].nx[k].toNat<g.ns.length:=by omega
 refine⟨blk_len hl hcl _,fun q hq => ?_,fun a t q ha ht hq hat => ?_⟩
 · rw[blk_get hl hcl (by omega) (by omega) (by omega)]; exact h.z q hq
 · have hca:=(hW.wf.nf a ha).ch _ (List.getElem_mem ht)
   have hai:a≤i:=by omega
   have hR:(blk4 R g.ns[i].nx[k].toNat (mixF g.pl.toNat (rchF g own S M R i k) (rowQ R i))).getD (a*4+q) 0=R.getD (a*4+q) 0:=blk_get hl hcl ha (by omega) (by omega) _
   rw[rchF_congr hR]
   by_cases hs:a=i∧t=k
   · obtain⟨rfl,rfl⟩:=hs
     rw[blk_self hl hcl (by omega)]
     unfold mixF
     rw[if_pos (by omega)]
   · have hne:g.ns[a].nx[t].toNat≠g.ns[i].nx[k].toNat:=by
      intro hh
      by_cases hai2:a=i
      · subst hai2
        have htk:t<k:=by omega
        have:=List.pairwise_iff_getElem.1 hinc t k ht hk htk
        omega
      · have h1:=hca.2.2.1
        have h2:=hch.2.2.1
        rw[hh]at h1
        omega
     rw[blk_get hl hcl (by omega) (by omega) hne]
     exact h.eq a t q ha ht hq (by omega)
end
end Go.Proofs.YtogjmpkehjfecaaGreatDoor.Rc
namespace Go.Proofs.YtogjmpkehjfecaaGreatDoor.Rc
open Go.Ab Go.Ab.Shr
end Go.Proofs.YtogjmpkehjfecaaGreatDoor.Rc
namespace Go.Proofs.YtogjmpkehjfecaaGreatDoor.Rc
open Go.Ab Go.Ab.Shr
end Go.Proofs.YtogjmpkehjfecaaGreatDoor.Rc
namespace Go.Proofs.YtogjmpkehjfecaaGreatDoor.Rc
open Go.Ab Go.Ab.Shr
end Go.Proofs.YtogjmpkehjfecaaGreatDoor.Rc
namespace Go.Proofs.YtogjmpkehjfecaaGreatDoor.Rc
open Go.Ab Go.Ab.Shr
end Go.Proofs.YtogjmpkehjfecaaGreatDoor.Rc
namespace Go.Proofs.YtogjmpkehjfecaaGreatDoor.Rc
open Go.Ab Go.Ab.Shr
end Go.Proofs.YtogjmpkehjfecaaGreatDoor.Rc
namespace Go.Proofs.YtogjmpkehjfecaaGreatDoor.Rc
open Go.Ab Go.Ab.Shr
end Go.Proofs.YtogjmpkehjfecaaGreatDoor.Rc
namespace Go.Proofs.YtogjmpkehjfecaaGreatDoor.Rc
open Go.Ab Go.Ab.Shr
section
variable {g:Gm} {H X:List AO} {t:Tin} {s:TS}
def zO:AO:=⟨[i64 0,i64 0,nl,nl],30,0,true⟩
end
end Go.Proofs.YtogjmpkehjfecaaGreatDoor.Rc
namespace Go.Proofs.YtogjmpkehjfecaaGreatDoor.Rc
open Go.Ab Go.Ab.Shr
section
variable {g:Gm} {H X:List AO} {t:Tin} {rr:Int} {A P:Nat->List Int}
theorem PW.split (h:PW g H t rr A P X):X=(H++[gbox g,tB t,zO,nxO g H.length rr t.seed])++X.drop (H.length+4):=by
 have ht:=tail_of (H:=H++[gbox g,tB t,zO,nxO g H.length rr t.seed]) (X:=X) fun j hj=>by
  by_cases h1:j<H.length
  · rw[List.getElem?_append_left h1]; exact h.low j h1
  · have h0:=h.b
    have h1':=h.tb
    have h2:=h.rb
    have h3:=h.nx
    rw[List.getElem?_append_right (by omega)]
    have hj':j=H.length∨j=H.length+1∨j=H.length+2∨j=H.length+3:=by
     simp at hj; omega
    rcases hj' with rfl | rfl | rfl | rfl
    · rw[h0]; simp
    · rw[h1']; simp
    · rw[h2]; simp[zO]
    · rw[h3]; simp
 have e:(H++[gbox g,tB t,zO,nxO g H.length rr t.seed]).length=H.length+4:=by simp
 rw[e]at ht
 exact ht
end
end Go.Proofs.YtogjmpkehjfecaaGreatDoor.Rc
namespace Go.Proofs.YtogjmpkehjfecaaGreatDoor.Rc
open Go.Ab Go.Ab.Shr
section
variable {g:Gm} {H X:List AO}
theorem chk_tin {t:Tin} (h:chkS g t=0):TinOk g t:=by
 obtain⟨hW,h1,h2,h3,h4⟩:=chk_zero h
 obtain⟨a1,a2⟩:=lst_zero hW h3
 obtain⟨p1,p2⟩:=lst_zero hW h4
 refine⟨a1,p1,fun i hi => ?_,fun i hi => ?_⟩
 · have:=(a2 i (by omega)).1; rw[lenL_at hi]at this; exact this
 · have:=(p2 i (by omega)).1; rw[lenL_at hi]at this; exact this
end
end Go.Proofs.YtogjmpkehjfecaaGreatDoor.Rc
namespace Go.Proofs.YtogjmpkehjfecaaGreatDoor.Rc
open Go.Ab
end Go.Proofs.YtogjmpkehjfecaaGreatDoor.Rc
namespace Go.Proofs.YtogjmpkehjfecaaGreatDoor.Rc
open Go.Ab Go.Ab.Shr
section
variable {H:List AO} {g:Gm}
set_option maxRecDepth 10000 in
theorem tlp26 {A:List (List Int)} (hA:A.length≤1000) (hAl:∀ l∈A,l.length≤100000) {N:Nat} {K:XE->Env->List AO->Prop} (hexit:∀ env,K (.exit 0) env H) :
 ∀ (n i:Nat) (env:Env),i+n=A.length->env.get 0=.slc (sls A) A.length->env.get 1=.slc (sls A) A.length->env.get 5=i64 i->LI Tryz.prog N drawB l15_0 env H K:=by
 intro n
 induction n with
 | zero =>
  intro i env hi h0 h1 h5
  refine li_go hm l15_0.eq_1 ?_
  have e:i=A.length:=by omega
  subst e
  simp -implicitDefEqProofs[h0,h1,h5]
  exact hexit _
 | succ n ih =>
  intro i env hi h0 h1 h5
  refine li_go hm l15_0.eq_1 ?_
  have hlt:i<A.length:=by omega
  have w1:=wrap_suc (show i<9223372036854775807 by omega)
  simp -implicitDefEqProofs[h0,h1,h5,hlt,sls_get hlt]
  repeat (refine⟨by omega,?_⟩)
  refine callq_go (fun _=>ok40s (isl H A[i]) (isl H A[i]) (by have:=hAl _ (List.getElem_mem hlt); omega)) ?_
  simp -implicitDefEqProofs[h5,w1]
  exact ih (i+1) _ (by omega) (by simp[h0]) (by simp[h1]) (by simp)
theorem ok15s {A:List (List Int)} (hA:A.length≤1000) (hAl:∀ l∈A,l.length≤100000):Ok Tryz.prog 15 [.slc (sls A) A.length,.slc (sls A) A.length] H (.ret (bl true)) H:=by
 refine ok_fn hm Tryz.func15 c15 (by simp[sls_under]) fun hcl => ?_
 simp -implicitDefEqProofs[i15,r15]
 refine tlp26 (A:=A) hA hAl (fun env => ?_) A.length 0 _ (by omega) (by simp) (by simp) (by simp)
 simp -implicitDefEqProofs
 exact cv_id
def Tin.small (T:Tin):Prop:=(T.A.length≤1000∧∀ l∈T.A,l.length≤100000)∧(T.P.length≤1000∧∀ l∈T.P,l.length≤100000)
theorem ok16 {T:Tin} (hT:T.small):Ok Tryz.prog 16 [.agg T.cells,.agg T.cells] H (.ret (bl true)) H:=by
 obtain⟨⟨a1,a2⟩,p1,p2⟩:=hT
 refine ok_fn hm Tryz.func16 c16 (by simp[Tin.cells,sls_under]) fun hcl => ?_
 simp -implicitDefEqProofs[i16,r16,Tin.cells]
 refine callq_st (fun _=>ok15s a1 a2) ?_
 simp -implicitDefEqProofs
 refine callq_st (fun _=>ok15s p1 p2) ?_
 simp -implicitDefEqProofs
 exact cv_fz 1 hcl rfl (by simp)
theorem zero_small:Tin.zero.small:=by simp[Tin.small,Tin.zero]
end
end Go.Proofs.YtogjmpkehjfecaaGreatDoor.Rc
namespace Go.Proofs.YtogjmpkehjfecaaGreatDoor.Rc
open Go.Ab Go.Ab.Shr
end Go.Proofs.YtogjmpkehjfecaaGreatDoor.Rc
namespace Go.Proofs.YtogjmpkehjfecaaGreatDoor.Rc
open Go.Ab Go.Ab.Shr
section
variable {H:List AO}
theorem ok27 (p i:Int) {k n v:Nat} (hk:k<H.length):Ok Tryz.prog 27 [i64 p,i64 i,.own k 0 n 1 v] H (.ret (.agg [i64 2,i64 p,i64 i,.own k 0 n 1 v,nl,nl])) H:=by
 refine ok_fn hm Tryz.func27 c27 (by simp[SV.under,hk]) fun hcl => ?_
 simp -implicitDefEqProofs[i27,r27]
 exact⟨rfl,cv_fz 2 hcl rfl (fz_under (by simp[SV.under,hk]))⟩
theorem ok28 (p:Int) (hp : -1000≤p∧p≤1000):Ok Tryz.prog 28 [i64 p] H (.ret (.agg [i64 3,i64 0,i64 0,nl,nl,.slc (ints [p,-p]) 2])) H:=by
 refine ok_fn hm Tryz.func28 c28 (by simp) fun hcl => ?_
 have w1:IntKind.i64.wrap (-p) = -p:=wrap_id (by omega) (by omega)
 simp -implicitDefEqProofs[i28,r28,w1]
 exact⟨rfl,cv_fz 3 hcl rfl (by simp[ints])⟩
def exG:Gm:=⟨2,[⟨2,0,0,[1,2],[],[]⟩,⟨3,0,0,[],[],[1,-1]⟩,⟨2,1,1,[3,4],[],[]⟩,⟨3,0,0,[],[],[0,0]⟩,⟨2,0,2,[5,6,7],[],[]⟩,⟨3,0,0,[],[],[2,-2]⟩,⟨3,0,0,[],[],[-1,1]⟩,⟨3,0,0,[],[],[3,-3]⟩],[(0,2),(1,2),(0,3)]⟩
set_option maxRecDepth 10000 in
theorem ok7:Ok Tryz.prog 7 [] H (.ret (.agg exG.cells)) H:=by
 refine ok_fn hm Tryz.func7 c7 (by simp) fun hcl => ?_
 have h47:=fun H p hp=>ok28 (H:=H) p hp
 simp -implicitDefEqProofs[i7,r7]
 refine call_go (ok27 0 0 (by simp)) ?_
 simp -implicitDefEqProofs
 refine call_go (ok28 1 (by omega)) ?_
 simp -implicitDefEqProofs
 refine call_go (ok27 1 1 (by simp)) ?_
 simp -implicitDefEqProofs
 refine call_go (ok28 0 (by omega)) ?_
 simp -implicitDefEqProofs
 refine call_go (ok27 0 2 (by simp)) ?_
 simp -implicitDefEqProofs
 refine call_go (ok28 2 (by omega)) ?_
 simp -implicitDefEqProofs
 refine call_go (ok28 (-1) (by omega)) ?_
 simp -implicitDefEqProofs
 refine call_go (ok28 3 (by omega)) ?_
 simp -implicitDefEqProofs
 refine⟨rfl,Cv.le (cv_fz 5 hcl rfl rfl) ?_⟩
 have e1:(1+1:Nat)=2:=rfl
 simp[ints,exG,Gm.cells,nds,Nd.cells,infs,sl]
 refine le_agg (leL.cons (SV.le.refl _) (leL.cons (le_slc ?_ _) (leL.refl _)))
 repeat (first | exact leL.nil | refine leL.cons (SV.le.refl _) ?_ | refine leL.cons le_nil ?_)
end
end Go.Proofs.YtogjmpkehjfecaaGreatDoor.Rc
namespace Go.Proofs.YtogjmpkehjfecaaGreatDoor.Rc
open Go.Ab Go.Ab.Shr
def newR (g:Gm):Tin×Int:=if g.prpE≠0 then(.zero,g.prpE)else(⟨0,0,(List.range g.is.length).map (zersA g),(List.range g.is.length).map (zersA g)⟩,0)
section
variable {H:List AO} {g:Gm}
set_option maxRecDepth 10000 in
theorem ok8:Ok Tryz.prog 8 [.agg g.cells] H (.ret (.tup [.agg (newR g).1.cells,i64 (newR g).2])) H:=by
 refine ok_fn hm Tryz.func8 c8 (by simp[Gm.cells,nds_under,infs_under]) fun hcl => ?_
 have h36:=fun H=>ok29 (H:=H) (g:=g)
 simp only[Gm.cells]at h36
 simp -implicitDefEqProofs[i8,r8,Gm.cells]
 refine call_go (h36 _) ?_
 by_cases hp:g.prpE=0
 · have hW:Wg g:=prp_form hp
   have e:newR g=(⟨0,0,(List.range g.is.length).map (zersA g),(List.range g.is.length).map (zersA g)⟩,0):=by unfold newR; rw[if_neg (by simpa using hp)]
   have h37:=fun H=>ok30 (H:=H) hW
   simp only[Gm.cells]at h37
   simp -implicitDefEqProofs[hp]
   refine call_go (h37 _) ?_
   simp -implicitDefEqProofs
   refine call_go (h37 _) ?_
   have hb:=blkO_len g g.is.length
   have hbr:=blkO_row g g.is.length
   generalize blkO g g.is.length=M at *
   simp -implicitDefEqProofs
   rw[e]
   have hcv:=fun(L:List AO) (r:SV) (h:SV.fz H.length [] L 6 r=.tup [.agg (Tin.mk 0 0 ((List.range g.is.length).map (zersA g)) ((List.range g.is.length).map (zersA g))).cells,i64 0])=>cv_fz (n0:=H.length) (H:=H) (L:=L) 6 hcl rfl h
   refine hcv _ _ ?_
   have key:∀ (L:List AO) (a b:Nat) (qa qb:Nat->Nat),L[a]? = some ⟨outs g.is.length qa g.acts 0,45,0,true⟩->L[b]? = some ⟨outs g.is.length qb g.acts 0,45,0,true⟩->(∀ i,i<g.is.length->H.length≤qa i∧L[qa i-H.length]? = some (rowO 0 (zers (g.acts i))))->(∀ i,i<g.is.length->H.length≤qb i∧L[qb i-H.length]? = some (rowO 0 (zers (g.acts i)))) →
    SV.fz H.length [] L 6 (.tup [.agg [i64 0,i64 0,.own (H.length+a) 0 g.is.length 1 0,.own (H.length+b) 0 g.is.length 1 0],i64 0])=.tup [.agg (Tin.mk 0 0 ((List.range g.is.length).map (zersA g)) ((List.range g.is.length).map (zersA g))).cells,i64 0]:=by
    intro L a b qa qb ha hb hqa hqb
    have at':∀ k,H.length≤k->(H++L)[k]? = L[k-H.length]? := fun k hk=>by rw[List.getElem?_append_right hk]
    have fS:=fz_outsN (H:=H) (G:=H++L) (p:=H.length+a) (A:=zersA g) (by omega) (by rw[at' _ (by omega),show H.length+a-H.length=a by omega]; exact ha) (fun i hi=>⟨(hqa i hi).1,by rw[at' _ (hqa i hi).1]; exact(hqa i hi).2,by simp[zersA,zers]⟩) 1
    have fP:=fz_outsN (H:=H) (G:=H++L) (p:=H.length+b) (A:=zersA g) (by omega) (by rw[at' _ (by omega),show H.length+b-H.length=b by omega]; exact hb) (fun i hi=>⟨(hqb i hi).1,by rw[at' _ (hqb i hi).1]; exact(hqb i hi).2,by simp[zersA,zers]⟩) 1
    rw[List.drop_left]at fS fP
    simp only[fz_tup,List.map_cons,List.map_nil,fz_agg,fz_i64,Nat.reduceAdd,fS,fP]
    simp[Tin.cells]
   refine key _ 3 (M.length+5) (pB (H.length+2)) (pB (H.length+(M.length+4))) rfl ?_ (fun i hi=>⟨by unfold pB; omega,?_⟩) (fun i hi=>⟨by unfold pB; omega,?_⟩)
   · rw[show M.length+5=(M.length+1)+4 by omega]
     simp only[List.getElem?_cons_succ]
     rw[List.getElem?_append_right (by omega),show M.length+1-M.length=1 by omega]; rfl
   · rw[show pB (H.length+2) i-H.length=(2*i+1)+4 by unfold pB; omega]
     simp only[List.getElem?_cons_succ]
     rw[List.getElem?_append_left (by omega)]; exact hbr i hi
   · rw[show pB (H.length+(M.length+4)) i-H.length=(M.length+(2*i+1+2))+4 by unfold pB; omega]
     simp only[List.getElem?_cons_succ]
     rw[List.getElem?_append_right (by omega),show M.length+(2*i+1+2)-M.length=2*i+1+2 by omega]
     simp only[List.getElem?_cons_succ]
     exact hbr i hi
 · have e:newR g=(.zero,g.prpE):=by unfold newR; rw[if_pos hp]
   rw[e]
   simp -implicitDefEqProofs[hp]
   exact⟨rfl,cv_zero hcl _ _⟩
end
end Go.Proofs.YtogjmpkehjfecaaGreatDoor.Rc
namespace Go.Proofs.YtogjmpkehjfecaaGreatDoor.Rc
open Go.Ab Go.Ab.Shr
section
variable {H:List AO} {g:Gm}
theorem ok10 (t:Tin):Ok Tryz.prog 10 [.agg g.cells,.agg t.cells] H (.ret (.tup [.agg (runR g t 1).1.cells,i64 (runR g t 1).2])) H:=by
 refine ok_fn hm Tryz.func10 c10 (by simp[Gm.cells,nds_under,infs_under,Tin.cells,sls_under]) fun hcl => ?_
 have h8:=fun H=>ok11 (H:=H) (g:=g) t 1 (by omega)
 simp only[Gm.cells,Tin.cells]at h8
 simp -implicitDefEqProofs[i10,r10,Gm.cells,Tin.cells]
 refine call_go (h8 _) ?_
 simp -implicitDefEqProofs
 exact cv_fz 3 hcl rfl (fz_under (by simp[SV.under,sls_under]))
end
end Go.Proofs.YtogjmpkehjfecaaGreatDoor.Rc
namespace Go.Proofs.YtogjmpkehjfecaaGreatDoor.Rc
open Go.Ab Go.Ab.Shr
structure ZW (g:Gm) (H:List AO) (t:Tin) (A:Nat->List Int) (q:List Int) (X:List AO):Prop where
 tb:X[H.length+1]? = some (tB t)
 oo:X[H.length+3]? = some ⟨outs g.is.length (pB (H.length+2)) g.acts 0,45,0,true⟩
 r:∀ i,i<g.is.length->X[pB (H.length+2) i]? = some ⟨ints (A i),3,0,true⟩
 od:X[H.length+4+2*g.is.length]? = some ⟨ints q,62,0,true⟩
 l:∀ i,i<g.is.length->(A i).length=g.acts i
 lq:q.length=10
 low:∀ j,j<H.length->X[j]? = H[j]?
section
variable {H X:List AO} {g:Gm} {t:Tin} {A:Nat->List Int} {q:List Int}
theorem ZW.sh (hW:Wg g) (h:ZW g H t A q X) {j:Nat} (hj:j<g.is.length) {l:List Int} (hl:ShO l) (hll:l.length=g.acts j) :
 ∃ X',Ok Tryz.prog 31 [sl l,.own (pB (H.length+2) j) 0 (g.acts j) 1 0,.own (H.length+4+2*g.is.length) 0 (g.acts j) 1 0] X (.ret (.tup [])) X'∧ZW g H t (upA A j (shrI l)) (((ordI l).map fun(n:Nat)=>(n:Int))++q.drop l.length) X':=by
 have hac:=acts_le hW hj
 have hlA:=h.l j hj
 have hlq:=h.lq
 have hne:pB (H.length+2) j≠H.length+4+2*g.is.length:=by unfold pB; omega
 have hP:P2 X (pB (H.length+2) j) (H.length+4+2*g.is.length):=⟨getElem?_lt (h.r j hj),getElem?_lt h.od,hne⟩
 have hG:G2 X (pB (H.length+2) j) (H.length+4+2*g.is.length) ⟨ints (A j),3,0,true⟩ (oI [] (q.take (g.acts j)) (ints (q.drop (g.acts j))) 62 0)=X:=by
  refine g2_same (h.r j hj) ?_
  rw[h.od]
  have e:ints q=ints (q.take (g.acts j))++ints (q.drop (g.acts j)):=by
   simp only[ints,<- List.map_append,List.take_append_drop]
  unfold oI
  rw[List.nil_append,<- e]
 obtain⟨a1,a2,a3⟩:=hl
 have key:=ok31 (H:=X) (a:=pB (H.length+2) j) (k:=H.length+4+2*g.is.length) (va:=0) (v:=0) (T:=62) (C:=[]) (D:=ints (q.drop (g.acts j))) (x:=sl l) (l:=l) (o0:=A j) (p0:=q.take (g.acts j)) hP ⟨rfl,by simp⟩ (fun o p L=>isl _ l) a1 a2 a3 (by rw[hlA,hll]) (by rw[List.length_take,hll]; omega)
 rw[hG,hll]at key
 refine⟨_,key,?_⟩
 have e:oN [] (ordI l) (ints (q.drop (g.acts j))) 62 0=⟨ints (((ordI l).map fun(n:Nat)=>(n:Int))++q.drop l.length),62,0,true⟩:=by
  rw[hll]
  simp[oN,nats,ints]
 rw[e]
 have ne:∀ {k:Nat} {x:Option AO},pB (H.length+2) j≠k->H.length+4+2*g.is.length≠k->X[k]? = x->(G2 X (pB (H.length+2) j) (H.length+4+2*g.is.length) ⟨ints (shrI l),3,0,true⟩ ⟨ints (((ordI l).map fun(n:Nat)=>(n:Int))++q.drop l.length),62,0,true⟩)[k]? = x:=fun hn hn2 hx=>by unfold G2; rw[List.getElem?_set_ne hn2,List.getElem?_set_ne hn]; exact hx
 refine⟨ne (by unfold pB; omega) (by omega) h.tb,ne (by unfold pB; omega) (by omega) h.oo,fun i hi => ?_,?_,fun i hi => ?_,?_,fun i hi => ?_⟩
 · by_cases e2:i=j
   · subst e2
     have:=g2_a (L:=[]) (getElem?_lt (h.r i hi)) hne (o:=⟨ints (shrI l),3,0,true⟩) (p:=⟨ints (((ordI l).map fun(n:Nat)=>(n:Int))++q.drop l.length),62,0,true⟩)
     rw[List.append_nil]at this
     rw[this]; simp[upA]
   · rw[ne (x:=X[pB (H.length+2) i]?) (by unfold pB; omega) (by unfold pB; omega) rfl,h.r i hi]
     simp[upA,e2]
 · have:=g2_k (L:=[]) (a:=pB (H.length+2) j) (getElem?_lt h.od) (o:=⟨ints (shrI l),3,0,true⟩) (p:=⟨ints (((ordI l).map fun(n:Nat)=>(n:Int))++q.drop l.length),62,0,true⟩)
   rw[List.append_nil]at this
   exact this
 · unfold upA; split
   · rename_i e2; rw[e2,shr_len]; exact hll
   · exact h.l i hi
 · simp[ord_len]; omega
 · exact ne (by unfold pB; omega) (by omega) (h.low i hi)
def shA (g:Gm) (L:List (List Int)):Nat->Nat->List Int
 | 0=>zersA g
 | i+1=>upA (shA g L i) i (shrI (L.getD i []))
def sqA (L:List (List Int)):Nat->List Int
 | 0=>zers 10
 | i+1=>((ordI (L.getD i [])).map fun(n:Nat)=>(n:Int))++(sqA L i).drop (L.getD i []).length
set_option maxRecDepth 10000 in
theorem tlp14_0 (hW:Wg g) (hT:TinOk g t) (hS:∀ l∈t.A,ShO l) {N:Nat} {K:XE->Env->List AO->Prop}
 (hexit:∀ env X,ZW g H t (shA g t.A g.is.length) (sqA t.A g.is.length) X->env.get 7=.own (H.length+3) 0 g.is.length 1 0->K (.exit 0) env X) :
 ∀ (m i:Nat) (X:List AO) (env:Env),i+m=g.is.length->ZW g H t (shA g t.A i) (sqA t.A i) X->env.get 3=.ptr (.own (H.length+1) 0 0 0 0) 0->env.get 7=.own (H.length+3) 0 g.is.length 1 0->env.get 8=.ptr (.own (H.length+4+2*g.is.length) 0 0 0 0) 0->env.get 19=.own (H.length+3) 0 g.is.length 1 0->env.get 20=i64 g.is.length->env.get 21=i64 i →
  LI Tryz.prog N drawB l9_0 env X K:=by
 have hil:=hW.gd.i
 intro m
 induction m with
 | zero =>
  intro i X env hi h h3 h7 h8 h19 h20 h21
  refine li_go hm l9_0.eq_1 ?_
  have e:i=g.is.length:=by omega
  subst e
  simp -implicitDefEqProofs[h20,h21]
  exact hexit _ X h (by simp[h7])
 | succ m ih =>
  intro i X env hi h h3 h7 h8 h19 h20 h21
  refine li_go hm l9_0.eq_1 ?_
  have hii:i<g.is.length:=by omega
  obtain⟨n1,n2⟩:=acts_le hW hii
  have w1:=wrap_suc (show i<9223372036854775807 by omega)
  have hiA:i<t.A.length:=by rw[hT.la]; exact hii
  have lA:=hT.a i hiA
  obtain⟨X',k1,k2⟩:=h.sh hW hii (hS _ (List.getElem_mem hiA)) lA
  have eA:upA (shA g t.A i) i (shrI t.A[i])=shA g t.A (i+1):=by simp[shA,hiA]
  have eQ:((ordI t.A[i]).map fun(n:Nat)=>(n:Int))++(sqA t.A i).drop t.A[i].length=sqA t.A (i+1):=by simp[sqA,hiA]
  rw[eA,eQ]at k2
  have hTb:=oc_at h.tb []
  have hOo:=oc_at h.oo []
  have hOd:=oc_at h.od []
  simp only[List.append_nil]at hTb hOo hOd
  have hq:=h.lq
  have hca:SV.cutA 1 0 (g.acts i) (.ptr (.own (H.length+4+2*g.is.length) 0 0 0 0) 0)=.own (H.length+4+2*g.is.length) 0 (g.acts i) 1 0:=by simp[SV.cutA]
  simp -implicitDefEqProofs[h3,h7,h8,h19,h20,h21,hTb,hOo,hOd,tB,Tin.cells,hii,hiA,sls_get hiA,hca]
  refine⟨by omega,by omega,⟨by omega,by omega⟩,call_go k1 ?_⟩
  simp -implicitDefEqProofs[h3,h7,h8,h19,h20,h21,w1]
  exact ih (i+1) _ _ (by omega) k2 (by simp[h3]) (by simp[h7]) (by simp[h8]) (by simp[h19]) (by simp[h20]) (by simp)
theorem shA_at {L:List (List Int)}:∀ (n j:Nat),j<n->shA g L n j=shrI (L.getD j [])
 | 0,j,h=>absurd h (by omega)
 | n+1,j,h=>by
  simp only[shA,upA]
  by_cases e:j=n
  · rw[if_pos e,e]
  · rw[if_neg e]; exact shA_at n j (by omega)
theorem ok9 (hW:Wg g) (hc:chkS g t=0) (hT:TinOk g t) (hS:∀ l∈t.A,ShO l):Ok Tryz.prog 9 [.agg g.cells,.agg t.cells] H (.ret (.tup [.slc (sls ((List.range g.is.length).map fun j=>shrI (t.A.getD j []))) g.is.length,i64 0])) H:=by
 refine ok_fn hm Tryz.func9 c9 (by simp[Gm.cells,nds_under,infs_under,Tin.cells,sls_under]) fun hcl => ?_
 have h16:=fun H=>ok14 (H:=H) (g:=g) (t:=t)
 have h37:=fun H=>ok30 (H:=H) hW
 simp only[Gm.cells,Tin.cells]at h16 h37
 simp -implicitDefEqProofs[i9,r9,Gm.cells,Tin.cells]
 refine call_go (h16 _) ?_
 simp -implicitDefEqProofs[hc]
 refine call_go (h37 _) ?_
 have hb:=blkO_len g g.is.length
 have hbr:=blkO_row g g.is.length
 generalize blkO g g.is.length=M at *
 have h0:ZW g H t (zersA g) (zers 10) (H++gbox g::tB t::gbox g::⟨outs g.is.length (pB (H.length+2)) g.acts 0,45,0,true⟩::(M++[⟨ints (zers 10),62,0,true⟩])):=by
  refine⟨?_,?_,fun i hi => ?_,?_,fun i hi=>by simp[zersA,zers],by simp[zers],fun j hj=>by rw[List.getElem?_append_left hj]⟩
  · rw[List.getElem?_append_right (by omega)]; simp
  · rw[List.getElem?_append_right (by omega)]; simp
  · rw[List.getElem?_append_right (by unfold pB; omega),show pB (H.length+2) i-H.length=(2*i+1)+4 by unfold pB; omega]
    simp only[List.getElem?_cons_succ]
    rw[List.getElem?_append_left (by omega)]; exact hbr i hi
  · rw[List.getElem?_append_right (by omega),show H.length+4+2*g.is.length-H.length=M.length+4 by omega]
    simp only[List.getElem?_cons_succ]
    rw[List.getElem?_append_right (by omega)]; simp
 have ez:ints (zers 10)=[i64 0,i64 0,i64 0,i64 0,i64 0,i64 0,i64 0,i64 0,i64 0,i64 0]:=rfl
 have ep:H.length+(M.length+4)=H.length+4+2*g.is.length:=by omega
 rw[ez]at h0
 simp -implicitDefEqProofs
 refine tlp14_0 (H:=H) (t:=t) hW hT hS (fun env X h g7 => ?_) g.is.length 0 _ _ (by omega) h0 (by simp) (by simp) (by simp[ep]) (by simp) (by simp) (by simp)
 simp -implicitDefEqProofs[g7]
 have fS:=fz_outsN (H:=H) (G:=X) (p:=H.length+3) (A:=fun j=>shrI (t.A.getD j [])) (by omega) h.oo (fun i hi=>⟨by unfold pB; omega,by rw[h.r i hi,shA_at _ _ hi],by have:=h.l i hi; rw[shA_at _ _ hi]at this; exact this⟩) 1
 have hfz:SV.fz H.length [] (X.drop H.length) 5 (.tup [.own (H.length+3) 0 g.is.length 1 0,i64 0])=.tup [.slc (sls ((List.range g.is.length).map fun j=>shrI (t.A.getD j []))) g.is.length,i64 0]:=by
  simp only[fz_tup,List.map_cons,List.map_nil,fz_i64,Nat.reduceAdd,fS]
 have:=cv_fz (n0:=H.length) (H:=H) (L:=X.drop H.length) 5 hcl rfl hfz
 rw[←tail_of h.low]at this
 exact this
end
end Go.Proofs.YtogjmpkehjfecaaGreatDoor.Rc
namespace Go.Proofs.YtogjmpkehjfecaaGreatDoor.Rc
open Go.Ab Go.Ab.Shr
def exT0:Tin:=⟨0,0,[[0,0],[0,0],[0,0,0]],[[0,0],[0,0],[0,0,0]]⟩
def exT1:Tin:=⟨1,0,[[171,-171],[341,-341],[341,-1194,853]],[[536870912,536870912],[536870912,536870912],[178962432,178954240,178954240]]⟩
theorem ex_new:newR exG=(exT0,0):=by kernel_rfl
theorem ex_run:runR exG exT0 1=(exT1,0):=by kernel_rfl
theorem ex_chk:chkS exG exT1=0:=by kernel_rfl
theorem ex_shr:(List.range exG.is.length).map (fun j=>shrI (exT1.A.getD j []))=[[65536,0],[65536,0],[18717,0,46819]]:=by kernel_rfl
end Go.Proofs.YtogjmpkehjfecaaGreatDoor.Rc
