/-
  Steps of the proof: contracts of functions and plain facts that the statement rests on.
-/
import Derived.Test.YtogjmpkehjfecaaPart2
import Derived.Test.YtogjmpkehjfecaaCore5
set_option linter.all false
namespace Go.Proofs.Ytogjmpkehjfecaa.Rc
open Go.Ab Go.Ab.Shr
def plyD (own share:Int):Int:=IntKind.i64.wrap ((IntKind.i64.wrap (own*share)).tdiv 65536)
def plyF (own:Int) (P S:List Int) (a:Nat):Int:=IntKind.i64.wrap (P.getD a 0+plyD own (S.getD a 0))
def ownI (g:Gm) (F O:List Int) (i:Nat):Int:=O.getD ((F.getD i 0).toNat*4+(g.is.getD i (0,0)).1.toNat) 0
def plyL (g:Gm) (F O:List Int) (S P:Nat->List Int):Nat->Nat->List Int
 | 0=>P
 | i+1=>upA (plyL g F O S P i) i (rowF (g.acts i) (plyF (ownI g F O i) (P i) (S i)))
theorem plyL_at (g:Gm) (F O:List Int) (S P:Nat->List Int) (j:Nat):∀ i,plyL g F O S P i j=if j<i then rowF (g.acts j) (plyF (ownI g F O j) (P j) (S j))else P j
 | 0=>by simp[plyL]
 | i+1=>by
  simp only[plyL,upA]
  by_cases e:j=i
  · subst e; simp
  · rw[if_neg e,plyL_at g F O S P j i]
    by_cases h:j<i
    · rw[if_pos h,if_pos (by omega)]
    · rw[if_neg h,if_neg (by omega)]
theorem is_of {g:Gm} (hW:Wg g) {i:Nat} (hi:i<g.is.length):0≤g.is[i].1∧g.is[i].1<g.pl:=by
 obtain⟨t,ht,_,h2,h3,_⟩:=fn_of hW hi
 have h4:=hW.ty (List.getElem_mem ht) h2
 obtain⟨p1,p2⟩:=mp_of hW ht h2
 rw[h3,List.getElem?_eq_getElem hi]at h4
 cases hh:g.is[i]with
 | mk a b=>rw[hh]at h4; cases h4; exact⟨p1,p2⟩
section
variable {g:Gm} {H G:List AO} {c:TC} {s:TS}
set_option maxRecDepth 10000 in
theorem tlp30_6 (hW:Wg g) {i:Nat} (hi:i<g.is.length) {own:Int} {P:Nat->List Int} (hP:(P i).length=g.acts i) {x106 x107:SV} {N:Nat} {K:XE->Env->List AO->Prop}
 (hexit:∀ env G',TW g H c { s with P:=upA P i (rowF (g.acts i) (plyF own (P i) (s.S i))) } G'->env.get 0=.ptr (.own (pW H g) 0 0 0 0) 0->env.get 106=x106->env.get 107=x107->env.get 108=i64 i->K (.exit 12) env G') :
 ∀ (m a:Nat) (env:Env) (G:List AO),a+m=g.acts i->TW g H c { s with P:=upA P i (rowF (g.acts i) (mixF a (plyF own (P i) (s.S i)) fun a=>(P i).getD a 0)) } G →
  env.get 0=.ptr (.own (pW H g) 0 0 0 0) 0->env.get 8=i64 i->env.get 10=i64 own->env.get 106=x106->env.get 107=x107->env.get 108=i64 i->env.get 136=.own (pS H g i) 0 (g.acts i) 1 0->env.get 137=i64 (g.acts i)->env.get 138=i64 a →
  LI Try.prog N drawB l30_6 env G K:=by
 have hac:=acts_le hW hi
 intro m
 induction m with
 | zero =>
  intro a env G ha h h0 h8 h10 h106 h107 h108 h136 h137 h138
  refine li_go hm l30_6.eq_1 ?_
  have e:a=g.acts i:=by omega
  subst e
  simp -implicitDefEqProofs[h137,h138]
  have e2:rowF (g.acts i) (mixF (g.acts i) (plyF own (P i) (s.S i)) fun a=>(P i).getD a 0)=rowF (g.acts i) (plyF own (P i) (s.S i)):=by
   unfold rowF
   apply List.map_congr_left
   intro x hx
   simp only[List.mem_range]at hx
   simp only[mixF,if_pos hx]
  rw[e2]at h
  exact hexit _ _ h (by simp[h0]) (by simp[h106]) (by simp[h107]) (by simp[h108])
 | succ m ih =>
  intro a env G ha h h0 h8 h10 h106 h107 h108 h136 h137 h138
  refine li_go hm l30_6.eq_1 ?_
  have hal:a<g.acts i:=by omega
  have hw:=h.cw0
  have hS:=oc0 (h.ss _ hi)
  have hPr:=oc0 (h.p _ hi)
  have hpo:=oc0 h.po
  have hst:=setObj_some (h.p _ hi)
  have lS:=h.l.S _ hi
  have eP:=mix_put a (plyF own (P i) (s.S i)) fun a=>(P i).getD a 0
  have eM:=mix_at a (plyF own (P i) (s.S i)) fun a=>(P i).getD a 0
  have hP2:=h.setP hi (X:=rowF (g.acts i) (mixF (a+1) (plyF own (P i) (s.S i)) fun a=>(P i).getD a 0)) (by simp)
  have w1:=wrap_suc (show a<9223372036854775807 by omega)
  simp only[upA_self]at hPr hst
  simp only[upA_up]at hP2
  simp only at lS hS
  have bS:a<(s.S i).length:=by omega
  have ih2:=fun(env:Env) (G:List AO)=>ih (a+1) env G (by omega)
  have eD:plyF own (P i) (s.S i) a=IntKind.i64.wrap ((P i).getD a 0+IntKind.i64.wrap ((IntKind.i64.wrap (own*(s.S i)[a])).tdiv 65536)):=by simp[plyF,plyD,bS]
  rw[←eP]at hP2 ih2
  rw[eD]at hP2 ih2
  generalize mixF a (plyF own (P i) (s.S i)) (fun a=>(P i).getD a 0)=F at *
  have e3:∀ y:Int,List.take a (ints (rowF (g.acts i) F))++i64 y::List.drop (a+1) (ints (rowF (g.acts i) F))=ints (rowF (g.acts i) (put F a y)):=fun y=>by rw[ints_set (by simpa using hal),rowF_set]
  have e4:(ints (rowF (g.acts i) F))[a]?.getD .any=i64 (F a):=by rw[ints_at (by simpa using hal),rowF_getD hal]
  rw[←eM]at hP2 ih2
  simp -implicitDefEqProofs[h0,h8,h10,h106,h107,h108,h136,h137,h138,hal,hw,hS,hPr,hpo,wHead,outs_get hi,hi,bS,hst,e3,e4,rowF_get hal]
  repeat (refine⟨by omega,?_⟩)
  refine ih2 _ _ hP2 ?_ ?_ ?_ ?_ ?_ ?_ ?_ ?_ ?_
  · simp
  · simp
  · simp
  · simp[h106]
  · simp[h107]
  · simp[h108]
  · simp
  · simp
  · simp[w1]
set_option maxRecDepth 10000 in
theorem tlp30_5 (hW:Wg g) (hc:c.Ok g) {P:Nat->List Int} (hP:∀ i,i<g.is.length->(P i).length=g.acts i) {N:Nat} {K:XE->Env->List AO->Prop}
 (hexit:∀ env G,env.get 0=.ptr (.own (pW H g) 0 0 0 0) 0->TW g H c { s with P:=plyL g c.F s.O s.S P g.is.length } G->K (.exit 10) env G) :
 ∀ (m i:Nat) (env:Env) (G:List AO),i+m=g.is.length->TW g H c { s with P:=plyL g c.F s.O s.S P i } G->env.get 0=.ptr (.own (pW H g) 0 0 0 0) 0->env.get 106=.own (pSo H g) 0 g.is.length 1 0->env.get 107=i64 g.is.length->env.get 108=i64 i →
  LI Try.prog N drawB l30_5 env G K:=by
 have hil:=hW.gd.i
 have hn:=hW.gd.n
 have hp4:=hW.gd.p4
 intro m
 induction m with
 | zero =>
  intro i env G hi h h0 h106 h107 h108
  refine li_go hm l30_5.eq_1 ?_
  have e:i=g.is.length:=by omega
  subst e
  simp -implicitDefEqProofs[h107,h108]
  exact hexit _ _ (by simp[h0]) h
 | succ m ih =>
  intro i env G hi h h0 h106 h107 h108
  refine li_go hm l30_5.eq_1 ?_
  have hii:i<g.is.length:=by omega
  have hac:=acts_le hW hii
  have hw:=h.cw0
  have hso:=oc0 h.so
  have ho:=oc0 h.o
  have hf:=oc0 h.f
  have lO:=h.l.O
  have lF:=h.l.F
  obtain⟨f1,f2⟩:=hc.f i hii
  obtain⟨q1,q2⟩:=is_of hW hii
  have bF:i<c.F.length:=by omega
  have gF:c.F.getD i 0=c.F[i]:=by simp[bF]
  rw[gF]at f1 f2
  simp only at lO ho
  have bO:c.F[i].toNat*4+g.is[i].1.toNat<s.O.length:=by omega
  have eO:ownI g c.F s.O i=s.O[c.F[i].toNat*4+g.is[i].1.toNat]:=by
   have e1:g.is.getD i (0,0)=g.is[i]:=by simp[hii]
   unfold ownI
   rw[gF,e1]
   simp[bO]
  have w1:=wrap_suc (show i<9223372036854775807 by omega)
  have hPi:plyL g c.F s.O s.S P i i=P i:=by rw[plyL_at]; simp
  have hst:TW g H c { s with P:=upA (plyL g c.F s.O s.S P i) i (rowF (g.acts i) (mixF 0 (plyF (ownI g c.F s.O i) (plyL g c.F s.O s.S P i i) (s.S i)) fun a=>(plyL g c.F s.O s.S P i i).getD a 0)) } G:=by
   rw[mix_0,hPi,<- hP i hii,rowF_self,<- hPi,upA_id]; exact h
  simp -implicitDefEqProofs[h0,h106,h107,h108,hii,hw,hso,ho,hf,wHead,outs_get hii,infs_at hii,infs_min hii,infs_ge hii,bF,bO]
  repeat (refine⟨by omega,?_⟩)
  rw[←eO]
  refine tlp30_6 (s:=s) (P:=plyL g c.F s.O s.S P i) hW hii (by rw[hPi]; exact hP i hii) (x106:=.own (pSo H g) 0 g.is.length 1 0) (x107:=i64 g.is.length) (fun env G' hG' g0 g106 g107 g108 => ?_) (g.acts i) 0 _ _ (by omega) hst (by simp) (by simp) (by simp) (by simp) (by simp) (by simp) (by simp) (by simp) (by simp)
  simp -implicitDefEqProofs[g0,g106,g107,g108]
  rw[hPi]at hG'
  refine ih (i+1) _ _ (by omega) hG' ?_ ?_ ?_ ?_
  · simp[g0]
  · simp[g106]
  · simp[g107]
  · simp[w1]
theorem TW.setN (h:TW g H c s G) (n:Int):TW g H c { s with rnd:=n } (G.set (pW H g) (wObj g H { s with rnd:=n })):=by
 have hlt:=h.ltw
 have ne:∀ {k:Nat} {x:Option AO},pW H g≠k->G[k]? = x->(G.set (pW H g) (wObj g H { s with rnd:=n }))[k]? = x:=fun hn hx=>by rw[List.getElem?_set_ne hn]; exact hx
 constructor
 case l=>exact⟨h.l.A,h.l.P,h.l.S,h.l.V,h.l.R,h.l.O,h.l.ord,h.l.M,h.l.F⟩
 case len=>simpa using h.len
 case cl =>
  refine closed_set h.cl _ ?_
  have:=h.len
  simp only[wObj,oI,SV.underL_append,wHead,Bool.and_eq_true]
  unfold pE at this
  unfold pM pF pAo pPo pSo pV pR pO
  refine⟨?_,by simp⟩
  simp[nds_under,infs_under]
  omega
 case w=>rw[List.getElem?_set_self hlt]
 case ss=>intro i hi; exact ne (by unfold pW pS; omega) (h.ss i hi)
 case a=>intro i hi; exact ne (by unfold pW pA; omega) (h.a i hi)
 case low=>intro i hi; exact ne (by unfold pW; omega) (h.low i hi)
 case p=>intro i hi; exact ne (by unfold pW pP; omega) (h.p i hi)
 case m=>exact ne (by unfold pW pM; omega) h.m
 case f=>exact ne (by unfold pW pF; omega) h.f
 case ao=>exact ne (by unfold pW pAo; omega) h.ao
 case po=>exact ne (by unfold pW pPo; omega) h.po
 case so=>exact ne (by unfold pW pSo; omega) h.so
 case v=>exact ne (by unfold pW pV; omega) h.v
 case r=>exact ne (by unfold pW pR; omega) h.r
 case o=>exact ne (by unfold pW pO; omega) h.o
def rndT (g:Gm) (c:TC) (s:TS):TS :=
 let s1:=shL s g.is.length
 let s2:TS:={ s1 with V:=valL g c.M s1.S s1.V g.ns.length }
 let s3:TS:={ s2 with R:=blk4 s2.R 0 (mixF g.pl.toNat (fun _=>1073741824) (rowQ s2.R 0)),O:=blk4 s2.O 0 (mixF g.pl.toNat (fun _=>1073741824) (rowQ s2.O 0)) }
 let s4:TS:={ s3 with R:=desL g false s3.S c.M s3.R g.ns.length,O:=desL g true s3.S c.M s3.O g.ns.length }
 let s5:TS:={ s4 with A:=lrnL g s4.V s4.R s4.A g.ns.length }
 let s6:TS:={ s5 with P:=plyL g c.F s5.O s5.S s5.P g.is.length }
 { s6 with rnd:=IntKind.i64.wrap (s6.rnd+1) }
set_option maxRecDepth 10000 in
theorem ok30 (hW:Wg g) (hc:c.Ok g) (h:TW g H c s G) (hk:okTS g s) :
 OkP Try.prog 30 [.ptr (.own (pW H g) 0 0 0 0) 0] G fun out G'=>TW g H c (rndT g c s) G'∧((okTS g (rndT g c s)∧out=.ret (.tup []))∨(¬ okTS g (rndT g c s)∧out=.pan panV)):=by
 have hlt:=h.ltw
 have hw:=h.cw0
 have hn:=hW.gd.n
 have hn1:=hW.gd.n1
 have hp1:=hW.gd.p1
 refine okP_fn hm Try.func30 c30 (by simp[hlt]) fun hcl => ?_
 unfold rndT
 simp -implicitDefEqProofs[i30,r30,hw,wHead]
 refine tlp30_0 (s:=s) hW hk (fun env G1 g0 h1 => ?_) g.is.length 0 _ _ (by omega) h (by simp) (by simp) (by simp) (by simp)
 generalize shL s g.is.length=s1 at *
 have hw1:=h1.cw0
 have w1:IntKind.i64.wrap ((g.ns.length:Int)-1)=(g.ns.length:Int)-1-(0:Nat):=by rw[wrap_id (by omega) (by omega)]; omega
 simp -implicitDefEqProofs[g0,hw1,wHead]
 refine tlp30_1 (s:=s1) (V:=s1.V) hW hc (fun env G2 g0 h2 => ?_) g.ns.length 0 _ _ (by omega) h1 (by simp[g0]) (by simp[w1])
 generalize valL g c.M s1.S s1.V g.ns.length=V1 at *
 have hw2:=h2.cw0
 simp -implicitDefEqProofs[g0,hw2,wHead]
 have h20:TW g H c { s1 with V:=V1,R:=blk4 s1.R 0 (mixF 0 (fun _=>1073741824) (rowQ s1.R 0)),O:=blk4 s1.O 0 (mixF 0 (fun _=>1073741824) (rowQ s1.O 0)) } G2:=by
  rw[mix_0,mix_0]
  have e:∀ X:List Int,X.length=4*g.ns.length->blk4 X 0 (rowQ X 0)=X:=fun X hX=>by
   have e1:rowF 4 (rowQ X 0)=X.take 4:=by
    apply List.ext_getElem?
    intro q
    by_cases hq:q<4
    · rw[List.getElem?_eq_getElem (by simpa using hq),rowF_get hq,List.getElem?_take_of_lt hq,List.getElem?_eq_getElem (by omega)]
      simp[rowQ,show q<X.length by omega]
    · rw[List.getElem?_eq_none (by simp; omega),List.getElem?_eq_none (by simp; omega)]
   unfold blk4
   rw[e1]; simp
  rw[e _ h2.l.R,e _ h2.l.O]
  exact h2
 refine tlp30_2 (s:={ s1 with V:=V1 }) (R:=s1.R) (O:=s1.O) hW h2.l.R h2.l.O (fun env G3 g0 h3 => ?_) g.pl.toNat 0 _ _ (by omega) h20 (by simp[g0]) (by simp) (by simp)
 generalize blk4 s1.R 0 (mixF g.pl.toNat (fun _=>1073741824) (rowQ s1.R 0))=R3 at *
 generalize blk4 s1.O 0 (mixF g.pl.toNat (fun _=>1073741824) (rowQ s1.O 0))=O3 at *
 have hw3:=h3.cw0
 simp -implicitDefEqProofs[g0,hw3,wHead]
 refine tlp30_3 (s:={ s1 with V:=V1 }) (R:=R3) (O:=O3) hW hc (fun env G4 g0 h4 => ?_) g.ns.length 0 _ _ (by omega) h3 (by simp[g0]) (by simp) (by simp)
 simp only at h4
 generalize desL g false s1.S c.M R3 g.ns.length=R4 at *
 generalize desL g true s1.S c.M O3 g.ns.length=O4 at *
 have hw4:=h4.cw0
 simp -implicitDefEqProofs[g0,hw4,wHead]
 refine tlp30_4 (s:={ s1 with V:=V1,R:=R4,O:=O4 }) (A:=s1.A) hW (fun env G5 g0 h5 => ?_) g.ns.length 0 _ _ (by omega) h4 (by simp[g0]) (by simp) (by simp)
 simp only at h5
 generalize lrnL g V1 R4 s1.A g.ns.length=A5 at *
 have hw5:=h5.cw0
 simp -implicitDefEqProofs[g0,hw5,wHead]
 refine tlp30_5 (s:={ s1 with V:=V1,R:=R4,O:=O4,A:=A5 }) (P:=s1.P) hW hc h5.l.P (fun env G6 g0 h6 => ?_) g.is.length 0 _ _ (by omega) h5 (by simp[g0]) (by simp) (by simp) (by simp)
 simp only at h6
 generalize plyL g c.F O4 s1.S s1.P g.is.length=P6 at *
 have hw6:=h6.cw0
 have hst:=setObj_some h6.w
 have h7:=h6.setN (IntKind.i64.wrap (s1.rnd+1))
 simp only[wObj,wHead]at hst
 simp -implicitDefEqProofs[g0,hw6,wHead,hst,oI]
 refine call_goP (OkP.cast rfl (by simp[wObj,oI,wHead]) (ok53 hW h7)) fun out G' hP => ?_
 obtain⟨rfl,hP | hP⟩:=hP
 · obtain⟨hk2,rfl⟩:=hP
   simp -implicitDefEqProofs
   exact⟨_,_,⟨h7,.inl ⟨hk2,rfl⟩⟩,cv_id⟩
 · obtain⟨hk2,rfl⟩:=hP
   simp -implicitDefEqProofs
   exact⟨_,_,⟨h7,.inr ⟨hk2,rfl⟩⟩,cv_id⟩
end
end Go.Proofs.Ytogjmpkehjfecaa.Rc
namespace Go.Proofs.Ytogjmpkehjfecaa.Rc
open Go.Ab Go.Ab.Shr
def rowO (v:Nat) (l:List Int):AO:=⟨ints l,3,v,true⟩
section
variable {H:List AO}
theorem ok49 {l:List Int} (h0:l≠[]) (hl:l.length≤1000000):Ok Try.prog 49 [sl l] H (.ret (.own H.length 0 l.length 1 1)) (H++[rowO 1 l]):=by
 have hl0:l.length≠0:=fun h=>h0 (List.eq_nil_of_length_eq_zero h)
 refine ok_fn hm Try.func49 c49 (by simp[sl]) fun hcl => ?_
 simp -implicitDefEqProofs[i49,r49,sl,hl0]
 exact⟨by omega,by omega,cv_id⟩
def outP (h I i:Nat) (n:Nat->Nat):List SV:=(List.range I).map fun j=>if j<i then .own (h+1+j) 0 (n j) 1 1 else .val (.slice none 0 0)
theorem outP_set {h I i:Nat} {n:Nat->Nat} (hi:i<I):List.take i (outP h I i n)++SV.own (h+1+i) 0 (n i) 1 1::List.drop (i+1) (outP h I i n)=outP h I (i+1) n:=by
 have hl:i<(outP h I i n).length:=by simp[outP,hi]
 have:=List.set_eq_take_append_cons_drop (l:=outP h I i n) (i:=i) (a:=SV.own (h+1+i) 0 (n i) 1 1)
 rw[if_pos hl]at this
 rw[←this]
 apply List.ext_getElem?
 intro j
 by_cases e:i=j
 · subst e; rw[List.getElem?_set_self hl]; simp[outP,hi]
 · rw[List.getElem?_set_ne e]
   by_cases hj:j<I
   · have:(j<i)=(j<i+1):=by simp; omega
     simp[outP,hj,this]
   · rw[List.getElem?_eq_none (by simp[outP]; omega),List.getElem?_eq_none (by simp[outP]; omega)]
@[simp] theorem outP_len {h I i:Nat} {n:Nat->Nat}:(outP h I i n).length=I:=by simp[outP]
def lenL (L:List (List Int)) (i:Nat):Nat:=(L.getD i []).length
theorem lenL_at {L:List (List Int)} {i:Nat} (h:i<L.length):lenL L i=L[i].length:=by simp[lenL,h]
def sls (L:List (List Int)):List SV:=L.map sl
@[simp] theorem sls_len (L:List (List Int)):(sls L).length=L.length:=by simp[sls]
theorem sls_get {L:List (List Int)} {i:Nat} (h:i<L.length):(sls L)[i]'(by simpa using h)=sl L[i]:=by simp[sls]
theorem sls_under (n:Nat) (L:List (List Int)):SV.underL n (sls L)=true:=by
 rw[SV.underL_iff]
 intro x hx
 simp only[sls,List.mem_map]at hx
 obtain⟨l,_,rfl⟩:=hx
 simp[sl]
set_option maxRecDepth 10000 in
theorem tlp29_0 {L:List (List Int)} (hL:∀ l∈L,l≠[]∧l.length≤1000000) (hL2:L.length≤1000000) {N:Nat} {K:XE->Env->List AO->Prop}
 (hexit:∀ env,env.get 3=.own H.length 0 L.length 1 0->K (.exit 0) env (H++⟨outP H.length L.length L.length (lenL L),36,0,true⟩::L.map (rowO 1))) :
 ∀ (m i:Nat) (env:Env),i+m=L.length->env.get 3=.own H.length 0 L.length 1 0->env.get 9=.slc (sls L) L.length->env.get 10=i64 L.length->env.get 11=i64 i →
  LI Try.prog N drawB l29_0 env (H++⟨outP H.length L.length i (lenL L),36,0,true⟩::(L.map (rowO 1)).take i) K:=by
 intro m
 induction m with
 | zero =>
  intro i env hi h3 h9 h10 h11
  refine li_go hm l29_0.eq_1 ?_
  have e:i=L.length:=by omega
  subst e
  have e0:(L.map (rowO 1)).take L.length=L.map (rowO 1):=List.take_of_length_le (by simp)
  rw[e0]
  simp -implicitDefEqProofs[h10,h11]
  exact hexit _ (by simp[h3])
 | succ m ih =>
  intro i env hi h3 h9 h10 h11
  refine li_go hm l29_0.eq_1 ?_
  have hii:i<L.length:=by omega
  obtain⟨n1,n2⟩:=hL _ (List.getElem_mem hii)
  have w1:=wrap_suc (show i<9223372036854775807 by omega)
  have hg:L.getD i []=L[i]:=by simp[hii]
  have es:=outP_set (h:=H.length) (I:=L.length) (n:=lenL L) hii
  rw[lenL_at hii]at es
  have et:(L.map (rowO 1)).take (i+1)=(L.map (rowO 1)).take i++[rowO 1 L[i]]:=by rw[List.take_succ_eq_append_getElem (by simpa using hii)]; simp
  have em:min i L.length=i:=by omega
  have ep:H.length+(i+1)=H.length+1+i:=by omega
  simp -implicitDefEqProofs[h3,h9,h10,h11,hii,sls_get hii]
  refine⟨by omega,call_go (ok49 n1 n2) ?_⟩
  simp -implicitDefEqProofs[h3,h9,h10,h11,hii,em]
  refine⟨by omega,?_⟩
  rw[ep,es,<- et]
  refine ih (i+1) _ (by omega) ?_ ?_ ?_ ?_
  · simp
  · simp
  · simp
  · simp[w1]
theorem outP_all (h I:Nat) (n:Nat->Nat):outP h I I n=outs I (fun i=>h+1+i) n 1:=by
 unfold outP outs
 apply List.map_congr_left
 intro j hj
 simp only[List.mem_range]at hj
 rw[if_pos hj]
set_option maxRecDepth 10000 in
theorem ok29 {L:List (List Int)} (hL:∀ l∈L,l≠[]∧l.length≤1000000) (hL2:L.length≤1000000) :
 Ok Try.prog 29 [.slc (sls L) L.length] H (.ret (.own H.length 0 L.length 1 0)) (H++⟨outs L.length (fun i=>H.length+1+i) (lenL L) 1,36,0,true⟩::L.map (rowO 1)):=by
 refine ok_fn hm Try.func29 c29 (by simp[sls_under]) fun hcl => ?_
 simp -implicitDefEqProofs[i29,r29]
 refine⟨by omega,by omega,?_⟩
 have e:List.replicate L.length (SV.val (.slice none 0 0))=outP H.length L.length 0 (lenL L):=by simp[outP,List.map_const']
 rw[e]
 refine tlp29_0 hL hL2 (fun env g3 => ?_) L.length 0 _ (by omega) (by simp) (by simp) (by simp) (by simp)
 simp -implicitDefEqProofs[g3]
 rw[outP_all]
 exact cv_id
end
end Go.Proofs.Ytogjmpkehjfecaa.Rc
namespace Go.Proofs.Ytogjmpkehjfecaa.Rc
open Go.Ab Go.Ab.Shr
def outQ (p:Nat->Nat) (n:Nat->Nat) (ver I i:Nat):List SV:=(List.range I).map fun j=>if j<i then .own (p j) 0 (n j) 1 ver else .val (.slice none 0 0)
@[simp] theorem outQ_len {p n:Nat->Nat} {ver I i:Nat}:(outQ p n ver I i).length=I:=by simp[outQ]
theorem outQ_set {p n:Nat->Nat} {ver I i:Nat} (hi:i<I):List.take i (outQ p n ver I i)++SV.own (p i) 0 (n i) 1 ver::List.drop (i+1) (outQ p n ver I i)=outQ p n ver I (i+1):=by
 have hl:i<(outQ p n ver I i).length:=by simp[hi]
 have:=List.set_eq_take_append_cons_drop (l:=outQ p n ver I i) (i:=i) (a:=SV.own (p i) 0 (n i) 1 ver)
 rw[if_pos hl]at this
 rw[←this]
 apply List.ext_getElem?
 intro j
 by_cases e:i=j
 · subst e; rw[List.getElem?_set_self hl]; simp[outQ,hi]
 · rw[List.getElem?_set_ne e]
   by_cases hj:j<I
   · have:(j<i)=(j<i+1):=by simp; omega
     simp[outQ,hj,this]
   · rw[List.getElem?_eq_none (by simp; omega),List.getElem?_eq_none (by simp; omega)]
theorem outQ_0 (p n:Nat->Nat) (ver I:Nat):outQ p n ver I 0=List.replicate I (.val (.slice none 0 0)):=by simp[outQ,List.map_const']
theorem outQ_all (p n:Nat->Nat) (ver I:Nat):outQ p n ver I I=outs I p n ver:=by
 unfold outQ outs
 apply List.map_congr_left
 intro j hj
 simp only[List.mem_range]at hj
 rw[if_pos hj]
def zers (n:Nat):List Int:=List.replicate n 0
@[simp] theorem zers_len (n:Nat):(zers n).length=n:=by simp[zers]
def blkO (g:Gm):Nat->List AO
 | 0=>[]
 | k+1=>blkO g k++[⟨[i64 (g.is.getD k (0,0)).1,i64 (g.is.getD k (0,0)).2],45,0,true⟩,rowO 0 (zers (g.acts k))]
theorem blkO_len (g:Gm):∀ k,(blkO g k).length=2*k
 | 0=>rfl
 | k+1=>by simp[blkO,blkO_len g k]; omega
section
variable {H:List AO} {g:Gm}
def pB (h i:Nat):Nat:=h+3+2*i
set_option maxRecDepth 10000 in
theorem tlp37_0 (hW:Wg g) {N:Nat} {K:XE->Env->List AO->Prop}
 (hexit:∀ env,env.get 3=.own (H.length+1) 0 g.is.length 1 0->K (.exit 0) env (H++gbox g::⟨outQ (pB H.length) g.acts 0 g.is.length g.is.length,36,0,true⟩::blkO g g.is.length)) :
 ∀ (m i:Nat) (env:Env),i+m=g.is.length->env.get 3=.own (H.length+1) 0 g.is.length 1 0->env.get 11=.slc (infs g.is) g.is.length->env.get 12=i64 g.is.length->env.get 13=i64 i →
  LI Try.prog N drawB l37_0 env (H++gbox g::⟨outQ (pB H.length) g.acts 0 g.is.length i,36,0,true⟩::blkO g i) K:=by
 have hil:=hW.gd.i
 intro m
 induction m with
 | zero =>
  intro i env hi h3 h11 h12 h13
  refine li_go hm l37_0.eq_1 ?_
  have e:i=g.is.length:=by omega
  subst e
  simp -implicitDefEqProofs[h12,h13]
  exact hexit _ (by simp[h3])
 | succ m ih =>
  intro i env hi h3 h11 h12 h13
  refine li_go hm l37_0.eq_1 ?_
  have hii:i<g.is.length:=by omega
  obtain⟨n1,n2⟩:=acts_le hW hii
  have hg:g.is.getD i (0,0)=g.is[i]:=by simp[hii]
  have ha:(g.acts i:Int)=g.is[i].2:=by unfold Gm.acts; rw[hg]; unfold Gm.acts at n1; rw[hg]at n1; omega
  have w1:=wrap_suc (show i<9223372036854775807 by omega)
  have es:=outQ_set (p:=pB H.length) (n:=g.acts) (ver:=0) (I:=g.is.length) hii
  have eb:blkO g (i+1)=blkO g i++[⟨[i64 g.is[i].1,i64 g.is[i].2],45,0,true⟩,rowO 0 (zers (g.acts i))]:=by simp only[blkO,hg]
  have hMl:=blkO_len g i
  rw[←ha]at eb
  have ih2:=ih (i+1)
  rw[eb]at ih2
  generalize blkO g i=M at *
  simp -implicitDefEqProofs[h3,h11,h12,h13,hii,infs_at hii,infs_min hii,infs_ge hii,<- ha]
  repeat (refine⟨by omega,?_⟩)
  have e1:H.length+(M.length+3)=pB H.length i:=by unfold pB; omega
  have e2:List.replicate (g.acts i) (i64 0)=ints (zers (g.acts i)):=by simp[ints,zers]
  rw[e1,es,e2]
  refine ih2 _ (by omega) ?_ ?_ ?_ ?_
  · simp
  · simp
  · simp
  · simp[w1]
theorem ok37 (hW:Wg g):Ok Try.prog 37 [.agg g.cells] H (.ret (.own (H.length+1) 0 g.is.length 1 0)) (H++gbox g::⟨outs g.is.length (pB H.length) g.acts 0,36,0,true⟩::blkO g g.is.length):=by
 have hil:=hW.gd.i
 refine ok_fn hm Try.func37 c37 (by simp[Gm.cells,nds_under,infs_under]) fun hcl => ?_
 simp -implicitDefEqProofs[i37,r37,Gm.cells]
 refine⟨by omega,by omega,?_⟩
 rw[←outQ_0 (pB H.length) g.acts 0]
 refine tlp37_0 hW (fun env g3 => ?_) g.is.length 0 _ (by omega) (by simp) (by simp) (by simp) (by simp)
 simp -implicitDefEqProofs[g3]
 rw[outQ_all]
 exact cv_id
end
end Go.Proofs.Ytogjmpkehjfecaa.Rc
namespace Go.Proofs.Ytogjmpkehjfecaa.Rc
open Go.Ab Go.Ab.Shr
@[simp ↓] theorem rs_calln (n:Nat) (f:Od) (l:List Od):(E.calln f l).rs n=.calln f l:=rfl
@[simp ↓] theorem rs_stw (n:Nat) (ws:List Nat) (k:Nat) (p x:Od):(E.stw ws k p x).rs n=.stw ws k p x:=rfl
end Go.Proofs.Ytogjmpkehjfecaa.Rc
namespace Go.Proofs.Ytogjmpkehjfecaa.Rc
open Go.Ab Go.Ab.Shr
section
variable {g:Gm} {H G:List AO} {c:TC} {s:TS}
theorem TW.setM (h:TW g H c s G) {X:List Int} (hV:X.length=g.ns.length):TW g H { c with M:=X } s (G.set (pM H g) ⟨ints X,3,1,true⟩):=by
 have hlt:=getElem?_lt h.m
 have ne:∀ {j:Nat} {x:Option AO},pM H g≠j->G[j]? = x->(G.set (pM H g) ⟨ints X,3,1,true⟩)[j]? = x:=fun hn hx=>by rw[List.getElem?_set_ne hn]; exact hx
 constructor
 case l=>exact⟨h.l.A,h.l.P,h.l.S,h.l.V,h.l.R,h.l.O,h.l.ord,hV,h.l.F⟩
 case len=>simpa using h.len
 case cl=>exact closed_set h.cl _ (by simp)
 case m=>rw[List.getElem?_set_self hlt]
 case low=>intro i hi; exact ne (by unfold pM; omega) (h.low i hi)
 case a=>intro i hi; exact ne (by unfold pM pA; omega) (h.a i hi)
 case p=>intro i hi; exact ne (by unfold pM pP; omega) (h.p i hi)
 case ss=>intro i hi; exact ne (by unfold pM pS; omega) (h.ss i hi)
 case w=>exact ne (by unfold pM pW; omega) h.w
 case v=>exact ne (by unfold pM pV; omega) h.v
 case f=>exact ne (by unfold pM pF; omega) h.f
 case ao=>exact ne (by unfold pM pAo; omega) h.ao
 case po=>exact ne (by unfold pM pPo; omega) h.po
 case so=>exact ne (by unfold pM pSo; omega) h.so
 case r=>exact ne (by unfold pM pR; omega) h.r
 case o=>exact ne (by unfold pM pO; omega) h.o
theorem TW.setF (h:TW g H c s G) {X:List Int} (hV:X.length=g.is.length):TW g H { c with F:=X } s (G.set (pF H g) ⟨ints X,3,1,true⟩):=by
 have hlt:=getElem?_lt h.f
 have ne:∀ {j:Nat} {x:Option AO},pF H g≠j->G[j]? = x->(G.set (pF H g) ⟨ints X,3,1,true⟩)[j]? = x:=fun hn hx=>by rw[List.getElem?_set_ne hn]; exact hx
 constructor
 case l=>exact⟨h.l.A,h.l.P,h.l.S,h.l.V,h.l.R,h.l.O,h.l.ord,h.l.M,hV⟩
 case len=>simpa using h.len
 case cl=>exact closed_set h.cl _ (by simp)
 case f=>rw[List.getElem?_set_self hlt]
 case low=>intro i hi; exact ne (by unfold pF; omega) (h.low i hi)
 case a=>intro i hi; exact ne (by unfold pF pA; omega) (h.a i hi)
 case p=>intro i hi; exact ne (by unfold pF pP; omega) (h.p i hi)
 case ss=>intro i hi; exact ne (by unfold pF pS; omega) (h.ss i hi)
 case w=>exact ne (by unfold pF pW; omega) h.w
 case m=>exact ne (by unfold pF pM; omega) h.m
 case v=>exact ne (by unfold pF pV; omega) h.v
 case ao=>exact ne (by unfold pF pAo; omega) h.ao
 case po=>exact ne (by unfold pF pPo; omega) h.po
 case so=>exact ne (by unfold pF pSo; omega) h.so
 case r=>exact ne (by unfold pF pR; omega) h.r
 case o=>exact ne (by unfold pF pO; omega) h.o
end
def wsK (ws:List Int):Nat->Int
 | 0=>0
 | k+1=>IntKind.i64.wrap (wsK ws k+ws.getD k 0)
def wsum (ws:List Int):Int:=wsK ws ws.length
theorem wsK_rng {ws:List Int} (h:∀ w∈ws,1≤w∧w≤1000) (hl:ws.length≤60):∀ k,k≤ws.length->(k:Int)≤wsK ws k∧wsK ws k≤1000*k
 | 0,_=>by simp[wsK]
 | k+1,hk=>by
  have h1:=wsK_rng h hl k (by omega)
  have h2:=h _ (List.getElem_mem (show k<ws.length by omega))
  have h3:ws.getD k 0=ws[k]:=by simp[show k<ws.length by omega]
  simp only[wsK,h3]
  rw[wrap_id (by omega) (by omega)]
  omega
def wtF (g:Gm) (i:Nat):Int:=match g.ns[i]? with
 | none=>0
 | some x=>wsum x.ws
def wtM (g:Gm) (j:Nat) (i:Nat):Int:=if j≤i then wtF g i else 0
def fsL (g:Gm):Nat->List Int
 | 0=>zers g.is.length
 | m+1=>match g.ns[g.ns.length-1-m]? with
  | none=>fsL g m
  | some x=>if x.k=2 then(fsL g m).set x.i.toNat ((g.ns.length-1-m:Nat):Int)else fsL g m
@[simp] theorem fsL_len (g:Gm):∀ m,(fsL g m).length=g.is.length
 | 0=>by simp[fsL]
 | m+1=>by
  simp only[fsL]
  split
  · exact fsL_len g m
  · split
    · simp[fsL_len g m]
    · exact fsL_len g m
theorem fsL_at {g:Gm} {i t:Nat} (hi:i<g.is.length) (ht:t<g.ns.length) (h2:g.ns[t].k=2) (h3:g.ns[t].i.toNat=i) (h4:∀ u (hu:u<t),¬ (g.ns[u].k=2∧g.ns[u].i.toNat=i)) :
 ∀ m,m≤g.ns.length->g.ns.length-m≤t->(fsL g m).getD i 0=t
 | 0,hm,hg=>by omega
 | m+1,hm,hg=>by
  have hx:g.ns[g.ns.length-1-m]? = some (g.ns[g.ns.length-1-m]'(by omega)):=List.getElem?_eq_getElem (by omega)
  simp only[fsL,hx]
  by_cases e:g.ns.length-1-m=t
  · subst e
    rw[if_pos h2,h3]
    simp[hi]
  · have ih:=fsL_at hi ht h2 h3 h4 m (by omega)
    by_cases e2:g.ns.length-m≤t
    · split
      · rename_i hk
        have hne:¬ (g.ns[g.ns.length-1-m]'(by omega)).i.toNat=i:=fun hh=>h4 (g.ns.length-1-m) (by omega) ⟨hk,hh⟩
        have:=ih e2
        simp only[List.getD_eq_getElem?_getD]at this ⊢
        rw[List.getElem?_set_ne hne]; exact this
      · exact ih e2
    · omega
def cTC (g:Gm):TC:=⟨rowF g.ns.length (wtF g),fsL g g.ns.length⟩
theorem cTC_ok {g:Gm} (hW:Wg g):(cTC g).Ok g where
 m:=fun i hi hk=>by
  obtain⟨a1,a2,a3,a4⟩:=ch_of hW hi hk
  have hx:g.ns[i]? = some g.ns[i]:=List.getElem?_eq_getElem hi
  simp only[cTC]
  rw[rowF_getD hi]
  simp only[wtF,hx,wsum]
  have:=wsK_rng a4 (by omega) g.ns[i].ws.length (Nat.le_refl _)
  omega
 f:=fun i hi=>by
  obtain⟨t,ht,_,h2,h3,h4⟩:=fn_of hW hi
  have:=fsL_at hi ht h2 h3 h4 g.ns.length (Nat.le_refl _) (by omega)
  simp only[cTC]
  rw[this]; omega
end Go.Proofs.Ytogjmpkehjfecaa.Rc
namespace Go.Proofs.Ytogjmpkehjfecaa.Rc
open Go.Ab Go.Ab.Shr
def pGb (H:List AO) (g:Gm):Nat:=H.length+2+2*g.is.length
theorem put_put (f:Nat->Int) (i:Nat) (x y:Int):put (put f i x) i y=put f i y:=by funext k; unfold put; split<;>rfl
theorem put_self (f:Nat->Int) (i:Nat):put f i (f i)=f:=by funext k; unfold put; split; rename_i e; rw[e]; rfl
theorem wtM_put (g:Gm) (i:Nat):put (wtM g (i+1)) i (wtF g i)=wtM g i:=by
 funext k
 unfold put wtM
 by_cases e:k=i
 · subst e; simp
 · rw[if_neg e]
   by_cases h:i≤k
   · rw[if_pos h,if_pos (by omega)]
   · rw[if_neg h,if_neg (by omega)]
section
variable {g:Gm} {H G:List AO} {c:TC} {s:TS}
theorem gb_keep (h:TW g H c s G) (hb:G[pGb H g]? = some (gbox g)) {p:Nat} (hp:p≠pGb H g) (o:AO):(G.set p o)[pGb H g]? = some (gbox g):=by rw[List.getElem?_set_ne hp]; exact hb
set_option maxRecDepth 10000 in
theorem tlp28_1 (hW:Wg g) {i:Nat} (hi:i<g.ns.length) {f:Nat->Int} {F:List Int} {N:Nat} {K:XE->Env->List AO->Prop}
 (hexit:∀ env G,env.get 2=.ptr (.own (pGb H g) 0 0 0 0) 0->env.get 6=.ptr (.own (pW H g) 0 0 0 0) 0->env.get 7=i64 i->TW g H ⟨rowF g.ns.length (put f i (wsum g.ns[i].ws)),F⟩ s G->G[pGb H g]? = some (gbox g)->K (.exit 2) env G) :
 ∀ (m k:Nat) (env:Env) (G:List AO),k+m=g.ns[i].ws.length->TW g H ⟨rowF g.ns.length (put f i (wsK g.ns[i].ws k)),F⟩ s G->G[pGb H g]? = some (gbox g) →
  env.get 2=.ptr (.own (pGb H g) 0 0 0 0) 0->env.get 6=.ptr (.own (pW H g) 0 0 0 0) 0->env.get 7=i64 i->env.get 51=.slc (ints g.ns[i].ws) g.ns[i].ws.length->env.get 52=i64 g.ns[i].ws.length->env.get 53=i64 k->g.ns[i].ws.length≤60 →
  LI Try.prog N drawB l28_1 env G K:=by
 intro m
 induction m with
 | zero =>
  intro k env G hk h hb h2 h6 h7 h51 h52 h53 hl
  refine li_go hm l28_1.eq_1 ?_
  have e:k=g.ns[i].ws.length:=by omega
  subst e
  simp -implicitDefEqProofs[h52,h53]
  exact hexit _ _ (by simp[h2]) (by simp[h6]) (by simp[h7]) h hb
 | succ m ih =>
  intro k env G hk h hb h2 h6 h7 h51 h52 h53 hl
  refine li_go hm l28_1.eq_1 ?_
  have hkl:k<g.ns[i].ws.length:=by omega
  have hw:=h.cw0
  have hM:=oc0 h.m
  have hst:=setObj_some h.m
  have w1:=wrap_suc (show k<9223372036854775807 by omega)
  have eK:wsK g.ns[i].ws (k+1)=IntKind.i64.wrap (wsK g.ns[i].ws k+g.ns[i].ws[k]):=by simp[wsK,hkl]
  have h5:=h.setM (X:=rowF g.ns.length (put f i (wsK g.ns[i].ws (k+1)))) (by simp)
  have hb5:=gb_keep h hb (p:=pM H g) (by unfold pM pGb; omega) ⟨ints (rowF g.ns.length (put f i (wsK g.ns[i].ws (k+1)))),3,1,true⟩
  have ea:(put f i (wsK g.ns[i].ws k)) i=wsK g.ns[i].ws k:=by simp[put]
  have e4:(ints (rowF g.ns.length (put f i (wsK g.ns[i].ws k))))[i]?.getD .any=i64 (wsK g.ns[i].ws k):=by rw[ints_at (by simpa using hi),rowF_getD hi,ea]
  have e3:∀ y:Int,List.take i (ints (rowF g.ns.length (put f i (wsK g.ns[i].ws k))))++i64 y::List.drop (i+1) (ints (rowF g.ns.length (put f i (wsK g.ns[i].ws k))))=ints (rowF g.ns.length (put f i y)):=fun y=>by rw[ints_set (by simpa using hi),rowF_set,put_put]
  have e5:(rowF g.ns.length (put f i (wsK g.ns[i].ws k)))[i]'(by simpa using hi)=wsK g.ns[i].ws k:=by rw[rowF_get hi,ea]
  rw[eK]at h5 hb5
  simp -implicitDefEqProofs[h2,h6,h7,h51,h52,h53,hkl,hw,wHead,hM,hi,hst,e3,e4,e5]
  repeat (refine⟨by omega,?_⟩)
  refine ih (k+1) _ _ (by omega) (by rw[eK]; exact h5) hb5 ?_ ?_ ?_ ?_ ?_ ?_ hl
  · simp[h2]
  · simp
  · simp
  · simp
  · simp
  · simp[w1]
set_option maxRecDepth 10000 in
theorem tlp28_0 (hW:Wg g) {N:Nat} {K:XE->Env->List AO->Prop}
 (hexit:∀ env G,env.get 6=.ptr (.own (pW H g) 0 0 0 0) 0->TW g H (cTC g) s G->K (.exit 0) env G) :
 ∀ (m:Nat) (env:Env) (G:List AO),m≤g.ns.length->TW g H ⟨rowF g.ns.length (wtM g m),fsL g (g.ns.length-m)⟩ s G->G[pGb H g]? = some (gbox g) →
  env.get 2=.ptr (.own (pGb H g) 0 0 0 0) 0->env.get 6=.ptr (.own (pW H g) 0 0 0 0) 0->env.get 7=i64 ((m:Int)-1) →
  LI Try.prog N drawB l28_0 env G K:=by
 have hn:=hW.gd.n
 intro m
 induction m with
 | zero =>
  intro env G hm' h hb h2 h6 h7
  refine li_go hm l28_0.eq_1 ?_
  have e:((0:Nat):Int)-1 = -1:=by omega
  rw[e]at h7
  simp -implicitDefEqProofs[h7]
  refine hexit _ _ (by simp[h6]) ?_
  have e2:wtM g 0=wtF g:=by funext k; simp[wtM]
  rw[e2,Nat.sub_zero]at h
  exact h
 | succ i ih =>
  intro env G hm' h hb h2 h6 h7
  refine li_go hm l28_0.eq_1 ?_
  have hi:i<g.ns.length:=by omega
  have hx:g.ns[i]? = some g.ns[i]:=List.getElem?_eq_getElem hi
  have e:((i+1:Nat):Int)-1=(i:Int):=by omega
  rw[e]at h7
  have hgb:objCells G (pGb H g) 0=[i64 g.pl,.slc (nds g.ns) g.ns.length,.slc (infs g.is) g.is.length]:=oc0 (T:=25) hb
  have hws:g.ns[i].ws.length≤60:=by
   rcases kd_of hW hi with hk | hk | hk
   · have:=ch_of hW hi hk; omega
   · have h3:=hW.gd.e _ (List.getElem_mem hi)
     unfold Nd.err Nd.move at h3
     rw[if_neg (by omega),if_neg (by omega),if_pos hk]at h3
     split at h3
     · omega
     · omega
   · have h3:=hW.gd.e _ (List.getElem_mem hi)
     unfold Nd.err Nd.end at h3
     rw[if_neg (by omega),if_neg (by omega),if_neg (by omega)]at h3
     split at h3
     · omega
     · omega
  have h0:TW g H ⟨rowF g.ns.length (put (wtM g (i+1)) i (wsK g.ns[i].ws 0)),fsL g (g.ns.length-(i+1))⟩ s G:=by
   have e0:put (wtM g (i+1)) i (wsK g.ns[i].ws 0)=wtM g (i+1):=by
    have:wsK g.ns[i].ws 0=wtM g (i+1) i:=by simp only[wsK,wtM]; rw[if_neg (by omega)]
    rw[this,put_self]
   rw[e0]; exact h
  have w1:IntKind.i64.wrap ((i:Int)-1)=(i:Int)-1:=wrap_id (by omega) (by omega)
  simp -implicitDefEqProofs[h2,h6,h7,hgb,hi,nd4 hi,nds_len]
  repeat (refine⟨by omega,?_⟩)
  refine tlp28_1 (H:=H) (s:=s) hW hi (fun env G1 g2 g6 g7 h1 hb1 => ?_) g.ns[i].ws.length 0 _ _ (by omega) h0 hb (by simp[h2]) (by simp[h6]) (by simp[h7]) (by simp) (by simp) (by simp) hws
  have eW:put (wtM g (i+1)) i (wsum g.ns[i].ws)=wtM g i:=by
   have:wsum g.ns[i].ws=wtF g i:=by simp only[wtF,hx]
   rw[this,wtM_put]
  rw[eW]at h1
  have hgb1:objCells G1 (pGb H g) 0=[i64 g.pl,.slc (nds g.ns) g.ns.length,.slc (infs g.is) g.is.length]:=oc0 (T:=25) hb1
  have hw1:=h1.cw0
  have efs:g.ns.length-i=(g.ns.length-(i+1))+1:=by omega
  have efi:g.ns.length-1-(g.ns.length-(i+1))=i:=by omega
  have hx2:g.ns[g.ns.length-1-(g.ns.length-(i+1))]? = some g.ns[i]:=by rw[efi]; exact hx
  by_cases hk:g.ns[i].k=2
  · obtain⟨a1,a2,a3,a4,a5⟩:=mv_of hW hi hk
    have eF:fsL g (g.ns.length-i)=(fsL g (g.ns.length-(i+1))).set g.ns[i].i.toNat (i:Int):=by
     rw[efs]; simp only[fsL,hx2]; rw[if_pos hk,efi]
    have hF:=oc0 h1.f
    have hst:=setObj_some h1.f
    have h5:=h1.setF (X:=fsL g (g.ns.length-i)) (by simp)
    have hb5:=gb_keep h1 hb1 (p:=pF H g) (by unfold pF pGb; omega) ⟨ints (fsL g (g.ns.length-i)),3,1,true⟩
    have e3:List.take g.ns[i].i.toNat (ints (fsL g (g.ns.length-(i+1))))++i64 (i:Int)::List.drop (g.ns[i].i.toNat+1) (ints (fsL g (g.ns.length-(i+1))))=ints (fsL g (g.ns.length-i)):=by rw[ints_set (by rw[fsL_len]; exact a1),eF]
    simp -implicitDefEqProofs[g2,g6,g7,hgb1,hw1,wHead,hi,nd0 hi,nd2 hi,nds_len,hk,hF,hst,e3,a1]
    repeat (refine⟨by omega,?_⟩)
    refine ih _ _ (by omega) h5 hb5 ?_ ?_ ?_
    · simp[g2]
    · simp[g6]
    · simp[w1]
  · have eF:fsL g (g.ns.length-i)=fsL g (g.ns.length-(i+1)):=by
     rw[efs]; simp only[fsL,hx2,if_neg hk]
    simp -implicitDefEqProofs[g2,g6,g7,hgb1,hw1,wHead,hi,nd0 hi,nds_len,hk]
    repeat (refine⟨by omega,?_⟩)
    refine ih _ _ (by omega) (by rw[eF]; exact h1) hb1 ?_ ?_ ?_
    · simp[g2]
    · simp[g6]
    · simp[w1]
end
end Go.Proofs.Ytogjmpkehjfecaa.Rc
namespace Go.Proofs.Ytogjmpkehjfecaa.Rc
open Go.Ab Go.Ab.Shr
theorem blkO_row (g:Gm):∀ (k i:Nat),i<k->(blkO g k)[2*i+1]? = some (rowO 0 (zers (g.acts i)))
 | 0,i,h=>by omega
 | k+1,i,h=>by
  have hl:=blkO_len g k
  by_cases e:i=k
  · subst e
    simp only[blkO]
    rw[List.getElem?_append_right (by omega),hl,show 2*i+1-2*i=1 by omega]
    rfl
  · simp only[blkO]
    rw[List.getElem?_append_left (by omega)]
    exact blkO_row g k i (by omega)
theorem zers_flat (n:Nat):(List.replicate n [i64 0,i64 0,i64 0,i64 0]).flatten=ints (zers (4*n)):=by
 have h:[i64 0,i64 0,i64 0,i64 0]=List.replicate 4 (i64 0):=rfl
 rw[h,List.flatten_replicate_replicate]
 simp[ints,zers,Nat.mul_comm]
def s0T (g:Gm) (rnd seed:Int) (LA LP:List (List Int)):TS:=⟨rnd,seed,fun i=>LA.getD i [],fun i=>LP.getD i [],fun i=>zers (g.acts i),zers (4*g.ns.length),zers (4*g.ns.length),zers (4*g.ns.length),zers 10⟩
def c0T (g:Gm):TC:=⟨zers g.ns.length,zers g.is.length⟩
def baseT (H:List AO) (LA LP:List (List Int)):List AO :=
 (H++(⟨outs LA.length (fun i=>H.length+1+i) (lenL LA) 1,36,0,true⟩::LA.map (rowO 1)))++(⟨outs LP.length (fun i=>H.length+1+LA.length+1+i) (lenL LP) 1,36,0,true⟩::LP.map (rowO 1))
def initT (g:Gm) (H:List AO) (rnd seed:Int) (LA LP:List (List Int)):List AO :=
 baseT H LA LP++([gbox g,⟨[i64 rnd,i64 seed,.own H.length 0 g.is.length 1 0,.own (H.length+1+g.is.length) 0 g.is.length 1 0],28,0,true⟩,⟨ints (zers g.ns.length),3,1,true⟩,⟨ints (zers g.is.length),3,1,true⟩,
  gbox g,⟨outs g.is.length (pS H g) g.acts 0,36,0,true⟩]++(blkO g g.is.length++[wObj g H (s0T g rnd seed LA LP),⟨ints (zers (4*g.ns.length)),101,1,true⟩,⟨ints (zers (4*g.ns.length)),101,1,true⟩,⟨ints (zers (4*g.ns.length)),101,1,true⟩]))
section
variable {g:Gm} {H:List AO} {rnd seed:Int} {LA LP:List (List Int)}
theorem init_gb (hA:LA.length=g.is.length) (hP:LP.length=g.is.length):(initT g H rnd seed LA LP)[pGb H g]? = some (gbox g):=by
 have hB:(baseT H LA LP).length=H.length+2+2*g.is.length:=by simp[baseT]; omega
 unfold initT
 rw[List.getElem?_append_right (by unfold pGb; omega),hB,show pGb H g-(H.length+2+2*g.is.length)=0 by unfold pGb; omega]
 rfl
set_option maxRecDepth 10000 in
theorem TW.init (hcl:closed H) (hA:LA.length=g.is.length) (hP:LP.length=g.is.length) (hlA:∀ i,i<g.is.length->lenL LA i=g.acts i) (hlP:∀ i,i<g.is.length->lenL LP i=g.acts i) :
 TW g H (c0T g) (s0T g rnd seed LA LP) (initT g H rnd seed LA LP):=by
 have hB:(baseT H LA LP).length=H.length+2+2*g.is.length:=by simp[baseT]; omega
 have hbl:=blkO_len g g.is.length
 have up:∀ k:Nat,(initT g H rnd seed LA LP)[H.length+2+2*g.is.length+k]? = ([gbox g,⟨[i64 rnd,i64 seed,.own H.length 0 g.is.length 1 0,.own (H.length+1+g.is.length) 0 g.is.length 1 0],28,0,true⟩,⟨ints (zers g.ns.length),3,1,true⟩,⟨ints (zers g.is.length),3,1,true⟩,
  gbox g,⟨outs g.is.length (pS H g) g.acts 0,36,0,true⟩]++(blkO g g.is.length++[wObj g H (s0T g rnd seed LA LP),⟨ints (zers (4*g.ns.length)),101,1,true⟩,⟨ints (zers (4*g.ns.length)),101,1,true⟩,⟨ints (zers (4*g.ns.length)),101,1,true⟩]))[k]? := fun k=>by
  unfold initT
  rw[List.getElem?_append_right (by omega),hB]
  congr 1; omega
 have up6:∀ k:Nat,(initT g H rnd seed LA LP)[H.length+8+2*g.is.length+k]? = (blkO g g.is.length++[wObj g H (s0T g rnd seed LA LP),⟨ints (zers (4*g.ns.length)),101,1,true⟩,⟨ints (zers (4*g.ns.length)),101,1,true⟩,⟨ints (zers (4*g.ns.length)),101,1,true⟩])[k]? := fun k=>by
  rw[show H.length+8+2*g.is.length+k=H.length+2+2*g.is.length+(6+k)by omega,up,List.getElem?_append_right (by simp)]
  congr 1; simp
 have upE:∀ k:Nat,(initT g H rnd seed LA LP)[H.length+8+4*g.is.length+k]? = [wObj g H (s0T g rnd seed LA LP),⟨ints (zers (4*g.ns.length)),101,1,true⟩,⟨ints (zers (4*g.ns.length)),101,1,true⟩,⟨ints (zers (4*g.ns.length)),101,1,true⟩][k]? := fun k=>by
  rw[show H.length+8+4*g.is.length+k=H.length+8+2*g.is.length+(2*g.is.length+k)by omega,up6,List.getElem?_append_right (by omega),hbl]
  congr 1; omega
 have dn:∀ k:Nat,k<(baseT H LA LP).length->(initT g H rnd seed LA LP)[k]? = (baseT H LA LP)[k]? := fun k hk=>by
  unfold initT
  rw[List.getElem?_append_left hk]
 have b1:∀ k:Nat,k<H.length+1+g.is.length->(baseT H LA LP)[k]? = (H++(⟨outs LA.length (fun i=>H.length+1+i) (lenL LA) 1,36,0,true⟩::LA.map (rowO 1)))[k]? := fun k hk=>by
  unfold baseT
  rw[List.getElem?_append_left (by simp; omega)]
 have b2:∀ k:Nat,(baseT H LA LP)[H.length+1+g.is.length+k]? = ((⟨outs LP.length (fun i=>H.length+1+LA.length+1+i) (lenL LP) 1,36,0,true⟩::LP.map (rowO 1)):List AO)[k]? := fun k=>by
  unfold baseT
  rw[List.getElem?_append_right (by simp; omega)]
  congr 1; simp; omega
 have outs_c:∀ {I J:Nat} {p q n m:Nat->Nat},I=J->(∀ i,i<J->p i=q i)->(∀ i,i<J->n i=m i)->outs I p n 1=outs J q m 1:=fun {I J p q n m} hI hp hn=>by
  subst hI
  unfold outs
  apply List.map_congr_left
  intro j hj
  simp only[List.mem_range]at hj
  rw[hp j hj,hn j hj]
 have hgd:∀ (L:List (List Int)) (i:Nat),(s0T g rnd seed LA LP).A=(fun i=>LA.getD i []):=fun _ _=>rfl
 constructor
 case l =>
  refine⟨fun i hi => ?_,fun i hi => ?_,fun i hi=>by simp[s0T],by simp[s0T],by simp[s0T],by simp[s0T],by simp[s0T],by simp[c0T],by simp[c0T]⟩
  · have:=hlA i hi; simpa[s0T,lenL]using this
  · have:=hlP i hi; simpa[s0T,lenL]using this
 case len=>simp[initT,hB,hbl,pE]; omega
 case low =>
  intro i hi
  rw[dn i (by omega),b1 i (by omega),List.getElem?_append_left hi]
 case m=>rw[show pM H g=H.length+2+2*g.is.length+2 by unfold pM; omega,up]; rfl
 case f=>rw[show pF H g=H.length+2+2*g.is.length+3 by unfold pF; omega,up]; rfl
 case so=>rw[show pSo H g=H.length+2+2*g.is.length+5 by unfold pSo; omega,up]; rfl
 case ss=>intro i hi; rw[show pS H g i=H.length+8+2*g.is.length+(2*i+1)by unfold pS; omega,up6,List.getElem?_append_left (by omega),blkO_row g _ i hi]; rfl
 case w=>rw[show pW H g=H.length+8+4*g.is.length+0 by unfold pW; omega,upE]; rfl
 case v=>rw[show pV H g=H.length+8+4*g.is.length+1 by unfold pV; omega,upE]; rfl
 case r=>rw[show pR H g=H.length+8+4*g.is.length+2 by unfold pR; omega,upE]; rfl
 case o=>rw[show pO H g=H.length+8+4*g.is.length+3 by unfold pO; omega,upE]; rfl
 case ao =>
  unfold pAo
  rw[dn _ (by omega),b1 _ (by omega),List.getElem?_append_right (by omega)]
  simp only[Nat.sub_self,List.getElem?_cons_zero]
  have:=outs_c (q:=pA H g) (m:=g.acts) hA (fun i _=>by unfold pA; omega) hlA (p:=fun i=>H.length+1+i)
  rw[this]
 case a =>
  intro i hi
  rw[show pA H g i=H.length+(i+1)by unfold pA; omega,dn _ (by omega),b1 _ (by omega),List.getElem?_append_right (by omega),show H.length+(i+1)-H.length=i+1 by omega]
  simp[s0T,rowO,hA,hi]
 case po =>
  rw[show pPo H g=H.length+1+g.is.length+0 by unfold pPo; omega,dn _ (by omega),b2]
  simp only[List.getElem?_cons_zero]
  have:=outs_c (q:=pP H g) (m:=g.acts) hP (fun i _=>by unfold pP; omega) hlP (p:=fun i=>H.length+1+LA.length+1+i)
  rw[this]
 case p =>
  intro i hi
  rw[show pP H g i=H.length+1+g.is.length+(i+1)by unfold pP; omega,dn _ (by omega),b2]
  simp[s0T,rowO,hP,hi]
 case cl =>
  have hlen:(initT g H rnd seed LA LP).length=pE H g:=by simp[initT,hB,hbl,pE]; omega
  have hou:∀ (I:Nat) (p n:Nat->Nat) (v:Nat),(∀ i,i<I->p i<pE H g)->∀ x∈outs I p n v,x.under (pE H g)=true:=fun I p n v hp x hx=>by
   simp only[outs,List.mem_map,List.mem_range]at hx
   obtain⟨i,hi,rfl⟩:=hx
   simpa using hp i hi
  have hin:∀ (l:List Int),∀ x∈ints l,x.under (pE H g)=true:=fun l x hx=>by
   simp only[ints,List.mem_map]at hx
   obtain⟨n,_,rfl⟩:=hx
   rfl
  have hbk:∀ (k:Nat),∀ o∈blkO g k,∀ x∈o.cells,x.under (pE H g)=true:=fun k=>by
   induction k with
   | zero=>intro o ho; simp[blkO]at ho
   | succ k ih =>
    intro o ho x hx
    simp only[blkO,List.mem_append,List.mem_cons,List.not_mem_nil,or_false]at ho
    rcases ho with ho | rfl | rfl
    · exact ih o ho x hx
    · simp at hx; rcases hx with rfl | rfl<;>rfl
    · exact hin _ x hx
  have hgb:∀ x∈(gbox g).cells,x.under (pE H g)=true:=fun x hx=>by
   simp only[gbox,List.mem_cons,List.not_mem_nil,or_false]at hx
   rcases hx with rfl | rfl | rfl
   · rfl
   · simp[nds_under]
   · simp[infs_under]
  have hwb:∀ x∈(wObj g H (s0T g rnd seed LA LP)).cells,x.under (pE H g)=true:=by
   rw[←SV.underL_iff]
   simp only[wObj,oI,SV.underL_append,wHead,Bool.and_eq_true]
   unfold pM pF pAo pPo pSo pV pR pO pE
   refine⟨?_,by simp⟩
   simp[nds_under,infs_under]
   omega
  intro i o ho x hx
  rw[hlen]
  have hm:o∈initT g H rnd seed LA LP:=List.mem_of_getElem? ho
  unfold initT baseT at hm
  simp only[List.mem_append,List.mem_cons,List.not_mem_nil,or_false,List.mem_map]at hm
  rcases hm with ((hm | rfl | ⟨l,_,rfl⟩) | rfl | ⟨l,_,rfl⟩) | (rfl | rfl | rfl | rfl | rfl | rfl) | hm | rfl | rfl | rfl | rfl
  · obtain⟨j,hj⟩:=List.getElem?_of_mem hm
    exact SV.under_mono (by unfold pE; omega) x (hcl j o hj x hx)
  · exact hou _ _ _ _ (fun i hi=>by unfold pE; omega) x hx
  · exact hin _ x hx
  · exact hou _ _ _ _ (fun i hi=>by unfold pE; omega) x hx
  · exact hin _ x hx
  · exact hgb x hx
  · simp only[List.mem_cons,List.not_mem_nil,or_false]at hx
    rcases hx with rfl | rfl | rfl | rfl
    · rfl
    · rfl
    · show decide (_<_)=true
      rw[decide_eq_true_iff]; unfold pE; omega
    · show decide (_<_)=true
      rw[decide_eq_true_iff]; unfold pE; omega
  · exact hin _ x hx
  · exact hin _ x hx
  · exact hgb x hx
  · exact hou _ _ _ _ (fun i hi=>by unfold pS pE; omega) x hx
  · exact hbk _ o hm x hx
  · exact hwb x hx
  · exact hin _ x hx
  · exact hin _ x hx
  · exact hin _ x hx
end
end Go.Proofs.Ytogjmpkehjfecaa.Rc
namespace Go.Proofs.Ytogjmpkehjfecaa.Rc
open Go.Ab Go.Ab.Shr
section
variable {H:List AO} {g:Gm} {rnd seed:Int} {LA LP:List (List Int)}
set_option maxRecDepth 10000 in
theorem ok28 (hW:Wg g) (hcl0:closed H) (hA:LA.length=g.is.length) (hP:LP.length=g.is.length) (hlA:∀ i,i<g.is.length->lenL LA i=g.acts i) (hlP:∀ i,i<g.is.length->lenL LP i=g.acts i) :
 OkP Try.prog 28 [.agg g.cells,.agg [i64 rnd,i64 seed,.own H.length 0 g.is.length 1 0,.own (H.length+1+g.is.length) 0 g.is.length 1 0]] (baseT H LA LP) fun out G' =>
  out=.ret (.ptr (.own (pW H g) 0 0 0 0) 0)∧TW g H (cTC g) (s0T g rnd seed LA LP) G':=by
 have hn:=hW.gd.n
 have hil:=hW.gd.i
 have hB:(baseT H LA LP).length=H.length+2+2*g.is.length:=by simp[baseT]; omega
 have hti:=TW.init (rnd:=rnd) (seed:=seed) hcl0 hA hP hlA hlP
 have htb:=init_gb (rnd:=rnd) (seed:=seed) (H:=H) hA hP
 have hin:initT g H rnd seed LA LP=baseT H LA LP++([gbox g,⟨[i64 rnd,i64 seed,.own H.length 0 g.is.length 1 0,.own (H.length+1+g.is.length) 0 g.is.length 1 0],28,0,true⟩,⟨ints (zers g.ns.length),3,1,true⟩,⟨ints (zers g.is.length),3,1,true⟩,
  gbox g,⟨outs g.is.length (pS H g) g.acts 0,36,0,true⟩]++(blkO g g.is.length++[wObj g H (s0T g rnd seed LA LP),⟨ints (zers (4*g.ns.length)),101,1,true⟩,⟨ints (zers (4*g.ns.length)),101,1,true⟩,⟨ints (zers (4*g.ns.length)),101,1,true⟩])):=rfl
 generalize baseT H LA LP=B at *
 refine okP_fn hm Try.func28 c28 (by simp[Gm.cells,nds_under,infs_under]; try omega) fun hcl => ?_
 have h37:=fun H'=>ok37 (H:=H') hW
 simp only[Gm.cells]at h37
 simp -implicitDefEqProofs[i28,r28,Gm.cells]
 repeat (refine⟨by omega,?_⟩)
 refine calln_go (L:=gbox g::⟨outs g.is.length (pB (B.length+4)) g.acts 0,36,0,true⟩::blkO g g.is.length) (r:=.own (B.length+4+1) 0 g.is.length 1 0) (fun H' hl => ?_) ?_
 · have:=h37 H'
   simp at hl
   rw[hl]at this
   exact this
 have hbl:=blkO_len g g.is.length
 generalize blkO g g.is.length=M at *
 simp -implicitDefEqProofs[gbox]
 refine⟨rfl,by omega,by omega,by omega,by omega,by omega,by omega,?_⟩
 have w1:IntKind.i64.wrap ((g.ns.length:Int)-1)=(g.ns.length:Int)-1:=wrap_id (by omega) (by omega)
 have p6:B.length+(M.length+6)=pW H g:=by unfold pW; omega
 have p7:B.length+(M.length+7)=pV H g:=by unfold pV; omega
 have p8:B.length+(M.length+8)=pR H g:=by unfold pR; omega
 have p9:B.length+(M.length+9)=pO H g:=by unfold pO; omega
 have p2:B.length+2=pM H g:=by unfold pM; omega
 have p3:B.length+3=pF H g:=by unfold pF; omega
 have p5:B.length+5=pSo H g:=by unfold pSo; omega
 have p0:B.length=pGb H g:=by unfold pGb; omega
 have ps:pB (B.length+4)=pS H g:=by funext i; unfold pB pS; omega
 refine LI.cong (H':=initT g H rnd seed LA LP) ?_ ?_
 · rw[hin,p7,p8,p9,p2,p3,p5,ps]
   simp[wObj,oI,wHead,s0T,gbox,zers_flat,ints,zers,pAo,pPo]
 · rw[p6,p0]
   refine tlp28_0 (s:=s0T g rnd seed LA LP) hW (fun env G g6 h => ?_) g.ns.length _ _ (Nat.le_refl _) ?_ htb (by simp) (by simp) (by simp[w1])
   · simp -implicitDefEqProofs[g6]
     exact⟨_,_,⟨rfl,h⟩,cv_id⟩
   · have e1:rowF g.ns.length (wtM g g.ns.length)=zers g.ns.length:=by
      apply List.ext_getElem?
      intro i
      by_cases hi:i<g.ns.length
      · simp[rowF,zers,wtM,hi]; omega
      · rw[List.getElem?_eq_none (by simp; omega),List.getElem?_eq_none (by simp; omega)]
     rw[e1,Nat.sub_self]
     exact hti
end
end Go.Proofs.Ytogjmpkehjfecaa.Rc
namespace Go.Proofs.Ytogjmpkehjfecaa.Rc
open Go.Ab Go.Ab.Shr
def fstE (f:Nat->Int):Nat->Nat->Int
 | 0,_=>0
 | m+1,i=>if f i≠0 then f i else fstE f m (i+1)
theorem fstE_zero {f:Nat->Int}:∀ (m i:Nat),fstE f m i=0↔∀ j,i≤j->j<i+m->f j=0
 | 0,i=>by simp only[fstE,true_iff]; intro j h1 h2; omega
 | m+1,i=>by
  simp only[fstE]
  by_cases h:f i=0
  · rw[if_neg (by simpa using h),fstE_zero m (i+1)]
    constructor
    · intro hh j h1 h2
      by_cases e:j=i
      · subst e; exact h
      · exact hh j (by omega) (by omega)
    · intro hh j h1 h2; exact hh j (by omega) (by omega)
  · rw[if_pos h]
    constructor
    · intro e; exact absurd e h
    · intro hh; exact hh i (Nat.le_refl _) (by omega)
def perQ (g:Gm) (p:Nat):Int:=if g.perf p=true then 0 else 13
def Gm.prpE (g:Gm):Int:=if g.formE≠0 then g.formE else fstE (perQ g) g.pl.toNat 0
section
variable {g:Gm} {H:List AO}
theorem perf_at (hf:g.formE=0) {p:Nat} (hp:(p:Int)<g.pl):g.perfV p=g.perf p∧g.perfE p=0:=by
 have h1:g.perfE p=0:=by
  unfold Gm.perfE
  rw[if_neg (by simpa using hf),if_neg (by omega)]
 exact⟨by unfold Gm.perfV; rw[if_pos h1],h1⟩
theorem tlp36_0 (hf:g.formE=0) {B:List AO} (hB:objCells B H.length 0=g.cells) {N:Nat} {K:XE->Env->List AO->Prop}
 (hret:∀ e env,fstE (perQ g) g.pl.toNat 0=e->e≠0->env.get 2=i64 e->K .ret env B) (hexit:fstE (perQ g) g.pl.toNat 0=0->∀ env,K (.exit 0) env B) :
 ∀ (m p:Nat) (env:Env),((p+m:Nat):Int)=g.pl->fstE (perQ g) m p=fstE (perQ g) g.pl.toNat 0->env.get 1=.ptr (.own H.length 0 0 0 0) 0->env.get 13=i64 g.pl->env.get 14=i64 p->LI Try.prog N drawB l36_0 env B K:=by
 have hW:=wg_of hf
 have hp4:=hW.gd.p4
 intro m
 induction m with
 | zero =>
  intro p env hp hE h1 h13 h14
  refine li_go hm l36_0.eq_1 ?_
  simp -implicitDefEqProofs[h13,h14,show ¬ (p:Int)<g.pl by omega]
  exact hexit hE.symm _
 | succ m ih =>
  intro p env hp hE h1 h13 h14
  refine li_go hm l36_0.eq_1 ?_
  have hpp:(p:Int)<g.pl:=by omega
  obtain⟨q1,q2⟩:=perf_at hf hpp
  have h63:=fun H=>ok63 (H:=H) (g:=g) p
  rw[q1,q2]at h63
  simp only[Gm.cells]at h63 hB
  have w1:=wrap_suc (show p<9223372036854775807 by omega)
  simp -implicitDefEqProofs[h1,h13,h14,hpp,hB]
  refine call_go (h63 _) ?_
  by_cases hq:g.perf p=true
  · have hE2:fstE (perQ g) m (p+1)=fstE (perQ g) g.pl.toNat 0:=by rw[←hE]; simp[fstE,perQ,hq]
    simp -implicitDefEqProofs[hq,h1,h13,h14]
    refine ih (p+1) _ (by omega) hE2 ?_ ?_ ?_
    · simp
    · simp
    · simp[w1]
  · have hE2:fstE (perQ g) g.pl.toNat 0=13:=by rw[←hE]; simp[fstE,perQ,hq]
    have hq':g.perf p=false:=by simpa using hq
    simp -implicitDefEqProofs[hq']
    exact hret 13 _ hE2 (by decide) (by simp)
theorem ok36:Ok Try.prog 36 [.agg g.cells] H (.ret (i64 g.prpE)) H:=by
 refine ok_fn hm Try.func36 c36 (by simp[Gm.cells,nds_under,infs_under]) fun hcl => ?_
 have h62:=fun H=>ok62 (H:=H) (g:=g)
 simp only[Gm.cells]at h62
 simp -implicitDefEqProofs[i36,r36,Gm.cells]
 refine call_go (h62 _) ?_
 by_cases hf:g.formE=0
 · have e:g.prpE=fstE (perQ g) g.pl.toNat 0:=by unfold Gm.prpE; rw[if_neg (by simpa using hf)]
   have hp:=(wg_of hf).gd.p1
   simp -implicitDefEqProofs[hf]
   rw[e]
   refine tlp36_0 (H:=H) hf (by simp[Gm.cells]) (fun e env he hne h2 => ?_) (fun he env => ?_) g.pl.toNat 0 _ (by omega) rfl (by simp) (by simp) (by simp)
   · simp -implicitDefEqProofs[h2]
     rw[he]
     exact cv_fz 1 hcl rfl (by simp)
   · simp -implicitDefEqProofs
     rw[he]
     exact cv_fz 1 hcl rfl (by simp)
 · have e:g.prpE=g.formE:=by unfold Gm.prpE; rw[if_pos hf]
   simp -implicitDefEqProofs[hf,e]
   exact cv_fz 1 hcl rfl (by simp)
end
def rowE (g:Gm) (L:List (List Int)) (least:Int) (i:Nat):Int :=
 if((lenL L i:Nat):Int)≠(g.is.getD i (0,0)).2 then 3 else if(L.getD i []).any (fun x=>decide (x<least)||decide (70368744177664<x))=true then 2 else 0
def lstE (g:Gm) (L:List (List Int)) (least:Int):Int:=if L.length≠g.is.length then 3 else fstE (rowE g L least) g.is.length 0
section
variable {g:Gm} {H B:List AO} {L:List (List Int)} {least:Int}
set_option maxRecDepth 10000 in
theorem tlp39_1 {l:List Int} (hl:l.length≤10) {x17 x18 x19:SV} {N:Nat} {K:XE->Env->List AO->Prop}
 (hret:l.any (fun x=>decide (x<least)||decide (70368744177664<x))=true->∀ env,env.get 6=i64 2->K .ret env B)
 (hexit:l.any (fun x=>decide (x<least)||decide (70368744177664<x))=false->∀ env,env.get 2=i64 least->env.get 3=.ptr (.own H.length 0 0 0 0) 0->env.get 17=x17->env.get 18=x18->env.get 19=x19->K (.exit 2) env B) :
 ∀ (m i:Nat) (env:Env),i+m=l.length->(∀ j (h:j<l.length),j<i->¬ (l[j]<least∨70368744177664<l[j]))->env.get 2=i64 least->env.get 3=.ptr (.own H.length 0 0 0 0) 0->env.get 17=x17->env.get 18=x18->env.get 19=x19 →
  env.get 33=sl l->env.get 34=i64 l.length->env.get 35=i64 i->LI Try.prog N drawB l39_1 env B K:=by
 intro m
 induction m with
 | zero =>
  intro i env hi hp h2 h3 h17 h18 h19 h33 h34 h35
  refine li_go hm l39_1.eq_1 ?_
  have e:i=l.length:=by omega
  subst e
  simp -implicitDefEqProofs[h34,h35]
  refine hexit ?_ _ (by simp[h2]) (by simp[h3]) (by simp[h17]) (by simp[h18]) (by simp[h19])
  rw[List.any_eq_false]
  intro x hx
  obtain⟨k,hk,rfl⟩:=List.getElem_of_mem hx
  simpa using hp k hk hk
 | succ m ih =>
  intro i env hi hp h2 h3 h17 h18 h19 h33 h34 h35
  refine li_go hm l39_1.eq_1 ?_
  have hil:i<l.length:=by omega
  have w1:=wrap_suc (show i<9223372036854775807 by omega)
  have bad:(l[i]<least∨70368744177664<l[i])->l.any (fun x=>decide (x<least)||decide (70368744177664<x))=true:=fun hb=>by
   rw[List.any_eq_true]
   exact⟨l[i],List.getElem_mem hil,by simpa using hb⟩
  by_cases c1:l[i]<least
  · simp -implicitDefEqProofs[h2,h3,h17,h18,h19,h33,h34,h35,hil,sl,c1]
    exact⟨by omega,hret (bad (.inl c1)) _ (by simp)⟩
  · by_cases c2:70368744177664<l[i]
    · simp -implicitDefEqProofs[h2,h3,h17,h18,h19,h33,h34,h35,hil,sl,c1,c2]
      exact⟨by omega,hret (bad (.inr c2)) _ (by simp)⟩
    · simp -implicitDefEqProofs[h2,h3,h17,h18,h19,h33,h34,h35,hil,sl,c1,c2]
      refine⟨by omega,ih (i+1) _ (by omega) (fun j hj hji => ?_) ?_ ?_ ?_ ?_ ?_ ?_ ?_ ?_⟩
      rotate_left
      · simp
      · simp[h3]
      · simp[h17]
      · simp[h18]
      · simp[h19]
      · simp[sl]
      · simp
      · simp[w1]
      by_cases e:j=i
      · subst e; exact fun h=>h.elim c1 c2
      · exact hp j hj (by omega)
set_option maxRecDepth 10000 in
theorem tlp39_0 (hW:Wg g) (hB:objCells B H.length 0=g.cells) (hLl:L.length=g.is.length) {N:Nat} {K:XE->Env->List AO->Prop}
 (hret:∀ e env,fstE (rowE g L least) g.is.length 0=e->env.get 6=i64 e->K .ret env B) (hexit:fstE (rowE g L least) g.is.length 0=0->∀ env,K (.exit 0) env B) :
 ∀ (m i:Nat) (env:Env),i+m=g.is.length->fstE (rowE g L least) m i=fstE (rowE g L least) g.is.length 0->env.get 2=i64 least->env.get 3=.ptr (.own H.length 0 0 0 0) 0->env.get 17=.slc (sls L) L.length->env.get 18=i64 L.length->env.get 19=i64 i →
  LI Try.prog N drawB l39_0 env B K:=by
 have hil:=hW.gd.i
 intro m
 induction m with
 | zero =>
  intro i env hi hE h2 h3 h17 h18 h19
  refine li_go hm l39_0.eq_1 ?_
  have e:i=L.length:=by omega
  subst e
  simp -implicitDefEqProofs[h18,h19]
  exact hexit hE.symm _
 | succ m ih =>
  intro i env hi hE h2 h3 h17 h18 h19
  refine li_go hm l39_0.eq_1 ?_
  have hii:i<g.is.length:=by omega
  have hiL:i<L.length:=by omega
  have hgi:g.is.getD i (0,0)=g.is[i]:=by simp[hii]
  have hgL:L.getD i []=L[i]:=by simp[hiL]
  have hac:=acts_le hW hii
  have ha:(g.acts i:Int)=g.is[i].2:=by unfold Gm.acts at hac ⊢; rw[hgi]at hac ⊢; omega
  have w1:=wrap_suc (show i<9223372036854775807 by omega)
  have hig:infs_at hii=infs_at hii:=rfl
  have i2:(infs g.is)[i*2+1]?.getD .any=i64 g.is[i].2:=by
   rw[←List.getElem?_drop,infs_at hii]; rfl
  have i3:(infs g.is).length=2*g.is.length:=infs_len _
  simp only[Gm.cells]at hB
  by_cases hl:(L[i].length:Int)=g.is[i].2
  · have hR:rowE g L least i=if L[i].any (fun x=>decide (x<least)||decide (70368744177664<x))=true then 2 else 0:=by
     unfold rowE
     rw[lenL_at hiL,hgi,if_neg (by simpa using hl),hgL]
    simp -implicitDefEqProofs[h2,h3,h17,h18,h19,hiL,hii,sls_get hiL,hB,i2,i3,hl,sl]
    repeat (refine⟨by omega,?_⟩)
    refine tlp39_1 (H:=H) (l:=L[i]) (least:=least) (by omega) (x17:=.slc (sls L) L.length) (x18:=i64 L.length) (x19:=i64 i) (fun hb env g6 => ?_) (fun hb env g2 g3 g17 g18 g19 => ?_) L[i].length 0 _ (by omega) (fun j hj hj0=>by omega) (by simp[h2]) (by simp[h3]) (by simp[h17]) (by simp[h18]) (by simp[h19]) (by simp[sl]) (by simp[hl]) (by simp)
    · simp -implicitDefEqProofs
      refine hret 2 _ ?_ g6
      rw[←hE]; simp[fstE,hR,hb]
    · simp -implicitDefEqProofs[g2,g3,g17,g18,g19]
      refine ih (i+1) _ (by omega) (by rw[←hE]; simp[fstE,hR,hb]) ?_ ?_ ?_ ?_ ?_
      · simp[g2]
      · simp[g3]
      · simp[g17]
      · simp[g18]
      · simp[w1]
  · have hR:rowE g L least i=3:=by
     unfold rowE
     rw[lenL_at hiL,hgi,if_pos hl]
    simp -implicitDefEqProofs[h2,h3,h17,h18,h19,hiL,hii,sls_get hiL,hB,i2,i3,hl,sl]
    repeat (refine⟨by omega,?_⟩)
    refine hret 3 _ ?_ (by simp)
    rw[←hE]; simp[fstE,hR]
theorem ok39 (hW:Wg g):Ok Try.prog 39 [.agg g.cells,.slc (sls L) L.length,i64 least] H (.ret (i64 (lstE g L least))) H:=by
 refine ok_fn hm Try.func39 c39 (by simp[Gm.cells,nds_under,infs_under,sls_under]) fun hcl => ?_
 simp -implicitDefEqProofs[i39,r39,Gm.cells]
 by_cases hl:L.length=g.is.length
 · have e:lstE g L least=fstE (rowE g L least) g.is.length 0:=by unfold lstE; rw[if_neg (by simpa using hl)]
   rw[e]
   simp -implicitDefEqProofs[hl]
   refine tlp39_0 (H:=H) (least:=least) (L:=L) hW (by simp[Gm.cells]) hl (fun e env he h6 => ?_) (fun he env => ?_) g.is.length 0 _ (by omega) rfl (by simp) (by simp) (by simp[hl]) (by simp[hl]) (by simp)
   · simp -implicitDefEqProofs[h6]
     rw[he]
     exact cv_fz 1 hcl rfl (by simp)
   · simp -implicitDefEqProofs
     rw[he]
     exact cv_fz 1 hcl rfl (by simp)
 · have e:lstE g L least=3:=by unfold lstE; rw[if_pos hl]
   rw[e]
   have hl2:¬ (L.length:Int)=g.is.length:=by omega
   simp -implicitDefEqProofs[hl2,hl]
   exact cv_fz 1 hcl rfl (by simp)
end
structure Tin where
 rnd:Int
 seed:Int
 A:List (List Int)
 P:List (List Int)
def Tin.cells (t:Tin):List SV:=[i64 t.rnd,i64 t.seed,.slc (sls t.A) t.A.length,.slc (sls t.P) t.P.length]
def valE (g:Gm) (t:Tin):Int:=if t.rnd<0∨1000000<t.rnd∨t.seed<0∨2147483646<t.seed then 2 else if lstE g t.A (-70368744177664)≠0 then lstE g t.A (-70368744177664)else lstE g t.P 0
def chkS (g:Gm) (t:Tin):Int:=if g.prpE≠0 then g.prpE else valE g t
theorem prp_form {g:Gm} (h:g.prpE=0):Wg g:=by
 unfold Gm.prpE at h
 by_cases hf:g.formE=0
 · exact wg_of hf
 · rw[if_pos hf]at h; exact absurd h hf
section
variable {g:Gm} {H:List AO} {t:Tin}
set_option maxRecDepth 10000 in
theorem ok16:Ok Try.prog 16 [.agg g.cells,.agg t.cells] H (.ret (i64 (chkS g t))) H:=by
 refine ok_fn hm Try.func16 c16 (by simp[Gm.cells,nds_under,infs_under,Tin.cells,sls_under]) fun hcl => ?_
 have h36:=fun H=>ok36 (H:=H) (g:=g)
 have h39:=fun H L le hW=>ok39 (H:=H) (g:=g) (L:=L) (least:=le) hW
 simp only[Gm.cells]at h36 h39
 simp -implicitDefEqProofs[i16,r16,Gm.cells,Tin.cells]
 refine call_go (h36 _) ?_
 by_cases hp:g.prpE=0
 · have hW:=prp_form hp
   have e:chkS g t=valE g t:=by unfold chkS; rw[if_neg (by simpa using hp)]
   rw[e]
   by_cases c1:t.rnd<0
   · simp -implicitDefEqProofs[hp,c1]
     exact cv_fz 1 hcl rfl (by simp[valE,c1])
   · by_cases c2:1000000<t.rnd
     · simp -implicitDefEqProofs[hp,c1,c2]
       exact cv_fz 1 hcl rfl (by simp[valE,c1,c2])
     · by_cases c3:t.seed<0
       · simp -implicitDefEqProofs[hp,c1,c2,c3]
         exact cv_fz 1 hcl rfl (by simp[valE,c1,c2,c3])
       · by_cases c4:2147483646<t.seed
         · simp -implicitDefEqProofs[hp,c1,c2,c3,c4]
           exact cv_fz 1 hcl rfl (by simp[valE,c1,c2,c3,c4])
         · simp -implicitDefEqProofs[hp,c1,c2,c3,c4]
           refine call_go (h39 _ _ _ hW) ?_
           by_cases c5:lstE g t.A (-70368744177664)=0
           · simp -implicitDefEqProofs[c5]
             refine call_go (h39 _ _ _ hW) ?_
             simp -implicitDefEqProofs
             exact cv_fz 1 hcl rfl (by simp[valE,c1,c2,c3,c4,c5])
           · simp -implicitDefEqProofs[c5]
             exact cv_fz 1 hcl rfl (by simp[valE,c1,c2,c3,c4,c5])
 · have e:chkS g t=g.prpE:=by unfold chkS; rw[if_pos hp]
   rw[e]
   simp -implicitDefEqProofs[hp]
   exact cv_fz 1 hcl rfl (by simp)
end
end Go.Proofs.Ytogjmpkehjfecaa.Rc
namespace Go.Proofs.Ytogjmpkehjfecaa.Rc
open Go.Ab Go.Ab.Shr
section
variable {g:Gm} {H B:List AO} {L:List (List Int)} {least:Int}
set_option maxRecDepth 10000 in
theorem tlp73_1 {i:Nat} (hi:i<L.length) (hl:L[i].length≤10) {N:Nat} {K:XE->Env->List AO->Prop}
 (hret:L[i].any (fun x=>decide (x<least)||decide (70368744177664<x))=true->∀ env,env.get 6=i64 2->K .ret env B)
 (hexit:L[i].any (fun x=>decide (x<least)||decide (70368744177664<x))=false->∀ env,env.get 1=.slc (sls L) L.length->env.get 2=i64 least->env.get 3=.ptr (.own H.length 0 0 0 0) 0->env.get 7=i64 i->K (.exit 2) env B) :
 ∀ (m k:Nat) (env:Env),k+m=L[i].length->(∀ j (h:j<L[i].length),j<k->¬ (L[i][j]<least∨70368744177664<L[i][j]))->env.get 1=.slc (sls L) L.length->env.get 2=i64 least->env.get 3=.ptr (.own H.length 0 0 0 0) 0->env.get 7=i64 i->env.get 8=i64 k->LI Try.prog N drawB l73_1 env B K:=by
 intro m
 induction m with
 | zero =>
  intro k env hk hp h1 h2 h3 h7 h8
  refine li_go hm l73_1.eq_1 ?_
  have e:k=L[i].length:=by omega
  subst e
  simp -implicitDefEqProofs[h1,h7,h8,hi,sls_get hi,sl]
  refine⟨by omega,hexit ?_ _ (by simp) (by simp[h2]) (by simp[h3]) (by simp)⟩
  rw[List.any_eq_false]
  intro x hx
  obtain⟨j,hj,rfl⟩:=List.getElem_of_mem hx
  simpa using hp j hj hj
 | succ m ih =>
  intro k env hk hp h1 h2 h3 h7 h8
  refine li_go hm l73_1.eq_1 ?_
  have hkl:k<L[i].length:=by omega
  have w1:=wrap_suc (show k<9223372036854775807 by omega)
  have bad:(L[i][k]<least∨70368744177664<L[i][k])->L[i].any (fun x=>decide (x<least)||decide (70368744177664<x))=true:=fun hb=>by
   rw[List.any_eq_true]
   exact⟨L[i][k],List.getElem_mem hkl,by simpa using hb⟩
  by_cases c1:L[i][k]<least
  · simp -implicitDefEqProofs[h1,h2,h3,h7,h8,hi,sls_get hi,sl,hkl,c1]
    repeat (refine⟨by omega,?_⟩)
    exact hret (bad (.inl c1)) _ (by simp)
  · by_cases c2:70368744177664<L[i][k]
    · simp -implicitDefEqProofs[h1,h2,h3,h7,h8,hi,sls_get hi,sl,hkl,c1,c2]
      repeat (refine⟨by omega,?_⟩)
      exact hret (bad (.inr c2)) _ (by simp)
    · simp -implicitDefEqProofs[h1,h2,h3,h7,h8,hi,sls_get hi,sl,hkl,c1,c2]
      repeat (refine⟨by omega,?_⟩)
      refine ih (k+1) _ (by omega) (fun j hj hji => ?_) ?_ ?_ ?_ ?_ ?_
      rotate_left
      · simp
      · simp
      · simp[h3]
      · simp
      · simp[w1]
      by_cases e:j=k
      · subst e; exact fun h=>h.elim c1 c2
      · exact hp j hj (by omega)
set_option maxRecDepth 10000 in
theorem tlp73_0 (hW:Wg g) (hB:objCells B H.length 0=g.cells) (hLl:L.length=g.is.length) {N:Nat} {K:XE->Env->List AO->Prop}
 (hret:∀ e env,fstE (rowE g L least) g.is.length 0=e->env.get 6=i64 e->K .ret env B) (hexit:fstE (rowE g L least) g.is.length 0=0->∀ env,K (.exit 0) env B) :
 ∀ (m i:Nat) (env:Env),i+m=g.is.length->fstE (rowE g L least) m i=fstE (rowE g L least) g.is.length 0->env.get 1=.slc (sls L) L.length->env.get 2=i64 least->env.get 3=.ptr (.own H.length 0 0 0 0) 0->env.get 7=i64 i →
  LI Try.prog N drawB l73_0 env B K:=by
 have hil:=hW.gd.i
 intro m
 induction m with
 | zero =>
  intro i env hi hE h1 h2 h3 h7
  refine li_go hm l73_0.eq_1 ?_
  have e:i=L.length:=by omega
  subst e
  simp -implicitDefEqProofs[h1,h7]
  exact hexit hE.symm _
 | succ m ih =>
  intro i env hi hE h1 h2 h3 h7
  refine li_go hm l73_0.eq_1 ?_
  have hii:i<g.is.length:=by omega
  have hiL:i<L.length:=by omega
  have hgi:g.is.getD i (0,0)=g.is[i]:=by simp[hii]
  have hgL:L.getD i []=L[i]:=by simp[hiL]
  have hac:=acts_le hW hii
  have ha:(g.acts i:Int)=g.is[i].2:=by unfold Gm.acts at hac ⊢; rw[hgi]at hac ⊢; omega
  have w1:=wrap_suc (show i<9223372036854775807 by omega)
  have i2:(infs g.is)[i*2+1]?.getD .any=i64 g.is[i].2:=by
   rw[←List.getElem?_drop,infs_at hii]; rfl
  have i3:(infs g.is).length=2*g.is.length:=infs_len _
  simp only[Gm.cells]at hB
  by_cases hl:(L[i].length:Int)=g.is[i].2
  · have hR:rowE g L least i=if L[i].any (fun x=>decide (x<least)||decide (70368744177664<x))=true then 2 else 0:=by
     unfold rowE
     rw[lenL_at hiL,hgi,if_neg (by simpa using hl),hgL]
    simp -implicitDefEqProofs[h1,h2,h3,h7,hiL,hii,sls_get hiL,hB,i2,i3,hl,sl]
    repeat (refine⟨by omega,?_⟩)
    refine tlp73_1 (H:=H) (least:=least) hiL (by omega) (fun hb env g6 => ?_) (fun hb env g1 g2 g3 g7 => ?_) L[i].length 0 _ (by omega) (fun j hj hj0=>by omega) (by simp) (by simp[h2]) (by simp[h3]) (by simp[h7]) (by simp)
    · simp -implicitDefEqProofs
      refine hret 2 _ ?_ g6
      rw[←hE]; simp[fstE,hR,hb]
    · simp -implicitDefEqProofs[g1,g2,g3,g7]
      refine ih (i+1) _ (by omega) (by rw[←hE]; simp[fstE,hR,hb]) ?_ ?_ ?_ ?_
      · simp[g1]
      · simp[g2]
      · simp[g3]
      · simp[w1]
  · have hR:rowE g L least i=3:=by
     unfold rowE
     rw[lenL_at hiL,hgi,if_pos hl]
    simp -implicitDefEqProofs[h1,h2,h3,h7,hiL,hii,sls_get hiL,hB,i2,i3,hl,sl]
    repeat (refine⟨by omega,?_⟩)
    refine hret 3 _ ?_ (by simp)
    rw[←hE]; simp[fstE,hR]
theorem ok73 (hW:Wg g):Ok Try.prog 73 [.agg g.cells,.slc (sls L) L.length,i64 least] H (.ret (i64 (lstE g L least))) H:=by
 refine ok_fn hm Try.func73 c73 (by simp[Gm.cells,nds_under,infs_under,sls_under]) fun hcl => ?_
 simp -implicitDefEqProofs[i73,r73,Gm.cells]
 by_cases hl:L.length=g.is.length
 · have e:lstE g L least=fstE (rowE g L least) g.is.length 0:=by unfold lstE; rw[if_neg (by simpa using hl)]
   rw[e]
   simp -implicitDefEqProofs[hl]
   refine tlp73_0 (H:=H) (least:=least) (L:=L) hW (by simp[Gm.cells]) hl (fun e env he h6 => ?_) (fun he env => ?_) g.is.length 0 _ (by omega) rfl (by simp[hl]) (by simp) (by simp) (by simp)
   · simp -implicitDefEqProofs[h6]
     rw[he]
     exact cv_fz 1 hcl rfl (by simp)
   · simp -implicitDefEqProofs
     rw[he]
     exact cv_fz 1 hcl rfl (by simp)
 · have e:lstE g L least=3:=by unfold lstE; rw[if_pos hl]
   rw[e]
   have hl2:¬ (L.length:Int)=g.is.length:=by omega
   simp -implicitDefEqProofs[hl2,hl]
   exact cv_fz 1 hcl rfl (by simp)
variable {t:Tin}
set_option maxRecDepth 10000 in
theorem ok55 (hW:Wg g):Ok Try.prog 55 [.agg g.cells,.agg t.cells] H (.ret (i64 (valE g t))) H:=by
 refine ok_fn hm Try.func55 c55 (by simp[Gm.cells,nds_under,infs_under,Tin.cells,sls_under]) fun hcl => ?_
 have h73:=fun H L le=>ok73 (H:=H) (g:=g) (L:=L) (least:=le) hW
 simp only[Gm.cells]at h73
 by_cases c1:t.rnd<0
 · simp -implicitDefEqProofs[i55,r55,Gm.cells,Tin.cells,c1]
   exact cv_fz 1 hcl rfl (by simp[valE,c1])
 · by_cases c2:1000000<t.rnd
   · simp -implicitDefEqProofs[i55,r55,Gm.cells,Tin.cells,c1,c2]
     exact cv_fz 1 hcl rfl (by simp[valE,c1,c2])
   · by_cases c3:t.seed<0
     · simp -implicitDefEqProofs[i55,r55,Gm.cells,Tin.cells,c1,c2,c3]
       exact cv_fz 1 hcl rfl (by simp[valE,c1,c2,c3])
     · by_cases c4:2147483646<t.seed
       · simp -implicitDefEqProofs[i55,r55,Gm.cells,Tin.cells,c1,c2,c3,c4]
         exact cv_fz 1 hcl rfl (by simp[valE,c1,c2,c3,c4])
       · simp -implicitDefEqProofs[i55,r55,Gm.cells,Tin.cells,c1,c2,c3,c4]
         refine call_go (h73 _ _ _) ?_
         by_cases c5:lstE g t.A (-70368744177664)=0
         · simp -implicitDefEqProofs[c5]
           refine call_go (h73 _ _ _) ?_
           simp -implicitDefEqProofs
           exact cv_fz 1 hcl rfl (by simp[valE,c1,c2,c3,c4,c5])
         · simp -implicitDefEqProofs[c5]
           exact cv_fz 1 hcl rfl (by simp[valE,c1,c2,c3,c4,c5])
end
end Go.Proofs.Ytogjmpkehjfecaa.Rc
namespace Go.Proofs.Ytogjmpkehjfecaa.Rc
open Go.Ab Go.Ab.Shr
section
variable {g:Gm} {H:List AO}
theorem tlp72_0 (hW:Wg g) {B:List AO} (hB:objCells B H.length 0=g.cells) {N:Nat} {K:XE->Env->List AO->Prop}
 (hret:fstE (perQ g) g.pl.toNat 0=13->∀ env,env.get 2=nl->env.get 3=i64 13->K .ret env B)
 (hexit:fstE (perQ g) g.pl.toNat 0=0->∀ env,env.get 1=.ptr (.own H.length 0 0 0 0) 0->K (.exit 0) env B) :
 ∀ (m p:Nat) (env:Env),((p+m:Nat):Int)=g.pl->fstE (perQ g) m p=fstE (perQ g) g.pl.toNat 0->env.get 1=.ptr (.own H.length 0 0 0 0) 0->env.get 4=i64 p->LI Try.prog N drawB l72_0 env B K:=by
 have hp4:=hW.gd.p4
 intro m
 induction m with
 | zero =>
  intro p env hp hE h1 h4
  refine li_go hm l72_0.eq_1 ?_
  simp only[Gm.cells]at hB
  simp -implicitDefEqProofs[h1,h4,hB,show ¬ (p:Int)<g.pl by omega]
  exact hexit hE.symm _ (by simp)
 | succ m ih =>
  intro p env hp hE h1 h4
  refine li_go hm l72_0.eq_1 ?_
  have hpp:(p:Int)<g.pl:=by omega
  have h86:=fun H=>ok86 (H:=H) (g:=g) hW p
  rw[←perf_eq hW]at h86
  simp only[Gm.cells]at h86 hB
  have w1:=wrap_suc (show p<9223372036854775807 by omega)
  simp -implicitDefEqProofs[h1,h4,hpp,hB]
  refine call_go (h86 _) ?_
  by_cases hq:g.perf p=true
  · have hE2:fstE (perQ g) m (p+1)=fstE (perQ g) g.pl.toNat 0:=by rw[←hE]; simp[fstE,perQ,hq]
    simp -implicitDefEqProofs[hq,h1,h4]
    refine ih (p+1) _ (by omega) hE2 ?_ ?_
    · simp
    · simp[w1]
  · have hE2:fstE (perQ g) g.pl.toNat 0=13:=by rw[←hE]; simp[fstE,perQ,hq]
    have hq':g.perf p=false:=by simpa using hq
    simp -implicitDefEqProofs[hq']
    exact hret hE2 _ (by simp) (by simp)
set_option maxRecDepth 10000 in
theorem tlp72_1 (hW:Wg g) {N:Nat} {K:XE->Env->List AO->Prop}
 (hexit:∀ env v cs M,env.get 6=.own (H.length+1) 0 g.is.length 2 v->K (.exit 2) env (H++gbox g::⟨cs,145,v,true⟩::M)) :
 ∀ (m i:Nat) (env:Env) (cs:List SV) (v:Nat) (M:List AO),i+m=g.is.length->cs.length=i*2->env.get 1=.ptr (.own H.length 0 0 0 0) 0->env.get 5=.slc (g.sets.map slN) g.is.length->env.get 6=.own (H.length+1) 0 i 2 v->env.get 7=i64 i →
  LI Try.prog N drawB l72_1 env (H++gbox g::⟨cs,145,v,true⟩::M) K:=by
 have hil:=hW.gd.i
 have hn:=hW.gd.n
 intro m
 induction m with
 | zero =>
  intro i env cs v M hi hc h1 h5 h6 h7
  refine li_go hm l72_1.eq_1 ?_
  have e:i=g.is.length:=by omega
  subst e
  simp -implicitDefEqProofs[h1,h7,gbox]
  exact hexit _ v cs M (by simp[h6])
 | succ m ih =>
  intro i env cs v M hi hc h1 h5 h6 h7
  refine li_go hm l72_1.eq_1 ?_
  have hii:i<g.is.length:=by omega
  obtain⟨t,ht,k1,k2,k3,k4⟩:=fn_of hW hii
  have hsl:i<g.sets.length:=by rw[sets_len]; exact hii
  have hgs:g.sets.getD i []=g.sets[i]:=by simp[hsl]
  rw[hgs]at k1
  obtain⟨r,hr⟩:∃ r,g.sets[i]=(t:Int)::r:=by
   cases hh:g.sets[i]with
   | nil=>rw[hh]at k1; cases k1
   | cons a r=>rw[hh]at k1; cases k1; exact⟨r,rfl⟩
  have hsN:slN g.sets[i]=.slc (i64 (t:Int)::ints r) (r.length+1):=by rw[hr]; simp[slN,sl,ints]
  have h87:=fun H=>ok87 (H:=H) (g:=g) hW ht (g.is[i].1)
  simp only[Gm.cells]at h87
  have w1:=wrap_suc (show i<9223372036854775807 by omega)
  have hwl:(g.way t g.is[i].1).length≤2000:=by have:=way_len (g:=g) (node:=t) (pl:=g.is[i].1); omega
  generalize g.way t g.is[i].1=W at *
  simp -implicitDefEqProofs[h1,h5,h6,h7,hii,gbox,hsl,hsN,infs_at hii,infs_min hii,infs_ge hii,sets_len]
  repeat (refine⟨by omega,?_⟩)
  refine callq_go (fun _=>h87 _) ?_
  by_cases h0:W.length=0
  · have hW0:W=[]:=List.eq_nil_of_length_eq_zero h0
    simp -implicitDefEqProofs[h1,h5,h6,h7,ws,hW0,infs,hii,hc]
    repeat (refine⟨by omega,?_⟩)
    refine ih (i+1) _ _ _ _ (by omega) (by simp[hc]; omega) ?_ ?_ ?_ ?_
    · simp
    · simp
    · simp
    · simp[w1]
  · have hz:W.length-1<W.length:=by omega
    have w2:IntKind.i64.wrap ((W.length:Int)-1)=((W.length-1:Nat):Int):=by rw[wrap_id (by omega) (by omega)]; omega
    have f1:(infs W)[(W.length-1)*2]?.getD .any=i64 W[W.length-1].1:=by
     have:=infs_at hz
     have h2:((infs W).drop ((W.length-1)*2))[0]? = some (i64 W[W.length-1].1):=by rw[this]; rfl
     rw[List.getElem?_drop,Nat.add_zero]at h2; rw[h2]; rfl
    have f2:(infs W)[(W.length-1)*2+1]?.getD .any=i64 W[W.length-1].2:=by
     rw[←List.getElem?_drop,infs_at hz]; rfl
    have f3:(infs W).length=2*W.length:=infs_len _
    simp -implicitDefEqProofs[h1,h5,h6,h7,ws,h0,hii,hc,w2,f1,f2,f3,show 0<W.length by omega]
    repeat (refine⟨by omega,?_⟩)
    refine ih (i+1) _ _ _ _ (by omega) (by simp[hc]; omega) ?_ ?_ ?_ ?_
    · simp
    · simp
    · simp
    · simp[w1]
set_option maxRecDepth 10000 in
theorem ok72 (hW:Wg g):Ok Try.prog 72 [.agg g.cells] H (.ret (.tup [.any,i64 (fstE (perQ g) g.pl.toNat 0)])) H:=by
 have hil:=hW.gd.i
 have hp1:=hW.gd.p1
 refine ok_fn hm Try.func72 c72 (by simp[Gm.cells,nds_under,infs_under]) fun hcl => ?_
 have h85:=fun H=>ok85 (H:=H) hW.gd
 simp only[Gm.cells]at h85
 have fin:∀ (x:SV) (L:List AO),Cv H.length (.tup [x,i64 (fstE (perQ g) g.pl.toNat 0)]) (H++L) (.tup [.any,i64 (fstE (perQ g) g.pl.toNat 0)]) H:=fun x L=>by
  refine Cv.le (cv_fz 3 hcl rfl rfl) ?_
  rw[fz_tup]
  refine le_tup ?_
  show leL [SV.fz H.length [] L 2 x,SV.fz H.length [] L 2 (i64 (fstE (perQ g) g.pl.toNat 0))] _
  rw[fz_i64]
  exact leL.cons (fun _ _ _=>.any _) (leL.refl _)
 simp -implicitDefEqProofs[i72,r72,Gm.cells]
 refine tlp72_0 (H:=H) hW (by simp[Gm.cells]) (fun he env h2 h3 => ?_) (fun he env h1 => ?_) g.pl.toNat 0 _ (by omega) rfl (by simp) (by simp)
 · simp -implicitDefEqProofs[h2,h3]
   have:=fin nl [⟨g.cells,25,0,true⟩]
   rw[he]at this ⊢
   simpa[Gm.cells]using this
 · simp -implicitDefEqProofs[h1]
   refine call_go (h85 _) ?_
   simp -implicitDefEqProofs[h1]
   have hg:H++[gbox g,⟨[],145,0,true⟩]=H++gbox g::⟨[],145,0,true⟩::[]:=rfl
   refine tlp72_1 hW (fun env v cs M h6 => ?_) g.is.length 0 _ [] 0 [] (by omega) rfl (by simp[h1]) (by simp) (by simp) (by simp)
   simp -implicitDefEqProofs[h6]
   rw[←he]
   exact fin _ _
theorem prpE_eq:g.prpE=if g.formR≠0 then g.formR else fstE (perQ g) g.pl.toNat 0:=by rw[formE_R]; rfl
theorem ok54:Ok Try.prog 54 [.agg g.cells] H (.ret (i64 g.prpE)) H:=by
 refine ok_fn hm Try.func54 c54 (by simp[Gm.cells,nds_under,infs_under]) fun hcl => ?_
 have h71:=fun H=>ok71 (H:=H) (g:=g)
 simp only[Gm.cells]at h71
 simp -implicitDefEqProofs[i54,r54,Gm.cells]
 refine call_go (h71 _) ?_
 by_cases hf:g.formR=0
 · have hW:=wg_of (by rw[←formE_R]; exact hf:g.formE=0)
   have h72:=fun H=>ok72 (H:=H) hW
   simp only[Gm.cells]at h72
   have e:g.prpE=fstE (perQ g) g.pl.toNat 0:=by rw[prpE_eq,if_neg (by simpa using hf)]
   simp -implicitDefEqProofs[hf]
   refine call_go (h72 _) ?_
   simp -implicitDefEqProofs
   rw[e]
   exact cv_fz 1 hcl rfl (by simp)
 · have e:g.prpE=g.formR:=by rw[prpE_eq,if_pos hf]
   simp -implicitDefEqProofs[hf,e]
   exact cv_fz 1 hcl rfl (by simp)
theorem ok31 {t:Tin}:Ok Try.prog 31 [.agg g.cells,.agg t.cells] H (.ret (i64 (chkS g t))) H:=by
 refine ok_fn hm Try.func31 c31 (by simp[Gm.cells,nds_under,infs_under,Tin.cells,sls_under]) fun hcl => ?_
 have h54:=fun H=>ok54 (H:=H) (g:=g)
 have h55:=fun H hW=>ok55 (H:=H) (g:=g) (t:=t) hW
 simp only[Gm.cells,Tin.cells]at h54 h55
 simp -implicitDefEqProofs[i31,r31,Gm.cells,Tin.cells]
 refine call_go (h54 _) ?_
 by_cases hp:g.prpE=0
 · have e:chkS g t=valE g t:=by unfold chkS; rw[if_neg (by simpa using hp)]
   simp -implicitDefEqProofs[hp,e]
   refine call_go (h55 _ (prp_form hp)) ?_
   simp -implicitDefEqProofs
   exact cv_fz 1 hcl rfl (by simp[e])
 · have e:chkS g t=g.prpE:=by unfold chkS; rw[if_pos hp]
   simp -implicitDefEqProofs[hp,e]
   exact cv_fz 1 hcl rfl (by simp)
end
end Go.Proofs.Ytogjmpkehjfecaa.Rc
namespace Go.Proofs.Ytogjmpkehjfecaa.Rc
open Go.Ab Go.Ab.Shr
abbrev rpt (f:Nat):SV:=.ptr (.own f 0 0 0 0) 0
def zT:AO:=⟨[i64 0,i64 0,nl,nl],28,0,true⟩
def eT (e:Int):AO:=⟨[i64 e],31,0,true⟩
section
variable {H:List AO}
theorem okD27n {f g:Nat} (hf:f<H.length) (hg:g<H.length):OkD Try.prog 27 [rpt f,rpt g] H none (fun H'=>H'=H):=by
 refine okD_rc hm Try.func27 c27 (by rfl) fun hcl => ?_
 simp -implicitDefEqProofs[i27s,i27,rvD,SV.isIf,SV.ifNil]
 exact cv_id
theorem okD27e {f g:Nat} {c1 c2:List SV} (hf:H[f]? = some ⟨c1,28,0,true⟩) (hc1:c1.length=4) (hg:H[g]? = some ⟨c2,31,0,true⟩) (hc2:c2.length=1) (hne:f≠g) :
 OkD Try.prog 27 [rpt f,rpt g] H (some panV) (fun H'=>H'=(H.set f zT).set g (eT 5)):=by
 have hj:=getElem?_lt hf
 have hjg:=getElem?_lt hg
 have e1:∀ L,objCells (H++L) f 0=c1:=fun L=>oc_at hf L
 have e10:objCells H f 0=c1:=oc0 hf
 have e2:∀ (L:List AO) (h:AO->AO),Ab.setObj (H++L) f h=H.set f (h ⟨c1,28,0,true⟩)++L:=fun L h=>so_at hf L h
 have hg':(H.set f zT)[g]? = some ⟨c2,31,0,true⟩:=by rw[List.getElem?_set_ne hne]; exact hg
 have hg2:((H.set f zT).set g (eT 13))[g]? = some (eT 13):=by rw[List.getElem?_set_self (by simpa using hjg)]
 have d1:List.drop 4 c1=[]:=List.drop_of_length_le (by omega)
 have d2:List.drop 1 c2=[]:=List.drop_of_length_le (by omega)
 have d3:c2.tail=[]:=by rw[←List.drop_one]; exact d2
 have s1:∀ h:AO->AO,Ab.setObj H f h=H.set f (h ⟨c1,28,0,true⟩):=fun h=>setObj_some hf h
 have o1:objCells (H.set f zT) g 0=c2:=oc0 hg'
 have s2:∀ h:AO->AO,Ab.setObj (H.set f zT) g h=(H.set f zT).set g (h ⟨c2,31,0,true⟩):=fun h=>setObj_some hg' h
 have o2:∀ L,objCells ((H.set f zT).set g (eT 13)++L) g 0=[i64 13]:=fun L=>oc_at hg2 L
 have s3:∀ (L:List AO) (h:AO->AO),Ab.setObj ((H.set f zT).set g (eT 13)++L) g h=((H.set f zT).set g (eT 13)).set g (h (eT 13))++L:=fun L h=>so_at hg2 L h
 have n1:∀ (L:List AO) (v:Nat),objCells ((H.set f zT).set g (eT 13)++L) H.length v=objCells L 0 v:=fun L v=>g2_n0 (H:=H) (L:=L) (a:=f) (k:=g) (o:=zT) (p:=eT 13) v
 have n2:∀ (L:List AO) (h:AO->AO),Ab.setObj ((H.set f zT).set g (eT 13)++L) H.length h=(H.set f zT).set g (eT 13)++Ab.setObj L 0 h:=fun L h=>by
  have:=g2_sn (H:=H) (L:=L) (a:=f) (k:=g) (o:=zT) (p:=eT 13) 0 h
  simpa[G2]using this
 have hcz:closed H->closed ((H.set f zT).set g (eT 5)):=fun hcl=>closed_set (closed_set hcl f (o:=zT) (by simp[zT])) g (by simp[eT])
 simp only[zT,eT]at o1 s2 o2 s3 n1 n2
 refine okD_rc hm Try.func27 c27 (by rfl) fun hcl => ?_
 simp -implicitDefEqProofs[i27s,i27,rvD,SV.isIf,SV.ifNil,panV,e10,s1,hc1,d1,o1,s2,hc2,d2,d3,o2,s3,SV.ifIs,SV.ifVal,n1,n2]
 refine⟨rfl,?_⟩
 exact cv_drop rfl (by simp) (by simpa[zT,eT]using hcz hcl) rfl
end
end Go.Proofs.Ytogjmpkehjfecaa.Rc
namespace Go.Proofs.Ytogjmpkehjfecaa.Rc
open Go.Ab Go.Ab.Shr
def okB (g:Gm) (s:TS):Bool:=(List.range g.is.length).all fun i=>(List.range (g.acts i)).all fun a => !(decide ((s.A i).getD a 0 < -70368744177664)) && !(decide (70368744177664<(s.A i).getD a 0)) && !(decide (70368744177664<(s.P i).getD a 0))
theorem okB_iff {g:Gm} {s:TS}:okB g s=true↔okTS g s:=by
 unfold okB okTS okAt
 simp only[List.all_eq_true,List.mem_range,Bool.and_eq_true,Bool.not_eq_true',decide_eq_false_iff_not]
 constructor
 · intro h i hi a ha; have:=h i hi a ha; exact⟨this.1.1,this.1.2,this.2⟩
 · intro h i hi a ha; have:=h i hi a ha; exact⟨⟨this.1,this.2.1⟩,this.2.2⟩
def rnds (g:Gm):Nat->TS->Option TS
 | 0,s=>some s
 | n+1,s=>if okB g (rndT g (cTC g) s)=true then rnds g n (rndT g (cTC g) s)else none
def Tin.zero:Tin:=⟨0,0,[],[]⟩
def outT (g:Gm) (s:TS):Tin:=⟨s.rnd,s.seed,(List.range g.is.length).map s.A,(List.range g.is.length).map s.P⟩
def runR (g:Gm) (t:Tin) (n:Int):Tin×Int :=
 if chkS g t≠0 then(.zero,chkS g t)else if n<0∨20000<n∨1000000<t.rnd+n then(.zero,2)else
  match rnds g n.toNat (s0T g t.rnd t.seed t.A t.P)with
  | none=>(.zero,5)
  | some s=>(outT g s,0)
theorem lst_zero {g:Gm} (hW:Wg g) {L:List (List Int)} {least:Int} (h:lstE g L least=0):L.length=g.is.length∧∀ i,i<g.is.length->lenL L i=g.acts i∧∀ x∈L.getD i [],least≤x∧x≤70368744177664:=by
 unfold lstE at h
 by_cases hl:L.length=g.is.length
 · rw[if_neg (by simpa using hl),fstE_zero]at h
   refine⟨hl,fun i hi => ?_⟩
   have hr:=h i (Nat.zero_le _) (by omega)
   have hgi:g.is.getD i (0,0)=g.is[i]:=by simp[hi]
   have hac:=acts_le hW hi
   have ha:(g.acts i:Int)=g.is[i].2:=by unfold Gm.acts at hac ⊢; rw[hgi]at hac ⊢; omega
   unfold rowE at hr
   rw[hgi]at hr
   by_cases h1:((lenL L i:Nat):Int)=g.is[i].2
   · rw[if_neg (by simpa using h1)]at hr
     refine⟨by omega,fun x hx => ?_⟩
     split at hr
     · cases hr
     · rename_i h2
       simp only[List.any_eq_true,not_exists,not_and,Bool.or_eq_true,decide_eq_true_eq]at h2
       have:=h2 x hx
       omega
   · rw[if_pos h1]at hr; cases hr
 · rw[if_pos hl]at h; cases h
theorem chk_zero {g:Gm} {t:Tin} (h:chkS g t=0):Wg g∧0≤t.rnd∧t.rnd≤1000000∧lstE g t.A (-70368744177664)=0∧lstE g t.P 0=0:=by
 unfold chkS at h
 by_cases hp:g.prpE=0
 · rw[if_neg (by simpa using hp)]at h
   unfold valE at h
   split at h
   · cases h
   · split at h
     · rename_i h1 h2; exact absurd h h2
     · rename_i h1 h2
       exact⟨prp_form hp,by omega,by omega,by simpa using h2,h⟩
 · rw[if_pos hp]at h; exact absurd h hp
theorem s0_ok {g:Gm} {t:Tin} (h:chkS g t=0):okTS g (s0T g t.rnd t.seed t.A t.P):=by
 obtain⟨hW,h1,h2,h3,h4⟩:=chk_zero h
 obtain⟨a1,a2⟩:=lst_zero hW h3
 obtain⟨p1,p2⟩:=lst_zero hW h4
 intro i hi a ha
 have la:a<(t.A.getD i []).length:=by have:=(a2 i hi).1; unfold lenL at this; omega
 have lp:a<(t.P.getD i []).length:=by have:=(p2 i hi).1; unfold lenL at this; omega
 have e1:(t.A.getD i []).getD a 0=(t.A.getD i [])[a]:=by rw[List.getD_eq_getElem?_getD,List.getElem?_eq_getElem la]; rfl
 have e2:(t.P.getD i []).getD a 0=(t.P.getD i [])[a]:=by rw[List.getD_eq_getElem?_getD,List.getElem?_eq_getElem lp]; rfl
 have q1:=(a2 i hi).2 _ (List.getElem_mem la)
 have q2:=(p2 i hi).2 _ (List.getElem_mem lp)
 unfold okAt
 simp only[s0T,e1,e2]
 omega
section
variable {H G:List AO}
theorem fz_rowG {p:Nat} (hp:H.length≤p) {l:List Int} {T:TypeId} {v:Nat} (h:G[p]? = some ⟨ints l,T,v,true⟩) (d:Nat):SV.fz H.length [] (G.drop H.length) (d+2) (.own p 0 l.length 1 v)=sl l:=by
 have hg:(G.drop H.length)[p-H.length]? = some ⟨ints l,T,v,true⟩:=by rw[List.getElem?_drop,show H.length+(p-H.length)=p by omega]; exact h
 unfold SV.fz
 rw[if_neg (by simp[SV.under]; omega)]
 simp only[hg,placeOf]
 simp[sl]
theorem fz_outs {g:Gm} {p:Nat} (hp:H.length≤p) {q:Nat->Nat} {n:Nat->Nat} {A:Nat->List Int} {v w:Nat} {T:TypeId} (h:G[p]? = some ⟨outs g.is.length q n v,T,w,true⟩)
 (hq:∀ i,i<g.is.length->H.length≤q i∧G[q i]? = some ⟨ints (A i),3,v,true⟩∧(A i).length=n i) (d:Nat) :
 SV.fz H.length [] (G.drop H.length) (d+3) (.own p 0 g.is.length 1 w)=.slc (sls ((List.range g.is.length).map A)) g.is.length:=by
 have hg:(G.drop H.length)[p-H.length]? = some ⟨outs g.is.length q n v,T,w,true⟩:=by rw[List.getElem?_drop,show H.length+(p-H.length)=p by omega]; exact h
 unfold SV.fz
 rw[if_neg (by simp[SV.under]; omega)]
 simp only[hg,placeOf]
 simp only[outs_len,Nat.mul_one,Nat.zero_add,Nat.le_refl,and_self,if_true,List.drop_zero]
 congr 1
 have e:List.take g.is.length (outs g.is.length q n v)=outs g.is.length q n v:=List.take_of_length_le (by simp)
 rw[e]
 simp only[outs,sls,List.map_map]
 apply List.map_congr_left
 intro i hi
 simp only[List.mem_range]at hi
 obtain⟨q1,q2,q3⟩:=hq i hi
 simp only[Function.comp_apply]
 rw[←q3]
 exact fz_rowG q1 q2 d
end
end Go.Proofs.Ytogjmpkehjfecaa.Rc
namespace Go.Proofs.Ytogjmpkehjfecaa.Rc
open Go.Ab Go.Ab.Shr
section
variable {H:List AO} {g:Gm}
def hb8 (H:List AO) (g:Gm) (t:Tin):List AO:=H++[gbox g,⟨t.cells,28,0,true⟩,zT,eT 0]
@[simp] theorem hb8_len (t:Tin):(hb8 H g t).length=H.length+4:=by simp[hb8]
theorem hb8_low {t:Tin} {i:Nat} (h:i<H.length):(hb8 H g t)[i]? = H[i]? := by unfold hb8; rw[List.getElem?_append_left h]
theorem hb8_at {t:Tin} (k:Nat):(hb8 H g t)[H.length+k]? = [gbox g,⟨t.cells,28,0,true⟩,zT,eT 0][k]? := by
 unfold hb8; rw[List.getElem?_append_right (by omega)]; congr 1; omega
theorem hb8_closed {t:Tin} (hcl:closed H):closed (hb8 H g t):=by
 intro i o ho s hs
 rw[hb8_len]
 by_cases hi:i<H.length
 · rw[hb8_low hi]at ho
   exact SV.under_mono (by omega) s (hcl i o ho s hs)
 · obtain⟨k,rfl⟩:∃ k,i=H.length+k:=⟨i-H.length,by omega⟩
   rw[hb8_at]at ho
   have hm:=List.mem_of_getElem? ho
   simp only[List.mem_cons,List.not_mem_nil,or_false]at hm
   have:SV.underL (H.length+4) o.cells=true:=by
    rcases hm with rfl | rfl | rfl | rfl
    · simp[gbox,nds_under,infs_under]
    · simp[Tin.cells,sls_under]
    · simp[zT]
    · simp[eT]
   exact(SV.underL_iff _ _).1 this s hs
set_option maxRecDepth 10000 in
theorem tlp8_0 (hW:Wg g) {B:List AO} {x6 x7:SV} {nn:Nat} (hn:nn≤20000) {s0:TS} {N:Nat} {K:XE->Env->List AO->Prop}
 (hpan:rnds g nn s0=none->∀ env G s,TW g B (cTC g) s G->env.get 6=x6->env.get 7=x7->K (.panic panV) env G)
 (hexit:∀ s,rnds g nn s0=some s->∀ env G,TW g B (cTC g) s G->env.get 6=x6->env.get 7=x7->env.get 9=.ptr (.own (pW B g) 0 0 0 0) 0->K (.exit 0) env G) :
 ∀ (m j:Nat) (env:Env) (G:List AO) (s:TS),j+m=nn->okTS g s->rnds g m s=rnds g nn s0->TW g B (cTC g) s G->env.get 6=x6->env.get 7=x7->env.get 9=.ptr (.own (pW B g) 0 0 0 0) 0->env.get 45=i64 nn->env.get 46=i64 j →
  LI Try.prog N drawB l8_0 env G K:=by
 intro m
 induction m with
 | zero =>
  intro j env G s hj hk hr h h6 h7 h9 h45 h46
  refine li_go hm l8_0.eq_1 ?_
  have e:j=nn:=by omega
  subst e
  simp -implicitDefEqProofs[h45,h46]
  exact hexit s hr.symm _ _ h (by simp[h6]) (by simp[h7]) (by simp[h9])
 | succ m ih =>
  intro j env G s hj hk hr h h6 h7 h9 h45 h46
  refine li_go hm l8_0.eq_1 ?_
  have hjn:j<nn:=by omega
  have w1:=wrap_suc (show j<9223372036854775807 by omega)
  simp -implicitDefEqProofs[h9,h45,h46,hjn]
  refine call_goP (ok30 hW (cTC_ok hW) h hk) fun out G' hP => ?_
  obtain⟨h2,⟨hk2,rfl⟩ | ⟨hk2,rfl⟩⟩:=hP
  · simp -implicitDefEqProofs[h6,h7,h9,h45,h46]
    refine ih (j+1) _ _ _ (by omega) hk2 ?_ h2 ?_ ?_ ?_ ?_ ?_
    · rw[←hr]; simp[rnds,okB_iff.2 hk2]
    · simp[h6]
    · simp[h7]
    · simp
    · simp
    · simp[w1]
  · simp -implicitDefEqProofs
    refine hpan ?_ _ _ _ h2 (by simp[h6]) (by simp[h7])
    rw[←hr]
    have:¬ okB g (rndT g (cTC g) s)=true:=fun hb=>hk2 (okB_iff.1 hb)
    simp[rnds,this]
theorem fin8e {t:Tin} {n:Int} (hcl:closed H) (he:runR g t n=(.zero,5)) {s:TS} {G:List AO} {env:Env} (h:TW g (hb8 H g t) (cTC g) s G) (h6:env.get 6=rpt (H.length+2)) (h7:env.get 7=rpt (H.length+3)) :
 FinD Try.prog H.length r8 (fun o h=>o=.ret (.tup [.agg (runR g t n).1.cells,i64 (runR g t n).2])∧h=H) 27 [rpt (H.length+2),rpt (H.length+3)] (.panic panV) env G:=by
 have g2:G[H.length+2]? = some ⟨[i64 0,i64 0,nl,nl],28,0,true⟩:=by rw[h.low _ (by simp),hb8_at]; rfl
 have g3:G[H.length+3]? = some ⟨[i64 0],31,0,true⟩:=by rw[h.low _ (by simp),hb8_at]; rfl
 refine⟨_,okD27e g2 rfl g3 rfl (by omega),?_⟩
 rintro H4 rfl
 have l2:=getElem?_lt g2
 have l3:=getElem?_lt g3
 have e2:objCells ((G.set (H.length+2) zT).set (H.length+3) (eT 5)) (H.length+2) 0=[i64 0,i64 0,nl,nl]:=oc0 (T:=28) (by rw[List.getElem?_set_ne (by omega),List.getElem?_set_self l2]; rfl)
 have e3:objCells ((G.set (H.length+2) zT).set (H.length+3) (eT 5)) (H.length+3) 0=[i64 5]:=oc0 (T:=31) (by rw[List.getElem?_set_self (by simpa using l3)]; rfl)
 obtain⟨L,hL⟩:∃ L,(G.set (H.length+2) zT).set (H.length+3) (eT 5)=H++L:=by
  refine⟨((G.set (H.length+2) zT).set (H.length+3) (eT 5)).drop H.length,?_⟩
  apply List.ext_getElem?
  intro i
  by_cases hi:i<H.length
  · rw[List.getElem?_set_ne (by omega),List.getElem?_set_ne (by omega),h.low i (by simp; omega),hb8_low hi,List.getElem?_append_left hi]
  · rw[List.getElem?_append_right (by omega),List.getElem?_drop]
    congr 1; omega
 refine⟨?_,_,H,⟨rfl,rfl⟩,?_⟩
 · intro s hs
   simp only[r8,List.mem_cons,List.not_mem_nil,or_false]at hs
   rcases hs with rfl | rfl
   · simp[RS.side,h6,rpt,e2]
   · simp[RS.side,h7,rpt,e3]
 · have hr:resV env ((G.set (H.length+2) zT).set (H.length+3) (eT 5)) r8=.tup [.agg [i64 0,i64 0,nl,nl],i64 5]:=by
    simp[resV,r8,RS.ev,h6,h7,rpt,e2,e3]
   rw[hr,hL,he]
   refine Cv.le (cv_fz (r:=.tup [.agg [i64 0,i64 0,nl,nl],i64 5]) 3 hcl rfl (fz_under rfl)) ?_
   refine le_tup (leL.cons (le_agg (leL.cons (SV.le.refl _) (leL.cons (SV.le.refl _) (leL.cons le_nil (leL.cons le_nil leL.nil))))) (leL.refl _))
end
end Go.Proofs.Ytogjmpkehjfecaa.Rc
namespace Go.Proofs.Ytogjmpkehjfecaa.Rc
open Go.Ab Go.Ab.Shr
section
variable {H:List AO} {g:Gm}
theorem zero_le (e:Int):SV.le (.tup [.agg [i64 0,i64 0,nl,nl],i64 e]) (.tup [.agg Tin.zero.cells,i64 e]) :=
 le_tup (leL.cons (le_agg (leL.cons (SV.le.refl _) (leL.cons (SV.le.refl _) (leL.cons le_nil (leL.cons le_nil leL.nil))))) (leL.refl _))
theorem cv_zero (hcl:closed H) (e:Int) (L:List AO):Cv H.length (.tup [.agg [i64 0,i64 0,nl,nl],i64 e]) (H++L) (.tup [.agg Tin.zero.cells,i64 e]) H :=
 Cv.le (cv_fz (r:=.tup [.agg [i64 0,i64 0,nl,nl],i64 e]) 3 hcl rfl (fz_under rfl)) (zero_le e)
theorem fin8r {t:Tin} {n:Int} (hcl:closed H) {s:TS} (he:runR g t n=(outT g s,0)) {G:List AO} {env:Env} (h:TW g (hb8 H g t) (cTC g) s G) (h6:env.get 6=rpt (H.length+2)) (h7:env.get 7=rpt (H.length+3)) :
 FinD Try.prog H.length r8 (fun o h=>o=.ret (.tup [.agg (runR g t n).1.cells,i64 (runR g t n).2])∧h=H) 27 [rpt (H.length+2),rpt (H.length+3)] .ret env
  ((G.set (H.length+2) ⟨[i64 s.rnd,i64 s.seed,.own (pAo (hb8 H g t) g) 0 g.is.length 1 0,.own (pPo (hb8 H g t) g) 0 g.is.length 1 0],28,0,true⟩).set (H.length+3) (eT 0)):=by
 have g2:G[H.length+2]? = some ⟨[i64 0,i64 0,nl,nl],28,0,true⟩:=by rw[h.low _ (by simp),hb8_at]; rfl
 have g3:G[H.length+3]? = some ⟨[i64 0],31,0,true⟩:=by rw[h.low _ (by simp),hb8_at]; rfl
 have l2:=getElem?_lt g2
 have l3:=getElem?_lt g3
 refine⟨_,okD27n (by simpa using l2) (by simpa using l3),?_⟩
 rintro H4 rfl
 generalize hG2:(G.set (H.length+2) ⟨[i64 s.rnd,i64 s.seed,.own (pAo (hb8 H g t) g) 0 g.is.length 1 0,.own (pPo (hb8 H g t) g) 0 g.is.length 1 0],28,0,true⟩).set (H.length+3) (eT 0)=G2
 have e2:objCells G2 (H.length+2) 0=[i64 s.rnd,i64 s.seed,.own (pAo (hb8 H g t) g) 0 g.is.length 1 0,.own (pPo (hb8 H g t) g) 0 g.is.length 1 0]:=oc0 (T:=28) (by rw[←hG2,List.getElem?_set_ne (by omega),List.getElem?_set_self l2])
 have e3:objCells G2 (H.length+3) 0=[i64 0]:=oc0 (T:=31) (by rw[←hG2,List.getElem?_set_self (by simpa using l3)]; rfl)
 have up:∀ i,H.length+4≤i->G2[i]? = G[i]? := fun i hi=>by rw[←hG2,List.getElem?_set_ne (by omega),List.getElem?_set_ne (by omega)]
 have hL:G2=H++G2.drop H.length:=by
  apply List.ext_getElem?
  intro i
  by_cases hi:i<H.length
  · rw[List.getElem?_append_left hi,<- hG2,List.getElem?_set_ne (by omega),List.getElem?_set_ne (by omega),h.low i (by simp; omega),hb8_low hi]
  · rw[List.getElem?_append_right (by omega),List.getElem?_drop]
    congr 1; omega
 refine⟨?_,_,H,⟨rfl,rfl⟩,?_⟩
 · intro s hs
   simp only[r8,List.mem_cons,List.not_mem_nil,or_false]at hs
   rcases hs with rfl | rfl
   · simp[RS.side,h6,rpt,e2]
   · simp[RS.side,h7,rpt,e3]
 · have hr:resV env G2 r8=.tup [.agg [i64 s.rnd,i64 s.seed,.own (pAo (hb8 H g t) g) 0 g.is.length 1 0,.own (pPo (hb8 H g t) g) 0 g.is.length 1 0],i64 0]:=by
    simp[resV,r8,RS.ev,h6,h7,rpt,e2,e3]
   rw[hr,he]
   have hA:=fz_outs (H:=H) (G:=G2) (g:=g) (p:=pAo (hb8 H g t) g) (by unfold pAo; simp) (A:=s.A) (by rw[up _ (by unfold pAo; simp)]; exact h.ao) (fun i hi=>⟨by unfold pA; simp; omega,by rw[up _ (by unfold pA; simp; omega)]; exact h.a i hi,h.l.A i hi⟩) 1
   have hP:=fz_outs (H:=H) (G:=G2) (g:=g) (p:=pPo (hb8 H g t) g) (by unfold pPo; simp; omega) (A:=s.P) (by rw[up _ (by unfold pPo; simp; omega)]; exact h.po) (fun i hi=>⟨by unfold pP; simp; omega,by rw[up _ (by unfold pP; simp; omega)]; exact h.p i hi,h.l.P i hi⟩) 1
   have hfz:SV.fz H.length [] (G2.drop H.length) 6 (.tup [.agg [i64 s.rnd,i64 s.seed,.own (pAo (hb8 H g t) g) 0 g.is.length 1 0,.own (pPo (hb8 H g t) g) 0 g.is.length 1 0],i64 0])=.tup [.agg (outT g s).cells,i64 0]:=by
    rw[fz_tup]
    simp only[List.map_cons,List.map_nil,fz_i64]
    rw[fz_agg]
    simp only[List.map_cons,List.map_nil,fz_i64]
    rw[hA,hP]
    simp[outT,Tin.cells]
   have:=cv_fz (n0:=H.length) (H:=H) (L:=G2.drop H.length) 6 hcl rfl hfz
   rw[←hL]at this
   exact this
theorem ok8 (t:Tin) (n:Int) (hn : -9223372036854775808≤n∧n≤9223372036854775807):Ok Try.prog 8 [.agg g.cells,.agg t.cells,i64 n] H (.ret (.tup [.agg (runR g t n).1.cells,i64 (runR g t n).2])) H:=by
 refine OkP.toOk (okP_ds hm Try.func8 c8 (by rfl) fun hcl => ?_)
 have h16:=fun H=>ok16 (H:=H) (g:=g) (t:=t)
 simp only[Gm.cells,Tin.cells]at h16
 simp -implicitDefEqProofs[XL,i8p,i8a0,i8a1,i8a2,Gm.cells,Tin.cells]
 refine call_go (h16 _) ?_
 by_cases hc:chkS g t=0
 · obtain⟨hW,r1,r2,r3,r4⟩:=chk_zero hc
   by_cases hb:n<0∨20000<n∨1000000<t.rnd+n
   · have e:runR g t n=(.zero,2):=by unfold runR; rw[if_neg (by simpa using hc),if_pos hb]
     have fin:FinQ H.length (fun o h=>o=.ret (.tup [.agg (runR g t n).1.cells,i64 (runR g t n).2])∧h=H) (.tup [.agg [i64 0,i64 0,nl,nl],i64 2]) (H++[⟨[i64 g.pl,.slc (nds g.ns) g.ns.length,.slc (infs g.is) g.is.length],25,0,true⟩,⟨[i64 t.rnd,i64 t.seed,.slc (sls t.A) t.A.length,.slc (sls t.P) t.P.length],28,0,true⟩,⟨[i64 0,i64 0,nl,nl],28,0,true⟩,⟨[i64 2],31,0,true⟩]):=by
      rw[e]
      exact⟨_,_,⟨rfl,rfl⟩,cv_zero hcl _ _⟩
     by_cases b1:n<0
     · simp -implicitDefEqProofs[hc,XL,FinE,r8,b1]
       exact⟨rfl,fin⟩
     · by_cases b2:20000<n
       · simp -implicitDefEqProofs[hc,XL,FinE,r8,b1,b2]
         exact⟨rfl,fin⟩
       · have b3:1000000<t.rnd+n:=by omega
         have w1:IntKind.i64.wrap (t.rnd+n)=t.rnd+n:=wrap_id (by omega) (by omega)
         simp -implicitDefEqProofs[hc,XL,FinE,r8,b1,b2,w1,b3]
         exact⟨rfl,fin⟩
   · have b1:¬ n<0:=by omega
     have b2:¬ 20000<n:=by omega
     have b3:¬ 1000000<t.rnd+n:=by omega
     have w1:IntKind.i64.wrap (t.rnd+n)=t.rnd+n:=wrap_id (by omega) (by omega)
     obtain⟨a1,a2⟩:=lst_zero hW r3
     obtain⟨p1,p2⟩:=lst_zero hW r4
     have hil:=hW.gd.i
     have rw_ok:∀ (L:List (List Int)),L.length=g.is.length->(∀ i,i<g.is.length->lenL L i=g.acts i)->∀ l∈L,l≠[]∧l.length≤1000000:=fun L hL hl l hm=>by
      obtain⟨k,hk,rfl⟩:=List.getElem_of_mem hm
      have h1:=hl k (by omega)
      rw[lenL_at hk]at h1
      have h2:=acts_le hW (show k<g.is.length by omega)
      exact⟨fun e=>by rw[e]at h1; simp at h1; omega,by omega⟩
     have hA:=rw_ok t.A a1 fun i hi=>(a2 i hi).1
     have hP:=rw_ok t.P p1 fun i hi=>(p2 i hi).1
     simp -implicitDefEqProofs[hc,XL,FinE,r8,b1,b2,w1,b3,i8s,i8f,i8]
     refine⟨27,_,⟨rfl,rfl⟩,call_go (ok29 hA (by omega)) ?_⟩
     simp -implicitDefEqProofs
     refine call_go (ok29 hP (by omega)) ?_
     simp -implicitDefEqProofs[a1,p1]
     have h28:=ok28 (H:=hb8 H g t) (rnd:=t.rnd) (seed:=t.seed) hW (hb8_closed hcl) a1 p1 (fun i hi=>(a2 i hi).1) (fun i hi=>(p2 i hi).1)
     have q1:H.length+(g.is.length+1+1+1+1+1)=(hb8 H g t).length+1+g.is.length:=by simp; omega
     have q2:(fun i=>H.length+(g.is.length+1+1+1+1+1+1)+i)=fun i=>(hb8 H g t).length+1+t.A.length+1+i:=by funext i; simp; omega
     have q3:(fun i=>H.length+5+i)=fun i=>(hb8 H g t).length+1+i:=by funext i; simp
     have q4:H.length+4=(hb8 H g t).length:=by simp
     have hHeap:(H ++
     ⟨[i64 g.pl,.slc (nds g.ns) g.ns.length,.slc (infs g.is) g.is.length],25,0,true⟩ ::
      ⟨[i64 t.rnd,i64 t.seed,.slc (sls t.A) g.is.length,.slc (sls t.P) g.is.length],28,0,true⟩ ::
       ⟨[i64 0,i64 0,.val (.slice none 0 0),.val (.slice none 0 0)],28,0,true⟩ ::
        ⟨[i64 0],31,0,true⟩ ::
         ⟨outs g.is.length (fun i=>H.length+5+i) (lenL t.A) 1,36,0,true⟩ ::
          (List.map (rowO 1) t.A ++
           ⟨outs g.is.length (fun i=>H.length+(g.is.length+1+1+1+1+1+1)+i) (lenL t.P) 1,36,0,true⟩ ::
            List.map (rowO 1) t.P))=baseT (hb8 H g t) t.A t.P:=by
      rw[q2,q3]
      unfold baseT
      rw[a1,p1]
      simp only[hb8,gbox,zT,eT,Tin.cells,List.append_assoc,List.cons_append,List.nil_append,a1,p1]
     rw[hHeap,q1,q4]
     simp only[Gm.cells]at h28
     refine call_goP h28 fun out G1 hP => ?_
     obtain⟨rfl,h⟩:=hP
     have hgb:objCells G1 H.length 0=[i64 g.pl,.slc (nds g.ns) g.ns.length,.slc (infs g.is) g.is.length]:=oc0 (T:=25) (by rw[h.low _ (by simp)]; have:=hb8_at (H:=H) (g:=g) (t:=t) 0; rw[Nat.add_zero]at this; rw[this]; rfl)
     have htb:objCells G1 (H.length+1) 0=t.cells:=oc0 (T:=28) (by rw[h.low _ (by simp),hb8_at]; rfl)
     simp only[Tin.cells]at htb
     have hrun:∀ o,rnds g n.toNat (s0T g t.rnd t.seed t.A t.P)=o->runR g t n=(match o with | none=>(.zero,5) | some s=>(outT g s,0)):=fun o ho=>by
      unfold runR
      rw[if_neg (by simpa using hc),if_neg hb,ho]
      all_goals (cases o<;>rfl)
     simp -implicitDefEqProofs[hgb,htb]
     have hnn:((n.toNat:Nat):Int)=n:=by omega
     refine tlp8_0 (nn:=n.toNat) hW (x6:=rpt (H.length+2)) (x7:=rpt (H.length+3)) (by omega) (fun hr env G s hG g6 g7 => ?_) (fun s hr env G hG g6 g7 g9 => ?_) n.toNat 0 _ _ _ (by omega) (s0_ok hc) rfl h (by simp) (by simp) (by simp) (by simp[hnn]) (by simp)
     · exact fin8e hcl (hrun _ hr) hG g6 g7
     · have hwc:=hG.cw0
       have k2:G[H.length+2]? = some ⟨[i64 0,i64 0,nl,nl],28,0,true⟩:=by rw[hG.low _ (by simp),hb8_at]; rfl
       have k3:G[H.length+3]? = some ⟨[i64 0],31,0,true⟩:=by rw[hG.low _ (by simp),hb8_at]; rfl
       have o2:=oc0 k2
       have s2:=setObj_some k2
       have k4:(G.set (H.length+2) ⟨[i64 s.rnd,i64 s.seed,.own (pAo (hb8 H g t) g) 0 g.is.length 1 0,.own (pPo (hb8 H g t) g) 0 g.is.length 1 0],28,0,true⟩)[H.length+3]? = some ⟨[i64 0],31,0,true⟩:=by rw[List.getElem?_set_ne (by omega)]; exact k3
       have o3:=oc0 k4
       have s3:=setObj_some k4
       simp -implicitDefEqProofs[g6,g7,g9,hwc,wHead,o2,s2,o3,s3]
       exact fin8r hcl (hrun _ hr) hG (by simp[g6]) (by simp[g7])
 · have e:runR g t n=(.zero,chkS g t):=by unfold runR; rw[if_pos hc]
   simp -implicitDefEqProofs[hc,XL,FinE,r8]
   rw[e]
   exact⟨rfl,_,_,⟨rfl,rfl⟩,cv_zero hcl _ _⟩
end
end Go.Proofs.Ytogjmpkehjfecaa.Rc
namespace Go.Proofs.Ytogjmpkehjfecaa.Rc
open Go.Ab Go.Ab.Shr
section
variable {H:List AO}
theorem tlp75_0 {l:List Int} (hl:l.length≤1000000) {N:Nat} {K:XE->Env->List AO->Prop} (hexit:∀ env,env.get 3=i64 (wsum l)->K (.exit 0) env H) :
 ∀ (m i:Nat) (env:Env),i+m=l.length->env.get 0=sl l->env.get 3=i64 (wsK l i)->env.get 4=i64 i->LI Try.prog N drawB l75_0 env H K:=by
 intro m
 induction m with
 | zero =>
  intro i env hi h0 h3 h4
  refine li_go hm l75_0.eq_1 ?_
  have e:i=l.length:=by omega
  subst e
  simp -implicitDefEqProofs[h0,h4,sl]
  exact hexit _ (by simp[h3,wsum])
 | succ m ih =>
  intro i env hi h0 h3 h4
  refine li_go hm l75_0.eq_1 ?_
  have hil:i<l.length:=by omega
  have w1:=wrap_suc (show i<9223372036854775807 by omega)
  have e1:IntKind.i64.wrap (wsK l i+l[i])=wsK l (i+1):=by simp[wsK,hil]
  simp -implicitDefEqProofs[h0,h3,h4,sl,hil,e1]
  refine⟨by omega,ih (i+1) _ (by omega) ?_ ?_ ?_⟩
  · simp[sl]
  · simp
  · simp[w1]
theorem ok75 {l:List Int} (hl:l.length≤1000000):Ok Try.prog 75 [sl l] H (.ret (i64 (wsum l))) H:=by
 refine ok_fn hm Try.func75 c75 (by simp[sl]) fun hcl => ?_
 simp -implicitDefEqProofs[i75,r75]
 refine tlp75_0 hl (fun env h3 => ?_) l.length 0 _ (by omega) (by simp) (by simp[wsK]) (by simp)
 simp -implicitDefEqProofs[h3]
 exact cv_id
def S74 (H:List AO) (o r:List Int):List AO:=H++[⟨ints o,3,1,true⟩,⟨ints r,3,1,true⟩]
theorem tlp74_0 {l:List Int} (hl:l.length≤10) (hr:∀ v∈l,v≤70368744177664) {N:Nat} {K:XE->Env->List AO->Prop} (hexit:∀ env,env.get 0=sl l->env.get 3=i64 l.length->env.get 4=i64 (totI l)->K (.exit 0) env H) :
 ∀ (m i:Nat) (env:Env),i+m=l.length->env.get 0=sl l->env.get 3=i64 l.length->env.get 4=i64 (totK l i)->env.get 5=i64 i->LI Try.prog N drawB l74_0 env H K:=by
 intro m
 induction m with
 | zero =>
  intro i env hi h0 h3 h4 h5
  refine li_go hm l74_0.eq_1 ?_
  have e:i=l.length:=by omega
  subst e
  simp -implicitDefEqProofs[h3,h5]
  exact hexit _ (by simp[h0]) (by simp[h3]) (by simp[h4,totI])
 | succ m ih =>
  intro i env hi h0 h3 h4 h5
  refine li_go hm l74_0.eq_1 ?_
  have hil:i<l.length:=by omega
  have w1:=wrap_suc (show i<9223372036854775807 by omega)
  have b1:=tot_le hl hr i (by omega)
  have b2:=totK_nn l i
  have hv:=hr _ (List.getElem_mem hil)
  have e1:IntKind.i64.wrap (totK l i+max 0 l[i])=totK l (i+1):=by rw[Int.max_comm,totK_suc hil]; exact wrap_id (by omega) (by omega)
  simp -implicitDefEqProofs[h0,h3,h4,h5,sl,hil,e1]
  refine⟨by omega,ih (i+1) _ (by omega) ?_ ?_ ?_ ?_⟩
  · simp[sl]
  · simp
  · simp
  · simp[w1]
def rsrI (l:List Int) (i:Nat):Int:=if totI l=0 then 1 else rstI l (totI l) i
set_option maxRecDepth 10000 in
theorem tlp74_1 {l:List Int} (hl:l.length≤10) (h0':0<l.length) (hr:∀ v∈l,-70368744177664≤v∧v≤70368744177664) {N:Nat} {K:XE->Env->List AO->Prop}
 (hexit:∀ env,env.get 3=i64 l.length->env.get 6=.own H.length 0 l.length 1 1->env.get 7=.own (H.length+1) 0 l.length 1 1->env.get 8=i64 (lefI l)->K (.exit 2) env (S74 H (rowF l.length (floI l (totI l))) (rowF l.length (rsrI l)))) :
 ∀ (m i:Nat) (f r:Nat->Int) (env:Env),i+m=l.length->(∀ j,j<i->f j=floI l (totI l) j)->(∀ j,j<i->r j=rsrI l j) →
  env.get 0=sl l->env.get 3=i64 l.length->env.get 4=i64 (totI l)->env.get 6=.own H.length 0 l.length 1 1->env.get 7=.own (H.length+1) 0 l.length 1 1->env.get 8=i64 (lefK l i)->env.get 9=i64 i →
  LI Try.prog N drawB l74_1 env (S74 H (rowF l.length f) (rowF l.length r)) K:=by
 intro m
 induction m with
 | zero =>
  intro i f r env hi hf hr2 h0 h3 h4 h6 h7 h8 h9
  refine li_go hm l74_1.eq_1 ?_
  have e:i=l.length:=by omega
  subst e
  have e1:rowF l.length f=rowF l.length (floI l (totI l)):=List.map_congr_left fun j hj=>hf j (by simpa using hj)
  have e2:rowF l.length r=rowF l.length (rsrI l):=List.map_congr_left fun j hj=>hr2 j (by simpa using hj)
  rw[e1,e2]
  simp -implicitDefEqProofs[h3,h9]
  exact hexit _ (by simp[h3]) (by simp[h6]) (by simp[h7]) (by simp[h8,lefI])
 | succ m ih =>
  intro i f r env hi hf hr2 h0 h3 h4 h6 h7 h8 h9
  refine li_go hm l74_1.eq_1 ?_
  have hil:i<l.length:=by omega
  have w1:=wrap_suc (show i<9223372036854775807 by omega)
  have hv:=hr _ (List.getElem_mem hil)
  have hfn:=floI_nn l i
  have hlk:=lefK_suc l i
  have htn:=tot_nn l
  have hb:=lefK_rng h0' i hil
  have w3:IntKind.i64.wrap (lefK l i-floI l (totI l) i)=lefK l (i+1):=by rw[hlk]; exact wrap_id (by omega) (by omega)
  have key:=fun env=>ih (i+1) (put f i (floI l (totI l) i)) (put r i (rsrI l i)) env (by omega) (fun j hj=>by unfold put; split; rename_i e; rw[e]; exact hf j (by omega)) (fun j hj=>by unfold put; split; rename_i e; rw[e]; exact hr2 j (by omega))
  have e3:∀ (f:Nat->Int) (y:Int),List.take i (ints (rowF l.length f))++i64 y::List.drop (i+1) (ints (rowF l.length f))=ints (rowF l.length (put f i y)):=fun f y=>by rw[ints_set (by simpa using hil),rowF_set]
  have e4:∀ f:Nat->Int,(ints (rowF l.length f))[i]?.getD .any=i64 (f i):=fun f=>by rw[ints_at (by simpa using hil),rowF_getD hil]
  have e5:∀ (f:Nat->Int) (y:Int),(put f i y) i=y:=fun f y=>by simp[put]
  by_cases ht:totI l=0
  · have hF:floI l (totI l) i=65536 / (l.length:Int):=by rw[floI_at hil,if_pos ht]
    have hR:rsrI l i=1:=by unfold rsrI; rw[if_pos ht]
    have w4:IntKind.i64.wrap (Int.tdiv 65536 (l.length:Int))=floI l (totI l) i:=by
     have:65536 / (l.length:Int)≤65536:=Int.ediv_le_self _ (by omega)
     rw[hF,Int.tdiv_eq_ediv_of_nonneg (by omega)]
     exact wrap_id (by omega) (by omega)
    have hne:¬ l=[]:=fun e=>by rw[e]at h0'; simp at h0'
    have hd:(totI l=0)=True:=eq_true ht
    rw[hR]at key
    generalize totI l=t at *
    simp -implicitDefEqProofs[S74,h0,h3,h4,h6,h7,h8,h9,sl,hil,hd,hne,w4,w3,e3,e4,e5,rowF_get hil]
    repeat (refine⟨by omega,?_⟩)
    refine key _ ?_ ?_ ?_ ?_ ?_ ?_ ?_
    · simp[sl]
    · simp
    · simp
    · simp
    · simp
    · simp
    · simp[w1]
  · have hd:(totI l=0)=False:=eq_false ht
    have hF:floI l (totI l) i=(65536*max 0 l[i]) / totI l:=by rw[flo_pos ht]; simp[posI,hil,Int.max_comm]
    have hR:rsrI l i=(65536*max 0 l[i]) % totI l:=by unfold rsrI rstI; rw[if_neg ht]; simp[posI,hil,Int.max_comm]
    have htp:0<totI l:=by omega
    have htl:=tot_le hl (fun v hv=>(hr v hv).2) l.length (Nat.le_refl _)
    have hx0:0≤65536*max 0 l[i]:=by omega
    have w5:IntKind.i64.wrap (65536*max 0 l[i])=65536*max 0 l[i]:=wrap_id (by omega) (by omega)
    have b5:(65536*max 0 l[i]) / totI l≤65536*max 0 l[i]:=Int.ediv_le_self _ hx0
    have b6:(65536*max 0 l[i]) % totI l<totI l:=Int.emod_lt_of_pos _ htp
    have b7:0≤(65536*max 0 l[i]) % totI l:=Int.emod_nonneg _ (by omega)
    have w4:IntKind.i64.wrap (Int.tdiv (65536*max 0 l[i]) (totI l))=floI l (totI l) i:=by
     rw[Int.tdiv_eq_ediv_of_nonneg hx0,hF]
     exact wrap_id (by omega) (by omega)
    have w6:Int.tmod (65536*max 0 l[i]) (totI l)=rsrI l i:=by
     rw[Int.tmod_eq_emod_of_nonneg hx0,hR]
    unfold totI at htl
    generalize totI l=t at *
    simp -implicitDefEqProofs[S74,h0,h3,h4,h6,h7,h8,h9,sl,hil,hd,w4,w5,w6,w3,e3,e4,e5,rowF_get hil]
    repeat (refine⟨by omega,?_⟩)
    refine key _ ?_ ?_ ?_ ?_ ?_ ?_ ?_
    · simp[sl]
    · simp
    · simp
    · simp
    · simp
    · simp
    · simp[w1]
set_option maxRecDepth 10000 in
theorem tlp74_3 {n:Nat} (hn:n≤10) {o:List Int} {r:Nat->Int} {x8:SV} {N:Nat} {K:XE->Env->List AO->Prop}
 (hexit:∀ env,env.get 3=i64 n->env.get 6=.own H.length 0 n 1 1->env.get 7=.own (H.length+1) 0 n 1 1->env.get 8=x8->env.get 11=i64 (top r n)->K (.exit 6) env (S74 H o (rowF n r))) :
 ∀ (m i:Nat) (env:Env),i+m=n->0<i->env.get 3=i64 n->env.get 6=.own H.length 0 n 1 1->env.get 7=.own (H.length+1) 0 n 1 1->env.get 8=x8->env.get 11=i64 (top r i)->env.get 12=i64 i->LI Try.prog N drawB l74_3 env (S74 H o (rowF n r)) K:=by
 intro m
 induction m with
 | zero =>
  intro i env hi h0 h3 h6 h7 h8 h11 h12
  refine li_go hm l74_3.eq_1 ?_
  have e:i=n:=by omega
  subst e
  simp -implicitDefEqProofs[h3,h12]
  exact hexit _ (by simp[h3]) (by simp[h6]) (by simp[h7]) (by simp[h8]) (by simp[h11])
 | succ m ih =>
  intro i env hi h0 h3 h6 h7 h8 h11 h12
  refine li_go hm l74_3.eq_1 ?_
  have hin:i<n:=by omega
  have w1:=wrap_suc (show i<9223372036854775807 by omega)
  have ht:=(top_spec (r:=r) h0).1
  have htn:top r i<n:=by omega
  have e1:(ints (rowF n r))[i]?.getD .any=i64 (r i):=by rw[ints_at (by simpa using hin),rowF_getD hin]
  have e2:(ints (rowF n r))[top r i]?.getD .any=i64 (r (top r i)):=by rw[ints_at (by simpa using htn),rowF_getD htn]
  have et:top r (i+1)=if r (top r i)<r i then i else top r i:=by
   show(if i=0 then 0 else if r (top r i)<r i then i else top r i)=_
   rw[if_neg (by omega)]
  generalize hT:top r i=T at *
  by_cases c1:r T<r i
  · rw[if_pos c1]at et
    simp -implicitDefEqProofs[S74,h3,h6,h7,h8,h11,h12,hin,htn,e1,e2,rowF_get hin,rowF_get htn,c1]
    repeat (refine⟨by omega,?_⟩)
    refine ih (i+1) _ (by omega) (by omega) ?_ ?_ ?_ ?_ ?_ ?_
    · simp
    · simp[h6]
    · simp
    · simp[h8]
    · simp[et]
    · simp[w1]
  · rw[if_neg c1]at et
    simp -implicitDefEqProofs[S74,h3,h6,h7,h8,h11,h12,hin,htn,e1,e2,rowF_get hin,rowF_get htn,c1]
    repeat (refine⟨by omega,?_⟩)
    refine ih (i+1) _ (by omega) (by omega) ?_ ?_ ?_ ?_ ?_ ?_
    · simp
    · simp[h6]
    · simp
    · simp[h8]
    · simp[et]
    · simp[w1]
set_option maxRecDepth 10000 in
theorem tlp74_2 {n:Nat} (hn:n≤10) (h0n:0<n) {F:Nat->Int} {N:Nat} {K:XE->Env->List AO->Prop}
 (hexit:∀ env r,env.get 6=.own H.length 0 n 1 1->K (.exit 4) env (S74 H (rowF n F) (rowF n r))) :
 ∀ (m:Nat) (f r:Nat->Int) (env:Env),m≤100->(∀ i,i<n->0≤f i∧f i≤9223372036854775000-m)->(takeM n m (f,r)).1=F->env.get 3=i64 n->env.get 6=.own H.length 0 n 1 1->env.get 7=.own (H.length+1) 0 n 1 1->env.get 8=i64 m →
  LI Try.prog N drawB l74_2 env (S74 H (rowF n f) (rowF n r)) K:=by
 intro m
 induction m with
 | zero =>
  intro f r env hm1 hf hF h3 h6 h7 h8
  refine li_go hm l74_2.eq_1 ?_
  simp only[takeM]at hF
  subst hF
  simp only[Int.natCast_zero]at h8
  simp -implicitDefEqProofs[h8]
  exact hexit _ _ (by simp[h6])
 | succ m ih =>
  intro f r env hm1 hf hF h3 h6 h7 h8
  refine li_go hm l74_2.eq_1 ?_
  simp only[takeM]at hF
  have ht:=(top_spec (r:=r) h0n).1
  have w1:IntKind.i64.wrap (((m+1:Nat):Int)-1)=(m:Int):=by rw[wrap_id (by omega) (by omega)]; omega
  have hp:(0:Int)<((m+1:Nat):Int):=by omega
  generalize hm2:((m+1:Nat):Int)=mm at *
  simp -implicitDefEqProofs[h3,h6,h7,h8,hp]
  refine tlp74_3 (r:=r) (x8:=i64 mm) hn (fun env g3 g6 g7 g8 g11 => ?_) (n-1) 1 _ (by omega) (by omega) (by simp[h3]) (by simp[h6]) (by simp[h7]) (by simp[h8]) (by simp[top]) (by simp)
  generalize top r n=T at *
  have e2:∀ f:Nat->Int,(ints (rowF n f))[T]?.getD .any=i64 (f T):=fun f=>by rw[ints_at (by simpa using ht),rowF_getD ht]
  have e3:∀ (f:Nat->Int) (y:Int),List.take T (ints (rowF n f))++i64 y::List.drop (T+1) (ints (rowF n f))=ints (rowF n (put f T y)):=fun f y=>by rw[ints_set (by simpa using ht),rowF_set]
  have hb:=hf T ht
  have w2:IntKind.i64.wrap (f T+1)=f T+1:=wrap_id (by omega) (by omega)
  simp -implicitDefEqProofs[S74,g3,g6,g7,g8,g11,e2,e3,ht,w2,rowF_get ht,w1]
  repeat (refine⟨by omega,?_⟩)
  refine ih _ _ _ (by omega) (fun i hi => ?_) hF ?_ ?_ ?_ ?_
  · have:=hf i hi
    unfold put
    split<;>omega
  · simp[g3]
  · simp[g6]
  · simp[g7]
  · simp
end
end Go.Proofs.Ytogjmpkehjfecaa.Rc
namespace Go.Proofs.Ytogjmpkehjfecaa.Rc
open Go.Ab Go.Ab.Shr
theorem ins_const {r:Nat->Int} {x:Nat} (h:∀ y,r y=r x):∀ l:List Nat,insN r x l=l++[x]
 | []=>rfl
 | y::l=>by simp only[insN,h y,ins_const h l]; simp
theorem srt_const {r:Nat->Int} (h:∀ x y,r y=r x):∀ n:Nat,srtN r n=List.range n
 | 0=>rfl
 | n+1=>by simp only[srtN]; rw[srt_const h n,ins_const (fun y=>h n y),List.range_succ]
theorem take_shr {l:List Int} (hn:0<l.length):rowF l.length (takeM l.length (lefI l).toNat (floI l (totI l),rsrI l)).1=shrI l:=by
 obtain⟨a1,a2⟩:=lef_rng hn
 have h0:=tot_nn l
 have e:(takeM l.length (lefI l).toNat (floI l (totI l),rsrI l)).1=addL (floI l (totI l)) ((srtN (rsrI l) l.length).take (lefI l).toNat) :=
  take_srt _ _ _ _ (by rw[len_srt]; omega) (ord_srt _) (fun x hx=>mem_srt.1 hx) (fun y hy h=>absurd (mem_srt.2 hy) h) (fun x _=>by
   unfold rsrI; split
   · omega
   · unfold rstI; exact Int.emod_nonneg _ (by assumption))
 rw[e]
 unfold rowF shrI ordI
 by_cases ht:totI l=0
 · rw[if_neg (by omega),srt_const (fun x y=>by unfold rsrI; rw[if_pos ht,if_pos ht])]
 · have er:rsrI l=rstI l (totI l):=by funext i; unfold rsrI; rw[if_neg ht]
   by_cases hl:0<lefI l
   · rw[if_pos ⟨by omega,hl⟩,er]
   · rw[if_neg (fun h=>hl h.2)]
     have:(lefI l).toNat=0:=by omega
     rw[this]; simp
section
variable {H:List AO}
theorem flo_le {l:List Int} (hl:l.length≤10) (h0:0<l.length) (hr:∀ v∈l,-70368744177664≤v∧v≤70368744177664) (i:Nat) (hi:i<l.length):0≤floI l (totI l) i∧floI l (totI l) i≤65536*70368744177664:=by
 refine⟨floI_nn l i,?_⟩
 by_cases ht:totI l=0
 · rw[floI_at hi,if_pos ht]
   have:65536 / (l.length:Int)≤65536:=Int.ediv_le_self _ (by omega)
   omega
 · have hv:=hr _ (List.getElem_mem hi)
   rw[flo_pos ht]
   have hx:posI (l.getD i 0)=max 0 l[i]:=by simp[posI,hi,Int.max_comm]
   rw[hx]
   have:65536*max 0 l[i] / totI l≤65536*max 0 l[i]:=Int.ediv_le_self _ (by omega)
   omega
set_option maxRecDepth 10000 in
theorem ok74 {l:List Int} (hl:l.length≤10) (h0:0<l.length) (hr:∀ v∈l,-70368744177664≤v∧v≤70368744177664):Ok Try.prog 74 [sl l] H (.ret (sl (shrI l))) H:=by
 refine ok_fn hm Try.func74 c74 (by simp[sl]) fun hcl => ?_
 simp -implicitDefEqProofs[i74,r74,sl]
 refine tlp74_0 hl (fun v hv=>(hr v hv).2) (fun env g0 g3 g4 => ?_) l.length 0 _ (by omega) (by simp[sl]) (by simp) (by simp[totK,sumF]) (by simp)
 have hz:List.replicate l.length (i64 0)=ints (rowF l.length fun _=>0):=by simp[ints,rowF,List.map_const']
 simp -implicitDefEqProofs[g0,g3,g4,hz]
 repeat (refine⟨by omega,?_⟩)
 have hb:=lef_rng h0
 refine tlp74_1 hl h0 hr (fun env g3 g6 g7 g8 => ?_) l.length 0 (fun _=>0) (fun _=>0) _ (by omega) (fun j hj=>absurd hj (by omega)) (fun j hj=>absurd hj (by omega)) (by simp[g0]) (by simp[g3]) (by simp[g4]) (by simp) (by simp) (by simp[lefK,sumF]) (by simp)
 simp -implicitDefEqProofs
 have he:((lefI l).toNat:Int)=lefI l:=by omega
 refine tlp74_2 hl h0 (F:=(takeM l.length (lefI l).toNat (floI l (totI l),rsrI l)).1) (fun env r g6 => ?_) (lefI l).toNat _ _ _ (by omega) (fun i hi => ?_) rfl (by simp[g3]) (by simp[g6]) (by simp[g7]) (by simp[g8,he])
 · simp -implicitDefEqProofs[g6]
   rw[take_shr h0]
   refine cv_fz 2 hcl rfl ?_
   have:=shr_len l
   simp[sl,<- this]
 · have:=flo_le hl h0 hr i hi
   omega
end
end Go.Proofs.Ytogjmpkehjfecaa.Rc
namespace Go.Proofs.Ytogjmpkehjfecaa.Rc
open Go.Ab Go.Ab.Shr
section
variable {H:List AO}
def ShO (l:List Int):Prop:=l.length≤10∧0<l.length∧∀ v∈l,-70368744177664≤v∧v≤70368744177664
def tB (t:Tin):AO:=⟨t.cells,28,0,true⟩
theorem sls_suc {M:List (List Int)} {i:Nat} {x:List Int} (h:i<M.length) (hx:M[i]=x):sls (M.take i)++[.slc (ints x) x.length]=sls (M.take (i+1)):=by
 subst hx
 have e:M.take (i+1)=M.take i++[M[i]]:=by rw[List.take_append_getElem h]
 rw[e]
 simp only[sls,List.map_append,List.map_cons,List.map_nil]
 rfl
set_option maxRecDepth 10000 in
theorem tlp56_0 {t:Tin} (hA:∀ l∈t.A,ShO l) (hl:t.A.length≤1000000) {N:Nat} {K:XE->Env->List AO->Prop}
 (hexit:∀ env G,env.get 3=.own (H.length+1) 0 t.A.length 1 t.A.length->K (.exit 0) env (H++tB t::⟨sls (t.A.map shrI),36,t.A.length,true⟩::G)) :
 ∀ (m i:Nat) (G:List AO) (env:Env),i+m=t.A.length->env.get 1=.ptr (.own H.length 0 0 0 0) 0->env.get 3=.own (H.length+1) 0 i 1 i->env.get 4=i64 i →
  LI Try.prog N drawB l56_0 env (H++tB t::⟨sls ((t.A.map shrI).take i),36,i,true⟩::G) K:=by
 intro m
 induction m with
 | zero =>
  intro i G env hi h1 h3 h4
  refine li_go hm l56_0.eq_1 ?_
  have e:i=t.A.length:=by omega
  subst e
  simp -implicitDefEqProofs[h1,h3,h4,tB,Tin.cells]
  have:=hexit [(9,bl false),(8,i64 t.A.length),(7,.slc (sls t.A) t.A.length),(6,(SV.own H.length 0 0 0 0).ptr 2),(5,i64 t.A.length),(1,(SV.own H.length 0 0 0 0).ptr 0),(3,.own (H.length+1) 0 t.A.length 1 t.A.length),(4,i64 t.A.length)] G (by simp)
  rw[List.take_of_length_le (by simp)]
  exact this
 | succ m ih =>
  intro i G env hi h1 h3 h4
  refine li_go hm l56_0.eq_1 ?_
  have hii:i<t.A.length:=by omega
  have w1:=wrap_suc (show i<9223372036854775807 by omega)
  obtain⟨a1,a2,a3⟩:=hA _ (List.getElem_mem hii)
  simp -implicitDefEqProofs[h1,h3,h4,tB,Tin.cells,hii,sls_get hii]
  refine⟨by omega,call_go (ok74 a1 a2 a3) ?_⟩
  have es:=sls_suc (M:=t.A.map shrI) (i:=i) (x:=shrI t.A[i]) (by simpa using hii) (by simp)
  have ih2:=ih (i+1)
  generalize shrI t.A[i]=q at *
  simp -implicitDefEqProofs[h1,h3,h4,sl,w1]
  refine⟨by omega,by omega,by omega,?_⟩
  rw[es]
  exact ih2 _ _ (by omega) (by simp) (by simp) (by simp)
theorem fz_sls (n:Nat) (ks:List Nat) (L:List AO) (d:Nat) (M:List (List Int)):(sls M).map (SV.fz n ks L (d+1))=sls M:=by
 have:∀ x∈sls M,SV.fz n ks L (d+1) x=x:=fun x hx=>fz_under ((SV.underL_iff _ _).1 (sls_under n M) x hx)
 calc (sls M).map (SV.fz n ks L (d+1))=(sls M).map id:=List.map_congr_left this
  _=sls M:=by simp
theorem ok56 {t:Tin} (hA:∀ l∈t.A,ShO l) (hl:t.A.length≤1000000):Ok Try.prog 56 [.agg t.cells] H (.ret (.slc (sls (t.A.map shrI)) t.A.length)) H:=by
 refine ok_fn hm Try.func56 c56 (by simp[Tin.cells,sls_under]) fun hcl => ?_
 simp -implicitDefEqProofs[i56,r56,Tin.cells]
 refine tlp56_0 hA hl (fun env G g3 => ?_) t.A.length 0 [] _ (by omega) (by simp) (by simp) (by simp)
 simp -implicitDefEqProofs[g3]
 refine cv_fz 3 hcl rfl ?_
 simp
 rw[fz_sls]
 exact List.take_of_length_le (by simp)
end
end Go.Proofs.Ytogjmpkehjfecaa.Rc
namespace Go.Proofs.Ytogjmpkehjfecaa.Rc
open Go.Ab Go.Ab.Shr
def blkZ (h:Nat) (g:Gm):Nat->List AO
 | 0=>[]
 | k+1=>blkZ h g k++[rowO 0 (zers (g.acts k)),⟨[.own (h+2+2*k) 0 (g.acts k) 1 0],36,0,true⟩]
theorem blkZ_len (h:Nat) (g:Gm):∀ k,(blkZ h g k).length=2*k
 | 0=>rfl
 | k+1=>by simp[blkZ,blkZ_len h g k]; omega
def pZ (h i:Nat):Nat:=h+2+2*i
theorem blkZ_at (h:Nat) (g:Gm):∀ (k i:Nat),i<k->(blkZ h g k)[2*i]? = some (rowO 0 (zers (g.acts i)))
 | 0,i,hi=>absurd hi (by omega)
 | k+1,i,hi=>by
  have hl:=blkZ_len h g k
  by_cases e:i=k
  · subst e
    simp only[blkZ]
    rw[List.getElem?_append_right (by omega),hl]
    simp
  · simp only[blkZ]
    rw[List.getElem?_append_left (by omega)]
    exact blkZ_at h g k i (by omega)
theorem outs_suc (i:Nat) (p n:Nat->Nat) (v:Nat):outs i p n v++[.own (p i) 0 (n i) 1 v]=outs (i+1) p n v:=by
 simp[outs,List.range_succ]
section
variable {H:List AO} {g:Gm}
set_option maxRecDepth 10000 in
theorem tlp32_0 (hW:Wg g) {N:Nat} {K:XE->Env->List AO->Prop}
 (hexit:∀ env,env.get 3=.own (H.length+1) 0 g.is.length 1 g.is.length->K (.exit 0) env (H++gbox g::⟨outs g.is.length (pZ H.length) g.acts 0,36,g.is.length,true⟩::blkZ H.length g g.is.length)) :
 ∀ (m i:Nat) (env:Env),i+m=g.is.length->env.get 1=.ptr (.own H.length 0 0 0 0) 0->env.get 3=.own (H.length+1) 0 i 1 i->env.get 4=i64 i →
  LI Try.prog N drawB l32_0 env (H++gbox g::⟨outs i (pZ H.length) g.acts 0,36,i,true⟩::blkZ H.length g i) K:=by
 have hil:=hW.gd.i
 intro m
 induction m with
 | zero =>
  intro i env hi h1 h3 h4
  refine li_go hm l32_0.eq_1 ?_
  have e:i=g.is.length:=by omega
  subst e
  have he:=fun e h=>hexit e h
  simp only[gbox,Gm.cells]at he
  simp -implicitDefEqProofs[h1,h3,h4,gbox,Gm.cells]
  exact he _ (by simp)
 | succ m ih =>
  intro i env hi h1 h3 h4
  refine li_go hm l32_0.eq_1 ?_
  have hii:i<g.is.length:=by omega
  obtain⟨n1,n2⟩:=acts_le hW hii
  have hg:g.is.getD i (0,0)=g.is[i]:=by simp[hii]
  have ha:(g.acts i:Int)=g.is[i].2:=by unfold Gm.acts; rw[hg]; unfold Gm.acts at n1; rw[hg]at n1; omega
  have w1:=wrap_suc (show i<9223372036854775807 by omega)
  have hMl:=blkZ_len H.length g i
  have eb:blkZ H.length g (i+1)=blkZ H.length g i++[rowO 0 (zers (g.acts i)),⟨[.own (H.length+2+2*i) 0 (g.acts i) 1 0],36,0,true⟩]:=rfl
  have ih2:=ih (i+1)
  rw[eb,<- outs_suc]at ih2
  simp only[gbox,Gm.cells]at ih2
  generalize blkZ H.length g i=M at *
  have i2:(infs g.is)[i*2+1]?.getD .any=i64 g.is[i].2:=by
   rw[←List.getElem?_drop,infs_at hii]; rfl
  have i3:(infs g.is).length=2*g.is.length:=infs_len _
  simp -implicitDefEqProofs[h1,h3,h4,gbox,Gm.cells,hii,i2,i3,<- ha,w1]
  repeat (refine⟨by omega,?_⟩)
  have e1:H.length+(M.length+2)=pZ H.length i:=by unfold pZ; omega
  have e2:List.replicate (g.acts i) (i64 0)=ints (zers (g.acts i)):=by simp[ints,zers]
  rw[e1,e2]
  refine ih2 _ (by omega) ?_ ?_ ?_
  · simp
  · simp
  · simp
theorem ok32 (hW:Wg g):Ok Try.prog 32 [.agg g.cells] H (.ret (.own (H.length+1) 0 g.is.length 1 g.is.length)) (H++gbox g::⟨outs g.is.length (pZ H.length) g.acts 0,36,g.is.length,true⟩::blkZ H.length g g.is.length):=by
 refine ok_fn hm Try.func32 c32 (by simp[Gm.cells,nds_under,infs_under]) fun hcl => ?_
 simp -implicitDefEqProofs[i32,r32,Gm.cells]
 refine tlp32_0 hW (fun env g3 => ?_) g.is.length 0 _ (by omega) (by simp) (by simp) (by simp)
 simp -implicitDefEqProofs[g3]
 exact cv_id
end
end Go.Proofs.Ytogjmpkehjfecaa.Rc
namespace Go.Proofs.Ytogjmpkehjfecaa.Rc
open Go.Ab Go.Ab.Shr
def rowP (g:Gm) (V:List Int) (j:Nat):List Int:=rowF g.pl.toNat fun p=>V.getD (j*4+p) 0
@[simp] theorem rowP_len (g:Gm) (V:List Int) (j:Nat):(rowP g V j).length=g.pl.toNat:=by simp[rowP]
def qV (h n j:Nat):Nat:=h+3+2*(n-1-j)
def outV (h n i m:Nat):List SV:=(List.range n).map fun j=>if j<i then .val (.slice none 0 0)else .own (qV h n j) 0 m 1 0
@[simp] theorem outV_len (h n i m:Nat):(outV h n i m).length=n:=by simp[outV]
theorem outV_get {h n i m j:Nat} (hj:j<n) (hi:i≤j):(outV h n i m)[j]?.getD .any=.own (qV h n j) 0 m 1 0:=by
 simp[outV,hj,show ¬ j<i by omega]
theorem outV_gg {h n i m j:Nat} (hj:j<n) (hi:i≤j):(outV h n i m)[j]'(by simpa using hj)=.own (qV h n j) 0 m 1 0:=by
 simp[outV,show ¬ j<i by omega]
theorem outV_set {h n i m:Nat} (hi:i<n):List.take i (outV h n (i+1) m)++SV.own (qV h n i) 0 m 1 0::List.drop (i+1) (outV h n (i+1) m)=outV h n i m:=by
 have hl:i<(outV h n (i+1) m).length:=by simp[hi]
 have:=List.set_eq_take_append_cons_drop (l:=outV h n (i+1) m) (i:=i) (a:=SV.own (qV h n i) 0 m 1 0)
 rw[if_pos hl]at this
 rw[←this]
 apply List.ext_getElem?
 intro j
 by_cases e:i=j
 · subst e; rw[List.getElem?_set_self hl]; simp[outV,hi]
 · rw[List.getElem?_set_ne e]
   by_cases hj:j<n
   · have:(j<i+1)=(j<i):=by simp; omega
     simp[outV,hj,this]
   · rw[List.getElem?_eq_none (by simp; omega),List.getElem?_eq_none (by simp; omega)]
structure VN (g:Gm) (H:List AO) (V:List Int) (i:Nat) (f:Nat->Int) (X:List AO):Prop where
 b:X[H.length]? = some (gbox g)
 o:X[H.length+1]? = some ⟨outV H.length g.ns.length i g.pl.toNat,36,0,true⟩
 n:∀ h:i<g.ns.length,X[H.length+2+2*(g.ns.length-1-i)]? = some ⟨g.ns[i].cells,59,0,true⟩
 r0:i<g.ns.length->X[qV H.length g.ns.length i]? = some (rowO 0 (rowF g.pl.toNat f))
 r:∀ j,i<j->j<g.ns.length->X[qV H.length g.ns.length j]? = some (rowO 0 (rowP g V j))
 len:X.length=H.length+2+2*(g.ns.length-i)
 low:∀ j,j<H.length->X[j]? = H[j]?
structure ValOk (g:Gm) (M:List Int) (S:Nat->List Int) (V:List Int):Prop where
 eq:∀ i q:Nat,i<g.ns.length->(q:Int)<g.pl->V.getD (i*4+q) 0=valQ g M S V i q
 m:∀ i (h:i<g.ns.length),g.ns[i].k=1->M.getD i 0=wsum g.ns[i].ws∧0<M.getD i 0
section
variable {H X:List AO} {g:Gm} {V M:List Int} {S:List (List Int)}
set_option maxRecDepth 10000 in
theorem tlp57_2 (hW:Wg g) {i p:Nat} {f:Nat->Int} (h:VN g H V i f X) (hi:i<g.ns.length) (hp:(p:Int)<g.pl) (hS:S.length=g.is.length) (hSl:∀ j (h:j<S.length),S[j].length=g.acts j) (h3:g.ns[i].k≠3) {x10:SV} {N:Nat} {K:XE->Env->List AO->Prop}
 (hexit:∀ env,env.get 1=.slc (sls S) S.length->env.get 2=.ptr (.own H.length 0 0 0 0) 0->env.get 5=.own (H.length+1) 0 g.ns.length 1 0->env.get 6=i64 i->env.get 7=.ptr (.own (H.length+2+2*(g.ns.length-1-i)) 0 0 0 0) 0->env.get 8=i64 p →
  env.get 9=i64 (accQ g (fun j=>S.getD j []) V g.ns[i].nx i p g.ns[i].nx.length)->env.get 10=x10->K (.exit 4) env X) :
 ∀ (m k:Nat) (env:Env),k+m=g.ns[i].nx.length->env.get 1=.slc (sls S) S.length->env.get 2=.ptr (.own H.length 0 0 0 0) 0->env.get 5=.own (H.length+1) 0 g.ns.length 1 0->env.get 6=i64 i->env.get 7=.ptr (.own (H.length+2+2*(g.ns.length-1-i)) 0 0 0 0) 0->env.get 8=i64 p →
  env.get 9=i64 (accQ g (fun j=>S.getD j []) V g.ns[i].nx i p k)->env.get 10=x10->env.get 11=i64 k->LI Try.prog N drawB l57_2 env X K:=by
 have hnx60:g.ns[i].nx.length≤60:=nx_of (hW.gd.e _ (List.getElem_mem hi))
 have hx:g.ns[i]? = some g.ns[i]:=List.getElem?_eq_getElem hi
 have hn:=hW.gd.n
 have hN:∀ L,objCells (X++L) (H.length+2+2*(g.ns.length-1-i)) 0=g.ns[i].cells:=fun L=>oc_at (h.n hi) L
 have hO:∀ L,objCells (X++L) (H.length+1) 0=outV H.length g.ns.length i g.pl.toNat:=fun L=>oc_at h.o L
 have hN0:=hN []
 have hO0:=hO []
 rw[List.append_nil]at hN0 hO0
 intro m
 induction m with
 | zero =>
  intro k env hk h1 h2 h5 h6 h7 h8 h9 h10 h11
  refine li_go hm l57_2.eq_1 ?_
  have e:k=g.ns[i].nx.length:=by omega
  subst e
  simp -implicitDefEqProofs[h7,h11,hN0,Nd.cells,sl]
  exact hexit _ (by simp[h1]) (by simp[h2]) (by simp[h5]) (by simp[h6]) (by simp[h7]) (by simp[h8]) (by simp[h9]) (by simp[h10])
 | succ m ih =>
  intro k env hk h1 h2 h5 h6 h7 h8 h9 h10 h11
  refine li_go hm l57_2.eq_1 ?_
  have hkl:k<g.ns[i].nx.length:=by omega
  have hch:=(hW.wf.nf i hi).ch _ (List.getElem_mem hkl)
  have w1:=wrap_suc (show k<9223372036854775807 by omega)
  have hcn:((g.ns[i].nx[k].toNat:Nat):Int)=g.ns[i].nx[k]:=by omega
  generalize hcc:g.ns[i].nx[k].toNat=ch at *
  have hcl:ch<g.ns.length:=by omega
  have hci:i<ch:=by omega
  have hR:=oc_at (h.r ch hci hcl) []
  rw[List.append_nil]at hR
  have hpp:p<g.pl.toNat:=by omega
  have eR:(ints (rowP g V ch))[p]?.getD .any=i64 (V.getD (ch*4+p) 0):=by rw[ints_at (by simpa[rowP]using hpp),rowP,rowF_getD hpp]
  have eO:=outV_get (h:=H.length) (i:=i) (m:=g.pl.toNat) hcl (by omega)
  have eA:accQ g (fun j=>S.getD j []) V g.ns[i].nx i p (k+1)=IntKind.i64.wrap (accQ g (fun j=>S.getD j []) V g.ns[i].nx i p k+IntKind.i64.wrap (V.getD (ch*4+p) 0*brP g (fun j=>S.getD j []) i k)):=by
   have:(g.ns[i].nx.getD k 0).toNat=ch:=by simp[hkl,hcc]
   simp only[accQ,this]
  have ih2:=ih (k+1)
  rw[eA]at ih2
  generalize accQ g (fun j=>S.getD j []) V g.ns[i].nx i p k=acc at *
  generalize V.getD (ch*4+p) 0=vc at *
  rcases kd_of hW hi with hk1 | hk2 | hk3
  · obtain⟨a1,a2,a3,a4⟩:=ch_of hW hi hk1
    have hkw:k<g.ns[i].ws.length:=by omega
    have eB:brP g (fun j=>S.getD j []) i k=g.ns[i].ws[k]:=by simp[brP,hx,hk1,hkw]
    rw[eB]at ih2
    simp -implicitDefEqProofs[h1,h2,h5,h6,h7,h8,h9,h10,h11,hN0,hO0,Nd.cells,sl,hk1,hkl,hkw,hR,eR,eO,w1,<- hcn]
    repeat (refine⟨by omega,?_⟩)
    refine ih2 _ (by omega) ?_ ?_ ?_ ?_ ?_ ?_ ?_ ?_ ?_
    · simp
    · simp
    · simp
    · simp
    · simp
    · simp
    · simp
    · simp
    · simp
  · obtain⟨b1,b2,b3,b4,b5⟩:=mv_of hW hi hk2
    have hjS:g.ns[i].i.toNat<S.length:=by omega
    have hkS:k<S[g.ns[i].i.toNat].length:=by rw[hSl _ hjS]; omega
    have eB:brP g (fun j=>S.getD j []) i k=S[g.ns[i].i.toNat][k]:=by simp[brP,hx,hk2,hjS,hkS]
    rw[eB]at ih2
    generalize g.ns[i].i.toNat=js at *
    simp -implicitDefEqProofs[h1,h2,h5,h6,h7,h8,h9,h10,h11,hN0,hO0,Nd.cells,sl,hk2,hkl,hkS,hjS,hR,eR,eO,sls_get hjS,w1,<- hcn,<- b2]
    repeat (refine⟨by omega,?_⟩)
    refine ih2 _ (by omega) ?_ ?_ ?_ ?_ ?_ ?_ ?_ ?_ ?_
    · simp
    · simp
    · simp
    · simp
    · simp
    · simp
    · simp
    · simp
    · simp
  · exact absurd hk3 h3
end
end Go.Proofs.Ytogjmpkehjfecaa.Rc
namespace Go.Proofs.Ytogjmpkehjfecaa.Rc
open Go.Ab Go.Ab.Shr
section
variable {H X:List AO} {g:Gm} {V M:List Int} {S:List (List Int)} {i:Nat} {f f':Nat->Int}
theorem VN.setF (h:VN g H V i f X) (hi:i<g.ns.length) (f':Nat->Int):VN g H V i f' (X.set (qV H.length g.ns.length i) (rowO 0 (rowF g.pl.toNat f'))):=by
 have hl:=h.len
 refine⟨?_,?_,fun h1 => ?_,fun _ => ?_,fun j hj hj2 => ?_,by simp[hl],fun j hj => ?_⟩
 · rw[List.getElem?_set_ne (by unfold qV; omega)]; exact h.b
 · rw[List.getElem?_set_ne (by unfold qV; omega)]; exact h.o
 · rw[List.getElem?_set_ne (by unfold qV; omega)]; exact h.n h1
 · rw[List.getElem?_set_self (by rw[hl]; unfold qV; omega)]
 · rw[List.getElem?_set_ne (by unfold qV; omega)]; exact h.r j hj hj2
 · rw[List.getElem?_set_ne (by unfold qV; omega)]; exact h.low j hj
set_option maxRecDepth 10000 in
theorem tlp57_1 (hW:Wg g) (hV:ValOk g M (fun j=>S.getD j []) V) (hi:i<g.ns.length) (hS:S.length=g.is.length) (hSl:∀ j (h:j<S.length),S[j].length=g.acts j) {N:Nat} {K:XE->Env->List AO->Prop}
 (hexit:∀ env X,VN g H V i (fun p=>V.getD (i*4+p) 0) X->env.get 1=.slc (sls S) S.length->env.get 2=.ptr (.own H.length 0 0 0 0) 0->env.get 5=.own (H.length+1) 0 g.ns.length 1 0->env.get 6=i64 i->K (.exit 2) env X) :
 ∀ (m p:Nat) (f:Nat->Int) (X:List AO) (env:Env),VN g H V i f X->(∀ q,q<p->f q=V.getD (i*4+q) 0)->((p+m:Nat):Int)=g.pl->env.get 1=.slc (sls S) S.length->env.get 2=.ptr (.own H.length 0 0 0 0) 0->env.get 5=.own (H.length+1) 0 g.ns.length 1 0->env.get 6=i64 i->env.get 7=.ptr (.own (H.length+2+2*(g.ns.length-1-i)) 0 0 0 0) 0->env.get 8=i64 p →
  LI Try.prog N drawB l57_1 env X K:=by
 have hx:g.ns[i]? = some g.ns[i]:=List.getElem?_eq_getElem hi
 have hn:=hW.gd.n
 have hp4:=hW.gd.p4
 intro m
 induction m with
 | zero =>
  intro p f X env h hf hp h1 h2 h5 h6 h7 h8
  refine li_go hm l57_1.eq_1 ?_
  have hB0:=oc_at h.b []
  rw[List.append_nil]at hB0
  simp -implicitDefEqProofs[h2,h8,hB0,gbox,Gm.cells,show ¬ (p:Int)<g.pl by omega]
  refine hexit _ X ?_ (by simp[h1]) (by simp[h2]) (by simp[h5]) (by simp[h6])
  have e:rowF g.pl.toNat f=rowF g.pl.toNat fun p=>V.getD (i*4+p) 0:=List.map_congr_left fun j hj=>hf j (by simp only[List.mem_range]at hj; omega)
  exact⟨h.b,h.o,h.n,fun h1=>by rw[←e]; exact h.r0 h1,h.r,h.len,h.low⟩
 | succ m ih =>
  intro p f X env h hf hp h1 h2 h5 h6 h7 h8
  refine li_go hm l57_1.eq_1 ?_
  have hB0:=oc_at h.b []
  rw[List.append_nil]at hB0
  have hN0:=oc_at (h.n hi) []
  have hO0:=oc_at h.o []
  have hR0:=oc_at (h.r0 hi) []
  rw[List.append_nil]at hN0 hO0 hR0
  have hpp:(p:Int)<g.pl:=by omega
  have hp':p<g.pl.toNat:=by omega
  have w1:=wrap_suc (show p<9223372036854775807 by omega)
  have eO:=outV_get (h:=H.length) (i:=i) (m:=g.pl.toNat) hi (Nat.le_refl i)
  have e5:∀ (y:Int),List.take p (ints (rowF g.pl.toNat f))++i64 y::List.drop (p+1) (ints (rowF g.pl.toNat f))=ints (rowF g.pl.toNat (put f p y)):=fun y=>by rw[ints_set (by simpa using hp'),rowF_set]
  have hSet:=fun y=>h.setF hi (put f p y)
  have hf':∀ q,q<p+1->put f p (V.getD (i*4+p) 0) q=V.getD (i*4+q) 0:=fun q hq=>by
   unfold put
   split
   · rename_i e; rw[e]
   · exact hf q (by omega)
  have ih2:=fun env=>ih (p+1) (put f p (V.getD (i*4+p) 0)) _ env (hSet _) hf' (by omega)
  have hV2:=hV.eq i p hi hpp
  have hSO:=fun y=>so_at (h.r0 hi) [] y
  simp only[List.append_nil]at hSO
  by_cases hk3:g.ns[i].k=3
  · obtain⟨b1,b2,b3⟩:=en_of hW hi hk3
    have hps:p<g.ns[i].ps.length:=by omega
    have eV:V.getD (i*4+p) 0=IntKind.i64.wrap (g.ns[i].ps[p]*1024):=by rw[hV2]; simp[valQ,hx,hk3,hps]
    rw[eV]at ih2
    simp -implicitDefEqProofs[h1,h2,h5,h6,h7,h8,hB0,hN0,hO0,hR0,hSO,gbox,Gm.cells,Nd.cells,sl,hk3,hpp,hi,eO,outV_gg hi (Nat.le_refl i),hps,rowO,e5,w1]
    repeat (refine⟨by omega,?_⟩)
    refine ih2 _ ?_ ?_ ?_ ?_ ?_ ?_
    · simp
    · simp
    · simp
    · simp
    · simp
    · simp
  · have hkk:=kd_of hW hi
    have hnx60:g.ns[i].nx.length≤60:=nx_of (hW.gd.e _ (List.getElem_mem hi))
    have eV:V.getD (i*4+p) 0=IntKind.i64.wrap ((accQ g (fun j=>S.getD j []) V g.ns[i].nx i p g.ns[i].nx.length).tdiv (brW g M i)):=by rw[hV2]; simp[valQ,hx,hk3]
    rw[eV]at ih2
    rcases hkk with hk1 | hk2 | hk4
    · obtain⟨a1,a2,a3,a4⟩:=ch_of hW hi hk1
      obtain⟨m1,m2⟩:=hV.m i hi hk1
      have eB:brW g M i=wsum g.ns[i].ws:=by simp only[brW,hx,hk1]; exact m1
      have hB1:0<wsum g.ns[i].ws:=by omega
      rw[eB]at ih2
      simp -implicitDefEqProofs[h1,h2,h5,h6,h7,h8,hB0,hN0,gbox,Gm.cells,Nd.cells,sl,hk1,hpp,hi]
      refine call_go (ok75 (l:=g.ns[i].ws) (by omega)) ?_
      simp -implicitDefEqProofs
      refine tlp57_2 hW h hi hpp hS hSl hk3 (x10:=i64 (wsum g.ns[i].ws)) (fun env g1 g2 g5 g6 g7 g8 g9 g10 => ?_) g.ns[i].nx.length 0 _ (by omega) (by simp[h1]) (by simp[h2]) (by simp[h5]) (by simp[h6]) (by simp[h7]) (by simp[h8]) (by simp[accQ]) (by simp) (by simp)
      generalize accQ g (fun j=>S.getD j []) V g.ns[i].nx i p g.ns[i].nx.length=acc at *
      generalize wsum g.ns[i].ws=ws at *
      simp -implicitDefEqProofs[g1,g2,g5,g6,g7,g8,g9,g10,hO0,hR0,hSO,hpp,hi,outV_gg hi (Nat.le_refl i),rowO,e5,w1]
      repeat (refine⟨by omega,?_⟩)
      refine ih2 _ ?_ ?_ ?_ ?_ ?_ ?_
      · simp[g1]
      · simp[g2]
      · simp[g5]
      · simp[g6]
      · simp[g7]
      · simp
    · have eB:brW g M i=65536:=by simp[brW,hx,hk2]
      rw[eB]at ih2
      simp -implicitDefEqProofs[h1,h2,h5,h6,h7,h8,hB0,hN0,gbox,Gm.cells,Nd.cells,sl,hk2,hpp,hi]
      refine tlp57_2 hW h hi hpp hS hSl hk3 (x10:=i64 65536) (fun env g1 g2 g5 g6 g7 g8 g9 g10 => ?_) g.ns[i].nx.length 0 _ (by omega) (by simp[h1]) (by simp[h2]) (by simp[h5]) (by simp[h6]) (by simp[h7]) (by simp[h8]) (by simp[accQ]) (by simp) (by simp)
      generalize accQ g (fun j=>S.getD j []) V g.ns[i].nx i p g.ns[i].nx.length=acc at *
      simp -implicitDefEqProofs[g1,g2,g5,g6,g7,g8,g9,g10,hO0,hR0,hSO,hpp,hi,outV_gg hi (Nat.le_refl i),rowO,e5,w1]
      repeat (refine⟨by omega,?_⟩)
      refine ih2 _ ?_ ?_ ?_ ?_ ?_ ?_
      · simp[g1]
      · simp[g2]
      · simp[g5]
      · simp[g6]
      · simp[g7]
      · simp
    · exact absurd hk4 hk3
structure VM (g:Gm) (H:List AO) (V:List Int) (i:Nat) (X:List AO):Prop where
 b:X[H.length]? = some (gbox g)
 o:X[H.length+1]? = some ⟨outV H.length g.ns.length i g.pl.toNat,36,0,true⟩
 r:∀ j,i≤j->j<g.ns.length->X[qV H.length g.ns.length j]? = some (rowO 0 (rowP g V j))
 len:X.length=H.length+2+2*(g.ns.length-i)
 low:∀ j,j<H.length->X[j]? = H[j]?
theorem VM.next (h:VM g H V (i+1) X) (hi:i<g.ns.length) (f:Nat->Int):VN g H V i f (X.set (H.length+1) ⟨outV H.length g.ns.length i g.pl.toNat,36,0,true⟩++[⟨g.ns[i].cells,59,0,true⟩,rowO 0 (rowF g.pl.toNat f)]):=by
 have hl:=h.len
 refine⟨?_,?_,fun h1 => ?_,fun _ => ?_,fun j hj hj2 => ?_,by simp[hl]; omega,fun j hj => ?_⟩
 · rw[List.getElem?_append_left (by simp; omega),List.getElem?_set_ne (by omega)]; exact h.b
 · rw[List.getElem?_append_left (by simp; omega),List.getElem?_set_self (by omega)]
 · rw[List.getElem?_append_right (by simp; omega)]
   rw[show H.length+2+2*(g.ns.length-1-i)-(X.set (H.length+1) _).length=0 by simp; omega]; rfl
 · rw[List.getElem?_append_right (by simp; unfold qV; omega)]
   rw[show qV H.length g.ns.length i-(X.set (H.length+1) _).length=1 by simp; unfold qV; omega]; rfl
 · rw[List.getElem?_append_left (by simp; unfold qV; omega),List.getElem?_set_ne (by unfold qV; omega)]; exact h.r j (by omega) hj2
 · rw[List.getElem?_append_left (by simp; omega),List.getElem?_set_ne (by omega)]; exact h.low j hj
theorem VN.done (h:VN g H V i (fun p=>V.getD (i*4+p) 0) X):VM g H V i X :=
 ⟨h.b,h.o,fun j hj hj2=>by
  by_cases e:i=j
  · subst e; exact h.r0 hj2
  · exact h.r j (by omega) hj2,h.len,h.low⟩
set_option maxRecDepth 10000 in
theorem tlp57_0 (hW:Wg g) (hV:ValOk g M (fun j=>S.getD j []) V) (hS:S.length=g.is.length) (hSl:∀ j (h:j<S.length),S[j].length=g.acts j) {N:Nat} {K:XE->Env->List AO->Prop}
 (hexit:∀ env X,VM g H V 0 X->env.get 5=.own (H.length+1) 0 g.ns.length 1 0->K (.exit 0) env X) :
 ∀ (i:Nat) (X:List AO) (env:Env),VM g H V i X->i≤g.ns.length->env.get 1=.slc (sls S) S.length->env.get 2=.ptr (.own H.length 0 0 0 0) 0->env.get 5=.own (H.length+1) 0 g.ns.length 1 0->env.get 6=i64 ((i:Int)-1) →
  LI Try.prog N drawB l57_0 env X K:=by
 have hn:=hW.gd.n
 have hp1:=hW.gd.p1
 have hp4:=hW.gd.p4
 intro i
 induction i with
 | zero =>
  intro X env h hi h1 h2 h5 h6
  refine li_go hm l57_0.eq_1 ?_
  simp -implicitDefEqProofs[h6]
  exact hexit _ X h (by simp[h5])
 | succ i ih =>
  intro X env h hi h1 h2 h5 h6
  refine li_go hm l57_0.eq_1 ?_
  have hB:=oc_at h.b
  have hB0:=oc_at h.b []
  rw[List.append_nil]at hB0
  have hii:i<g.ns.length:=by omega
  have h6':env.get 6=i64 i:=by rw[h6]; congr 1; omega
  have hl:=h.len
  have hO:=oc_at h.o
  have hSO:=so_at h.o
  have eO:List.take i (outV H.length g.ns.length (i+1) g.pl.toNat)++SV.own (X.length+1) 0 g.pl.toNat 1 0::List.drop (i+1) (outV H.length g.ns.length (i+1) g.pl.toNat)=outV H.length g.ns.length i g.pl.toNat:=by
   rw[←outV_set hii]
   congr 3
   unfold qV; omega
  have hz:List.replicate g.pl.toNat (i64 0)=ints (rowF g.pl.toNat fun _=>0):=by simp[ints,rowF,List.map_const']
  have hVN:=h.next hii fun _=>0
  simp only[Nd.cells,sl,rowO,<- hz]at hVN
  simp -implicitDefEqProofs[h1,h2,h5,h6',hB,hB0,hO,hSO,eO,gbox,Gm.cells,hii,nds_at hii,nds_min hii,nds_ge hii,sl]
  repeat (refine⟨by omega,?_⟩)
  refine tlp57_1 hW hV hii hS hSl (fun env X2 h2 g1 g2 g5 g6 => ?_) g.pl.toNat 0 (fun _=>0) _ _ hVN (fun q hq=>absurd hq (by omega)) (by omega) (by simp[h1]) (by simp[h2]) (by simp[h5]) (by simp[h6']) ?_ (by simp)
  · simp -implicitDefEqProofs[g6]
    refine ih X2 _ h2.done (by omega) (by simp[g1]) (by simp[g2]) (by simp[g5]) ?_
    simp
    rw[wrap_id (by omega) (by omega)]
  · simp
    omega
end
end Go.Proofs.Ytogjmpkehjfecaa.Rc
namespace Go.Proofs.Ytogjmpkehjfecaa.Rc
open Go.Ab Go.Ab.Shr
section
variable {H X G:List AO} {g:Gm} {V M:List Int} {S:List (List Int)}
theorem fz_outsN {I:Nat} {p:Nat} (hp:H.length≤p) {q:Nat->Nat} {n:Nat->Nat} {A:Nat->List Int} {v w:Nat} {T:TypeId} (h:G[p]? = some ⟨outs I q n v,T,w,true⟩)
 (hq:∀ i,i<I->H.length≤q i∧G[q i]? = some ⟨ints (A i),3,v,true⟩∧(A i).length=n i) (d:Nat) :
 SV.fz H.length [] (G.drop H.length) (d+3) (.own p 0 I 1 w)=.slc (sls ((List.range I).map A)) I:=by
 have hg:(G.drop H.length)[p-H.length]? = some ⟨outs I q n v,T,w,true⟩:=by rw[List.getElem?_drop,show H.length+(p-H.length)=p by omega]; exact h
 unfold SV.fz
 rw[if_neg (by simp[SV.under]; omega)]
 simp only[hg,placeOf]
 simp only[outs_len,Nat.mul_one,Nat.zero_add,Nat.le_refl,and_self,if_true,List.drop_zero]
 congr 1
 have e:List.take I (outs I q n v)=outs I q n v:=List.take_of_length_le (by simp)
 rw[e]
 simp only[outs,sls,List.map_map]
 apply List.map_congr_left
 intro i hi
 simp only[List.mem_range]at hi
 obtain⟨q1,q2,q3⟩:=hq i hi
 simp only[Function.comp_apply]
 rw[←q3]
 exact fz_rowG q1 q2 d
theorem tail_of (hlow:∀ j,j<H.length->X[j]? = H[j]?):X=H++X.drop H.length:=by
 apply List.ext_getElem?
 intro i
 by_cases hi:i<H.length
 · rw[List.getElem?_append_left hi,hlow i hi]
 · rw[List.getElem?_append_right (by omega),List.getElem?_drop]
   congr 1; omega
theorem outV_outs (h n m:Nat):outV h n 0 m=outs n (qV h n) (fun _=>m) 0:=by simp[outV,outs]
def valRows (g:Gm) (V:List Int):List (List Int):=(List.range g.ns.length).map (rowP g V)
theorem ok57 (hW:Wg g) (hV:ValOk g M (fun j=>S.getD j []) V) (hS:S.length=g.is.length) (hSl:∀ j (h:j<S.length),S[j].length=g.acts j) :
 Ok Try.prog 57 [.agg g.cells,.slc (sls S) S.length] H (.ret (.slc (sls (valRows g V)) g.ns.length)) H:=by
 have hn:=hW.gd.n
 refine ok_fn hm Try.func57 c57 (by simp[Gm.cells,nds_under,infs_under,sls_under]) fun hcl => ?_
 have hz:List.replicate g.ns.length (SV.val (Value.slice none 0 0))=outV H.length g.ns.length g.ns.length g.pl.toNat:=by
  apply List.ext_getElem?
  intro j
  by_cases hj:j<g.ns.length
  · simp[outV,hj]
  · rw[List.getElem?_eq_none (by simp; omega),List.getElem?_eq_none (by simp; omega)]
 have h0:VM g H V g.ns.length (H++[gbox g,⟨outV H.length g.ns.length g.ns.length g.pl.toNat,36,0,true⟩]):=by
  refine⟨?_,?_,fun j h1 h2=>absurd h2 (by omega),by simp,fun j hj=>by rw[List.getElem?_append_left hj]⟩
  · rw[List.getElem?_append_right (Nat.le_refl _)]; simp
  · rw[List.getElem?_append_right (by omega)]; simp
 simp only[gbox,Gm.cells]at h0
 simp -implicitDefEqProofs[i57,r57,Gm.cells,hz]
 repeat (refine⟨by omega,?_⟩)
 refine tlp57_0 hW hV hS hSl (fun env X h g5 => ?_) g.ns.length _ _ h0 (Nat.le_refl _) (by simp) (by simp) (by simp) ?_
 · simp -implicitDefEqProofs[g5]
   have ho:=h.o
   rw[outV_outs]at ho
   have hfz:=fz_outsN (H:=H) (A:=rowP g V) (by omega) ho (fun j hj=>⟨by unfold qV; omega,h.r j (by omega) hj,by simp⟩) 1
   have:=cv_fz (n0:=H.length) (H:=H) (L:=X.drop H.length) 4 hcl rfl hfz
   rw[←tail_of h.low]at this
   exact this
 · simp
   rw[wrap_id (by omega) (by omega)]
end
end Go.Proofs.Ytogjmpkehjfecaa.Rc
namespace Go.Proofs.Ytogjmpkehjfecaa.Rc
open Go.Ab Go.Ab.Shr
structure RchOk (g:Gm) (own:Bool) (M:List Int) (S:Nat->List Int) (R:List Int):Prop where
 z:∀ q:Nat,(q:Int)<g.pl->R.getD q 0=1073741824
 eq:∀ i k q:Nat,∀ h:i<g.ns.length,k<g.ns[i].nx.length->(q:Int)<g.pl->R.getD ((g.ns[i].nx.getD k 0).toNat*4+q) 0=rchF g own S M R i k q
 m:∀ i (h:i<g.ns.length),g.ns[i].k=1->M.getD i 0=wsum g.ns[i].ws∧0<M.getD i 0
def XR (g:Gm) (H:List AO) (f:Nat->Int) (G:List AO):List AO:=H++gbox g::⟨ints (rowF g.ns.length f),3,0,true⟩::G
def Dn (g:Gm) (R:List Int) (p i:Nat) (f:Nat->Int):Prop:=∀ j,j<g.ns.length->gi g.wk.2.P j<i->f j=R.getD (j*4+p) 0
theorem Dn.put {g:Gm} {R:List Int} {p i:Nat} {f:Nat->Int} (h:Dn g R p i f) (c:Nat):Dn g R p i (put f c (R.getD (c*4+p) 0)):=fun j hj hp=>by
 unfold Shr.put
 split
 · rename_i e; rw[e]
 · exact h j hj hp
theorem Dn.at {g:Gm} {R:List Int} {p i:Nat} {f:Nat->Int} (hW:Wg g) (h:Dn g R p i f) (hi:i<g.ns.length):f i=R.getD (i*4+p) 0:=by
 refine h i hi ?_
 by_cases e:i=0
 · subst e; rw[hW.wf.p0]; omega
 · obtain⟨q,_,h1,h2,_⟩:=hW.wf.pf i (by omega) hi
   omega
theorem Dn.suc {g:Gm} {R:List Int} {p i:Nat} {f:Nat->Int} (hW:Wg g) (h:Dn g R p i f) (hi:i<g.ns.length) (hk:∀ t (ht:t<g.ns[i].nx.length),f g.ns[i].nx[t].toNat=R.getD (g.ns[i].nx[t].toNat*4+p) 0):Dn g R p (i+1) f:=by
 intro j hj hp
 by_cases e:gi g.wk.2.P j<i
 · exact h j hj e
 · have hj0:0<j:=by
    rcases Nat.eq_zero_or_pos j with e0 | e0
    · subst e0; rw[hW.wf.p0]at e; omega
    · exact e0
   obtain⟨q,hq,h1,h2,h3⟩:=hW.wf.pf j hj0 hj
   have:q=i:=by omega
   subst this
   obtain⟨t,ht,h4⟩:=List.getElem_of_mem h3
   have:=hk t ht
   rw[h4]at this
   exact this
section
variable {H G:List AO} {g:Gm} {R M:List Int} {S:List (List Int)} {f:Nat->Int}
theorem XR_len:(XR g H f G).length=H.length+2+G.length:=by simp[XR]; omega
theorem XR_o (v:Nat) (hv:v=0):objCells (XR g H f G) (H.length+1) v=ints (rowF g.ns.length f):=by
 subst hv
 refine objCells_of (o:=⟨ints (rowF g.ns.length f),3,0,true⟩) ?_ rfl
 unfold XR
 rw[List.getElem?_append_right (by omega)]; simp
theorem XR_b:objCells (XR g H f G) H.length 0=g.cells:=by
 refine objCells_of (o:=gbox g) ?_ rfl
 unfold XR
 rw[List.getElem?_append_right (by omega)]; simp
theorem XR_n {o:AO} (ho:o.live=true):objCells (XR g H f (G++[o])) (H.length+2+G.length) o.ver=o.cells:=by
 refine objCells_of (o:=o) ?_ ho
 unfold XR
 rw[List.getElem?_append_right (by omega),show H.length+2+G.length-H.length=G.length+2 by omega]; simp
theorem XR_set (fn:AO->AO):Ab.setObj (XR g H f G) (H.length+1) fn=H++gbox g::fn ⟨ints (rowF g.ns.length f),3,0,true⟩::G:=by
 have h1:(XR g H f G)[H.length+1]? = some ⟨ints (rowF g.ns.length f),3,0,true⟩:=by
  unfold XR
  rw[List.getElem?_append_right (by omega)]; simp
 rw[setObj_some h1]
 unfold XR
 rw[List.set_append_right _ _ (by omega)]; simp
theorem XR_app (o:AO):XR g H f G++[o]=XR g H f (G++[o]):=by simp[XR]
set_option maxRecDepth 10000 in
theorem tlp58_1 {own:Bool} {p i:Nat} (hW:Wg g) (hR:RchOk g own M (fun j=>S.getD j []) R) (hi:i<g.ns.length) (hp:(p:Int)<g.pl) (hS:S.length=g.is.length) (hSl:∀ j (h:j<S.length),S[j].length=g.acts j) {N:Nat} {K:XE->Env->List AO->Prop}
 (hexit:∀ env f,Dn g R p (i+1) f->env.get 1=.slc (sls S) S.length->env.get 2=i64 p->env.get 3=bl own->env.get 4=.ptr (.own H.length 0 0 0 0) 0->env.get 9=.own (H.length+1) 0 g.ns.length 1 0->env.get 10=i64 i->K (.exit 2) env (XR g H f (G++[⟨g.ns[i].cells,59,0,true⟩]))) :
 ∀ (m k:Nat) (f:Nat->Int) (env:Env),k+m=g.ns[i].nx.length->Dn g R p i f->(∀ t (ht:t<g.ns[i].nx.length),t<k->f g.ns[i].nx[t].toNat=R.getD (g.ns[i].nx[t].toNat*4+p) 0)->env.get 1=.slc (sls S) S.length->env.get 2=i64 p->env.get 3=bl own->env.get 4=.ptr (.own H.length 0 0 0 0) 0->env.get 9=.own (H.length+1) 0 g.ns.length 1 0->env.get 10=i64 i →
  env.get 11=.ptr (.own (H.length+2+G.length) 0 0 0 0) 0->env.get 12=bl (hisQ g i p)->env.get 13=i64 k->LI Try.prog N drawB l58_1 env (XR g H f (G++[⟨g.ns[i].cells,59,0,true⟩])) K:=by
 have hnx60:g.ns[i].nx.length≤60:=nx_of (hW.gd.e _ (List.getElem_mem hi))
 have hx:g.ns[i]? = some g.ns[i]:=List.getElem?_eq_getElem hi
 have hn:=hW.gd.n
 have hN:∀ f,objCells (XR g H f (G++[⟨g.ns[i].cells,59,0,true⟩])) (H.length+2+G.length) 0=g.ns[i].cells:=fun f=>XR_n (H:=H) (G:=G) (g:=g) (f:=f) (o:=⟨g.ns[i].cells,59,0,true⟩) rfl
 have hO:=fun f=>XR_o (H:=H) (G:=G++[⟨g.ns[i].cells,59,0,true⟩]) (g:=g) (f:=f) 0 rfl
 have hSO:=fun f fn=>XR_set (H:=H) (G:=G++[⟨g.ns[i].cells,59,0,true⟩]) (g:=g) (f:=f) fn
 have hXl:=fun f=>XR_len (H:=H) (G:=G++[⟨g.ns[i].cells,59,0,true⟩]) (g:=g) (f:=f)
 generalize (⟨g.ns[i].cells,59,0,true⟩:AO)=o at *
 intro m
 induction m with
 | zero =>
  intro k f env hk hD hT h1 h2 h3 h4 h9 h10 h11 h12 h13
  refine li_go hm l58_1.eq_1 ?_
  have e:k=g.ns[i].nx.length:=by omega
  subst e
  have hX:=fun env=>hexit env f (hD.suc hW hi fun t ht=>hT t ht ht)
  have hN2:=hN f
  simp only[Nd.cells,sl]at hN2
  simp -implicitDefEqProofs[h11,h13,hN2]
  exact hX _ (by simp[h1]) (by simp[h2]) (by simp[h3]) (by simp[h4]) (by simp[h9]) (by simp[h10])
 | succ m ih =>
  intro k f env hk hD hT h1 h2 h3 h4 h9 h10 h11 h12 h13
  refine li_go hm l58_1.eq_1 ?_
  have hkl:k<g.ns[i].nx.length:=by omega
  have hch:=(hW.wf.nf i hi).ch _ (List.getElem_mem hkl)
  have w1:=wrap_suc (show k<9223372036854775807 by omega)
  have hcn:((g.ns[i].nx[k].toNat:Nat):Int)=g.ns[i].nx[k]:=by omega
  have hRq:=hR.eq i k p hi hkl hp
  have hcg:(g.ns[i].nx.getD k 0).toNat=g.ns[i].nx[k].toNat:=by simp[hkl]
  rw[hcg]at hRq
  generalize hcc:g.ns[i].nx[k].toNat=ch at *
  have hcl:ch<g.ns.length:=by omega
  have hci:i<ch:=by omega
  have eF:∀ f:Nat->Int,(ints (rowF g.ns.length f))[i]?.getD .any=i64 (f i):=fun f=>by rw[ints_at (by simpa using hi),rowF_getD hi]
  have e5:∀ (f:Nat->Int) (y:Int),List.take ch (ints (rowF g.ns.length f))++i64 y::List.drop (ch+1) (ints (rowF g.ns.length f))=ints (rowF g.ns.length (put f ch y)):=fun f y=>by rw[ints_set (by simpa using hcl),rowF_set]
  have hf:=hD.at hW hi
  have key:=fun env=>ih (k+1) (put f ch (R.getD (ch*4+p) 0)) env (by omega) (hD.put ch) (fun t ht htk=>by
   unfold put
   split
   · rename_i e; rw[e]
   · by_cases e:t=k
     · subst e; rename_i e2; exact absurd hcc e2
     · exact hT t ht (by omega))
  simp only[Nd.cells,sl]at hN
  by_cases hh:hisQ g i p=own
  · have e1:R.getD (ch*4+p) 0=qoF (R.getD (i*4+p) 0) (brP g (fun j=>S.getD j []) i k) (brW g M i):=by rw[hRq]; unfold rchF; rw[if_pos hh]
    rcases kd_of hW hi with hk1 | hk2 | hk3
    · obtain⟨a1,a2,a3,a4⟩:=ch_of hW hi hk1
      have hkw:k<g.ns[i].ws.length:=by omega
      obtain⟨m1,m2⟩:=hR.m i hi hk1
      have eB:brW g M i=wsum g.ns[i].ws:=by simp only[brW,hx,hk1]; exact m1
      have eP:brP g (fun j=>S.getD j []) i k=g.ns[i].ws[k]:=by simp[brP,hx,hk1,hkw]
      have hB1:0<wsum g.ns[i].ws:=by omega
      rw[e1,eB,eP]at key
      unfold qoF at key
      generalize R.getD (i*4+p) 0=ri at *
      simp -implicitDefEqProofs[h1,h2,h3,h4,h9,h10,h11,h12,h13,hN,hO,hSO,hkl,hh,hi,hcl,<- hcn,eF,e5,w1,hf,rowF_get hi,hk1,hkw]
      repeat (refine⟨by omega,?_⟩)
      have h75:=ok75 (H:=XR g H f (G++[o])) (l:=g.ns[i].ws) (by omega)
      refine callq_go (r:=i64 (wsum g.ns[i].ws)) (fun _=>h75) ?_
      generalize wsum g.ns[i].ws=ws at *
      simp -implicitDefEqProofs[h1,h2,h3,h4,h9,h10,h11,h12,h13,hN,hO,hSO,hkl,hh,hi,hcl,<- hcn,eF,e5,w1,hf,rowF_get hi,hk1,hkw]
      repeat (refine⟨by omega,?_⟩)
      refine key _ ?_ ?_ ?_ ?_ ?_ ?_ ?_ ?_ ?_
      · simp
      · simp
      · simp
      · simp
      · simp
      · simp
      · simp
      · simp[hh]
      · simp
    · obtain⟨b1,b2,b3,b4,b5⟩:=mv_of hW hi hk2
      have hjS:g.ns[i].i.toNat<S.length:=by omega
      have hkS:k<S[g.ns[i].i.toNat].length:=by rw[hSl _ hjS]; omega
      have eP:brP g (fun j=>S.getD j []) i k=S[g.ns[i].i.toNat][k]:=by simp[brP,hx,hk2,hjS,hkS]
      have eB:brW g M i=65536:=by simp[brW,hx,hk2]
      rw[e1,eB,eP]at key
      unfold qoF at key
      generalize R.getD (i*4+p) 0=ri at *
      generalize g.ns[i].i.toNat=js at *
      simp -implicitDefEqProofs[h1,h2,h3,h4,h9,h10,h11,h12,h13,hN,hO,hSO,hkl,hh,hi,hcl,<- hcn,eF,e5,w1,hf,rowF_get hi,hk2,hkS,hjS,sls_get hjS,sl,<- b2]
      repeat (refine⟨by omega,?_⟩)
      refine key _ ?_ ?_ ?_ ?_ ?_ ?_ ?_ ?_ ?_
      · simp
      · simp
      · simp
      · simp
      · simp
      · simp
      · simp
      · simp[hh]
      · simp
    · have:=(en_of hW hi hk3).1
      rw[this]at hkl; simp at hkl
  · have e1:R.getD (ch*4+p) 0=R.getD (i*4+p) 0:=by rw[hRq]; unfold rchF; rw[if_neg hh]
    rw[e1]at key
    generalize R.getD (i*4+p) 0=ri at *
    simp -implicitDefEqProofs[h1,h2,h3,h4,h9,h10,h11,h12,h13,hN,hO,hSO,hkl,hh,hi,hcl,<- hcn,eF,e5,w1,hf,rowF_get hi]
    repeat (refine⟨by omega,?_⟩)
    refine key _ ?_ ?_ ?_ ?_ ?_ ?_ ?_ ?_ ?_
    · simp
    · simp
    · simp
    · simp
    · simp
    · simp
    · simp
    · simp
    · simp
end
end Go.Proofs.Ytogjmpkehjfecaa.Rc
namespace Go.Proofs.Ytogjmpkehjfecaa.Rc
open Go.Ab Go.Ab.Shr
section
variable {H G:List AO} {g:Gm} {R M:List Int} {S:List (List Int)} {f:Nat->Int}
set_option maxRecDepth 10000 in
theorem tlp58_0 {own:Bool} {p:Nat} (hW:Wg g) (hR:RchOk g own M (fun j=>S.getD j []) R) (hp:(p:Int)<g.pl) (hS:S.length=g.is.length) (hSl:∀ j (h:j<S.length),S[j].length=g.acts j) {N:Nat} {K:XE->Env->List AO->Prop}
 (hexit:∀ env f G,Dn g R p g.ns.length f->env.get 9=.own (H.length+1) 0 g.ns.length 1 0->K (.exit 0) env (XR g H f G)) :
 ∀ (m i:Nat) (f:Nat->Int) (G:List AO) (env:Env),i+m=g.ns.length->Dn g R p i f->env.get 1=.slc (sls S) S.length->env.get 2=i64 p->env.get 3=bl own->env.get 4=.ptr (.own H.length 0 0 0 0) 0->env.get 9=.own (H.length+1) 0 g.ns.length 1 0->env.get 10=i64 i →
  LI Try.prog N drawB l58_0 env (XR g H f G) K:=by
 have hn:=hW.gd.n
 intro m
 induction m with
 | zero =>
  intro i f G env hi hD h1 h2 h3 h4 h9 h10
  refine li_go hm l58_0.eq_1 ?_
  have e:i=g.ns.length:=by omega
  subst e
  have hB:=XR_b (H:=H) (G:=G) (g:=g) (f:=f)
  have hX:=fun env=>hexit env f G hD
  simp only[Gm.cells]at hB
  simp -implicitDefEqProofs[h4,h10,hB]
  exact hX _ (by simp[h9])
 | succ m ih =>
  intro i f G env hi hD h1 h2 h3 h4 h9 h10
  refine li_go hm l58_0.eq_1 ?_
  have hii:i<g.ns.length:=by omega
  have w1:=wrap_suc (show i<9223372036854775807 by omega)
  have hx:g.ns[i]? = some g.ns[i]:=List.getElem?_eq_getElem hii
  have hB:=XR_b (H:=H) (G:=G) (g:=g) (f:=f)
  have hXl:=XR_len (H:=H) (G:=G) (g:=g) (f:=f)
  have hA:∀ o:AO,XR g H f G++[o]=XR g H f (G++[o]):=XR_app
  have hNo:objCells (XR g H f (G++[⟨g.ns[i].cells,59,0,true⟩])) (H.length+2+G.length) 0=g.ns[i].cells:=XR_n (H:=H) (G:=G) (g:=g) (f:=f) (o:=⟨g.ns[i].cells,59,0,true⟩) rfl
  have l1:=fun K he=>tlp58_1 (H:=H) (G:=G) hW hR hii hp hS hSl (N:=N) (K:=K) he g.ns[i].nx.length 0 f
  have hhis:hisQ g i p=decide (g.ns[i].k=2∧g.ns[i].p=p):=by simp[hisQ,hx]
  simp only[Gm.cells]at hB
  simp only[Nd.cells,sl]at hNo l1
  simp -implicitDefEqProofs[h1,h2,h3,h4,h9,h10,hB,hii,nds_at hii,nds_min hii,nds_ge hii,sl]
  have hl:(XR g H f G).length=H.length+2+G.length:=hXl
  rw[hA]
  refine l1 _ (fun env f hD g1 g2 g3 g4 g9 g10 => ?_) _ (by omega) hD (fun t ht h=>absurd h (by omega)) (by simp[h1]) (by simp[h2]) (by simp[h3]) (by simp[h4]) (by simp[h9]) (by simp[h10]) (by simp[hl]) ?_ (by simp)
  · simp -implicitDefEqProofs[g10]
    exact ih (i+1) f _ _ (by omega) hD (by simp[g1]) (by simp[g2]) (by simp[g3]) (by simp[g4]) (by simp[g9]) (by simp[w1])
  · simp[hhis]
def rchRow (g:Gm) (R:List Int) (p:Nat):List Int:=rowF g.ns.length fun i=>R.getD (i*4+p) 0
theorem ok58 {own:Bool} {p:Nat} (hW:Wg g) (hR:RchOk g own M (fun j=>S.getD j []) R) (hp:(p:Int)<g.pl) (hS:S.length=g.is.length) (hSl:∀ j (h:j<S.length),S[j].length=g.acts j) :
 Ok Try.prog 58 [.agg g.cells,.slc (sls S) S.length,i64 p,bl own] H (.ret (sl (rchRow g R p))) H:=by
 have hn:=hW.gd.n
 have hn1:=hW.gd.n1
 refine ok_fn hm Try.func58 c58 (by simp[Gm.cells,nds_under,infs_under,sls_under]) fun hcl => ?_
 have hz:List.replicate g.ns.length (i64 0)=ints (rowF g.ns.length fun _=>0):=by simp[ints,rowF,List.map_const']
 have e5:∀ (f:Nat->Int) (y:Int),i64 y::(ints (rowF g.ns.length f)).tail=ints (rowF g.ns.length (put f 0 y)):=fun f y=>by
  have:=ints_set (l:=rowF g.ns.length f) (k:=0) (by simp; omega) y
  rw[rowF_set]at this
  simpa using this
 have hD0:Dn g R p 0 (put (fun _=>0) 0 1073741824):=by
  intro j hj hpj
  have hj0:j=0:=by
   rcases Nat.eq_zero_or_pos j with e0 | e0
   · exact e0
   · obtain⟨q,hq,h1,h2,h3⟩:=hW.wf.pf j e0 hj
     omega
  subst hj0
  have:=hR.z p hp
  simp only[Nat.zero_mul,Nat.zero_add]
  rw[this]; rfl
 have l0:=fun N K he=>tlp58_0 (H:=H) hW hR hp hS hSl (N:=N) (K:=K) he g.ns.length 0 (put (fun _=>0) 0 1073741824) []
 simp only[XR,gbox,Gm.cells]at l0
 simp -implicitDefEqProofs[i58,r58,Gm.cells,hz,e5]
 repeat (refine⟨by omega,?_⟩)
 refine l0 _ _ (fun env f G hD g9 => ?_) _ (by omega) hD0 (by simp) (by simp) (by simp) (by simp) (by simp) (by simp)
 have hf:rowF g.ns.length f=rchRow g R p:=List.map_congr_left fun j hj=>by
  simp only[List.mem_range]at hj
  refine hD j hj ?_
  rcases Nat.eq_zero_or_pos j with e0 | e0
  · subst e0; rw[hW.wf.p0]; omega
  · obtain⟨q,hq,h1,h2,h3⟩:=hW.wf.pf j e0 hj
    omega
 simp -implicitDefEqProofs[g9]
 refine cv_fz 2 hcl rfl ?_
 rw[hf]
 have hl:(rchRow g R p).length=g.ns.length:=by simp[rchRow]
 simp[sl,<- hl]
end
end Go.Proofs.Ytogjmpkehjfecaa.Rc
namespace Go.Proofs.Ytogjmpkehjfecaa.Rc
open Go.Ab Go.Ab.Shr
def qSo (h:Nat):Nat:=h+5
def qS (h i:Nat):Nat:=h+6+2*i
def qPo (h n:Nat):Nat:=h+7+2*n
def qP (h n i:Nat):Nat:=h+8+2*n+2*i
def qE (h n:Nat):Nat:=h+8+4*n
def nxO (g:Gm) (h:Nat) (r s:Int):AO:=⟨[i64 r,i64 s,.own (qSo h) 0 g.is.length 1 g.is.length,.own (qPo h g.is.length) 0 g.is.length 1 g.is.length],28,1,true⟩
structure PW (g:Gm) (H:List AO) (t:Tin) (rr:Int) (A P:Nat->List Int) (X:List AO):Prop where
 b:X[H.length]? = some (gbox g)
 tb:X[H.length+1]? = some (tB t)
 rb:X[H.length+2]? = some ⟨[i64 0,i64 0,nl,nl],28,0,true⟩
 nx:X[H.length+3]? = some (nxO g H.length rr t.seed)
 so:X[qSo H.length]? = some ⟨outs g.is.length (qS H.length) g.acts 0,36,g.is.length,true⟩
 po:X[qPo H.length g.is.length]? = some ⟨outs g.is.length (qP H.length g.is.length) g.acts 0,36,g.is.length,true⟩
 s:∀ i,i<g.is.length->X[qS H.length i]? = some ⟨ints (A i),3,0,true⟩
 p:∀ i,i<g.is.length->X[qP H.length g.is.length i]? = some ⟨ints (P i),3,0,true⟩
 ls:∀ i,i<g.is.length->(A i).length=g.acts i
 lp:∀ i,i<g.is.length->(P i).length=g.acts i
 low:∀ j,j<H.length->X[j]? = H[j]?
 len:qE H.length g.is.length≤X.length
section
variable {g:Gm} {H X:List AO} {t:Tin} {rr:Int} {A P:Nat->List Int}
theorem PW.app (h:PW g H t rr A P X) (L:List AO):PW g H t rr A P (X++L):=by
 have up:∀ {i:Nat} {o:AO},X[i]? = some o->(X++L)[i]? = some o:=fun h=>by rw[List.getElem?_append_left (getElem?_lt h)]; exact h
 have hl:=h.len
 exact⟨up h.b,up h.tb,up h.rb,up h.nx,up h.so,up h.po,fun i hi=>up (h.s i hi),fun i hi=>up (h.p i hi),h.ls,h.lp,fun j hj=>by rw[List.getElem?_append_left (by unfold qE at hl; omega)]; exact h.low j hj,by simp; omega⟩
theorem PW.setS (h:PW g H t rr A P X) {j:Nat} (hj:j<g.is.length) {l:List Int} (hl:l.length=g.acts j):PW g H t rr (upA A j l) P (X.set (qS H.length j) ⟨ints l,3,0,true⟩):=by
 have ne:∀ {i:Nat} {o:AO},X[i]? = some o->i≠qS H.length j->(X.set (qS H.length j) ⟨ints l,3,0,true⟩)[i]? = some o:=fun h h2=>by rw[List.getElem?_set_ne (by omega)]; exact h
 have hlt:=getElem?_lt (h.s j hj)
 refine⟨ne h.b (by unfold qS; omega),ne h.tb (by unfold qS; omega),ne h.rb (by unfold qS; omega),ne h.nx (by unfold qS; omega),ne h.so (by unfold qS qSo; omega),ne h.po (by unfold qS qPo; omega),fun i hi => ?_,fun i hi=>ne (h.p i hi) (by unfold qS qP; omega),fun i hi => ?_,h.lp,fun i hi=>by rw[List.getElem?_set_ne (by unfold qS; omega)]; exact h.low i hi,by simp; exact h.len⟩
 · by_cases e:i=j
   · subst e; rw[List.getElem?_set_self hlt]; simp[upA]
   · rw[List.getElem?_set_ne (by unfold qS; omega),h.s i hi]; simp[upA,e]
 · unfold upA; split
   · rename_i e; rw[e]; exact hl
   · exact h.ls i hi
theorem PW.setP (h:PW g H t rr A P X) {j:Nat} (hj:j<g.is.length) {l:List Int} (hl:l.length=g.acts j):PW g H t rr A (upA P j l) (X.set (qP H.length g.is.length j) ⟨ints l,3,0,true⟩):=by
 have ne:∀ {i:Nat} {o:AO},X[i]? = some o->i≠qP H.length g.is.length j->(X.set (qP H.length g.is.length j) ⟨ints l,3,0,true⟩)[i]? = some o:=fun h h2=>by rw[List.getElem?_set_ne (by omega)]; exact h
 have hlt:=getElem?_lt (h.p j hj)
 refine⟨ne h.b (by unfold qP; omega),ne h.tb (by unfold qP; omega),ne h.rb (by unfold qP; omega),ne h.nx (by unfold qP; omega),ne h.so (by unfold qP qSo; omega),ne h.po (by unfold qP qPo; omega),fun i hi=>ne (h.s i hi) (by unfold qS qP; omega),fun i hi => ?_,h.ls,fun i hi => ?_,fun i hi=>by rw[List.getElem?_set_ne (by unfold qP; omega)]; exact h.low i hi,by simp; exact h.len⟩
 · by_cases e:i=j
   · subst e; rw[List.getElem?_set_self hlt]; simp[upA]
   · rw[List.getElem?_set_ne (by unfold qP; omega),h.p i hi]; simp[upA,e]
 · unfold upA; split
   · rename_i e; rw[e]; exact hl
   · exact h.lp i hi
def zersA (g:Gm) (i:Nat):List Int:=zers (g.acts i)
def initP (g:Gm) (H:List AO) (t:Tin) (rr:Int):List AO :=
 H++(gbox g::tB t::⟨[i64 0,i64 0,nl,nl],28,0,true⟩::nxO g H.length rr t.seed::gbox g::⟨outs g.is.length (qS H.length) g.acts 0,36,g.is.length,true⟩::(blkZ (H.length+4) g g.is.length++(gbox g::⟨outs g.is.length (qP H.length g.is.length) g.acts 0,36,g.is.length,true⟩::blkZ (H.length+6+2*g.is.length) g g.is.length)))
theorem PW.init:PW g H t rr (zersA g) (zersA g) (initP g H t rr):=by
 have hb1:=blkZ_len (H.length+4) g g.is.length
 have hb2:=blkZ_len (H.length+6+2*g.is.length) g g.is.length
 have hz1:=fun i hi=>blkZ_at (H.length+4) g g.is.length i hi
 have hz2:=fun i hi=>blkZ_at (H.length+6+2*g.is.length) g g.is.length i hi
 have at':∀ k,(initP g H t rr)[H.length+k]? = (gbox g::tB t::⟨[i64 0,i64 0,nl,nl],28,0,true⟩::nxO g H.length rr t.seed::gbox g::⟨outs g.is.length (qS H.length) g.acts 0,36,g.is.length,true⟩::(blkZ (H.length+4) g g.is.length++(gbox g::⟨outs g.is.length (qP H.length g.is.length) g.acts 0,36,g.is.length,true⟩::blkZ (H.length+6+2*g.is.length) g g.is.length)))[k]? := fun k=>by
  unfold initP
  rw[List.getElem?_append_right (by omega)]
  congr 1; omega
 refine⟨at' 0,at' 1,at' 2,at' 3,?_,?_,fun i hi => ?_,fun i hi => ?_,fun i _=>by simp[zersA,zers],fun i _=>by simp[zersA,zers],fun j hj=>by unfold initP; rw[List.getElem?_append_left hj],?_⟩
 · exact at' 5
 · have:=at' (7+2*g.is.length)
   rw[show qPo H.length g.is.length=H.length+(7+2*g.is.length)by unfold qPo; omega,this]
   rw[show 7+2*g.is.length=(1+2*g.is.length)+6 by omega]
   simp only[List.getElem?_cons_succ]
   rw[List.getElem?_append_right (by omega),hb1,show 1+2*g.is.length-2*g.is.length=1 by omega]
   rfl
 · rw[show qS H.length i=H.length+(2*i+6)by unfold qS; omega,at']
   simp only[List.getElem?_cons_succ]
   rw[List.getElem?_append_left (by omega),hz1 i hi]; rfl
 · rw[show qP H.length g.is.length i=H.length+((2*g.is.length+(2*i+2))+6)by unfold qP; omega,at']
   simp only[List.getElem?_cons_succ]
   rw[List.getElem?_append_right (by omega),hb1,show 2*g.is.length+(2*i+2)-2*g.is.length=2*i+2 by omega]
   simp only[List.getElem?_cons_succ]
   rw[hz2 i hi]; rfl
 · unfold initP qE
   simp[hb1,hb2]; omega
end
end Go.Proofs.Ytogjmpkehjfecaa.Rc
namespace Go.Proofs.Ytogjmpkehjfecaa.Rc
open Go.Ab Go.Ab.Shr
def cpA (g:Gm) (L:List (List Int)):Nat->Nat->List Int
 | 0=>zersA g
 | i+1=>upA (cpA g L i) i (L.getD i [])
section
variable {g:Gm} {H X:List AO} {t:Tin} {rr:Int} {A P:Nat->List Int}
structure TinOk (g:Gm) (t:Tin):Prop where
 la:t.A.length=g.is.length
 lp:t.P.length=g.is.length
 a:∀ i (h:i<t.A.length),t.A[i].length=g.acts i
 p:∀ i (h:i<t.P.length),t.P[i].length=g.acts i
set_option maxRecDepth 10000 in
theorem tlp33_0 (hW:Wg g) (hT:TinOk g t) {x4 x6:SV} {N:Nat} {K:XE->Env->List AO->Prop}
 (hexit:∀ env X,PW g H t rr (cpA g t.A g.is.length) (cpA g t.P g.is.length) X->env.get 2=.ptr (.own H.length 0 0 0 0) 0->env.get 4=x4->env.get 6=x6->env.get 7=.ptr (.own (H.length+3) 0 0 0 1) 0->K (.exit 0) env X) :
 ∀ (m i:Nat) (X:List AO) (env:Env),i+m=g.is.length->PW g H t rr (cpA g t.A i) (cpA g t.P i) X->env.get 2=.ptr (.own H.length 0 0 0 0) 0->env.get 3=.ptr (.own (H.length+1) 0 0 0 0) 0->env.get 4=x4->env.get 6=x6->env.get 7=.ptr (.own (H.length+3) 0 0 0 1) 0->env.get 8=i64 i →
  LI Try.prog N drawB l33_0 env X K:=by
 have hil:=hW.gd.i
 intro m
 induction m with
 | zero =>
  intro i X env hi h h2 h3 h4 h6 h7 h8
  refine li_go hm l33_0.eq_1 ?_
  have e:i=g.is.length:=by omega
  subst e
  have hB:=oc_at h.b []
  rw[List.append_nil]at hB
  simp -implicitDefEqProofs[h2,h8,hB,gbox,Gm.cells]
  exact hexit _ X h (by simp[h2]) (by simp[h4]) (by simp[h6]) (by simp[h7])
 | succ m ih =>
  intro i X env hi h h2 h3 h4 h6 h7 h8
  refine li_go hm l33_0.eq_1 ?_
  have hii:i<g.is.length:=by omega
  obtain⟨n1,n2⟩:=acts_le hW hii
  have w1:=wrap_suc (show i<9223372036854775807 by omega)
  have hiA:i<t.A.length:=by rw[hT.la]; exact hii
  have hiP:i<t.P.length:=by rw[hT.lp]; exact hii
  have lA:=hT.a i hiA
  have lP:=hT.p i hiP
  have h':=h.setS hii (l:=t.A[i]) lA
  have h'':=h'.setP hii (l:=t.P[i]) lP
  have eA:upA (cpA g t.A i) i t.A[i]=cpA g t.A (i+1):=by simp[cpA,hiA]
  have eP:upA (cpA g t.P i) i t.P[i]=cpA g t.P (i+1):=by simp[cpA,hiP]
  rw[eA,eP]at h''
  have hB:=oc_at h.b []
  have hTb:=oc_at h.tb []
  have hNx:=oc_at h.nx []
  have hSo:=oc_at h.so []
  have hSr:=oc_at (h.s i hii) []
  have hSs:=so_at (h.s i hii) []
  have hTb2:=oc_at h'.tb []
  have hNx2:=oc_at h'.nx []
  have hPo2:=oc_at h'.po []
  have hPr2:=oc_at (h'.p i hii) []
  have hPs2:=so_at (h'.p i hii) []
  have ls:=h.ls i hii
  have lp:=h'.lp i hii
  simp only[List.append_nil]at hB hTb hNx hSo hSr hSs hTb2 hNx2 hPo2 hPr2 hPs2
  generalize cpA g t.A i=Ai at *
  generalize cpA g t.P i=Pi at *
  have eD:List.drop (g.acts i) (ints (Ai i))=[]:=List.drop_eq_nil_of_le (by simp[ls])
  have eDp:List.drop (g.acts i) (ints (Pi i))=[]:=List.drop_eq_nil_of_le (by simp[lp])
  have hTA:(sls t.A)[i]? = some (sl t.A[i]):=by simp[sls,hiA]
  simp -implicitDefEqProofs[eD,eDp,h2,h3,h7,h8,hB,hTb,hNx,hSo,hSr,hSs,hTb2,hNx2,hPo2,hPr2,hPs2,gbox,nxO,tB,Tin.cells,Gm.cells,hii,hiA,hiP,sls_get hiA,sls_get hiP,sl,lA,lP,ls,lp,w1]
  repeat (refine⟨by omega,?_⟩)
  exact ih (i+1) _ _ (by omega) h'' (by simp) (by simp) (by simp[h4]) (by simp[h6]) (by simp) (by simp)
end
end Go.Proofs.Ytogjmpkehjfecaa.Rc
namespace Go.Proofs.Ytogjmpkehjfecaa.Rc
open Go.Ab Go.Ab.Shr
def bls (n:Nat) (s:Nat->Bool):List SV:=(List.range n).map fun j=>bl (s j)
@[simp] theorem bls_len (n:Nat) (s:Nat->Bool):(bls n s).length=n:=by simp[bls]
structure PX (g:Gm) (H:List AO) (t:Tin) (rr:Int) (A P:Nat->List Int) (ps:Nat) (sn:Nat->Bool) (pn i:Nat) (X:List AO):Prop where
 w:PW g H t rr A P X
 eps:qE H.length g.is.length≤ps
 epn:ps<pn
 sn:X[ps]? = some ⟨bls g.is.length sn,4,0,true⟩
 n:∀ h:i<g.ns.length,X[pn]? = some ⟨g.ns[i].cells,59,0,true⟩
section
variable {g:Gm} {H X:List AO} {t:Tin} {rr:Int} {A P:Nat->List Int} {ps pn i:Nat} {sn:Nat->Bool}
theorem PX.setS (h:PX g H t rr A P ps sn pn i X) {j:Nat} (hj:j<g.is.length) {l:List Int} (hl:l.length=g.acts j):PX g H t rr (upA A j l) P ps sn pn i (X.set (qS H.length j) ⟨ints l,3,0,true⟩):=by
 have h1:=h.eps; have h2:=h.epn
 refine⟨h.w.setS hj hl,h1,h2,?_,fun hi => ?_⟩
 · rw[List.getElem?_set_ne (by unfold qE at h1; unfold qS; omega)]; exact h.sn
 · rw[List.getElem?_set_ne (by unfold qE at h1; unfold qS; omega)]; exact h.n hi
theorem PX.setP (h:PX g H t rr A P ps sn pn i X) {j:Nat} (hj:j<g.is.length) {l:List Int} (hl:l.length=g.acts j):PX g H t rr A (upA P j l) ps sn pn i (X.set (qP H.length g.is.length j) ⟨ints l,3,0,true⟩):=by
 have h1:=h.eps; have h2:=h.epn
 refine⟨h.w.setP hj hl,h1,h2,?_,fun hi => ?_⟩
 · rw[List.getElem?_set_ne (by unfold qE at h1; unfold qP; omega)]; exact h.sn
 · rw[List.getElem?_set_ne (by unfold qE at h1; unfold qP; omega)]; exact h.n hi
def updK (l:List Int) (f:Nat->Int) (k:Nat):List Int:=rowF l.length fun a=>if a<k then f a else l.getD a 0
theorem updK_len (l:List Int) (f:Nat->Int) (k:Nat):(updK l f k).length=l.length:=by simp[updK]
theorem updK_0 (l:List Int) (f:Nat->Int):updK l f 0=l:=by
 simp only[updK,Nat.not_lt_zero,if_false]
 exact rowF_self l
theorem updK_get {l:List Int} {f:Nat->Int} {k:Nat} (hk:k<l.length):(updK l f k)[k]'(by rw[updK_len]; exact hk)=l.getD k 0:=by simp[updK,rowF]
theorem updK_all (l:List Int) (f:Nat->Int):updK l f l.length=rowF l.length f:=by
 apply List.map_congr_left
 intro a ha
 simp only[List.mem_range]at ha
 rw[if_pos ha]
theorem updK_set {l:List Int} {f:Nat->Int} {k:Nat} (hk:k<l.length):(updK l f k).set k (f k)=updK l f (k+1):=by
 apply List.ext_getElem?
 intro a
 by_cases e:k=a
 · subst e; rw[List.getElem?_set_self (by rw[updK_len]; exact hk)]; simp[updK,rowF,hk]
 · rw[List.getElem?_set_ne e]
   by_cases ha:a<l.length
   · have:(a<k)↔(a<k+1):=by omega
     simp[updK,rowF,ha,this]
   · rw[List.getElem?_eq_none (by rw[updK_len]; omega),List.getElem?_eq_none (by rw[updK_len]; omega)]
end
end Go.Proofs.Ytogjmpkehjfecaa.Rc
namespace Go.Proofs.Ytogjmpkehjfecaa.Rc
open Go.Ab Go.Ab.Shr
theorem bls_get {n:Nat} {s:Nat->Bool} {j:Nat} (h:j<n):(bls n s)[j]'(by simpa using h)=bl (s j):=by simp[bls]
theorem valRows_get {g:Gm} {V:List Int} {i:Nat} (h:i<g.ns.length):(sls (valRows g V))[i]'(by simpa[valRows]using h)=.slc (ints (rowP g V i)) g.pl.toNat:=by simp[sls,valRows,sl]
@[simp] theorem valRows_len (g:Gm) (V:List Int):(valRows g V).length=g.ns.length:=by simp[valRows]
theorem rowP_get {g:Gm} {V:List Int} {i p:Nat} (h:p<g.pl.toNat):(rowP g V i)[p]'(by simpa using h)=V.getD (i*4+p) 0:=by simp[rowP,rowF]
@[simp] theorem rchRow_len (g:Gm) (R:List Int) (p:Nat):(rchRow g R p).length=g.ns.length:=by simp[rchRow]
theorem rchRow_get {g:Gm} {R:List Int} {i p:Nat} (h:i<g.ns.length):(rchRow g R p)[i]'(by simpa using h)=R.getD (i*4+p) 0:=by simp[rchRow,rowF]
section
variable {g:Gm} {H X:List AO} {t:Tin} {rr:Int} {A P:Nat->List Int} {ps pn i p j:Nat} {sn:Nat->Bool} {V R O:List Int} {S:List (List Int)}
def lrF (g:Gm) (V R:List Int) (A:List Int) (i a:Nat):Int:=IntKind.i64.wrap (A.getD a 0+dltA g V R i a)
def plK (sn:Nat->Bool) (P:Nat->List Int) (S:List (List Int)) (o:Int) (j k:Nat):Nat->List Int:=if sn j=true then P else upA P j (updK (P j) (plyF o (P j) (S.getD j [])) k)
theorem upA_at2 (A:Nat->List Int) (j:Nat) (l:List Int):upA A j l j=l:=by simp[upA]
theorem upA_up2 (A:Nat->List Int) (j:Nat) (l m:List Int):upA (upA A j l) j m=upA A j m:=by
 funext k; unfold upA; split<;>rfl
set_option maxRecDepth 10000 in
theorem tlp33_3 (hW:Wg g) (hi:i<g.ns.length) (hk2:g.ns[i].k=2) (hj:g.ns[i].i.toNat=j) (hxp:g.ns[i].p=p) (hp:(p:Int)<g.pl) (hS:S.length=g.is.length) (hSl:∀ j (h:j<S.length),S[j].length=g.acts j)
 (hA:(A j).length=g.acts j) (hP:(P j).length=g.acts j) {N:Nat} {K:XE->Env->List AO->Prop}
 (hexit:∀ env X,PX g H t rr (upA A j (updK (A j) (lrF g V R (A j) i) g.ns[i].nx.length)) (plK sn P S (O.getD (i*4+p) 0) j g.ns[i].nx.length) ps sn pn i X->env.get 2=.ptr (.own H.length 0 0 0 0) 0->env.get 4=.ptr (.own (H.length+2) 0 0 0 0) 0->env.get 6=.slc (sls S) S.length->env.get 7=.ptr (.own (H.length+3) 0 0 0 1) 0->env.get 9=.slc (sls (valRows g V)) g.ns.length->env.get 10=i64 p →
  env.get 11=sl (rchRow g R p)->env.get 12=sl (rchRow g O p)->env.get 13=.own ps 0 g.is.length 1 0->env.get 14=i64 i->env.get 15=.ptr (.own pn 0 0 0 0) 0->K (.exit 6) env X) :
 ∀ (m k:Nat) (X:List AO) (env:Env),k+m=g.ns[i].nx.length->PX g H t rr (upA A j (updK (A j) (lrF g V R (A j) i) k)) (plK sn P S (O.getD (i*4+p) 0) j k) ps sn pn i X->env.get 2=.ptr (.own H.length 0 0 0 0) 0->env.get 4=.ptr (.own (H.length+2) 0 0 0 0) 0->env.get 6=.slc (sls S) S.length->env.get 7=.ptr (.own (H.length+3) 0 0 0 1) 0->env.get 9=.slc (sls (valRows g V)) g.ns.length->env.get 10=i64 p →
  env.get 11=sl (rchRow g R p)->env.get 12=sl (rchRow g O p)->env.get 13=.own ps 0 g.is.length 1 0->env.get 14=i64 i->env.get 15=.ptr (.own pn 0 0 0 0) 0->env.get 16=i64 k->LI Try.prog N drawB l33_3 env X K:=by
 have hn:=hW.gd.n
 have hx:g.ns[i]? = some g.ns[i]:=List.getElem?_eq_getElem hi
 obtain⟨b1,b2,b3,b4,b5⟩:=mv_of hW hi hk2
 rw[hj]at b1 b2 b3
 have hpp:p<g.pl.toNat:=by omega
 have hjS:j<S.length:=by omega
 intro m
 induction m with
 | zero =>
  intro k X env hk h h2 h4 h6 h7 h9 h10 h11 h12 h13 h14 h15 h16
  refine li_go hm l33_3.eq_1 ?_
  have e:k=g.ns[i].nx.length:=by omega
  subst e
  have hN:=oc_at (h.n hi) []
  simp only[List.append_nil]at hN
  simp -implicitDefEqProofs[h15,h16,hN,Nd.cells,sl]
  exact hexit _ X h (by simp[h2]) (by simp[h4]) (by simp[h6]) (by simp[h7]) (by simp[h9]) (by simp[h10]) (by simp[h11]) (by simp[h12]) (by simp[h13]) (by simp[h14]) (by simp[h15])
 | succ m ih =>
  intro k X env hk h h2 h4 h6 h7 h9 h10 h11 h12 h13 h14 h15 h16
  refine li_go hm l33_3.eq_1 ?_
  have hkl:k<g.ns[i].nx.length:=by omega
  have hch:=(hW.wf.nf i hi).ch _ (List.getElem_mem hkl)
  have w1:=wrap_suc (show k<9223372036854775807 by omega)
  have hkA:k<(A j).length:=by omega
  have hkP:k<(P j).length:=by omega
  have hkS:k<S[j].length:=by rw[hSl _ hjS]; omega
  have hcn:((g.ns[i].nx[k].toNat:Nat):Int)=g.ns[i].nx[k]:=by omega
  have hcg:(g.ns[i].nx.getD k 0).toNat=g.ns[i].nx[k].toNat:=by simp[hkl]
  have eD:dltA g V R i k=IntKind.i64.wrap ((IntKind.i64.wrap (R.getD (i*4+p) 0*IntKind.i64.wrap (V.getD (g.ns[i].nx[k].toNat*4+p) 0-V.getD (i*4+p) 0))).tdiv 1073741824):=by
   have hp2:g.ns[i].p.toNat=p:=by omega
   simp only[dltA,hx,hp2,hcg]
  generalize hcc:g.ns[i].nx[k].toNat=ch at *
  have hcl:ch<g.ns.length:=by omega
  have hN:=oc_at (h.n hi) []
  have hB:=oc_at h.w.b []
  have hNx:=oc_at h.w.nx []
  have hSo:=oc_at h.w.so []
  have hSr:=oc_at (h.w.s j b1) []
  have hSs:=so_at (h.w.s j b1) []
  have hlU:(updK (A j) (lrF g V R (A j) i) k).length=g.acts j:=by rw[updK_len,hA]
  have eU:(ints (updK (A j) (lrF g V R (A j) i) k))[k]?.getD .any=i64 ((A j).getD k 0):=by
   rw[ints_at (by omega)]; congr 1
   have:=updK_get (f:=lrF g V R (A j) i) hkA
   rw[←this]; simp[updK_len,hkA]
  have eUs:∀ y,List.take k (ints (updK (A j) (lrF g V R (A j) i) k))++i64 y::List.drop (k+1) (ints (updK (A j) (lrF g V R (A j) i) k))=ints ((updK (A j) (lrF g V R (A j) i) k).set k y):=fun y=>ints_set (by omega) y
  have eF:lrF g V R (A j) i k=IntKind.i64.wrap ((A j).getD k 0+dltA g V R i k):=rfl
  rw[eD]at eF
  have h':=h.setS b1 (l:=updK (A j) (lrF g V R (A j) i) (k+1)) (by rw[updK_len,hA])
  rw[←updK_set hkA,eF,upA_up2]at h'
  have ih2:=ih (k+1)
  rw[←updK_set hkA,eF]at ih2
  simp only[upA_at2,List.append_nil]at hN hB hNx hSo hSr hSs
  have eVc:∀ h,(rowP g V ch)[p]'h=V.getD (ch*4+p) 0:=fun _=>rowP_get hpp
  have eVi:∀ h,(rowP g V i)[p]'h=V.getD (i*4+p) 0:=fun _=>rowP_get hpp
  have eR:∀ h,(rchRow g R p)[i]'h=R.getD (i*4+p) 0:=fun _=>rchRow_get hi
  have eO:∀ h,(rchRow g O p)[i]'h=O.getD (i*4+p) 0:=fun _=>rchRow_get hi
  have eUk:∀ h,(updK (A j) (lrF g V R (A j) i) k)[k]'h=(A j).getD k 0:=fun _=>updK_get hkA
  generalize V.getD (ch*4+p) 0=vc at *
  generalize V.getD (i*4+p) 0=vi at *
  generalize R.getD (i*4+p) 0=ri at *
  generalize (A j).getD k 0=aj at *
  have hN2:=oc_at (h'.n hi) []
  have hSn2:=oc_at h'.sn []
  have hNx2:=oc_at h'.w.nx []
  have hPo2:=oc_at h'.w.po []
  have hPr2:=oc_at (h'.w.p j b1) []
  have hPs2:=so_at (h'.w.p j b1) []
  simp only[List.append_nil]at hN2 hSn2 hNx2 hPo2 hPr2 hPs2
  generalize updK (A j) (lrF g V R (A j) i) k=U at *
  simp only[Nd.cells,nxO,sl]at hN hN2 hNx hNx2
  have eSn:∀ h,(bls g.is.length sn)[j]'h=bl (sn j):=fun _=>bls_get b1
  by_cases hsn:sn j=true
  · have eK:∀ k,plK sn P S (O.getD (i*4+p) 0) j k=P:=fun k=>by unfold plK; rw[if_pos hsn]
    simp only[eK]at *
    rw[hsn]at eSn
    generalize O.getD (i*4+p) 0=oi at *
    simp -implicitDefEqProofs[h2,h4,h6,h7,h9,h10,h11,h12,h13,h14,h15,h16,hN,hNx,hSo,hSr,hSs,hN2,hSn2,sl,hkl,hi,hcl,<- hcn,hj,<- b2,b1,b3,eU,eUs,hpp,valRows_get hi,valRows_get hcl,eVc,eVi,eR,eUk,eSn,hlU,w1]
    repeat (refine⟨by omega,?_⟩)
    refine ih2 _ _ (by omega) h' ?_ ?_ ?_ ?_ ?_ ?_ ?_ ?_ ?_ ?_ ?_ ?_
    · simp
    · simp
    · simp
    · simp
    · simp
    · simp
    · simp[sl]
    · simp[sl]
    · simp
    · simp
    · simp
    · simp
  · have eK:∀ k,plK sn P S (O.getD (i*4+p) 0) j k=upA P j (updK (P j) (plyF (O.getD (i*4+p) 0) (P j) (S.getD j [])) k):=fun k=>by unfold plK; rw[if_neg hsn]
    rw[Bool.not_eq_true]at hsn
    rw[hsn]at eSn
    have eSj:S.getD j []=S[j]:=by simp[hjS]
    simp only[eK,eSj]at *
    have eG:plyF (O.getD (i*4+p) 0) (P j) S[j] k=IntKind.i64.wrap ((P j).getD k 0+IntKind.i64.wrap ((IntKind.i64.wrap (O.getD (i*4+p) 0*S[j][k])).tdiv 65536)):=by simp[plyF,plyD,hkS]
    generalize plyF (O.getD (i*4+p) 0) (P j) S[j]=fP at *
    have h'':=h'.setP b1 (l:=updK (P j) fP (k+1)) (by rw[updK_len,hP])
    have hlQ:(updK (P j) fP k).length=g.acts j:=by rw[updK_len,hP]
    have eQ:(ints (updK (P j) fP k))[k]?.getD .any=i64 ((P j).getD k 0):=by
     rw[ints_at (by omega)]; congr 1
     have:=updK_get (f:=fP) hkP
     rw[←this]; simp[updK_len,hkP]
    have eQs:∀ y,List.take k (ints (updK (P j) fP k))++i64 y::List.drop (k+1) (ints (updK (P j) fP k))=ints ((updK (P j) fP k).set k y):=fun y=>ints_set (by omega) y
    have eQk:∀ h,(updK (P j) fP k)[k]'h=(P j).getD k 0:=fun _=>updK_get hkP
    rw[←updK_set hkP,eG,upA_up2]at h''
    rw[←updK_set hkP,eG]at ih2
    have hPr3:=hPr2
    have hPs3:=hPs2
    rw[upA_at2]at hPr3 hPs3
    generalize updK (P j) fP k=Q at *
    generalize O.getD (i*4+p) 0=oi at *
    generalize (P j).getD k 0=pj at *
    simp -implicitDefEqProofs[h2,h4,h6,h7,h9,h10,h11,h12,h13,h14,h15,h16,hN,hNx,hSo,hSr,hSs,hN2,hSn2,hNx2,hPo2,hPr3,hPs3,sl,hkl,hi,hcl,<- hcn,hj,<- b2,b1,b3,eU,eUs,eQ,eQs,eQk,hpp,valRows_get hi,valRows_get hcl,eVc,eVi,eR,eO,eUk,eSn,hlU,hlQ,hjS,sls_get hjS,hkS,w1]
    repeat (refine⟨by omega,?_⟩)
    refine ih2 _ _ (by omega) h'' ?_ ?_ ?_ ?_ ?_ ?_ ?_ ?_ ?_ ?_ ?_ ?_
    · simp
    · simp
    · simp
    · simp
    · simp
    · simp
    · simp[sl]
    · simp[sl]
    · simp
    · simp
    · simp
    · simp
end
end Go.Proofs.Ytogjmpkehjfecaa.Rc
