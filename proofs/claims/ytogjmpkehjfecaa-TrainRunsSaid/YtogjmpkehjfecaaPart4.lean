/-
  Steps of the proof: contracts of functions and plain facts that the statement rests on.
-/
import Derived.Test.YtogjmpkehjfecaaPart3
import Derived.Test.YtogjmpkehjfecaaPart2
import Derived.Test.YtogjmpkehjfecaaPart1
set_option linter.all false
namespace Go.Proofs.Ytogjmpkehjfecaa.Rc
open Go.Ab Go.Ab.Shr
def mvQ (g:Gm) (p i:Nat):Option Nat:=match g.ns[i]? with
 | none=>none
 | some x=>if x.k=2∧x.p=p then some x.i.toNat else none
def nxl (g:Gm) (i:Nat):Nat:=match g.ns[i]? with | none=>0 | some x=>x.nx.length
def rfA (g:Gm) (V R:List Int) (p:Nat) (A:Nat->List Int):Nat->Nat->List Int
 | 0=>A
 | i+1=>match mvQ g p i with
  | none=>rfA g V R p A i
  | some j=>upA (rfA g V R p A i) j (updK (rfA g V R p A i j) (lrF g V R (rfA g V R p A i j) i) (nxl g i))
def rfS (g:Gm) (p:Nat):Nat->Nat->Bool
 | 0=>fun _=>false
 | i+1=>match mvQ g p i with
  | none=>rfS g p i
  | some j=>fun k=>if k=j then true else rfS g p i k
def rfP (g:Gm) (O:List Int) (S:List (List Int)) (p:Nat) (P:Nat->List Int):Nat->Nat->List Int
 | 0=>P
 | i+1=>match mvQ g p i with
  | none=>rfP g O S p P i
  | some j=>plK (rfS g p i) (rfP g O S p P i) S (O.getD (i*4+p) 0) j (nxl g i)
structure PY (g:Gm) (H:List AO) (t:Tin) (rr:Int) (A P:Nat->List Int) (ps:Nat) (sn:Nat->Bool) (X:List AO):Prop where
 w:PW g H t rr A P X
 eps:qE H.length g.is.length≤ps
 sn:X[ps]? = some ⟨bls g.is.length sn,4,0,true⟩
section
variable {g:Gm} {H X:List AO} {t:Tin} {rr:Int} {A P:Nat->List Int} {ps pn i p j:Nat} {sn:Nat->Bool} {V R O:List Int} {S:List (List Int)}
theorem PY.node (h:PY g H t rr A P ps sn X) (hi:i<g.ns.length):PX g H t rr A P ps sn X.length i (X++[⟨g.ns[i].cells,59,0,true⟩]):=by
 have hl:=getElem?_lt h.sn
 refine⟨h.w.app _,h.eps,hl,by rw[List.getElem?_append_left hl]; exact h.sn,fun _ => ?_⟩
 rw[List.getElem?_append_right (Nat.le_refl _)]; simp
theorem PX.y (h:PX g H t rr A P ps sn pn i X):PY g H t rr A P ps sn X:=⟨h.w,h.eps,h.sn⟩
theorem PW.setN (h:PW g H t rr A P X) {q:Nat} (hq:qE H.length g.is.length≤q) (o:AO):PW g H t rr A P (X.set q o):=by
 have ne:∀ {i:Nat} {o':AO},X[i]? = some o'->i<qE H.length g.is.length->(X.set q o)[i]? = some o':=fun h h2=>by rw[List.getElem?_set_ne (by omega)]; exact h
 have hl:=h.len
 exact⟨ne h.b (by unfold qE; omega),ne h.tb (by unfold qE; omega),ne h.rb (by unfold qE; omega),ne h.nx (by unfold qE; omega),ne h.so (by unfold qE qSo; omega),ne h.po (by unfold qE qPo; omega),fun i hi=>ne (h.s i hi) (by unfold qE qS; omega),fun i hi=>ne (h.p i hi) (by unfold qE qP; omega),h.ls,h.lp,fun i hi=>by rw[List.getElem?_set_ne (by unfold qE at hq; omega)]; exact h.low i hi,by simp; exact hl⟩
theorem bls_set {n:Nat} {s:Nat->Bool} {j:Nat} (hj:j<n) (b:Bool):List.take j (bls n s)++bl b::List.drop (j+1) (bls n s)=bls n (fun k=>if k=j then b else s k):=by
 have hl:j<(bls n s).length:=by simp[hj]
 have:=List.set_eq_take_append_cons_drop (l:=bls n s) (i:=j) (a:=bl b)
 rw[if_pos hl]at this
 rw[←this]
 apply List.ext_getElem?
 intro k
 by_cases e:j=k
 · subst e; rw[List.getElem?_set_self hl]; simp[bls,hj]
 · rw[List.getElem?_set_ne e]
   by_cases hk:k<n
   · simp[bls,hk,Ne.symm e]
   · rw[List.getElem?_eq_none (by simp; omega),List.getElem?_eq_none (by simp; omega)]
theorem PY.set (h:PY g H t rr A P ps sn X) (j:Nat):PY g H t rr A P ps (fun k=>if k=j then true else sn k) (X.set ps ⟨bls g.is.length (fun k=>if k=j then true else sn k),4,0,true⟩) :=
 ⟨h.w.setN h.eps _,h.eps,by rw[List.getElem?_set_self (getElem?_lt h.sn)]⟩
theorem plK_0 (sn:Nat->Bool) (P:Nat->List Int) (S:List (List Int)) (o:Int) (j:Nat):plK sn P S o j 0=P:=by
 unfold plK; split
 · rfl
 · rw[updK_0,upA_id]
set_option maxRecDepth 10000 in
theorem tlp33_2 (hW:Wg g) (hp:(p:Int)<g.pl) (hS:S.length=g.is.length) (hSl:∀ j (h:j<S.length),S[j].length=g.acts j) {N:Nat} {K:XE->Env->List AO->Prop}
 (hexit:∀ env X,PW g H t rr (rfA g V R p A g.ns.length) (rfP g O S p P g.ns.length) X->env.get 2=.ptr (.own H.length 0 0 0 0) 0->env.get 4=.ptr (.own (H.length+2) 0 0 0 0) 0->env.get 6=.slc (sls S) S.length->env.get 7=.ptr (.own (H.length+3) 0 0 0 1) 0->env.get 9=.slc (sls (valRows g V)) g.ns.length->env.get 10=i64 p->K (.exit 4) env X) :
 ∀ (m i:Nat) (X:List AO) (env:Env),i+m=g.ns.length->PY g H t rr (rfA g V R p A i) (rfP g O S p P i) ps (rfS g p i) X->env.get 2=.ptr (.own H.length 0 0 0 0) 0->env.get 4=.ptr (.own (H.length+2) 0 0 0 0) 0->env.get 6=.slc (sls S) S.length->env.get 7=.ptr (.own (H.length+3) 0 0 0 1) 0->env.get 9=.slc (sls (valRows g V)) g.ns.length->env.get 10=i64 p →
  env.get 11=sl (rchRow g R p)->env.get 12=sl (rchRow g O p)->env.get 13=.own ps 0 g.is.length 1 0->env.get 14=i64 i->LI Try.prog N drawB l33_2 env X K:=by
 have hn:=hW.gd.n
 intro m
 induction m with
 | zero =>
  intro i X env hi h h2 h4 h6 h7 h9 h10 h11 h12 h13 h14
  refine li_go hm l33_2.eq_1 ?_
  have e:i=g.ns.length:=by omega
  subst e
  have hB:=oc_at h.w.b []
  simp only[List.append_nil]at hB
  simp -implicitDefEqProofs[h2,h14,hB,gbox,Gm.cells]
  exact hexit _ X h.w (by simp[h2]) (by simp[h4]) (by simp[h6]) (by simp[h7]) (by simp[h9]) (by simp[h10])
 | succ m ih =>
  intro i X env hi h h2 h4 h6 h7 h9 h10 h11 h12 h13 h14
  refine li_go hm l33_2.eq_1 ?_
  have hii:i<g.ns.length:=by omega
  have hx:g.ns[i]? = some g.ns[i]:=List.getElem?_eq_getElem hii
  have w1:=wrap_suc (show i<9223372036854775807 by omega)
  have hB:=oc_at h.w.b
  have hB0:=oc_at h.w.b []
  simp only[List.append_nil]at hB0
  have hX:=h.node hii
  have ih2:=ih (i+1)
  have hxl:nxl g i=g.ns[i].nx.length:=by simp[nxl,hx]
  by_cases hq:g.ns[i].k=2∧g.ns[i].p=p
  · obtain⟨hk2,hxp⟩:=hq
    obtain⟨b1,b2,b3,b4,b5⟩:=mv_of hW hii hk2
    have hmv:mvQ g p i=some g.ns[i].i.toNat:=by simp[mvQ,hx,hk2,hxp]
    simp only[rfA,rfP,rfS,hmv,hxl]at ih2
    have hlA:=hX.w.ls _ b1
    have hlP:=hX.w.lp _ b1
    have key:=fun K he=>tlp33_3 (H:=H) (t:=t) (rr:=rr) (A:=rfA g V R p A i) (P:=rfP g O S p P i) (ps:=ps) (pn:=X.length) (sn:=rfS g p i) (V:=V) (R:=R) (O:=O) (S:=S) hW hii hk2 rfl hxp hp hS hSl hlA hlP (N:=N) (K:=K) he g.ns[i].nx.length 0 (X++[⟨g.ns[i].cells,59,0,true⟩])
    generalize rfA g V R p A i=Ai at *
    generalize rfP g O S p P i=Pi at *
    generalize rfS g p i=si at *
    simp only[Nd.cells,sl,hk2,hxp,updK_0,upA_id,plK_0]at key hX
    simp -implicitDefEqProofs[h2,h4,h6,h7,h9,h10,h11,h12,h13,h14,hB,hB0,gbox,Gm.cells,hii,nds_at hii,nds_min hii,nds_ge hii,hk2,hxp,sl]
    refine key _ (fun env X2 hY g2 g4 g6 g7 g9 g10 g11 g12 g13 g14 g15 => ?_) _ (by omega) hX (by simp) (by simp) (by simp) (by simp) (by simp) (by simp) (by simp) (by simp) (by simp) (by simp) (by simp) (by simp)
    have hN:=oc_at (hY.n hii) []
    have hSn:=oc_at hY.sn []
    have hSt:=so_at hY.sn []
    simp only[List.append_nil]at hN hSn hSt
    have hZ:=hY.y.set g.ns[i].i.toNat
    have eB:=bls_set (s:=si) b1 true
    simp only[Nd.cells,sl,hxl]at hN
    generalize g.ns[i].i.toNat=j at *
    simp -implicitDefEqProofs[g13,g14,g15,hN,hSn,hSt,<- b2,b1,eB,w1]
    have eqf:(fun k=>decide (k=j)||si k)=fun k=>if k=j then true else si k:=by
     funext k
     by_cases h:k=j<;>simp[h]
    rw[eqf]
    refine⟨by omega,?_⟩
    exact ih2 _ _ (by omega) hZ (by simp[g2]) (by simp[g4]) (by simp[g6]) (by simp[g7]) (by simp[g9]) (by simp[g10]) (by simp[g11,sl]) (by simp[g12,sl]) (by simp[g13]) (by simp)
  · have hmv:mvQ g p i=none:=by simp only[mvQ,hx]; rw[if_neg hq]
    simp only[rfA,rfP,rfS,hmv]at ih2
    generalize rfA g V R p A i=Ai at *
    generalize rfP g O S p P i=Pi at *
    generalize rfS g p i=si at *
    simp only[Nd.cells,sl]at hX
    by_cases hk2:g.ns[i].k=2
    · have hxp:¬ g.ns[i].p=p:=fun e=>hq ⟨hk2,e⟩
      simp only[hk2]at hX
      simp -implicitDefEqProofs[h2,h4,h6,h7,h9,h10,h11,h12,h13,h14,hB,hB0,gbox,Gm.cells,hii,nds_at hii,nds_min hii,nds_ge hii,hk2,hxp,sl,w1]
      exact ih2 _ _ (by omega) hX.y (by simp) (by simp) (by simp) (by simp) (by simp) (by simp) (by simp[sl]) (by simp[sl]) (by simp) (by simp)
    · simp -implicitDefEqProofs[h2,h4,h6,h7,h9,h10,h11,h12,h13,h14,hB,hB0,gbox,Gm.cells,hii,nds_at hii,nds_min hii,nds_ge hii,hk2,sl,w1]
      exact ih2 _ _ (by omega) hX.y (by simp) (by simp) (by simp) (by simp) (by simp) (by simp) (by simp[sl]) (by simp[sl]) (by simp) (by simp)
end
end Go.Proofs.Ytogjmpkehjfecaa.Rc
namespace Go.Proofs.Ytogjmpkehjfecaa.Rc
open Go.Ab Go.Ab.Shr
def plA (g:Gm) (V R:List Int) (A:Nat->List Int):Nat->Nat->List Int
 | 0=>A
 | p+1=>rfA g V R p (plA g V R A p) g.ns.length
def plP (g:Gm) (O:List Int) (S:List (List Int)) (P:Nat->List Int):Nat->Nat->List Int
 | 0=>P
 | p+1=>rfP g O S p (plP g O S P p) g.ns.length
section
variable {g:Gm} {H X:List AO} {t:Tin} {rr:Int} {A P:Nat->List Int} {ps pn i p j:Nat} {sn:Nat->Bool} {V R O M:List Int} {S:List (List Int)}
theorem PW.seen (h:PW g H t rr A P X):PY g H t rr A P X.length (fun _=>false) (X++[⟨bls g.is.length fun _=>false,4,0,true⟩]):=by
 refine⟨h.app _,h.len,?_⟩
 rw[List.getElem?_append_right (Nat.le_refl _)]; simp
set_option maxRecDepth 10000 in
theorem tlp33_1 (hW:Wg g) (hR:RchOk g false M (fun j=>S.getD j []) R) (hO:RchOk g true M (fun j=>S.getD j []) O) (hS:S.length=g.is.length) (hSl:∀ j (h:j<S.length),S[j].length=g.acts j) {N:Nat} {K:XE->Env->List AO->Prop}
 (hexit:∀ env X,PW g H t rr (plA g V R A g.pl.toNat) (plP g O S P g.pl.toNat) X->env.get 2=.ptr (.own H.length 0 0 0 0) 0->env.get 4=.ptr (.own (H.length+2) 0 0 0 0) 0->env.get 7=.ptr (.own (H.length+3) 0 0 0 1) 0->K (.exit 2) env X) :
 ∀ (m p:Nat) (X:List AO) (env:Env),((p+m:Nat):Int)=g.pl->PW g H t rr (plA g V R A p) (plP g O S P p) X->env.get 2=.ptr (.own H.length 0 0 0 0) 0->env.get 4=.ptr (.own (H.length+2) 0 0 0 0) 0->env.get 6=.slc (sls S) S.length->env.get 7=.ptr (.own (H.length+3) 0 0 0 1) 0->env.get 9=.slc (sls (valRows g V)) g.ns.length->env.get 10=i64 p →
  LI Try.prog N drawB l33_1 env X K:=by
 have hn:=hW.gd.n
 have hil:=hW.gd.i
 have hp4:=hW.gd.p4
 intro m
 induction m with
 | zero =>
  intro p X env hp h h2 h4 h6 h7 h9 h10
  refine li_go hm l33_1.eq_1 ?_
  have e:g.pl.toNat=p:=by omega
  have hB:=oc_at h.b []
  simp only[List.append_nil]at hB
  rw[←e]at h
  simp -implicitDefEqProofs[h2,h10,hB,gbox,Gm.cells,show ¬ (p:Int)<g.pl by omega]
  exact hexit _ X h (by simp[h2]) (by simp[h4]) (by simp[h7])
 | succ m ih =>
  intro p X env hp h h2 h4 h6 h7 h9 h10
  refine li_go hm l33_1.eq_1 ?_
  have hpp:(p:Int)<g.pl:=by omega
  have w1:=wrap_suc (show p<9223372036854775807 by omega)
  have hB0:=oc_at h.b []
  simp only[List.append_nil]at hB0
  have hX:=h.seen
  have hz:List.replicate g.is.length (bl false)=bls g.is.length fun _=>false:=by simp[bls,List.map_const']
  have c1:=ok58 (H:=X) (own:=false) (p:=p) hW hR hpp hS hSl
  have c2:=ok58 (H:=X) (own:=true) (p:=p) hW hO hpp hS hSl
  simp only[Gm.cells]at c1 c2
  have key:=fun K he=>tlp33_2 (H:=H) (t:=t) (rr:=rr) (A:=plA g V R A p) (P:=plP g O S P p) (ps:=X.length) (V:=V) (R:=R) (O:=O) (S:=S) hW hpp hS hSl (N:=N) (K:=K) he g.ns.length 0
  have ih2:=ih (p+1)
  simp only[plA,plP]at ih2
  simp -implicitDefEqProofs[h2,h4,h6,h7,h9,h10,hB0,gbox,Gm.cells,hpp]
  refine callq_go (fun _=>c1) ?_
  simp -implicitDefEqProofs[h2,h4,h6,h7,h9,h10,hB0,gbox,Gm.cells,hpp]
  refine callq_go (fun _=>c2) ?_
  simp -implicitDefEqProofs[h2,h4,h6,h7,h9,h10,hB0,gbox,Gm.cells,hpp,hz]
  repeat (refine⟨by omega,?_⟩)
  refine key _ (fun env X2 hY g2 g4 g6 g7 g9 g10 => ?_) _ _ (by omega) hX (by simp) (by simp) (by simp) (by simp) (by simp) (by simp) (by simp) (by simp) (by simp) (by simp)
  simp -implicitDefEqProofs[g10,w1]
  exact ih2 _ _ (by omega) hY (by simp[g2]) (by simp[g4]) (by simp[g6]) (by simp[g7]) (by simp[g9]) (by simp)
def plyT (g:Gm) (t:Tin) (V R O:List Int):Tin:=⟨t.rnd+1,t.seed,(List.range g.is.length).map (plA g V R (cpA g t.A g.is.length) g.pl.toNat),(List.range g.is.length).map (plP g O (t.A.map shrI) (cpA g t.P g.is.length) g.pl.toNat)⟩
def plyR (g:Gm) (t:Tin) (V R O:List Int):Tin×Int:=if 1000000≤t.rnd then(.zero,2)else if valE g (plyT g t V R O)≠0 then(.zero,5)else(plyT g t V R O,0)
theorem PW.fzS {Y:List AO} {n0:Nat} (h:PW g H t rr A P X) (hH:n0=Y.length) (hn:Y.length≤H.length):SV.fz Y.length [] (X.drop Y.length) 4 (.own (qSo H.length) 0 g.is.length 1 g.is.length)=.slc (sls ((List.range g.is.length).map A)) g.is.length :=
 fz_outsN (H:=Y) (A:=A) (by unfold qSo; omega) h.so (fun i hi=>⟨by unfold qS; omega,h.s i hi,h.ls i hi⟩) 1
theorem PW.fzP {Y:List AO} {n0:Nat} (h:PW g H t rr A P X) (hH:n0=Y.length) (hn:Y.length≤H.length):SV.fz Y.length [] (X.drop Y.length) 4 (.own (qPo H.length g.is.length) 0 g.is.length 1 g.is.length)=.slc (sls ((List.range g.is.length).map P)) g.is.length :=
 fz_outsN (H:=Y) (A:=P) (by unfold qPo; omega) h.po (fun i hi=>⟨by unfold qP; omega,h.p i hi,h.lp i hi⟩) 1
end
end Go.Proofs.Ytogjmpkehjfecaa.Rc
namespace Go.Proofs.Ytogjmpkehjfecaa.Rc
open Go.Ab Go.Ab.Shr
section
variable {g:Gm} {H X:List AO} {t:Tin} {rr:Int} {V R O M:List Int}
set_option maxRecDepth 10000 in
theorem ok33 (hW:Wg g) (hT:TinOk g t) (hr:0≤t.rnd) (hSh:∀ l∈t.A,ShO l) (hV:ValOk g M (fun j=>(t.A.map shrI).getD j []) V) (hR:RchOk g false M (fun j=>(t.A.map shrI).getD j []) R) (hO:RchOk g true M (fun j=>(t.A.map shrI).getD j []) O) :
 Ok Try.prog 33 [.agg g.cells,.agg t.cells] H (.ret (.tup [.agg (plyR g t V R O).1.cells,i64 (plyR g t V R O).2])) H:=by
 have hil:=hW.gd.i
 have hn:=hW.gd.n
 have hp1:=hW.gd.p1
 have hS:(t.A.map shrI).length=g.is.length:=by rw[List.length_map]; exact hT.la
 have hSl:∀ j (h:j<(t.A.map shrI).length),(t.A.map shrI)[j].length=g.acts j:=fun j h=>by
  simp only[List.getElem_map,shr_len]
  exact hT.a j (by simpa using h)
 refine ok_fn hm Try.func33 c33 (by simp[Gm.cells,nds_under,infs_under,Tin.cells,sls_under]) fun hcl => ?_
 simp -implicitDefEqProofs[i33,r33,Gm.cells,Tin.cells]
 by_cases hc:1000000≤t.rnd
 · have e:plyR g t V R O=(.zero,2):=by unfold plyR; rw[if_pos hc]
   simp -implicitDefEqProofs[hc]
   rw[e]
   exact⟨rfl,cv_zero hcl _ _⟩
 · have w1:IntKind.i64.wrap (t.rnd+1)=t.rnd+1:=wrap_id (by omega) (by omega)
   have h56:=fun H=>ok56 (H:=H) hSh (by rw[hT.la]; omega)
   simp only[Tin.cells]at h56
   simp -implicitDefEqProofs[hc]
   refine call_go (h56 _) ?_
   simp -implicitDefEqProofs[w1]
   have h32:=fun H'=>ok32 (H:=H') hW
   simp only[Gm.cells]at h32
   refine calln_go (L:=gbox g::⟨outs g.is.length (qS H.length) g.acts 0,36,g.is.length,true⟩::blkZ (H.length+4) g g.is.length) (r:=.own (qSo H.length) 0 g.is.length 1 g.is.length) (fun H' hl => ?_) ?_
   · have:=h32 H'
     simp at hl
     rw[hl]at this
     have e1:pZ (H.length+4)=qS H.length:=by funext i; unfold pZ qS; omega
     rw[e1]at this
     exact this
   have hb1:=blkZ_len (H.length+4) g g.is.length
   have hini:=PW.init (g:=g) (H:=H) (t:=t) (rr:=t.rnd+1)
   unfold initP at hini
   generalize blkZ (H.length+4) g g.is.length=M1 at *
   simp -implicitDefEqProofs
   refine calln_go (L:=gbox g::⟨outs g.is.length (qP H.length g.is.length) g.acts 0,36,g.is.length,true⟩::blkZ (H.length+6+2*g.is.length) g g.is.length) (r:=.own (qPo H.length g.is.length) 0 g.is.length 1 g.is.length) (fun H' hl => ?_) ?_
   · have:=h32 H'
     simp at hl
     rw[hl]at this
     have e1:pZ (H.length+(M1.length+1+1+1+1+1+1))=qP H.length g.is.length:=by funext i; unfold pZ qP; omega
     have e2:H.length+(M1.length+1+1+1+1+1+1)+1=qPo H.length g.is.length:=by unfold qPo; omega
     have e3:H.length+(M1.length+1+1+1+1+1+1)=H.length+6+2*g.is.length:=by omega
     rw[e1,e2,e3]at this
     exact this
   generalize blkZ (H.length+6+2*g.is.length) g g.is.length=M2 at *
   simp -implicitDefEqProofs
   refine tlp33_0 (H:=H) (t:=t) (rr:=t.rnd+1) hW hT (x4:=.ptr (.own (H.length+2) 0 0 0 0) 0) (x6:=.slc (sls (t.A.map shrI)) t.A.length) (fun env X h g2 g4 g6 g7 => ?_) g.is.length 0 _ _ (by omega) hini (by simp) (by simp) (by simp) (by simp) (by simp) (by simp)
   have hB:=oc_at h.b []
   simp only[List.append_nil]at hB
   have h57:=ok57 (H:=X) hW hV hS hSl
   simp only[Gm.cells,List.length_map]at h57
   simp -implicitDefEqProofs[g2,g4,g6,g7,hB,gbox,Gm.cells]
   refine call_go h57 ?_
   simp -implicitDefEqProofs[g2,g4,g6,g7]
   refine tlp33_1 (H:=H) (t:=t) (rr:=t.rnd+1) (V:=V) (R:=R) (O:=O) hW hR hO hS hSl (fun env X h g2 g4 g7 => ?_) g.pl.toNat 0 _ _ (by omega) h (by simp[g2]) (by simp[g4]) (by simp[g6]) (by simp[g7]) (by simp) (by simp)
   have hB:=oc_at h.b []
   have hNx:=oc_at h.nx []
   simp only[List.append_nil]at hB hNx
   have h55:=fun H=>ok55 (H:=H) (g:=g) (t:=plyT g t V R O) hW
   have f55:Ok Try.prog 55 [.agg g.cells,.agg [i64 (t.rnd+1),i64 t.seed,.own (qSo H.length) 0 g.is.length 1 g.is.length,.own (qPo H.length g.is.length) 0 g.is.length 1 g.is.length]] X (.ret (i64 (valE g (plyT g t V R O)))) X:=by
    refine Ok.fz 5 ?_
    have fS:=h.fzS (Y:=[]) (n0:=0) rfl (by simp)
    have fP:=h.fzP (Y:=[]) (n0:=0) rfl (by simp)
    simp only[List.length_nil,List.drop_zero]at fS fP
    have hg:SV.fz 0 [] X 5 (.agg g.cells)=.agg g.cells:=fz_under (by simp[Gm.cells,nds_under,infs_under])
    simp only[List.map_cons,List.map_nil,hg,fz_agg,fz_i64,Nat.reduceAdd,fS,fP]
    have:=h55 (X.map AO.dead)
    simp only[plyT,Tin.cells,List.length_map,List.length_range]at this ⊢
    exact this
   simp only[Gm.cells]at f55 hB
   simp -implicitDefEqProofs[g2,g4,g7,hB,hNx,gbox,nxO,Gm.cells]
   refine call_go f55 ?_
   have hlX:=getElem?_lt h.rb
   have hR0:=oc_at h.rb []
   have hRc:∀ c:List SV,objCells (X.set (H.length+2) ⟨c,28,0,true⟩) (H.length+2) 0=c:=fun c=>by
    have:=oc_at (G:=X.set (H.length+2) ⟨c,28,0,true⟩) (p:=H.length+2) (c:=c) (T:=28) (v:=0) (by rw[List.getElem?_set_self hlX]) []
    simpa only[List.append_nil]using this
   have hRt:∀ o:AO,X.set (H.length+2) o=H++(X.set (H.length+2) o).drop H.length:=fun o=>tail_of fun j hj=>by rw[List.getElem?_set_ne (by omega)]; exact h.low j hj
   simp only[List.append_nil]at hR0
   by_cases he:valE g (plyT g t V R O)=0
   · have e:plyR g t V R O=(plyT g t V R O,0):=by unfold plyR; rw[if_neg hc,if_neg (by simpa using he)]
     rw[e]
     have hRb:=so_at h.rb []
     have hNx2:=hNx
     simp only[List.append_nil]at hRb
     simp -implicitDefEqProofs[g2,g4,g7,he,hNx,hRb,hR0,hRc,nxO]
     have up:∀ (o:AO) i,H.length+3≤i->(X.set (H.length+2) o)[i]? = X[i]? := fun o i hi=>List.getElem?_set_ne (by omega)
     generalize hX2:X.set (H.length+2) ⟨[i64 (t.rnd+1),i64 t.seed,.own (qSo H.length) 0 g.is.length 1 g.is.length,.own (qPo H.length g.is.length) 0 g.is.length 1 g.is.length],28,0,true⟩=X2
     have up2:∀ i,H.length+3≤i->X2[i]? = X[i]? := fun i hi=>by rw[←hX2]; exact up _ i hi
     have fS:=fz_outsN (H:=H) (G:=X2) (p:=qSo H.length) (A:=plA g V R (cpA g t.A g.is.length) g.pl.toNat) (by unfold qSo; omega) (by rw[up2 _ (by unfold qSo; omega)]; exact h.so) (fun i hi=>⟨by unfold qS; omega,by rw[up2 _ (by unfold qS; omega)]; exact h.s i hi,h.ls i hi⟩) 1
     have fP:=fz_outsN (H:=H) (G:=X2) (p:=qPo H.length g.is.length) (A:=plP g O (t.A.map shrI) (cpA g t.P g.is.length) g.pl.toNat) (by unfold qPo; omega) (by rw[up2 _ (by unfold qPo; omega)]; exact h.po) (fun i hi=>⟨by unfold qP; omega,by rw[up2 _ (by unfold qP; omega)]; exact h.p i hi,h.lp i hi⟩) 1
     have hfz:SV.fz H.length [] (X2.drop H.length) 6 (.tup [.agg [i64 (t.rnd+1),i64 t.seed,.own (qSo H.length) 0 g.is.length 1 g.is.length,.own (qPo H.length g.is.length) 0 g.is.length 1 g.is.length],i64 0])=.tup [.agg (plyT g t V R O).cells,i64 0]:=by
      simp only[fz_tup,List.map_cons,List.map_nil,fz_agg,fz_i64,Nat.reduceAdd,fS,fP]
      simp[plyT,Tin.cells]
     have:=cv_fz (n0:=H.length) (H:=H) (L:=X2.drop H.length) 6 hcl rfl hfz
     have ht:=hRt ⟨[i64 (t.rnd+1),i64 t.seed,.own (qSo H.length) 0 g.is.length 1 g.is.length,.own (qPo H.length g.is.length) 0 g.is.length 1 g.is.length],28,0,true⟩
     rw[hX2]at ht
     rw[←ht]at this
     exact this
   · have e:plyR g t V R O=(.zero,5):=by unfold plyR; rw[if_neg hc,if_pos he]
     rw[e]
     have hRb:=so_at h.rb []
     simp only[List.append_nil]at hRb
     simp -implicitDefEqProofs[g2,g4,g7,he,hRb,hR0,hRc]
     refine⟨rfl,?_⟩
     rw[hRt]
     exact cv_zero hcl _ _
end
end Go.Proofs.Ytogjmpkehjfecaa.Rc
namespace Go.Proofs.Ytogjmpkehjfecaa.Rc
open Go.Ab Go.Ab.Shr
section
variable {g:Gm} {M:List Int} {S S':Nat->List Int}
theorem accQ_congr {V V' nx:List Int} {i q:Nat} (hS:∀ k,k<nx.length->brP g S i k=brP g S' i k) (hV:∀ k,k<nx.length->V.getD ((nx.getD k 0).toNat*4+q) 0=V'.getD ((nx.getD k 0).toNat*4+q) 0):∀ k,k≤nx.length->accQ g S V nx i q k=accQ g S' V' nx i q k
 | 0,_=>rfl
 | k+1,hk=>by
  simp only[accQ]
  rw[accQ_congr hS hV k (by omega),hS k (by omega),hV k (by omega)]
theorem brP_congr (hW:Wg g) {i:Nat} (hi:i<g.ns.length) (hS:∀ j,j<g.is.length->S j=S' j) (k:Nat) (hk:k<g.ns[i].nx.length):brP g S i k=brP g S' i k:=by
 have hx:g.ns[i]? = some g.ns[i]:=List.getElem?_eq_getElem hi
 simp only[brP,hx]
 rcases kd_of hW hi with h | h | h
 · rw[if_pos h,if_pos h]
 · rw[if_neg (by omega),if_neg (by omega),hS _ (mv_of hW hi h).1]
 · rw[(en_of hW hi h).1]at hk; simp at hk
theorem valQ_congr (hW:Wg g) {i q:Nat} (hi:i<g.ns.length) {V V':List Int} (hS:∀ j,j<g.is.length->S j=S' j) (hV:∀ c,i<c->c<g.ns.length->V.getD (c*4+q) 0=V'.getD (c*4+q) 0):valQ g M S V i q=valQ g M S' V' i q:=by
 have hx:g.ns[i]? = some g.ns[i]:=List.getElem?_eq_getElem hi
 simp only[valQ,hx]
 rw[accQ_congr (S':=S') (V':=V') (fun k hk=>brP_congr hW hi hS k hk) (fun k hk => ?_) _ (Nat.le_refl _)]
 have hch:=(hW.wf.nf i hi).ch _ (List.getElem_mem hk)
 have e:g.ns[i].nx.getD k 0=g.ns[i].nx[k]:=by simp[hk]
 rw[e]
 exact hV _ (by omega) (by omega)
theorem valL_len (V:List Int) (hV:V.length=4*g.ns.length):∀ m,m≤g.ns.length->(valL g M S V m).length=4*g.ns.length
 | 0,_=>hV
 | m+1,h=>blk_len (valL_len V hV m (by omega)) (by omega) _
theorem valL_eq (hW:Wg g) (V:List Int) (hV:V.length=4*g.ns.length):∀ m,m≤g.ns.length->∀ i q:Nat,g.ns.length-m≤i->i<g.ns.length->(q:Int)<g.pl->(valL g M S V m).getD (i*4+q) 0=valQ g M S (valL g M S V m) i q
 | 0,_,i,q,h1,h2,_=>absurd h1 (by omega)
 | m+1,hm,i,q,h1,h2,hq=>by
  have hp4:=hW.gd.p4
  have hl:=valL_len (g:=g) (M:=M) (S:=S) V hV m (by omega)
  have ih:=valL_eq hW V hV m (by omega)
  simp only[valL]
  generalize valL g M S V m=W at *
  have hcg:∀ i,g.ns.length-1-m≤i->i<g.ns.length->valQ g M S (blk4 W (g.ns.length-1-m) (plF g (valQ g M S W (g.ns.length-1-m)))) i q=valQ g M S W i q:=fun i hi1 hi2 =>
   valQ_congr hW hi2 (fun _ _=>rfl) fun c hc1 hc2=>blk_get hl (by omega) hc2 (by omega) (by omega) _
  rw[hcg i (by omega) h2]
  by_cases e:i=g.ns.length-1-m
  · subst e
    rw[blk_self hl (by omega) (by omega)]
    simp[plF,hq]
  · rw[blk_get hl (by omega) h2 (by omega) e]
    exact ih i q (by omega) h2 hq
end
end Go.Proofs.Ytogjmpkehjfecaa.Rc
namespace Go.Proofs.Ytogjmpkehjfecaa.Rc
open Go.Ab Go.Ab.Shr
section
variable {g:Gm} {M:List Int} {S S':Nat->List Int} {own:Bool}
theorem rchF_congr {R R':List Int} {i k q:Nat} (h:R.getD (i*4+q) 0=R'.getD (i*4+q) 0):rchF g own S M R i k q=rchF g own S M R' i k q:=by
 unfold rchF; rw[h]
theorem rchF_congrS (hW:Wg g) {R:List Int} {i k q:Nat} (hi:i<g.ns.length) (hk:k<g.ns[i].nx.length) (hS:∀ j,j<g.is.length->S j=S' j):rchF g own S M R i k q=rchF g own S' M R i k q:=by
 unfold rchF; rw[brP_congr hW hi hS k hk]
structure RInv (g:Gm) (own:Bool) (M:List Int) (S:Nat->List Int) (i k:Nat) (R:List Int):Prop where
 len:R.length=4*g.ns.length
 z:∀ q:Nat,(q:Int)<g.pl->R.getD (0*4+q) 0=1073741824
 eq:∀ a t q:Nat,∀ h:a<g.ns.length,(ht:t<g.ns[a].nx.length)->(q:Int)<g.pl->(a<i∨a=i∧t<k)->R.getD (g.ns[a].nx[t].toNat*4+q) 0=rchF g own S M R a t q
theorem RInv.step (hW:Wg g) {i k:Nat} {R:List Int} (h:RInv g own M S i k R) (hi:i<g.ns.length) (hk:k<g.ns[i].nx.length):RInv g own M S i (k+1) (chR g own S M R i k):=by
 have hp4:=hW.gd.p4
 have hx:g.ns[i]? = some g.ns[i]:=List.getElem?_eq_getElem hi
 have hch:=(hW.wf.nf i hi).ch _ (List.getElem_mem hk)
 have hinc:=(hW.wf.nf i hi).inc
 have e:g.ns[i].nx.getD k 0=g.ns[i].nx[k]:=by simp[hk]
 have er:chR g own S M R i k=blk4 R g.ns[i].nx[k].toNat (mixF g.pl.toNat (rchF g own S M R i k) (rowQ R i)):=by
  simp only[chR,hx,e]
 rw[er]
 have hl:=h.len
 have hcl:g.ns[i].nx[k].toNat<g.ns.length:=by omega
 refine⟨blk_len hl hcl _,fun q hq => ?_,fun a t q ha ht hq hat => ?_⟩
 · rw[blk_get hl hcl (by omega) (by omega) (by omega)]; exact h.z q hq
 · have hca:=(hW.wf.nf a ha).ch _ (List.getElem_mem ht)
   have hai:a≤i:=by omega
   have hR:(blk4 R g.ns[i].nx[k].toNat (mixF g.pl.toNat (rchF g own S M R i k) (rowQ R i))).getD (a*4+q) 0=R.getD (a*4+q) 0:=blk_get hl hcl ha (by omega) (by omega) _
   rw[rchF_congr hR]
   by_cases hs:a=i∧t=k
   · obtain⟨rfl,rfl⟩:=hs
     rw[blk_self hl hcl (by omega)]
     unfold mixF
     rw[if_pos (by omega)]
   · have hne:g.ns[a].nx[t].toNat≠g.ns[i].nx[k].toNat:=by
      intro hh
      by_cases hai2:a=i
      · subst hai2
        have htk:t<k:=by omega
        have:=List.pairwise_iff_getElem.1 hinc t k ht hk htk
        omega
      · have h1:=hca.2.2.1
        have h2:=hch.2.2.1
        rw[hh]at h1
        omega
     rw[blk_get hl hcl (by omega) (by omega) hne]
     exact h.eq a t q ha ht hq (by omega)
theorem RInv.chs (hW:Wg g) {i:Nat} {R:List Int} (h:RInv g own M S i 0 R) (hi:i<g.ns.length):∀ k,k≤g.ns[i].nx.length->RInv g own M S i k (chsR g own S M R i k)
 | 0,_=>h
 | k+1,hk=>(RInv.chs hW h hi k (by omega)).step hW hi (by omega)
theorem RInv.des (hW:Wg g) {R:List Int} (h:RInv g own M S 0 0 R):∀ i,i≤g.ns.length->RInv g own M S i 0 (desL g own S M R i)
 | 0,_=>h
 | i+1,hi=>by
  have hii:i<g.ns.length:=by omega
  have hx:g.ns[i]? = some g.ns[i]:=List.getElem?_eq_getElem hii
  have h1:=(RInv.des hW h i (by omega)).chs hW hii g.ns[i].nx.length (Nat.le_refl _)
  simp only[desL,hx]
  refine⟨h1.len,h1.z,fun a t q ha ht hq hat=>h1.eq a t q ha ht hq ?_⟩
  by_cases e:a=i
  · subst e; exact .inr ⟨rfl,ht⟩
  · omega
theorem des_ok (hW:Wg g) {R:List Int} (hl:R.length=4*g.ns.length) (hm:∀ i (h:i<g.ns.length),g.ns[i].k=1->M.getD i 0=wsum g.ns[i].ws∧0<M.getD i 0) (hS:∀ j,j<g.is.length->S j=S' j) :
 RchOk g own M S' (desL g own S M (blk4 R 0 (mixF g.pl.toNat (fun _=>1073741824) (rowQ R 0))) g.ns.length):=by
 have hp4:=hW.gd.p4
 have hn1:=hW.gd.n1
 have h0:RInv g own M S 0 0 (blk4 R 0 (mixF g.pl.toNat (fun _=>1073741824) (rowQ R 0))):=by
  refine⟨blk_len hl (by omega) _,fun q hq => ?_,fun a t q ha ht hq hat=>absurd hat (by omega)⟩
  rw[blk_self hl (by omega) (by omega)]
  unfold mixF
  rw[if_pos (by omega)]
 have h1:=RInv.des hW h0 g.ns.length (Nat.le_refl _)
 refine⟨fun q hq => ?_,fun i k q hi hk hq => ?_,hm⟩
 · have:=h1.z q hq
   simpa using this
 · have e:g.ns[i].nx.getD k 0=g.ns[i].nx[k]:=by simp[hk]
   rw[e,<- rchF_congrS hW hi hk hS]
   exact h1.eq i k q hi hk hq (.inl hi)
theorem val_ok (hW:Wg g) {V:List Int} (hl:V.length=4*g.ns.length) (hm:∀ i (h:i<g.ns.length),g.ns[i].k=1->M.getD i 0=wsum g.ns[i].ws∧0<M.getD i 0) (hS:∀ j,j<g.is.length->S j=S' j) :
 ValOk g M S' (valL g M S V g.ns.length):=by
 refine⟨fun i q hi hq => ?_,hm⟩
 rw[valL_eq hW V hl g.ns.length (Nat.le_refl _) i q (by omega) hi hq]
 exact valQ_congr hW hi hS fun _ _ _=>rfl
theorem cTC_m (hW:Wg g):∀ i (h:i<g.ns.length),g.ns[i].k=1->(cTC g).M.getD i 0=wsum g.ns[i].ws∧0<(cTC g).M.getD i 0:=fun i hi hk=>by
 have h1:=(cTC_ok hW).m i hi hk
 have hx:g.ns[i]? = some g.ns[i]:=List.getElem?_eq_getElem hi
 refine⟨?_,h1⟩
 simp only[cTC]
 rw[rowF_getD hi]
 simp only[wtF,hx]
end
end Go.Proofs.Ytogjmpkehjfecaa.Rc
namespace Go.Proofs.Ytogjmpkehjfecaa.Rc
open Go.Ab Go.Ab.Shr
def ownr (g:Gm) (j:Nat):Int:=(g.is.getD j (0,0)).1
section
variable {g:Gm} {V R O:List Int} {A P:Nat->List Int} {S:List (List Int)} {p:Nat}
theorem own_mv (hW:Wg g) {i:Nat} (hi:i<g.ns.length) (hk:g.ns[i].k=2):ownr g g.ns[i].i.toNat=g.ns[i].p:=by
 have:=hW.ty (List.getElem_mem hi) hk
 simp[ownr,this]
theorem lrn_len (hW:Wg g) (hA:∀ j,j<g.is.length->(A j).length=g.acts j):∀ i,i≤g.ns.length->∀ j,j<g.is.length->(lrnL g V R A i j).length=g.acts j
 | 0,_,j,hj=>hA j hj
 | i+1,hi,j,hj=>by
  have hii:i<g.ns.length:=by omega
  have hx:g.ns[i]? = some g.ns[i]:=List.getElem?_eq_getElem hii
  have ih:=lrn_len hW hA i (by omega) j hj
  simp only[lrnL,lrnA,hx]
  split
  · rename_i hk
    unfold upA
    split
    · rename_i e
      rw[e]
      simp[(mv_of hW hii hk).2.2.1]
    · exact ih
  · exact ih
theorem updK_full {l:List Int} {f:Nat->Int} {k:Nat} (h:l.length=k):updK l f k=rowF k f:=by subst h; exact updK_all l f
theorem rfA_at (hW:Wg g) {B:Nat->List Int} (hA:∀ j,j<g.is.length->(A j).length=g.acts j) (hB:∀ j,j<g.is.length->ownr g j=p->B j=A j):∀ i,i≤g.ns.length->∀ j,j<g.is.length->rfA g V R p B i j=if ownr g j=p then lrnL g V R A i j else B j
 | 0,_,j,hj=>by
  simp only[rfA,lrnL]
  split
  · rename_i h; exact hB j hj h
  · rfl
 | i+1,hi,j,hj=>by
  have hii:i<g.ns.length:=by omega
  have hx:g.ns[i]? = some g.ns[i]:=List.getElem?_eq_getElem hii
  have ih:=fun j hj=>rfA_at hW hA hB i (by omega) j hj
  by_cases hk:g.ns[i].k=2
  · obtain⟨b1,b2,b3,b4,b5⟩:=mv_of hW hii hk
    have ho:=own_mv hW hii hk
    by_cases hp:g.ns[i].p=p
    · have hmv:mvQ g p i=some g.ns[i].i.toNat:=by simp[mvQ,hx,hk,hp]
      have hxl:nxl g i=g.ns[i].nx.length:=by simp[nxl,hx]
      simp only[rfA,hmv,lrnL,lrnA,hx,if_pos hk,hxl]
      have hj0:=ih _ b1
      rw[if_pos (by rw[ho]; exact hp)]at hj0
      have hll:=lrn_len (V:=V) (R:=R) hW hA i (by omega) _ b1
      rw[b3]at hll
      unfold upA
      by_cases e:j=g.ns[i].i.toNat
      · rw[if_pos e,if_pos e,e,if_pos (by rw[ho]; exact hp),hj0,updK_full hll]
        rfl
      · rw[if_neg e,if_neg e]
        exact ih j hj
    · have hmv:mvQ g p i=none:=by simp[mvQ,hx,hp]
      simp only[rfA,hmv,lrnL,lrnA,hx,if_pos hk]
      rw[ih j hj]
      unfold upA
      by_cases e:j=g.ns[i].i.toNat
      · rw[e,ho,if_neg hp,if_neg hp]
      · rw[if_neg e]
  · have hmv:mvQ g p i=none:=by simp[mvQ,hx,hk]
    simp only[rfA,hmv,lrnL,lrnA,hx,if_neg hk]
    exact ih j hj
theorem plA_at (hW:Wg g) (hA:∀ j,j<g.is.length->(A j).length=g.acts j):∀ (p j:Nat),j<g.is.length->plA g V R A p j=if 0≤ownr g j∧ownr g j<p then lrnL g V R A g.ns.length j else A j
 | 0,j,hj=>by simp only[plA]; rw[if_neg (by omega)]
 | p+1,j,hj=>by
  have ih:=fun j hj=>plA_at hW hA p j hj
  simp only[plA]
  rw[rfA_at hW hA (fun j hj ho=>by rw[ih j hj,if_neg (by omega)]) g.ns.length (Nat.le_refl _) j hj,ih j hj]
  by_cases e:ownr g j=p
  · rw[if_pos e,if_pos (by omega)]
  · rw[if_neg e]
    by_cases h:0≤ownr g j∧ownr g j<p
    · rw[if_pos h,if_pos (by omega)]
    · rw[if_neg h,if_neg (by omega)]
end
end Go.Proofs.Ytogjmpkehjfecaa.Rc
namespace Go.Proofs.Ytogjmpkehjfecaa.Rc
open Go.Ab Go.Ab.Shr
def frs (g:Gm) (j:Nat):Nat:=((cTC g).F.getD j 0).toNat
section
variable {g:Gm} {V R O:List Int} {A P B:Nat->List Int} {S:List (List Int)} {p:Nat}
theorem frs_ok (hW:Wg g) {j:Nat} (hj:j<g.is.length):∃ h:frs g j<g.ns.length,(cTC g).F.getD j 0=frs g j∧g.ns[frs g j].k=2∧g.ns[frs g j].i.toNat=j∧∀ u (hu:u<frs g j),¬ (g.ns[u].k=2∧g.ns[u].i.toNat=j):=by
 obtain⟨t,ht,_,h2,h3,h4⟩:=fn_of hW hj
 have e:=fsL_at hj ht h2 h3 h4 g.ns.length (Nat.le_refl _) (by omega)
 have ef:frs g j=t:=by unfold frs cTC; rw[e]; omega
 subst ef
 exact⟨ht,by unfold cTC; exact e,h2,h3,h4⟩
theorem frs_own (hW:Wg g) {j i:Nat} (hj:j<g.is.length) (hi:i<g.ns.length) (e:frs g j=i):g.ns[i].k=2∧g.ns[i].i.toNat=j∧g.ns[i].p=ownr g j:=by
 subst e
 obtain⟨h,_,h2,h3,_⟩:=frs_ok hW hj
 have:=own_mv hW h h2
 rw[h3]at this
 exact⟨h2,h3,this.symm⟩
theorem frs_le (hW:Wg g) {i:Nat} (hi:i<g.ns.length) (hk:g.ns[i].k=2) (hj:g.ns[i].i.toNat<g.is.length):frs g g.ns[i].i.toNat≤i:=by
 obtain⟨h,_,_,_,h4⟩:=frs_ok hW hj
 by_cases hlt:i<frs g g.ns[i].i.toNat
 · exact absurd ⟨hk,rfl⟩ (h4 i hlt)
 · omega
theorem rfS_at (hW:Wg g):∀ i,i≤g.ns.length->∀ j,j<g.is.length->(rfS g p i j=true↔(ownr g j=p∧frs g j<i))
 | 0,_,j,hj=>by simp[rfS]
 | i+1,hi,j,hj=>by
  have hii:i<g.ns.length:=by omega
  have hx:g.ns[i]? = some g.ns[i]:=List.getElem?_eq_getElem hii
  have ih:=rfS_at hW i (by omega) j hj
  by_cases hk:g.ns[i].k=2∧g.ns[i].p=p
  · have hmv:mvQ g p i=some g.ns[i].i.toNat:=by simp[mvQ,hx,hk]
    have ho:=own_mv hW hii hk.1
    simp only[rfS,hmv]
    by_cases e:j=g.ns[i].i.toNat
    · rw[if_pos e]
      have:=frs_le hW hii hk.1 (by omega)
      rw[e,ho]
      simp[hk.2]; omega
    · rw[if_neg e,ih]
      constructor
      · rintro⟨h1,h2⟩; exact⟨h1,by omega⟩
      · rintro⟨h1,h2⟩
        refine⟨h1,?_⟩
        by_cases e2:frs g j=i
        · exact absurd (frs_own hW hj hii e2).2.1.symm e
        · omega
  · have hmv:mvQ g p i=none:=by simp only[mvQ,hx]; rw[if_neg hk]
    simp only[rfS,hmv]
    rw[ih]
    constructor
    · rintro⟨h1,h2⟩; exact⟨h1,by omega⟩
    · rintro⟨h1,h2⟩
      refine⟨h1,?_⟩
      by_cases e2:frs g j=i
      · obtain⟨q1,q2,q3⟩:=frs_own hW hj hii e2
        exact absurd ⟨q1,q3.trans h1⟩ hk
      · omega
theorem rfP_at (hW:Wg g) (hB:∀ j,j<g.is.length->(B j).length=g.acts j):∀ i,i≤g.ns.length->∀ j,j<g.is.length →
 rfP g O S p B i j=if ownr g j=p∧frs g j<i then rowF (g.acts j) (plyF (O.getD (frs g j*4+p) 0) (B j) (S.getD j []))else B j
 | 0,_,j,hj=>by simp[rfP]
 | i+1,hi,j,hj=>by
  have hii:i<g.ns.length:=by omega
  have hx:g.ns[i]? = some g.ns[i]:=List.getElem?_eq_getElem hii
  have ih:=fun j hj=>rfP_at hW hB i (by omega) j hj
  by_cases hk:g.ns[i].k=2∧g.ns[i].p=p
  · obtain⟨b1,b2,b3,b4,b5⟩:=mv_of hW hii hk.1
    have hmv:mvQ g p i=some g.ns[i].i.toNat:=by simp[mvQ,hx,hk]
    have hxl:nxl g i=g.ns[i].nx.length:=by simp[nxl,hx]
    have ho:=own_mv hW hii hk.1
    have hfl:=frs_le hW hii hk.1 b1
    have hs:=rfS_at (p:=p) hW i (by omega) g.ns[i].i.toNat b1
    simp only[rfP,hmv,hxl]
    unfold plK
    by_cases hsn:rfS g p i g.ns[i].i.toNat=true
    · rw[if_pos hsn,ih j hj]
      obtain⟨s1,s2⟩:=hs.1 hsn
      by_cases e:j=g.ns[i].i.toNat
      · rw[e,if_pos ⟨s1,s2⟩,if_pos ⟨s1,by omega⟩]
      · by_cases c:ownr g j=p∧frs g j<i
        · rw[if_pos c,if_pos ⟨c.1,by omega⟩]
        · have c2:¬ (ownr g j=p∧frs g j<i+1):=fun⟨h1,h2⟩=>by
           by_cases e2:frs g j=i
           · exact e (frs_own hW hj hii e2).2.1.symm
           · exact c ⟨h1,by omega⟩
          rw[if_neg c,if_neg c2]
    · rw[if_neg hsn]
      have hfi:frs g g.ns[i].i.toNat=i:=by
       by_cases h:frs g g.ns[i].i.toNat<i
       · exact absurd (hs.2 ⟨ho.trans hk.2,h⟩) hsn
       · omega
      unfold upA
      by_cases e:j=g.ns[i].i.toNat
      · have h0:=ih _ b1
        rw[hfi,if_neg (by omega)]at h0
        rw[if_pos e,e,h0,hfi,if_pos ⟨ho.trans hk.2,by omega⟩,updK_full (by rw[hB _ b1]; exact b3),b3]
      · rw[if_neg e,ih j hj]
        by_cases c:ownr g j=p∧frs g j<i
        · rw[if_pos c,if_pos ⟨c.1,by omega⟩]
        · have c2:¬ (ownr g j=p∧frs g j<i+1):=fun⟨h1,h2⟩=>by
           by_cases e2:frs g j=i
           · exact e (frs_own hW hj hii e2).2.1.symm
           · exact c ⟨h1,by omega⟩
          rw[if_neg c,if_neg c2]
  · have hmv:mvQ g p i=none:=by simp only[mvQ,hx]; rw[if_neg hk]
    simp only[rfP,hmv]
    rw[ih j hj]
    by_cases c:ownr g j=p∧frs g j<i
    · rw[if_pos c,if_pos ⟨c.1,by omega⟩]
    · have c2:¬ (ownr g j=p∧frs g j<i+1):=fun⟨h1,h2⟩=>by
       by_cases e2:frs g j=i
       · obtain⟨q1,q2,q3⟩:=frs_own hW hj hii e2
         exact hk ⟨q1,q3.trans h1⟩
       · exact c ⟨h1,by omega⟩
      rw[if_neg c,if_neg c2]
theorem plP_at (hW:Wg g) (hP:∀ j,j<g.is.length->(P j).length=g.acts j):∀ (p j:Nat),j<g.is.length →
 plP g O S P p j=if 0≤ownr g j∧ownr g j<p then rowF (g.acts j) (plyF (O.getD (frs g j*4+(ownr g j).toNat) 0) (P j) (S.getD j []))else P j
 | 0,j,hj=>by simp only[plP]; rw[if_neg (by omega)]
 | p+1,j,hj=>by
  have ih:=fun j hj=>plP_at hW hP p j hj
  simp only[plP]
  obtain⟨hf,_⟩:=frs_ok hW hj
  have hB:∀ j,j<g.is.length->(plP g O S P p j).length=g.acts j:=fun j hj=>by
   rw[ih j hj]; split
   · simp
   · exact hP j hj
  rw[rfP_at hW hB g.ns.length (Nat.le_refl _) j hj]
  by_cases e:ownr g j=p
  · have h0:=ih j hj
    rw[if_neg (by omega)]at h0
    rw[if_pos ⟨e,hf⟩,if_pos (by omega),h0]
    have:(ownr g j).toNat=p:=by omega
    rw[this]
  · rw[if_neg (fun h=>e h.1),ih j hj]
    by_cases h:0≤ownr g j∧ownr g j<p
    · rw[if_pos h,if_pos (by omega)]
    · rw[if_neg h,if_neg (by omega)]
end
end Go.Proofs.Ytogjmpkehjfecaa.Rc
namespace Go.Proofs.Ytogjmpkehjfecaa.Rc
open Go.Ab Go.Ab.Shr
theorem addL_rng:∀ (l:List Nat) (f:Nat->Int) (i:Nat),f i≤addL f l i∧addL f l i≤f i+l.length
 | [],f,i=>by simp[addL]
 | x::l,f,i=>by
  have h:=addL_rng l (put f x (f x+1)) i
  simp only[addL,List.length_cons]
  unfold put at h ⊢
  by_cases e:i=x
  · subst e
    rw[if_pos rfl]at h
    omega
  · rw[if_neg e]at h
    omega
theorem sumF_ge {f:Nat->Int} (h:∀ i,0≤f i):∀ (n k:Nat),k<n->f k≤sumF f n∧0≤sumF f n
 | 0,k,hk=>absurd hk (by omega)
 | n+1,k,hk=>by
  have h0:0≤sumF f n:=by
   cases n with
   | zero=>simp[sumF]
   | succ n=>exact(sumF_ge h (n+1) 0 (by omega)).2
  have hn:=h n
  simp only[sumF]
  by_cases e:k=n
  · subst e; omega
  · have:=sumF_ge h n k (by omega)
    omega
theorem shr_rng {l:List Int} {k:Nat} (hk:k<l.length):0≤(shrI l).getD k 0∧(shrI l).getD k 0≤65536:=by
 have hl:=lef_rng (l:=l) (by omega)
 have e:(shrI l).getD k 0=addL (floI l (totI l)) ((ordI l).take (lefI l).toNat) k:=by simp[shrI,hk]
 rw[e]
 have h1:=addL_rng ((ordI l).take (lefI l).toNat) (floI l (totI l)) k
 have h2:=sumF_ge (fun i=>floI_nn l i) l.length k hk
 have h3:((ordI l).take (lefI l).toNat).length≤(lefI l).toNat:=by simp; omega
 have h4:lefI l=65536-sumF (floI l (totI l)) l.length:=rfl
 have h5:=floI_nn l k
 omega
theorem ws_le {l:List Int} (h:∀ w∈l,1≤w∧w≤1000) (hl:l.length≤60) {k:Nat} (hk:k<l.length):l.getD k 0≤wsum l:=by
 have h1:=wsK_rng h hl l.length (Nat.le_refl _)
 have key:∀ n,n≤l.length->∀ k,k<n->l.getD k 0≤wsK l n:=by
  intro n
  induction n with
  | zero=>intro _ k hk; omega
  | succ n ih =>
   intro hn k hk
   have hr:=wsK_rng h hl n (by omega)
   have hw:=h _ (List.getElem_mem (show n<l.length by omega))
   have e:wsK l (n+1)=wsK l n+l[n]:=by
    have:wsK l (n+1)=IntKind.i64.wrap (wsK l n+l[n]):=by simp[wsK,show n<l.length by omega]
    rw[this]; exact wrap_id (by omega) (by omega)
   rw[e]
   by_cases ek:k=n
   · subst ek
     have:l.getD k 0=l[k]:=by simp[show k<l.length by omega]
     omega
   · have:=ih (by omega) k (by omega)
     omega
 exact key l.length (Nat.le_refl _) k hk
section
variable {g:Gm} {M O:List Int} {S:Nat->List Int} {own:Bool}
theorem qo_rng {a p w:Int} (ha:0≤a∧a≤1073741824) (hp:0≤p∧p≤w) (hw:0<w∧w≤65536):0≤qoF a p w∧qoF a p w≤1073741824:=by
 have h1:a*p≤1073741824*w:=Int.mul_le_mul ha.2 hp.2 hp.1 (by omega)
 have h0:0≤a*p:=Int.mul_nonneg ha.1 hp.1
 have h2:IntKind.i64.wrap (a*p)=a*p:=wrap_id (by omega) (by omega)
 unfold qoF
 rw[h2,Int.tdiv_eq_ediv_of_nonneg h0]
 have h3:a*p / w≤1073741824:=by
  apply Int.ediv_le_of_le_mul hw.1
  omega
 have h4:0≤a*p / w:=Int.ediv_nonneg h0 (by omega)
 rw[wrap_id (by omega) (by omega)]
 exact⟨h4,h3⟩
theorem rch_rng (hW:Wg g) (hR:RchOk g own M S O) (hS:∀ j,j<g.is.length->∀ k,k<g.acts j->0≤(S j).getD k 0∧(S j).getD k 0≤65536):∀ (n i q:Nat),i≤n->i<g.ns.length->(q:Int)<g.pl->0≤O.getD (i*4+q) 0∧O.getD (i*4+q) 0≤1073741824:=by
 intro n
 induction n with
 | zero =>
  intro i q hi hl hq
  have:i=0:=by omega
  subst this
  have:=hR.z q hq
  simp only[Nat.zero_mul,Nat.zero_add]
  omega
 | succ n ih =>
  intro i q hi hl hq
  rcases Nat.eq_zero_or_pos i with e0 | e0
  · exact ih i q (by omega) hl hq
  · obtain⟨a,ha,h1,h2,h3⟩:=hW.wf.pf i e0 hl
    obtain⟨k,hk,h4⟩:=List.getElem_of_mem h3
    have he:=hR.eq a k q ha hk hq
    have e1:(g.ns[a].nx.getD k 0).toNat=i:=by simp[hk,h4]
    rw[e1]at he
    rw[he]
    have hx:g.ns[a]? = some g.ns[a]:=List.getElem?_eq_getElem ha
    have iha:=ih a q (by omega) ha hq
    unfold rchF
    split
    · rcases kd_of hW ha with hk1 | hk2 | hk3
      · obtain⟨a1,a2,a3,a4⟩:=ch_of hW ha hk1
        obtain⟨m1,m2⟩:=hR.m a ha hk1
        have hkw:k<g.ns[a].ws.length:=by omega
        have hwl:=ws_le a4 (by omega) hkw
        have hw1:=a4 _ (List.getElem_mem hkw)
        have eg:g.ns[a].ws.getD k 0=g.ns[a].ws[k]:=by simp[hkw]
        have hws:=wsK_rng a4 (by omega) g.ns[a].ws.length (Nat.le_refl _)
        have eB:brW g M a=wsum g.ns[a].ws:=by simp only[brW,hx,hk1]; exact m1
        have eP:brP g S a k=g.ns[a].ws.getD k 0:=by simp only[brP,hx,hk1]; rfl
        rw[eB,eP]
        refine qo_rng iha ⟨by omega,hwl⟩ ⟨by omega,?_⟩
        unfold wsum
        omega
      · obtain⟨b1,b2,b3,b4,b5⟩:=mv_of hW ha hk2
        have eP:brP g S a k=(S g.ns[a].i.toNat).getD k 0:=by simp[brP,hx,hk2]
        have eB:brW g M a=65536:=by simp[brW,hx,hk2]
        rw[eB,eP]
        exact qo_rng iha (hS _ b1 k (by omega)) (by omega)
      · rw[(en_of hW ha hk3).1]at hk; simp at hk
    · exact iha
end
end Go.Proofs.Ytogjmpkehjfecaa.Rc
namespace Go.Proofs.Ytogjmpkehjfecaa.Rc
open Go.Ab Go.Ab.Shr
section
variable {g:Gm} {s:TS}
structure SOk (g:Gm) (s:TS):Prop where
 A:∀ i,i<g.is.length->(s.A i).length=g.acts i
 P:∀ i,i<g.is.length->(s.P i).length=g.acts i
 V:s.V.length=4*g.ns.length
 R:s.R.length=4*g.ns.length
 O:s.O.length=4*g.ns.length
 r0:0≤s.rnd
 r1:s.rnd≤1000000
 sd:0≤s.seed∧s.seed≤2147483646
 ok:okTS g s
 pn:∀ i,i<g.is.length->∀ a,0≤(s.P i).getD a 0
theorem lstE_zero {L:List (List Int)} {least:Int} (hW:Wg g) (h1:L.length=g.is.length) (h2:∀ i,i<g.is.length->lenL L i=g.acts i∧∀ x∈L.getD i [],least≤x∧x≤70368744177664):lstE g L least=0:=by
 unfold lstE
 rw[if_neg (by simpa using h1),fstE_zero]
 intro i _ hi
 have hii:i<g.is.length:=by omega
 obtain⟨a1,a2⟩:=h2 i hii
 have hgi:g.is.getD i (0,0)=g.is[i]:=by simp[hii]
 have hac:=acts_le hW hii
 have ha:(g.acts i:Int)=g.is[i].2:=by unfold Gm.acts at hac ⊢; rw[hgi]at hac ⊢; omega
 unfold rowE
 rw[hgi,if_neg (by rw[a1,ha]; simp),if_neg]
 simp only[List.any_eq_true,not_exists,not_and,Bool.or_eq_true,decide_eq_true_eq]
 intro x hx
 have:=a2 x hx
 omega
theorem getD_map_range {f:Nat->List Int} {n i:Nat} (h:i<n):((List.range n).map f).getD i []=f i:=by simp[h]
theorem mem_getD {l:List Int} {x:Int} (h:x∈l):∃ a,a<l.length∧l.getD a 0=x:=by
 obtain⟨a,ha,e⟩:=List.getElem_of_mem h
 exact⟨a,ha,by simp[ha,e]⟩
theorem out_zero (hW:Wg g) (hA:∀ i,i<g.is.length->(s.A i).length=g.acts i) (hP:∀ i,i<g.is.length->(s.P i).length=g.acts i) (hr:0≤s.rnd∧s.rnd≤1000000) (hs:0≤s.seed∧s.seed≤2147483646) (hp:∀ i,i<g.is.length->∀ a,0≤(s.P i).getD a 0) :
 valE g (outT g s)=0↔okTS g s:=by
 unfold valE
 rw[if_neg (by simp only[outT]; omega)]
 constructor
 · intro h
   split at h
   · rename_i h1; exact absurd h h1
   · rename_i h1
     have h1:lstE g (outT g s).A (-70368744177664)=0:=by simpa using h1
     obtain⟨_,a2⟩:=lst_zero hW h1
     obtain⟨_,p2⟩:=lst_zero hW h
     intro i hi a ha
     have e1:=(a2 i hi).2 ((s.A i).getD a 0) (by
      simp only[outT]; rw[getD_map_range hi]
      have:a<(s.A i).length:=by rw[hA i hi]; exact ha
      simp[this])
     have e2:=(p2 i hi).2 ((s.P i).getD a 0) (by
      simp only[outT]; rw[getD_map_range hi]
      have:a<(s.P i).length:=by rw[hP i hi]; exact ha
      simp[this])
     unfold okAt
     omega
 · intro h
   have h1:lstE g (outT g s).A (-70368744177664)=0:=by
    refine lstE_zero hW (by simp[outT]) fun i hi => ?_
    simp only[outT,lenL]
    rw[getD_map_range hi]
    refine⟨hA i hi,fun x hx => ?_⟩
    obtain⟨a,ha,rfl⟩:=mem_getD hx
    have:=h i hi a (by rw[←hA i hi]; exact ha)
    unfold okAt at this
    omega
   rw[if_neg (by simpa using h1)]
   refine lstE_zero hW (by simp[outT]) fun i hi => ?_
   simp only[outT,lenL]
   rw[getD_map_range hi]
   refine⟨hP i hi,fun x hx => ?_⟩
   obtain⟨a,ha,rfl⟩:=mem_getD hx
   have:=h i hi a (by rw[←hP i hi]; exact ha)
   have:=hp i hi a
   unfold okAt at *
   omega
theorem shL_S (s:TS):∀ (k j:Nat),j<k->(shL s k).S j=shrI (s.A j)
 | 0,j,h=>absurd h (by omega)
 | k+1,j,h=>by
  simp only[shL,upA]
  by_cases e:j=k
  · rw[if_pos e,e]
  · rw[if_neg e]; exact shL_S s k j (by omega)
def tabV (g:Gm) (s:TS):List Int:=valL g (cTC g).M (shL s g.is.length).S s.V g.ns.length
def tabR (g:Gm) (own:Bool) (s:TS) (R:List Int):List Int:=desL g own (shL s g.is.length).S (cTC g).M (blk4 R 0 (mixF g.pl.toNat (fun _=>1073741824) (rowQ R 0))) g.ns.length
theorem rnd_A:(rndT g (cTC g) s).A=lrnL g (tabV g s) (tabR g false s s.R) s.A g.ns.length:=by
 obtain⟨h1,h2,h3,h4,h5,h6,h7⟩:=shL_A s g.is.length
 simp only[rndT,tabV,tabR,h1,h3,h4]
theorem rnd_P:(rndT g (cTC g) s).P=plyL g (cTC g).F (tabR g true s s.O) (shL s g.is.length).S s.P g.is.length:=by
 obtain⟨h1,h2,h3,h4,h5,h6,h7⟩:=shL_A s g.is.length
 simp only[rndT,tabR,h2,h5]
theorem rnd_r:(rndT g (cTC g) s).rnd=IntKind.i64.wrap (s.rnd+1)∧(rndT g (cTC g) s).seed=s.seed:=by
 obtain⟨h1,h2,h3,h4,h5,h6,h7⟩:=shL_A s g.is.length
 simp only[rndT,h6,h7,and_self]
theorem ply_at {F O:List Int} {S P:Nat->List Int}:∀ (n j:Nat),plyL g F O S P n j=if j<n then rowF (g.acts j) (plyF (ownI g F O j) (P j) (S j))else P j
 | 0,j=>by simp[plyL]
 | n+1,j=>by
  simp only[plyL,upA]
  by_cases e:j=n
  · rw[if_pos e,if_pos (by omega),e]
  · rw[if_neg e,ply_at n j]
    by_cases h:j<n
    · rw[if_pos h,if_pos (by omega)]
    · rw[if_neg h,if_neg (by omega)]
end
end Go.Proofs.Ytogjmpkehjfecaa.Rc
namespace Go.Proofs.Ytogjmpkehjfecaa.Rc
open Go.Ab Go.Ab.Shr
section
variable {g:Gm} {s:TS}
theorem own_rng (hW:Wg g) {j:Nat} (hj:j<g.is.length):0≤ownr g j∧ownr g j<g.pl:=by
 obtain⟨h,_,h2,h3,_⟩:=frs_ok hW hj
 have h1:=mp_of hW h h2
 have h4:=own_mv hW h h2
 rw[h3]at h4
 omega
theorem sh_map {j:Nat} (hj:j<g.is.length):((outT g s).A.map shrI).getD j []=(shL s g.is.length).S j:=by
 rw[shL_S s _ j hj]
 simp[outT,hj]
theorem cpA_at {L:List (List Int)}:∀ (n j:Nat),j<n->cpA g L n j=L.getD j []
 | 0,j,h=>absurd h (by omega)
 | n+1,j,h=>by
  simp only[cpA,upA]
  by_cases e:j=n
  · rw[if_pos e,e]
  · rw[if_neg e]; exact cpA_at n j (by omega)
theorem lrnL_congr (hW:Wg g) {V R:List Int} {A B:Nat->List Int} (h:∀ j,j<g.is.length->A j=B j):∀ i,i≤g.ns.length->∀ j,j<g.is.length->lrnL g V R A i j=lrnL g V R B i j
 | 0,_,j,hj=>h j hj
 | i+1,hi,j,hj=>by
  have hii:i<g.ns.length:=by omega
  have hx:g.ns[i]? = some g.ns[i]:=List.getElem?_eq_getElem hii
  have ih:=fun j hj=>lrnL_congr (V:=V) (R:=R) hW h i (by omega) j hj
  simp only[lrnL,lrnA,hx]
  by_cases hk:g.ns[i].k=2
  · obtain⟨b1,b2,b3,b4,b5⟩:=mv_of hW hii hk
    rw[if_pos hk,if_pos hk]
    unfold upA
    by_cases e:j=g.ns[i].i.toNat
    · rw[if_pos e,if_pos e,ih _ b1]
    · rw[if_neg e,if_neg e]; exact ih j hj
  · rw[if_neg hk,if_neg hk]; exact ih j hj
theorem ply_eq (hW:Wg g) (h:SOk g s) (hr:s.rnd<1000000):plyT g (outT g s) (tabV g s) (tabR g false s s.R) (tabR g true s s.O)=outT g (rndT g (cTC g) s):=by
 obtain⟨e1,e2⟩:=rnd_r (g:=g) (s:=s)
 have hr0:=h.r0
 have w1:IntKind.i64.wrap (s.rnd+1)=s.rnd+1:=wrap_id (by omega) (by omega)
 have hcA:∀ j,j<g.is.length->cpA g (outT g s).A g.is.length j=s.A j:=fun j hj=>by rw[cpA_at _ _ hj]; simp[outT,hj]
 have hcP:∀ j,j<g.is.length->cpA g (outT g s).P g.is.length j=s.P j:=fun j hj=>by rw[cpA_at _ _ hj]; simp[outT,hj]
 unfold plyT
 show Tin.mk _ _ _ _=Tin.mk _ _ _ _
 congr 1
 · show s.rnd+1=_
   rw[e1,w1]
 · exact e2.symm
 · apply List.map_congr_left
   intro j hj
   simp only[List.mem_range]at hj
   have ho:=own_rng hW hj
   rw[plA_at hW (fun j hj=>by rw[hcA j hj]; exact h.A j hj) _ j hj,if_pos (by omega),rnd_A]
   exact lrnL_congr hW hcA _ (Nat.le_refl _) j hj
 · apply List.map_congr_left
   intro j hj
   simp only[List.mem_range]at hj
   have ho:=own_rng hW hj
   obtain⟨hf,hF,_⟩:=frs_ok hW hj
   rw[plP_at hW (fun j hj=>by rw[hcP j hj]; exact h.P j hj) _ j hj,if_pos (by omega),rnd_P,ply_at,if_pos hj,hcP j hj,sh_map hj]
   rfl
theorem shr_map (hW:Wg g) (h:SOk g s):∀ l∈(outT g s).A,ShO l:=by
 intro l hl
 simp only[outT,List.mem_map,List.mem_range]at hl
 obtain⟨j,hj,rfl⟩:=hl
 obtain⟨n1,n2⟩:=acts_le hW hj
 have hlen:=h.A j hj
 refine⟨by omega,by omega,fun v hv => ?_⟩
 obtain⟨a,ha,rfl⟩:=mem_getD hv
 have:=h.ok j hj a (by omega)
 unfold okAt at this
 omega
theorem tin_ok (h:SOk g s):TinOk g (outT g s):=by
 refine⟨by simp[outT],by simp[outT],fun i hi => ?_,fun i hi => ?_⟩
 · have hii:i<g.is.length:=by simpa[outT]using hi
   simpa[outT]using h.A i hii
 · have hii:i<g.is.length:=by simpa[outT]using hi
   simpa[outT]using h.P i hii
theorem tV_ok (hW:Wg g) (h:SOk g s):ValOk g (cTC g).M (fun j=>((outT g s).A.map shrI).getD j []) (tabV g s) :=
 val_ok hW h.V (cTC_m hW) fun j hj=>(sh_map hj).symm
theorem tR_ok (hW:Wg g) {own:Bool} {R:List Int} (hl:R.length=4*g.ns.length):RchOk g own (cTC g).M (fun j=>((outT g s).A.map shrI).getD j []) (tabR g own s R) :=
 des_ok hW hl (cTC_m hW) fun j hj=>(sh_map hj).symm
theorem tR_ok' (hW:Wg g) {own:Bool} {R:List Int} (hl:R.length=4*g.ns.length):RchOk g own (cTC g).M (shL s g.is.length).S (tabR g own s R) :=
 des_ok hW hl (cTC_m hW) fun _ _=>rfl
theorem des_len {own:Bool} {S:Nat->List Int} {M:List Int} (hW:Wg g) {R:List Int} (hl:R.length=4*g.ns.length):∀ i,i≤g.ns.length->(desL g own S M R i).length=4*g.ns.length
 | 0,_=>hl
 | i+1,hi=>by
  have hii:i<g.ns.length:=by omega
  have hx:g.ns[i]? = some g.ns[i]:=List.getElem?_eq_getElem hii
  have ih:=des_len (own:=own) (S:=S) (M:=M) hW hl i (by omega)
  simp only[desL,hx]
  generalize desL g own S M R i=R1 at *
  have key:∀ k,k≤g.ns[i].nx.length->(chsR g own S M R1 i k).length=4*g.ns.length:=by
   intro k
   induction k with
   | zero=>intro _; exact ih
   | succ k ihk =>
    intro hk
    have hch:=(hW.wf.nf i hii).ch _ (List.getElem_mem (show k<g.ns[i].nx.length by omega))
    have e:g.ns[i].nx.getD k 0=g.ns[i].nx[k]:=by simp[show k<g.ns[i].nx.length by omega]
    simp only[chsR,chR,hx,e]
    exact blk_len (ihk (by omega)) (by omega) _
  exact key _ (Nat.le_refl _)
theorem ply_nn (hW:Wg g) (h:SOk g s):∀ j,j<g.is.length->∀ a,0≤((rndT g (cTC g) s).P j).getD a 0:=by
 intro j hj a
 have ho:=own_rng hW hj
 obtain⟨hf,hF,_⟩:=frs_ok hW hj
 rw[rnd_P,ply_at,if_pos hj]
 by_cases ha:a<g.acts j
 · have hO:=rch_rng hW (tR_ok' (s:=s) (own:=true) hW h.O) (fun j hj k hk=>by
    rw[shL_S s _ j hj]; exact shr_rng (by rw[h.A j hj]; exact hk)) (frs g j) (frs g j) (ownr g j).toNat (Nat.le_refl _) hf (by omega)
   have hs:=shr_rng (l:=s.A j) (k:=a) (by rw[h.A j hj]; exact ha)
   have hpn:=h.pn j hj a
   have hok:=h.ok j hj a ha
   unfold okAt at hok
   rw[rowF_getD ha]
   have eo:ownI g (cTC g).F (tabR g true s s.O) j=(tabR g true s s.O).getD (frs g j*4+(ownr g j).toNat) 0:=rfl
   have hq:=qo_rng (a:=ownI g (cTC g).F (tabR g true s s.O) j) (p:=((shL s g.is.length).S j).getD a 0) (w:=65536) (by rw[eo]; exact hO) (by rw[shL_S s _ j hj]; exact hs) (by omega)
   have e3:plyD (ownI g (cTC g).F (tabR g true s s.O) j) (((shL s g.is.length).S j).getD a 0)=qoF (ownI g (cTC g).F (tabR g true s s.O) j) (((shL s g.is.length).S j).getD a 0) 65536:=rfl
   unfold plyF
   rw[e3,wrap_id (by omega) (by omega)]
   omega
 · have:(rowF (g.acts j) (plyF (ownI g (cTC g).F (tabR g true s s.O) j) (s.P j) ((shL s g.is.length).S j))).getD a 0=0:=by
    simp[rowF,ha]
   rw[this]
   exact Int.le_refl _
theorem rnd_len (hW:Wg g) (h:SOk g s):(∀ i,i<g.is.length->((rndT g (cTC g) s).A i).length=g.acts i)∧(∀ i,i<g.is.length->((rndT g (cTC g) s).P i).length=g.acts i):=by
 refine⟨fun i hi => ?_,fun i hi => ?_⟩
 · rw[rnd_A]; exact lrn_len hW h.A _ (Nat.le_refl _) i hi
 · rw[rnd_P,ply_at,if_pos hi]; simp
theorem rnd_sok (hW:Wg g) (h:SOk g s) (hr:s.rnd<1000000) (ho:okTS g (rndT g (cTC g) s)):SOk g (rndT g (cTC g) s):=by
 obtain⟨e1,e2⟩:=rnd_r (g:=g) (s:=s)
 have hr0:=h.r0
 have w1:IntKind.i64.wrap (s.rnd+1)=s.rnd+1:=wrap_id (by omega) (by omega)
 obtain⟨l1,l2⟩:=rnd_len hW h
 obtain⟨h1,h2,h3,h4,h5,h6,h7⟩:=shL_A s g.is.length
 refine⟨l1,l2,?_,?_,?_,by rw[e1,w1]; omega,by rw[e1,w1]; omega,by rw[e2]; exact h.sd,ho,ply_nn hW h⟩
 · simp only[rndT,h3]
   exact valL_len _ h.V _ (Nat.le_refl _)
 · simp only[rndT,h4]
   exact des_len hW (blk_len h.R (by have:=hW.gd.n1; omega) _) _ (Nat.le_refl _)
 · simp only[rndT,h5]
   exact des_len hW (blk_len h.O (by have:=hW.gd.n1; omega) _) _ (Nat.le_refl _)
theorem s0_sok {t:Tin} (h:chkS g t=0):SOk g (s0T g t.rnd t.seed t.A t.P):=by
 obtain⟨hW,h1,h2,h3,h4⟩:=chk_zero h
 obtain⟨a1,a2⟩:=lst_zero hW h3
 obtain⟨p1,p2⟩:=lst_zero hW h4
 have hs:0≤t.seed∧t.seed≤2147483646:=by
  unfold chkS at h
  by_cases hp:g.prpE=0
  · rw[if_neg (by simpa using hp)]at h
    unfold valE at h
    by_cases hc:t.rnd<0∨1000000<t.rnd∨t.seed<0∨2147483646<t.seed
    · rw[if_pos hc]at h; cases h
    · omega
  · rw[if_pos hp]at h; exact absurd h hp
 refine⟨fun i hi=>(a2 i hi).1,fun i hi=>(p2 i hi).1,by simp[s0T,zers],by simp[s0T,zers],by simp[s0T,zers],h1,h2,hs,s0_ok h,fun i hi a => ?_⟩
 simp only[s0T]
 by_cases ha:a<(t.P.getD i []).length
 · have e:(t.P.getD i []).getD a 0=(t.P.getD i [])[a]:=by rw[List.getD_eq_getElem?_getD,List.getElem?_eq_getElem ha]; rfl
   rw[e]
   exact((p2 i hi).2 _ (List.getElem_mem ha)).1
 · have:(t.P.getD i []).getD a 0=0:=by rw[List.getD_eq_getElem?_getD,List.getElem?_eq_none (by omega)]; rfl
   rw[this]; exact Int.le_refl _
end
end Go.Proofs.Ytogjmpkehjfecaa.Rc
namespace Go.Proofs.Ytogjmpkehjfecaa.Rc
open Go.Ab Go.Ab.Shr
section
variable {g:Gm} {H X:List AO} {t:Tin} {rr:Int} {A P:Nat->List Int}
set_option maxRecDepth 10000 in
theorem tlp9_0 (hW:Wg g) (hT:TinOk g t) {x4 x6:SV} {N:Nat} {K:XE->Env->List AO->Prop}
 (hexit:∀ env X,PW g H t rr (cpA g t.A g.is.length) (cpA g t.P g.is.length) X->env.get 3=.ptr (.own H.length 0 0 0 0) 0->env.get 6=x4->env.get 2=x6->env.get 9=.ptr (.own (H.length+3) 0 0 0 1) 0->K (.exit 0) env X) :
 ∀ (m i:Nat) (X:List AO) (env:Env),i+m=g.is.length->PW g H t rr (cpA g t.A i) (cpA g t.P i) X->env.get 3=.ptr (.own H.length 0 0 0 0) 0->env.get 4=.ptr (.own (H.length+1) 0 0 0 0) 0->env.get 6=x4->env.get 2=x6->env.get 9=.ptr (.own (H.length+3) 0 0 0 1) 0->env.get 10=i64 i →
  LI Try.prog N drawB l9_0 env X K:=by
 have hil:=hW.gd.i
 intro m
 induction m with
 | zero =>
  intro i X env hi h h2 h3 h4 h6 h7 h8
  refine li_go hm l9_0.eq_1 ?_
  have e:i=g.is.length:=by omega
  subst e
  have hB:=oc_at h.b []
  rw[List.append_nil]at hB
  simp -implicitDefEqProofs[h2,h8,hB,gbox,Gm.cells]
  exact hexit _ X h (by simp[h2]) (by simp[h4]) (by simp[h6]) (by simp[h7])
 | succ m ih =>
  intro i X env hi h h2 h3 h4 h6 h7 h8
  refine li_go hm l9_0.eq_1 ?_
  have hii:i<g.is.length:=by omega
  obtain⟨n1,n2⟩:=acts_le hW hii
  have w1:=wrap_suc (show i<9223372036854775807 by omega)
  have hiA:i<t.A.length:=by rw[hT.la]; exact hii
  have hiP:i<t.P.length:=by rw[hT.lp]; exact hii
  have lA:=hT.a i hiA
  have lP:=hT.p i hiP
  have h':=h.setS hii (l:=t.A[i]) lA
  have h'':=h'.setP hii (l:=t.P[i]) lP
  have eA:upA (cpA g t.A i) i t.A[i]=cpA g t.A (i+1):=by simp[cpA,hiA]
  have eP:upA (cpA g t.P i) i t.P[i]=cpA g t.P (i+1):=by simp[cpA,hiP]
  rw[eA,eP]at h''
  have hB:=oc_at h.b []
  have hTb:=oc_at h.tb []
  have hNx:=oc_at h.nx []
  have hSo:=oc_at h.so []
  have hSr:=oc_at (h.s i hii) []
  have hSs:=so_at (h.s i hii) []
  have hTb2:=oc_at h'.tb []
  have hNx2:=oc_at h'.nx []
  have hPo2:=oc_at h'.po []
  have hPr2:=oc_at (h'.p i hii) []
  have hPs2:=so_at (h'.p i hii) []
  have ls:=h.ls i hii
  have lp:=h'.lp i hii
  simp only[List.append_nil]at hB hTb hNx hSo hSr hSs hTb2 hNx2 hPo2 hPr2 hPs2
  generalize cpA g t.A i=Ai at *
  generalize cpA g t.P i=Pi at *
  have eD:List.drop (g.acts i) (ints (Ai i))=[]:=List.drop_eq_nil_of_le (by simp[ls])
  have eDp:List.drop (g.acts i) (ints (Pi i))=[]:=List.drop_eq_nil_of_le (by simp[lp])
  have hTA:(sls t.A)[i]? = some (sl t.A[i]):=by simp[sls,hiA]
  simp -implicitDefEqProofs[eD,eDp,h2,h3,h7,h8,hB,hTb,hNx,hSo,hSr,hSs,hTb2,hNx2,hPo2,hPr2,hPs2,gbox,nxO,tB,Tin.cells,Gm.cells,hii,hiA,hiP,sls_get hiA,sls_get hiP,sl,lA,lP,ls,lp,w1]
  repeat (refine⟨by omega,?_⟩)
  exact ih (i+1) _ _ (by omega) h'' (by simp) (by simp) (by simp[h4]) (by simp[h6]) (by simp) (by simp)
end
end Go.Proofs.Ytogjmpkehjfecaa.Rc
namespace Go.Proofs.Ytogjmpkehjfecaa.Rc
open Go.Ab Go.Ab.Shr
section
variable {g:Gm} {H X:List AO} {t:Tin} {s:TS}
theorem ok33' (hW:Wg g) (h:SOk g s) (hr:s.rnd<1000000):Ok Try.prog 33 [.agg g.cells,.agg (outT g s).cells] H (.ret (.tup [.agg (if okB g (rndT g (cTC g) s)=true then outT g (rndT g (cTC g) s)else .zero).cells,i64 (if okB g (rndT g (cTC g) s)=true then 0 else 5)])) H:=by
 have h1:=ok33 (H:=H) hW (tin_ok h) h.r0 (shr_map hW h) (tV_ok hW h) (tR_ok (own:=false) hW h.R) (tR_ok (own:=true) hW h.O)
 have e:=ply_eq hW h hr
 obtain⟨e1,e2⟩:=rnd_r (g:=g) (s:=s)
 have hr0:=h.r0
 have w1:IntKind.i64.wrap (s.rnd+1)=s.rnd+1:=wrap_id (by omega) (by omega)
 obtain⟨l1,l2⟩:=rnd_len hW h
 have hz:=out_zero (s:=rndT g (cTC g) s) hW l1 l2 (by rw[e1,w1]; omega) (by rw[e2]; exact h.sd) (ply_nn hW h)
 have hrr:(outT g s).rnd=s.rnd:=rfl
 unfold plyR at h1
 rw[e,hrr,if_neg (by omega)]at h1
 by_cases ho:okB g (rndT g (cTC g) s)=true
 · rw[if_neg (by rw[hz.2 (okB_iff.1 ho)]; simp)]at h1
   rw[if_pos ho,if_pos ho]
   exact h1
 · rw[if_pos (fun hh=>ho (okB_iff.2 (hz.1 hh)))]at h1
   rw[if_neg ho,if_neg ho]
   exact h1
def zO:AO:=⟨[i64 0,i64 0,nl,nl],28,0,true⟩
def nO (T:Tin):AO:=⟨T.cells,28,1,true⟩
set_option maxRecDepth 10000 in
theorem tlp9_1 (hW:Wg g) {N:Nat} {K:XE->Env->List AO->Prop} {res:Option TS}
 (hexit:∀ env G s',res=some s'->env.get 6=.ptr (.own (H.length+2) 0 0 0 0) 0->env.get 9=.ptr (.own (H.length+3) 0 0 0 1) 0->K (.exit 2) env (H++gbox g::tB t::zO::nO (outT g s')::G))
 (hret:∀ env G T,res=none->env.get 6=.ptr (.own (H.length+2) 0 0 0 0) 0->env.get 7=i64 5->K .ret env (H++gbox g::tB t::zO::nO T::G)) :
 ∀ (m:Nat) (s:TS) (G:List AO) (env:Env),m≤20000->SOk g s->s.rnd+m≤1000000->rnds g m s=res->env.get 2=i64 m->env.get 3=.ptr (.own H.length 0 0 0 0) 0->env.get 6=.ptr (.own (H.length+2) 0 0 0 0) 0->env.get 9=.ptr (.own (H.length+3) 0 0 0 1) 0 →
  LI Try.prog N drawB l9_1 env (H++gbox g::tB t::zO::nO (outT g s)::G) K:=by
 intro m
 induction m with
 | zero =>
  intro s G env hm1 h hr hres h2 h3 h6 h9
  refine li_go hm l9_1.eq_1 ?_
  simp only[rnds]at hres
  simp only[Int.natCast_zero]at h2
  simp -implicitDefEqProofs[h2]
  exact hexit _ G s hres.symm (by simp[h6]) (by simp[h9])
 | succ m ih =>
  intro s G env hm1 h hr hres h2 h3 h6 h9
  refine li_go hm l9_1.eq_1 ?_
  have w1:IntKind.i64.wrap (((m+1:Nat):Int)-1)=(m:Int):=by rw[wrap_id (by omega) (by omega)]; omega
  have hp:(0:Int)<((m+1:Nat):Int):=by omega
  have c33:=fun H=>ok33' (H:=H) hW h (by omega)
  simp only[rnds]at hres
  generalize ((m+1:Nat):Int)=mm at h2 w1 hp
  by_cases ho:okB g (rndT g (cTC g) s)=true
  · rw[if_pos ho]at hres
    simp only[if_pos ho]at c33
    obtain⟨e1,e2⟩:=rnd_r (g:=g) (s:=s)
    have hr0:=h.r0
    have w2:IntKind.i64.wrap (s.rnd+1)=s.rnd+1:=wrap_id (by omega) (by omega)
    have h':=rnd_sok hW h (by omega) (okB_iff.1 ho)
    have ih2:=fun G env=>ih (rndT g (cTC g) s) G env (by omega) h' (by rw[e1,w2]; omega) hres
    generalize outT g s=T at *
    generalize outT g (rndT g (cTC g) s)=T' at *
    simp only[gbox,tB,zO,nO,Gm.cells,Tin.cells]at c33 ih2 ⊢
    simp -implicitDefEqProofs[h2,h3,h6,h9,hp]
    refine call_go (c33 _) ?_
    simp -implicitDefEqProofs[h2,h3,h6,h9,w1]
    exact ih2 _ _ (by simp) (by simp) (by simp) (by simp)
  · rw[if_neg ho]at hres
    simp only[if_neg ho]at c33
    generalize outT g s=T at *
    have hR:=fun env G=>hret env G T hres.symm
    simp only[gbox,tB,zO,nO,Gm.cells,Tin.cells]at c33 hR ⊢
    simp -implicitDefEqProofs[h2,h3,h6,h9,hp]
    refine call_go (c33 _) ?_
    simp -implicitDefEqProofs[h2,h3,h6,h9,w1]
    exact⟨rfl,hR _ _ (by simp) (by simp)⟩
end
end Go.Proofs.Ytogjmpkehjfecaa.Rc
namespace Go.Proofs.Ytogjmpkehjfecaa.Rc
open Go.Ab Go.Ab.Shr
theorem fzl_at (e:Env) (n:Nat) (L:List AO) (d t:Nat):(e.fzl n L (d+1)).get t=(e.get t).fz n [] L (d+1):=get_map e (SV.fz n [] L (d+1)) (fz_under rfl) t
section
variable {g:Gm} {H X:List AO} {t:Tin} {rr:Int} {A P:Nat->List Int}
theorem PW.split (h:PW g H t rr A P X):X=(H++[gbox g,tB t,zO,nxO g H.length rr t.seed])++X.drop (H.length+4):=by
 have ht:=tail_of (H:=H++[gbox g,tB t,zO,nxO g H.length rr t.seed]) (X:=X) fun j hj=>by
  by_cases h1:j<H.length
  · rw[List.getElem?_append_left h1]; exact h.low j h1
  · have h0:=h.b
    have h1':=h.tb
    have h2:=h.rb
    have h3:=h.nx
    rw[List.getElem?_append_right (by omega)]
    have hj':j=H.length∨j=H.length+1∨j=H.length+2∨j=H.length+3:=by
     simp at hj; omega
    rcases hj' with rfl | rfl | rfl | rfl
    · rw[h0]; simp
    · rw[h1']; simp
    · rw[h2]; simp[zO]
    · rw[h3]; simp
 have e:(H++[gbox g,tB t,zO,nxO g H.length rr t.seed]).length=H.length+4:=by simp
 rw[e]at ht
 exact ht
theorem PW.refz (hcl:closed H) (h:PW g H t rr A P X) (T:Tin) (hT:T=⟨rr,t.seed,(List.range g.is.length).map A,(List.range g.is.length).map P⟩) :
 Refz (H++[gbox g,tB t,zO,nxO g H.length rr t.seed]) (H++[gbox g,tB t,zO,nO T]) (X.drop (H.length+4)) [] 4:=by
 have e:(H++[gbox g,tB t,zO,nxO g H.length rr t.seed]).length=H.length+4:=by simp
 have fS:=fz_outsN (H:=H++[gbox g,tB t,zO,nxO g H.length rr t.seed]) (G:=X) (p:=qSo H.length) (A:=A) (by rw[e]; unfold qSo; omega) h.so (fun i hi=>⟨by rw[e]; unfold qS; omega,h.s i hi,h.ls i hi⟩) 1
 have fP:=fz_outsN (H:=H++[gbox g,tB t,zO,nxO g H.length rr t.seed]) (G:=X) (p:=qPo H.length g.is.length) (A:=P) (by rw[e]; unfold qPo; omega) h.po (fun i hi=>⟨by rw[e]; unfold qP; omega,h.p i hi,h.lp i hi⟩) 1
 rw[e]at fS fP
 have ho:(H++[gbox g,tB t,zO,nxO g H.length rr t.seed])[H.length+3]? = some (nxO g H.length rr t.seed):=by
  rw[List.getElem?_append_right (by omega)]; simp
 have hc:(nxO g H.length rr t.seed).cells.map (SV.fz (H++[gbox g,tB t,zO,nxO g H.length rr t.seed]).length [] (X.drop (H.length+4)) 4)=T.cells:=by
  rw[e,hT]
  simp only[nxO,List.map_cons,List.map_nil,Nat.reduceAdd,fS,fP,Tin.cells,List.length_map,List.length_range]
  rw[show(4:Nat)=3+1 from rfl,fz_i64,fz_i64]
 have hr:=Refz.one (H0:=H++[gbox g,tB t,zO,nxO g H.length rr t.seed]) (L:=X.drop (H.length+4)) (ks:=[]) (d:=4) (j:=H.length+3) (o:=nxO g H.length rr t.seed) (fun i o hi hio s hs => ?_) ho rfl ?_
 · rw[hc]at hr
   have eset:(H++[gbox g,tB t,zO,nxO g H.length rr t.seed]).set (H.length+3) ⟨T.cells,(nxO g H.length rr t.seed).ty,(nxO g H.length rr t.seed).ver,true⟩=H++[gbox g,tB t,zO,nO T]:=by
    rw[List.set_append_right _ _ (by omega)]
    simp[nO,nxO]
   rw[eset]at hr
   exact hr
 · rw[e]
   by_cases h1:i<H.length
   · rw[List.getElem?_append_left h1]at hio
     exact SV.under_mono (by omega) s (hcl i o hio s hs)
   · rw[List.getElem?_append_right (by omega)]at hio
     have hi4:i-H.length<4:=by
      have:=getElem?_lt hio
      simpa using this
     have hj':i-H.length=0∨i-H.length=1∨i-H.length=2:=by omega
     rcases hj' with e0 | e0 | e0
     · rw[e0]at hio
       simp at hio
       subst hio
       have:=nds_under (H.length+4) g.ns
       have:=infs_under (H.length+4) g.is
       simp[gbox,Gm.cells]at hs
       rcases hs with rfl | rfl | rfl<;>simp[nds_under,infs_under]
     · rw[e0]at hio
       simp at hio
       subst hio
       simp[tB,Tin.cells]at hs
       rcases hs with rfl | rfl | rfl | rfl<;>simp[sls_under]
     · rw[e0]at hio
       simp at hio
       subst hio
       simp[zO]at hs
       rcases hs with rfl | rfl<;>rfl
 · rw[hc]
   simp[Tin.cells,cellsOk]
end
end Go.Proofs.Ytogjmpkehjfecaa.Rc
namespace Go.Proofs.Ytogjmpkehjfecaa.Rc
open Go.Ab Go.Ab.Shr
section
variable {g:Gm} {H X:List AO}
theorem chk_tin {t:Tin} (h:chkS g t=0):TinOk g t:=by
 obtain⟨hW,h1,h2,h3,h4⟩:=chk_zero h
 obtain⟨a1,a2⟩:=lst_zero hW h3
 obtain⟨p1,p2⟩:=lst_zero hW h4
 refine⟨a1,p1,fun i hi => ?_,fun i hi => ?_⟩
 · have:=(a2 i (by omega)).1; rw[lenL_at hi]at this; exact this
 · have:=(p2 i (by omega)).1; rw[lenL_at hi]at this; exact this
theorem ok9 (t:Tin) (n:Int) (hn : -9223372036854775808≤n∧n≤9223372036854775807):Ok Try.prog 9 [.agg g.cells,.agg t.cells,i64 n] H (.ret (.tup [.agg (runR g t n).1.cells,i64 (runR g t n).2])) H:=by
 refine ok_fn hm Try.func9 c9 (by simp[Gm.cells,nds_under,infs_under,Tin.cells,sls_under]) fun hcl => ?_
 have h31:=fun H=>ok31 (H:=H) (g:=g) (t:=t)
 simp only[Gm.cells,Tin.cells]at h31
 simp -implicitDefEqProofs[i9,r9,Gm.cells,Tin.cells]
 refine call_go (h31 _) ?_
 by_cases hc:chkS g t=0
 · obtain⟨hW,r1,r2,r3,r4⟩:=chk_zero hc
   have hil:=hW.gd.i
   by_cases hb:n<0∨20000<n∨1000000<t.rnd+n
   · have e:runR g t n=(.zero,2):=by unfold runR; rw[if_neg (by simpa using hc),if_pos hb]
     rw[e]
     by_cases b1:n<0
     · simp -implicitDefEqProofs[hc,b1]
       exact⟨rfl,cv_zero hcl _ _⟩
     · by_cases b2:20000<n
       · simp -implicitDefEqProofs[hc,b1,b2]
         exact⟨rfl,cv_zero hcl _ _⟩
       · have b3:1000000<t.rnd+n:=by omega
         have w1:IntKind.i64.wrap (t.rnd+n)=t.rnd+n:=wrap_id (by omega) (by omega)
         simp -implicitDefEqProofs[hc,b1,b2,w1,b3]
         exact⟨rfl,cv_zero hcl _ _⟩
   · have b1:¬ n<0:=by omega
     have b2:¬ 20000<n:=by omega
     have b3:¬ 1000000<t.rnd+n:=by omega
     have w1:IntKind.i64.wrap (t.rnd+n)=t.rnd+n:=wrap_id (by omega) (by omega)
     have hs:=s0_sok hc
     have hT:=chk_tin hc
     simp -implicitDefEqProofs[hc,b1,b2,w1,b3]
     have h32:=fun H'=>ok32 (H:=H') hW
     simp only[Gm.cells]at h32
     refine calln_go (L:=gbox g::⟨outs g.is.length (qS H.length) g.acts 0,36,g.is.length,true⟩::blkZ (H.length+4) g g.is.length) (r:=.own (qSo H.length) 0 g.is.length 1 g.is.length) (fun H' hl => ?_) ?_
     · have:=h32 H'
       simp at hl
       rw[hl]at this
       have e1:pZ (H.length+4)=qS H.length:=by funext i; unfold pZ qS; omega
       rw[e1]at this
       exact this
     have hb1:=blkZ_len (H.length+4) g g.is.length
     have hini:=PW.init (g:=g) (H:=H) (t:=t) (rr:=t.rnd)
     unfold initP at hini
     generalize blkZ (H.length+4) g g.is.length=M1 at *
     simp -implicitDefEqProofs
     refine calln_go (L:=gbox g::⟨outs g.is.length (qP H.length g.is.length) g.acts 0,36,g.is.length,true⟩::blkZ (H.length+6+2*g.is.length) g g.is.length) (r:=.own (qPo H.length g.is.length) 0 g.is.length 1 g.is.length) (fun H' hl => ?_) ?_
     · have:=h32 H'
       simp at hl
       rw[hl]at this
       have e1:pZ (H.length+(M1.length+1+1+1+1+1+1))=qP H.length g.is.length:=by funext i; unfold pZ qP; omega
       have e2:H.length+(M1.length+1+1+1+1+1+1)+1=qPo H.length g.is.length:=by unfold qPo; omega
       have e3:H.length+(M1.length+1+1+1+1+1+1)=H.length+6+2*g.is.length:=by omega
       rw[e1,e2,e3]at this
       exact this
     generalize blkZ (H.length+6+2*g.is.length) g g.is.length=M2 at *
     simp -implicitDefEqProofs
     refine tlp9_0 (H:=H) (t:=t) (rr:=t.rnd) hW hT (x4:=.ptr (.own (H.length+2) 0 0 0 0) 0) (x6:=i64 n) (fun env X h g3 g6 g2 g9 => ?_) g.is.length 0 _ _ (by omega) hini (by simp) (by simp) (by simp) (by simp) (by simp) (by simp)
     simp -implicitDefEqProofs
     have eT:outT g (s0T g t.rnd t.seed t.A t.P)=⟨t.rnd,t.seed,(List.range g.is.length).map (cpA g t.A g.is.length),(List.range g.is.length).map (cpA g t.P g.is.length)⟩:=by
      unfold outT s0T
      congr 1
      · exact List.map_congr_left fun j hj=>by
         simp only[List.mem_range]at hj
         rw[cpA_at _ _ hj]
      · exact List.map_congr_left fun j hj=>by
         simp only[List.mem_range]at hj
         rw[cpA_at _ _ hj]
     have hz:=h.refz hcl _ eT
     refine LI.cong h.split.symm ?_
     refine LI.tell (Tell.tail 4 hz) ?_
     have e4:(H++[gbox g,tB t,zO,nxO g H.length t.rnd t.seed]).length=H.length+4:=by simp
     rw[e4]
     refine LI.cong (H':=H++gbox g::tB t::zO::nO (outT g (s0T g t.rnd t.seed t.A t.P))::(X.drop (H.length+4)).map AO.dead) (by simp) ?_
     have hnn:((n.toNat:Nat):Int)=n:=by omega
     have fzp:∀ j k v,j<H.length+4->SV.fz (H.length+4) [] (X.drop (H.length+4)) 4 (.ptr (.own j 0 0 0 v) k)=.ptr (.own j 0 0 0 v) k:=fun j k v hj=>fz_under (by simp[SV.under]; omega)
     refine tlp9_1 hW (res:=rnds g n.toNat (s0T g t.rnd t.seed t.A t.P)) (fun env G s' hs' g6 g9 => ?_) (fun env G T hs' g6 g7 => ?_) n.toNat _ _ _ (by omega) hs (by show t.rnd+_≤_; omega) rfl ?_ ?_ ?_ ?_
     · have e:runR g t n=(outT g s',0):=by unfold runR; rw[if_neg (by simpa using hc),if_neg hb,hs']
       rw[e]
       simp -implicitDefEqProofs[g6,g9,zO,nO,Tin.cells]
       exact cv_fz 3 hcl rfl (fz_under (by simp[SV.under,sls_under]))
     · have e:runR g t n=(.zero,5):=by unfold runR; rw[if_neg (by simpa using hc),if_neg hb,hs']
       rw[e]
       simp -implicitDefEqProofs[g6,g7,zO]
       exact cv_zero hcl _ _
     · rw[fzl_at,g2,hnn]; exact fz_i64 _ _ _ _ _
     · rw[fzl_at,g3]; exact fzp _ _ _ (by omega)
     · rw[fzl_at,g6]; exact fzp _ _ _ (by omega)
     · rw[fzl_at,g9]; exact fzp _ _ _ (by omega)
 · have e:runR g t n=(.zero,chkS g t):=by unfold runR; rw[if_pos hc]
   rw[e]
   simp -implicitDefEqProofs[hc]
   exact⟨rfl,cv_zero hcl _ _⟩
end
end Go.Proofs.Ytogjmpkehjfecaa.Rc
namespace Go.Proofs.Ytogjmpkehjfecaa.Rc
open Go.Ab
end Go.Proofs.Ytogjmpkehjfecaa.Rc
namespace Go.Proofs.Ytogjmpkehjfecaa.Rc
open Go.Ab Go.Ab.Shr
section
variable {H:List AO} {g:Gm}
set_option maxRecDepth 10000 in
theorem tlp26 {A:List (List Int)} (hA:A.length≤1000) (hAl:∀ l∈A,l.length≤100000) {N:Nat} {K:XE->Env->List AO->Prop} (hexit:∀ env,K (.exit 0) env H) :
 ∀ (n i:Nat) (env:Env),i+n=A.length->env.get 0=.slc (sls A) A.length->env.get 1=.slc (sls A) A.length->env.get 5=i64 i->LI Try.prog N drawB l26_0 env H K:=by
 intro n
 induction n with
 | zero =>
  intro i env hi h0 h1 h5
  refine li_go hm l26_0.eq_1 ?_
  have e:i=A.length:=by omega
  subst e
  simp -implicitDefEqProofs[h0,h1,h5]
  exact hexit _
 | succ n ih =>
  intro i env hi h0 h1 h5
  refine li_go hm l26_0.eq_1 ?_
  have hlt:i<A.length:=by omega
  have w1:=wrap_suc (show i<9223372036854775807 by omega)
  simp -implicitDefEqProofs[h0,h1,h5,hlt,sls_get hlt]
  repeat (refine⟨by omega,?_⟩)
  refine callq_go (fun _=>ok48s (isl H A[i]) (isl H A[i]) (by have:=hAl _ (List.getElem_mem hlt); omega)) ?_
  simp -implicitDefEqProofs[h5,w1]
  exact ih (i+1) _ (by omega) (by simp[h0]) (by simp[h1]) (by simp)
theorem ok26s {A:List (List Int)} (hA:A.length≤1000) (hAl:∀ l∈A,l.length≤100000):Ok Try.prog 26 [.slc (sls A) A.length,.slc (sls A) A.length] H (.ret (bl true)) H:=by
 refine ok_fn hm Try.func26 c26 (by simp[sls_under]) fun hcl => ?_
 simp -implicitDefEqProofs[i26,r26]
 refine tlp26 (A:=A) hA hAl (fun env => ?_) A.length 0 _ (by omega) (by simp) (by simp) (by simp)
 simp -implicitDefEqProofs
 exact cv_id
def Tin.small (T:Tin):Prop:=(T.A.length≤1000∧∀ l∈T.A,l.length≤100000)∧(T.P.length≤1000∧∀ l∈T.P,l.length≤100000)
theorem ok10 {T:Tin} (hT:T.small):Ok Try.prog 10 [.agg T.cells,.agg T.cells] H (.ret (bl true)) H:=by
 obtain⟨⟨a1,a2⟩,p1,p2⟩:=hT
 refine ok_fn hm Try.func10 c10 (by simp[Tin.cells,sls_under]) fun hcl => ?_
 simp -implicitDefEqProofs[i10,r10,Tin.cells]
 refine callq_st (fun _=>ok26s a1 a2) ?_
 simp -implicitDefEqProofs
 refine callq_st (fun _=>ok26s p1 p2) ?_
 simp -implicitDefEqProofs
 exact cv_fz 1 hcl rfl (by simp)
theorem rnds_sok {s s':TS} (hW:Wg g):∀ (m:Nat) (s:TS),SOk g s->s.rnd+m≤1000000->rnds g m s=some s'->SOk g s'
 | 0,s,h,_,e=>by simp only[rnds,Option.some.injEq]at e; rw[←e]; exact h
 | m+1,s,h,hr,e=>by
  simp only[rnds]at e
  by_cases ho:okB g (rndT g (cTC g) s)=true
  · rw[if_pos ho]at e
    have hr0:=h.r0
    obtain⟨e1,e2⟩:=rnd_r (g:=g) (s:=s)
    have w1:IntKind.i64.wrap (s.rnd+1)=s.rnd+1:=wrap_id (by omega) (by omega)
    exact rnds_sok (s:=s) hW m _ (rnd_sok hW h (by omega) (okB_iff.1 ho)) (by rw[e1,w1]; omega) e
  · rw[if_neg ho]at e; cases e
theorem zero_small:Tin.zero.small:=by simp[Tin.small,Tin.zero]
theorem run_small (t:Tin) (n:Int):(runR g t n).1.small:=by
 unfold runR
 by_cases hc:chkS g t=0
 · obtain⟨hW,r1,r2,r3,r4⟩:=chk_zero hc
   rw[if_neg (by simpa using hc)]
   by_cases hb:n<0∨20000<n∨1000000<t.rnd+n
   · rw[if_pos hb]; exact zero_small
   · rw[if_neg hb]
     cases hr:rnds g n.toNat (s0T g t.rnd t.seed t.A t.P)with
     | none=>exact zero_small
     | some s' =>
      have h:=rnds_sok (s:=s') hW n.toNat _ (s0_sok hc) (by show t.rnd+_≤_; omega) hr
      have hil:=hW.gd.i
      refine⟨⟨by simp[outT]; omega,fun l hl => ?_⟩,by simp[outT]; omega,fun l hl => ?_⟩
      · simp only[outT,List.mem_map,List.mem_range]at hl
        obtain⟨j,hj,rfl⟩:=hl
        have:=acts_le hW hj
        rw[h.A j hj]; omega
      · simp only[outT,List.mem_map,List.mem_range]at hl
        obtain⟨j,hj,rfl⟩:=hl
        have:=acts_le hW hj
        rw[h.P j hj]; omega
 · rw[if_pos hc]; exact zero_small
def lngB (L:List (List Int)):Bool:=L.any (fun l=>decide (20<l.length))||decide (60<L.length)
set_option maxRecDepth 10000 in
theorem tlp7_0 {L:List (List Int)} (hL:L.length≤9223372036854775807) {N:Nat} {K:XE->Env->List AO->Prop} (hret:∀ env,L.any (fun l=>decide (20<l.length))=true->env.get 2=bl true->K .ret env H) (hexit:L.any (fun l=>decide (20<l.length))=false->∀ env,env.get 0=.slc (sls L) L.length->K (.exit 0) env H) :
 ∀ (n i:Nat) (env:Env),i+n=L.length->(∀ j (h:j<L.length),j<i->L[j].length≤20)->env.get 0=.slc (sls L) L.length->env.get 3=i64 i->LI Try.prog N drawB l7_0 env H K:=by
 intro n
 induction n with
 | zero =>
  intro i env hi hp h0 h3
  refine li_go hm l7_0.eq_1 ?_
  have e:i=L.length:=by omega
  subst e
  simp -implicitDefEqProofs[h0,h3]
  refine hexit ?_ _ (by simp[h0])
  rw[Bool.eq_false_iff]
  intro h
  simp only[List.any_eq_true,decide_eq_true_eq]at h
  obtain⟨l,hl,h2⟩:=h
  obtain⟨j,hj,rfl⟩:=List.getElem_of_mem hl
  have:=hp j hj hj
  omega
 | succ n ih =>
  intro i env hi hp h0 h3
  refine li_go hm l7_0.eq_1 ?_
  have hlt:i<L.length:=by omega
  have w1:=wrap_suc (show i<9223372036854775807 by omega)
  by_cases hb:20<L[i].length
  · have hb2:(20:Int)<(L[i].length:Int):=by omega
    simp -implicitDefEqProofs[h0,h3,hlt,sls_get hlt,sl,hb2]
    repeat (refine⟨by omega,?_⟩)
    refine hret _ ?_ ?_
    · simp only[List.any_eq_true,decide_eq_true_eq]
      exact⟨_,List.getElem_mem hlt,hb⟩
    · simp
  · have hb2:¬ (20:Int)<(L[i].length:Int):=by omega
    simp -implicitDefEqProofs[h0,h3,hlt,sls_get hlt,sl,hb2,w1]
    repeat (refine⟨by omega,?_⟩)
    refine ih (i+1) _ (by omega) (fun j hj hji => ?_) ?_ ?_
    · by_cases e:j=i
      · subst e; omega
      · exact hp j hj (by omega)
    · simp
    · simp
theorem ok7 {L:List (List Int)} (hL:L.length≤9223372036854775807):Ok Try.prog 7 [.slc (sls L) L.length] H (.ret (bl (lngB L))) H:=by
 refine ok_fn hm Try.func7 c7 (by simp[sls_under]) fun hcl => ?_
 simp -implicitDefEqProofs[i7,r7]
 refine tlp7_0 hL (fun env h g2 => ?_) (fun h env g0 => ?_) L.length 0 _ (by omega) (fun j _ h=>absurd h (by omega)) (by simp) (by simp)
 · simp -implicitDefEqProofs[g2]
   simp only[lngB,h,Bool.true_or]
   exact cv_id
 · simp -implicitDefEqProofs[g0]
   have:lngB L=decide (60<L.length):=by simp only[lngB,h,Bool.false_or]
   have e2:decide ((60:Int)<(L.length:Int))=decide (60<L.length):=decide_eq_decide.2 (by omega)
   rw[this,<- e2]
   exact cv_id
end
end Go.Proofs.Ytogjmpkehjfecaa.Rc
namespace Go.Proofs.Ytogjmpkehjfecaa.Rc
open Go.Ab Go.Ab.Shr
section
variable {H:List AO} {g:Gm} {t:Tin}
set_option maxRecDepth 10000 in
theorem ok3' (h6:∀ H,Ok Try.prog 6 [] H (.ret (bl true)) H) (n:Int) (hn : -9223372036854775808≤n∧n≤9223372036854775807) (hA:t.A.length≤9223372036854775807) (hP:t.P.length≤9223372036854775807) :
 Ok Try.prog 3 [.agg g.cells,.agg t.cells,i64 n] H (.ret (bl true)) H:=by
 refine ok_fn hm Try.func3 c3 (by simp[Gm.cells,nds_under,infs_under,Tin.cells,sls_under]) fun hcl => ?_
 have h8:=fun H=>ok8 (H:=H) (g:=g) t n hn
 have h9:=fun H=>ok9 (H:=H) (g:=g) t n hn
 have h10:=fun H=>ok10 (H:=H) (run_small (g:=g) t n)
 simp only[Gm.cells,Tin.cells]at h8 h9 h10
 simp -implicitDefEqProofs[i3,r3,Gm.cells,Tin.cells]
 refine call_go (h6 _) ?_
 simp -implicitDefEqProofs
 by_cases c1:(30:Int)<(g.ns.length:Int)
 · simp -implicitDefEqProofs[c1]
   refine callq_off _ _ _ _ ?_
   simp -implicitDefEqProofs[c1]
   refine callq_off _ _ _ _ ?_
   simp -implicitDefEqProofs[c1]
   exact cv_fz 1 hcl rfl (by simp)
 · simp -implicitDefEqProofs[c1]
   refine callq_st (fun _=>ok7 hA) ?_
   by_cases lA:lngB t.A=true
   · simp -implicitDefEqProofs[c1,lA]
     refine callq_off _ _ _ _ ?_
     simp -implicitDefEqProofs[c1,lA]
     exact cv_fz 1 hcl rfl (by simp)
   · rw[Bool.not_eq_true]at lA
     simp -implicitDefEqProofs[c1,lA]
     refine callq_st (fun _=>ok7 hP) ?_
     by_cases lP:lngB t.P=true
     · simp -implicitDefEqProofs[c1,lA,lP]
       exact cv_fz 1 hcl rfl (by simp)
     · rw[Bool.not_eq_true]at lP
       by_cases n1:200<n
       · by_cases n2:n≤20000
         · simp -implicitDefEqProofs[c1,lA,lP,n1,n2]
           exact cv_fz 1 hcl rfl (by simp)
         · simp -implicitDefEqProofs[c1,lA,lP,n1,n2]
           refine call_go (h8 _) ?_
           simp -implicitDefEqProofs
           refine call_go (h9 _) ?_
           simp -implicitDefEqProofs
           refine call_go (h10 _) ?_
           simp -implicitDefEqProofs
           exact cv_fz 1 hcl rfl (by simp)
       · simp -implicitDefEqProofs[c1,lA,lP,n1]
         refine call_go (h8 _) ?_
         simp -implicitDefEqProofs
         refine call_go (h9 _) ?_
         simp -implicitDefEqProofs
         refine call_go (h10 _) ?_
         simp -implicitDefEqProofs
         exact cv_fz 1 hcl rfl (by simp)
end
end Go.Proofs.Ytogjmpkehjfecaa.Rc
namespace Go.Proofs.Ytogjmpkehjfecaa.Rc
open Go.Ab Go.Ab.Shr
section
variable {H:List AO}
theorem ok46 (p i:Int) {k n v:Nat} (hk:k<H.length):Ok Try.prog 46 [i64 p,i64 i,.own k 0 n 1 v] H (.ret (.agg [i64 2,i64 p,i64 i,.own k 0 n 1 v,nl,nl])) H:=by
 refine ok_fn hm Try.func46 c46 (by simp[SV.under,hk]) fun hcl => ?_
 simp -implicitDefEqProofs[i46,r46]
 exact⟨rfl,cv_fz 2 hcl rfl (fz_under (by simp[SV.under,hk]))⟩
theorem ok47 (p:Int) (hp : -1000≤p∧p≤1000):Ok Try.prog 47 [i64 p] H (.ret (.agg [i64 3,i64 0,i64 0,nl,nl,.slc (ints [p,-p]) 2])) H:=by
 refine ok_fn hm Try.func47 c47 (by simp) fun hcl => ?_
 have w1:IntKind.i64.wrap (-p) = -p:=wrap_id (by omega) (by omega)
 simp -implicitDefEqProofs[i47,r47,w1]
 exact⟨rfl,cv_fz 3 hcl rfl (by simp[ints])⟩
def exG:Gm:=⟨2,[⟨2,0,0,[1,2],[],[]⟩,⟨3,0,0,[],[],[1,-1]⟩,⟨2,1,1,[3,4],[],[]⟩,⟨3,0,0,[],[],[0,0]⟩,⟨2,0,2,[5,6,7],[],[]⟩,⟨3,0,0,[],[],[2,-2]⟩,⟨3,0,0,[],[],[-1,1]⟩,⟨3,0,0,[],[],[3,-3]⟩],[(0,2),(1,2),(0,3)]⟩
set_option maxRecDepth 10000 in
theorem ok25:Ok Try.prog 25 [] H (.ret (.agg exG.cells)) H:=by
 refine ok_fn hm Try.func25 c25 (by simp) fun hcl => ?_
 have h47:=fun H p hp=>ok47 (H:=H) p hp
 simp -implicitDefEqProofs[i25,r25]
 refine call_go (ok46 0 0 (by simp)) ?_
 simp -implicitDefEqProofs
 refine call_go (ok47 1 (by omega)) ?_
 simp -implicitDefEqProofs
 refine call_go (ok46 1 1 (by simp)) ?_
 simp -implicitDefEqProofs
 refine call_go (ok47 0 (by omega)) ?_
 simp -implicitDefEqProofs
 refine call_go (ok46 0 2 (by simp)) ?_
 simp -implicitDefEqProofs
 refine call_go (ok47 2 (by omega)) ?_
 simp -implicitDefEqProofs
 refine call_go (ok47 (-1) (by omega)) ?_
 simp -implicitDefEqProofs
 refine call_go (ok47 3 (by omega)) ?_
 simp -implicitDefEqProofs
 refine⟨rfl,Cv.le (cv_fz 5 hcl rfl rfl) ?_⟩
 have e1:(1+1:Nat)=2:=rfl
 simp[ints,exG,Gm.cells,nds,Nd.cells,infs,sl]
 refine le_agg (leL.cons (SV.le.refl _) (leL.cons (le_slc ?_ _) (leL.refl _)))
 repeat (first | exact leL.nil | refine leL.cons (SV.le.refl _) ?_ | refine leL.cons le_nil ?_)
end
end Go.Proofs.Ytogjmpkehjfecaa.Rc
namespace Go.Proofs.Ytogjmpkehjfecaa.Rc
open Go.Ab Go.Ab.Shr
def newR (g:Gm):Tin×Int:=if g.prpE≠0 then(.zero,g.prpE)else(⟨0,0,(List.range g.is.length).map (zersA g),(List.range g.is.length).map (zersA g)⟩,0)
section
variable {H:List AO} {g:Gm}
set_option maxRecDepth 10000 in
theorem ok13:Ok Try.prog 13 [.agg g.cells] H (.ret (.tup [.agg (newR g).1.cells,i64 (newR g).2])) H:=by
 refine ok_fn hm Try.func13 c13 (by simp[Gm.cells,nds_under,infs_under]) fun hcl => ?_
 have h36:=fun H=>ok36 (H:=H) (g:=g)
 simp only[Gm.cells]at h36
 simp -implicitDefEqProofs[i13,r13,Gm.cells]
 refine call_go (h36 _) ?_
 by_cases hp:g.prpE=0
 · have hW:Wg g:=prp_form hp
   have e:newR g=(⟨0,0,(List.range g.is.length).map (zersA g),(List.range g.is.length).map (zersA g)⟩,0):=by unfold newR; rw[if_neg (by simpa using hp)]
   have h37:=fun H=>ok37 (H:=H) hW
   simp only[Gm.cells]at h37
   simp -implicitDefEqProofs[hp]
   refine call_go (h37 _) ?_
   simp -implicitDefEqProofs
   refine call_go (h37 _) ?_
   have hb:=blkO_len g g.is.length
   have hbr:=blkO_row g g.is.length
   generalize blkO g g.is.length=M at *
   simp -implicitDefEqProofs
   rw[e]
   have hcv:=fun(L:List AO) (r:SV) (h:SV.fz H.length [] L 6 r=.tup [.agg (Tin.mk 0 0 ((List.range g.is.length).map (zersA g)) ((List.range g.is.length).map (zersA g))).cells,i64 0])=>cv_fz (n0:=H.length) (H:=H) (L:=L) 6 hcl rfl h
   refine hcv _ _ ?_
   have key:∀ (L:List AO) (a b:Nat) (qa qb:Nat->Nat),L[a]? = some ⟨outs g.is.length qa g.acts 0,36,0,true⟩->L[b]? = some ⟨outs g.is.length qb g.acts 0,36,0,true⟩->(∀ i,i<g.is.length->H.length≤qa i∧L[qa i-H.length]? = some (rowO 0 (zers (g.acts i))))->(∀ i,i<g.is.length->H.length≤qb i∧L[qb i-H.length]? = some (rowO 0 (zers (g.acts i)))) →
    SV.fz H.length [] L 6 (.tup [.agg [i64 0,i64 0,.own (H.length+a) 0 g.is.length 1 0,.own (H.length+b) 0 g.is.length 1 0],i64 0])=.tup [.agg (Tin.mk 0 0 ((List.range g.is.length).map (zersA g)) ((List.range g.is.length).map (zersA g))).cells,i64 0]:=by
    intro L a b qa qb ha hb hqa hqb
    have at':∀ k,H.length≤k->(H++L)[k]? = L[k-H.length]? := fun k hk=>by rw[List.getElem?_append_right hk]
    have fS:=fz_outsN (H:=H) (G:=H++L) (p:=H.length+a) (A:=zersA g) (by omega) (by rw[at' _ (by omega),show H.length+a-H.length=a by omega]; exact ha) (fun i hi=>⟨(hqa i hi).1,by rw[at' _ (hqa i hi).1]; exact(hqa i hi).2,by simp[zersA,zers]⟩) 1
    have fP:=fz_outsN (H:=H) (G:=H++L) (p:=H.length+b) (A:=zersA g) (by omega) (by rw[at' _ (by omega),show H.length+b-H.length=b by omega]; exact hb) (fun i hi=>⟨(hqb i hi).1,by rw[at' _ (hqb i hi).1]; exact(hqb i hi).2,by simp[zersA,zers]⟩) 1
    rw[List.drop_left]at fS fP
    simp only[fz_tup,List.map_cons,List.map_nil,fz_agg,fz_i64,Nat.reduceAdd,fS,fP]
    simp[Tin.cells]
   refine key _ 3 (M.length+5) (pB (H.length+2)) (pB (H.length+(M.length+4))) rfl ?_ (fun i hi=>⟨by unfold pB; omega,?_⟩) (fun i hi=>⟨by unfold pB; omega,?_⟩)
   · rw[show M.length+5=(M.length+1)+4 by omega]
     simp only[List.getElem?_cons_succ]
     rw[List.getElem?_append_right (by omega),show M.length+1-M.length=1 by omega]; rfl
   · rw[show pB (H.length+2) i-H.length=(2*i+1)+4 by unfold pB; omega]
     simp only[List.getElem?_cons_succ]
     rw[List.getElem?_append_left (by omega)]; exact hbr i hi
   · rw[show pB (H.length+(M.length+4)) i-H.length=(M.length+(2*i+1+2))+4 by unfold pB; omega]
     simp only[List.getElem?_cons_succ]
     rw[List.getElem?_append_right (by omega),show M.length+(2*i+1+2)-M.length=2*i+1+2 by omega]
     simp only[List.getElem?_cons_succ]
     exact hbr i hi
 · have e:newR g=(.zero,g.prpE):=by unfold newR; rw[if_pos hp]
   rw[e]
   simp -implicitDefEqProofs[hp]
   exact⟨rfl,cv_zero hcl _ _⟩
end
end Go.Proofs.Ytogjmpkehjfecaa.Rc
namespace Go.Proofs.Ytogjmpkehjfecaa.Rc
open Go.Ab Go.Ab.Shr
section
variable {H:List AO} {g:Gm}
theorem ok15 (t:Tin):Ok Try.prog 15 [.agg g.cells,.agg t.cells] H (.ret (.tup [.agg (runR g t 1).1.cells,i64 (runR g t 1).2])) H:=by
 refine ok_fn hm Try.func15 c15 (by simp[Gm.cells,nds_under,infs_under,Tin.cells,sls_under]) fun hcl => ?_
 have h8:=fun H=>ok8 (H:=H) (g:=g) t 1 (by omega)
 simp only[Gm.cells,Tin.cells]at h8
 simp -implicitDefEqProofs[i15,r15,Gm.cells,Tin.cells]
 refine call_go (h8 _) ?_
 simp -implicitDefEqProofs
 exact cv_fz 3 hcl rfl (fz_under (by simp[SV.under,sls_under]))
end
end Go.Proofs.Ytogjmpkehjfecaa.Rc
namespace Go.Proofs.Ytogjmpkehjfecaa.Rc
open Go.Ab Go.Ab.Shr
structure ZW (g:Gm) (H:List AO) (t:Tin) (A:Nat->List Int) (q:List Int) (X:List AO):Prop where
 tb:X[H.length+1]? = some (tB t)
 oo:X[H.length+3]? = some ⟨outs g.is.length (pB (H.length+2)) g.acts 0,36,0,true⟩
 r:∀ i,i<g.is.length->X[pB (H.length+2) i]? = some ⟨ints (A i),3,0,true⟩
 od:X[H.length+4+2*g.is.length]? = some ⟨ints q,71,0,true⟩
 l:∀ i,i<g.is.length->(A i).length=g.acts i
 lq:q.length=10
 low:∀ j,j<H.length->X[j]? = H[j]?
section
variable {H X:List AO} {g:Gm} {t:Tin} {A:Nat->List Int} {q:List Int}
theorem ZW.sh (hW:Wg g) (h:ZW g H t A q X) {j:Nat} (hj:j<g.is.length) {l:List Int} (hl:ShO l) (hll:l.length=g.acts j) :
 ∃ X',Ok Try.prog 38 [sl l,.own (pB (H.length+2) j) 0 (g.acts j) 1 0,.own (H.length+4+2*g.is.length) 0 (g.acts j) 1 0] X (.ret (.tup [])) X'∧ZW g H t (upA A j (shrI l)) (((ordI l).map fun(n:Nat)=>(n:Int))++q.drop l.length) X':=by
 have hac:=acts_le hW hj
 have hlA:=h.l j hj
 have hlq:=h.lq
 have hne:pB (H.length+2) j≠H.length+4+2*g.is.length:=by unfold pB; omega
 have hP:P2 X (pB (H.length+2) j) (H.length+4+2*g.is.length):=⟨getElem?_lt (h.r j hj),getElem?_lt h.od,hne⟩
 have hG:G2 X (pB (H.length+2) j) (H.length+4+2*g.is.length) ⟨ints (A j),3,0,true⟩ (oI [] (q.take (g.acts j)) (ints (q.drop (g.acts j))) 71 0)=X:=by
  refine g2_same (h.r j hj) ?_
  rw[h.od]
  have e:ints q=ints (q.take (g.acts j))++ints (q.drop (g.acts j)):=by
   simp only[ints,<- List.map_append,List.take_append_drop]
  unfold oI
  rw[List.nil_append,<- e]
 obtain⟨a1,a2,a3⟩:=hl
 have key:=ok38 (H:=X) (a:=pB (H.length+2) j) (k:=H.length+4+2*g.is.length) (va:=0) (v:=0) (T:=71) (C:=[]) (D:=ints (q.drop (g.acts j))) (x:=sl l) (l:=l) (o0:=A j) (p0:=q.take (g.acts j)) hP ⟨rfl,by simp⟩ (fun o p L=>isl _ l) a1 a2 a3 (by rw[hlA,hll]) (by rw[List.length_take,hll]; omega)
 rw[hG,hll]at key
 refine⟨_,key,?_⟩
 have e:oN [] (ordI l) (ints (q.drop (g.acts j))) 71 0=⟨ints (((ordI l).map fun(n:Nat)=>(n:Int))++q.drop l.length),71,0,true⟩:=by
  rw[hll]
  simp[oN,nats,ints]
 rw[e]
 have ne:∀ {k:Nat} {x:Option AO},pB (H.length+2) j≠k->H.length+4+2*g.is.length≠k->X[k]? = x->(G2 X (pB (H.length+2) j) (H.length+4+2*g.is.length) ⟨ints (shrI l),3,0,true⟩ ⟨ints (((ordI l).map fun(n:Nat)=>(n:Int))++q.drop l.length),71,0,true⟩)[k]? = x:=fun hn hn2 hx=>by unfold G2; rw[List.getElem?_set_ne hn2,List.getElem?_set_ne hn]; exact hx
 refine⟨ne (by unfold pB; omega) (by omega) h.tb,ne (by unfold pB; omega) (by omega) h.oo,fun i hi => ?_,?_,fun i hi => ?_,?_,fun i hi => ?_⟩
 · by_cases e2:i=j
   · subst e2
     have:=g2_a (L:=[]) (getElem?_lt (h.r i hi)) hne (o:=⟨ints (shrI l),3,0,true⟩) (p:=⟨ints (((ordI l).map fun(n:Nat)=>(n:Int))++q.drop l.length),71,0,true⟩)
     rw[List.append_nil]at this
     rw[this]; simp[upA]
   · rw[ne (x:=X[pB (H.length+2) i]?) (by unfold pB; omega) (by unfold pB; omega) rfl,h.r i hi]
     simp[upA,e2]
 · have:=g2_k (L:=[]) (a:=pB (H.length+2) j) (getElem?_lt h.od) (o:=⟨ints (shrI l),3,0,true⟩) (p:=⟨ints (((ordI l).map fun(n:Nat)=>(n:Int))++q.drop l.length),71,0,true⟩)
   rw[List.append_nil]at this
   exact this
 · unfold upA; split
   · rename_i e2; rw[e2,shr_len]; exact hll
   · exact h.l i hi
 · simp[ord_len]; omega
 · exact ne (by unfold pB; omega) (by omega) (h.low i hi)
def shA (g:Gm) (L:List (List Int)):Nat->Nat->List Int
 | 0=>zersA g
 | i+1=>upA (shA g L i) i (shrI (L.getD i []))
def sqA (L:List (List Int)):Nat->List Int
 | 0=>zers 10
 | i+1=>((ordI (L.getD i [])).map fun(n:Nat)=>(n:Int))++(sqA L i).drop (L.getD i []).length
set_option maxRecDepth 10000 in
theorem tlp14_0 (hW:Wg g) (hT:TinOk g t) (hS:∀ l∈t.A,ShO l) {N:Nat} {K:XE->Env->List AO->Prop}
 (hexit:∀ env X,ZW g H t (shA g t.A g.is.length) (sqA t.A g.is.length) X->env.get 7=.own (H.length+3) 0 g.is.length 1 0->K (.exit 0) env X) :
 ∀ (m i:Nat) (X:List AO) (env:Env),i+m=g.is.length->ZW g H t (shA g t.A i) (sqA t.A i) X->env.get 3=.ptr (.own (H.length+1) 0 0 0 0) 0->env.get 7=.own (H.length+3) 0 g.is.length 1 0->env.get 8=.ptr (.own (H.length+4+2*g.is.length) 0 0 0 0) 0->env.get 19=.own (H.length+3) 0 g.is.length 1 0->env.get 20=i64 g.is.length->env.get 21=i64 i →
  LI Try.prog N drawB l14_0 env X K:=by
 have hil:=hW.gd.i
 intro m
 induction m with
 | zero =>
  intro i X env hi h h3 h7 h8 h19 h20 h21
  refine li_go hm l14_0.eq_1 ?_
  have e:i=g.is.length:=by omega
  subst e
  simp -implicitDefEqProofs[h20,h21]
  exact hexit _ X h (by simp[h7])
 | succ m ih =>
  intro i X env hi h h3 h7 h8 h19 h20 h21
  refine li_go hm l14_0.eq_1 ?_
  have hii:i<g.is.length:=by omega
  obtain⟨n1,n2⟩:=acts_le hW hii
  have w1:=wrap_suc (show i<9223372036854775807 by omega)
  have hiA:i<t.A.length:=by rw[hT.la]; exact hii
  have lA:=hT.a i hiA
  obtain⟨X',k1,k2⟩:=h.sh hW hii (hS _ (List.getElem_mem hiA)) lA
  have eA:upA (shA g t.A i) i (shrI t.A[i])=shA g t.A (i+1):=by simp[shA,hiA]
  have eQ:((ordI t.A[i]).map fun(n:Nat)=>(n:Int))++(sqA t.A i).drop t.A[i].length=sqA t.A (i+1):=by simp[sqA,hiA]
  rw[eA,eQ]at k2
  have hTb:=oc_at h.tb []
  have hOo:=oc_at h.oo []
  have hOd:=oc_at h.od []
  simp only[List.append_nil]at hTb hOo hOd
  have hq:=h.lq
  have hca:SV.cutA 1 0 (g.acts i) (.ptr (.own (H.length+4+2*g.is.length) 0 0 0 0) 0)=.own (H.length+4+2*g.is.length) 0 (g.acts i) 1 0:=by simp[SV.cutA]
  simp -implicitDefEqProofs[h3,h7,h8,h19,h20,h21,hTb,hOo,hOd,tB,Tin.cells,hii,hiA,sls_get hiA,hca]
  refine⟨by omega,by omega,⟨by omega,by omega⟩,call_go k1 ?_⟩
  simp -implicitDefEqProofs[h3,h7,h8,h19,h20,h21,w1]
  exact ih (i+1) _ _ (by omega) k2 (by simp[h3]) (by simp[h7]) (by simp[h8]) (by simp[h19]) (by simp[h20]) (by simp)
theorem shA_at {L:List (List Int)}:∀ (n j:Nat),j<n->shA g L n j=shrI (L.getD j [])
 | 0,j,h=>absurd h (by omega)
 | n+1,j,h=>by
  simp only[shA,upA]
  by_cases e:j=n
  · rw[if_pos e,e]
  · rw[if_neg e]; exact shA_at n j (by omega)
theorem ok14 (hW:Wg g) (hc:chkS g t=0) (hT:TinOk g t) (hS:∀ l∈t.A,ShO l):Ok Try.prog 14 [.agg g.cells,.agg t.cells] H (.ret (.tup [.slc (sls ((List.range g.is.length).map fun j=>shrI (t.A.getD j []))) g.is.length,i64 0])) H:=by
 refine ok_fn hm Try.func14 c14 (by simp[Gm.cells,nds_under,infs_under,Tin.cells,sls_under]) fun hcl => ?_
 have h16:=fun H=>ok16 (H:=H) (g:=g) (t:=t)
 have h37:=fun H=>ok37 (H:=H) hW
 simp only[Gm.cells,Tin.cells]at h16 h37
 simp -implicitDefEqProofs[i14,r14,Gm.cells,Tin.cells]
 refine call_go (h16 _) ?_
 simp -implicitDefEqProofs[hc]
 refine call_go (h37 _) ?_
 have hb:=blkO_len g g.is.length
 have hbr:=blkO_row g g.is.length
 generalize blkO g g.is.length=M at *
 have h0:ZW g H t (zersA g) (zers 10) (H++gbox g::tB t::gbox g::⟨outs g.is.length (pB (H.length+2)) g.acts 0,36,0,true⟩::(M++[⟨ints (zers 10),71,0,true⟩])):=by
  refine⟨?_,?_,fun i hi => ?_,?_,fun i hi=>by simp[zersA,zers],by simp[zers],fun j hj=>by rw[List.getElem?_append_left hj]⟩
  · rw[List.getElem?_append_right (by omega)]; simp
  · rw[List.getElem?_append_right (by omega)]; simp
  · rw[List.getElem?_append_right (by unfold pB; omega),show pB (H.length+2) i-H.length=(2*i+1)+4 by unfold pB; omega]
    simp only[List.getElem?_cons_succ]
    rw[List.getElem?_append_left (by omega)]; exact hbr i hi
  · rw[List.getElem?_append_right (by omega),show H.length+4+2*g.is.length-H.length=M.length+4 by omega]
    simp only[List.getElem?_cons_succ]
    rw[List.getElem?_append_right (by omega)]; simp
 have ez:ints (zers 10)=[i64 0,i64 0,i64 0,i64 0,i64 0,i64 0,i64 0,i64 0,i64 0,i64 0]:=rfl
 have ep:H.length+(M.length+4)=H.length+4+2*g.is.length:=by omega
 rw[ez]at h0
 simp -implicitDefEqProofs
 refine tlp14_0 (H:=H) (t:=t) hW hT hS (fun env X h g7 => ?_) g.is.length 0 _ _ (by omega) h0 (by simp) (by simp) (by simp[ep]) (by simp) (by simp) (by simp)
 simp -implicitDefEqProofs[g7]
 have fS:=fz_outsN (H:=H) (G:=X) (p:=H.length+3) (A:=fun j=>shrI (t.A.getD j [])) (by omega) h.oo (fun i hi=>⟨by unfold pB; omega,by rw[h.r i hi,shA_at _ _ hi],by have:=h.l i hi; rw[shA_at _ _ hi]at this; exact this⟩) 1
 have hfz:SV.fz H.length [] (X.drop H.length) 5 (.tup [.own (H.length+3) 0 g.is.length 1 0,i64 0])=.tup [.slc (sls ((List.range g.is.length).map fun j=>shrI (t.A.getD j []))) g.is.length,i64 0]:=by
  simp only[fz_tup,List.map_cons,List.map_nil,fz_i64,Nat.reduceAdd,fS]
 have:=cv_fz (n0:=H.length) (H:=H) (L:=X.drop H.length) 5 hcl rfl hfz
 rw[←tail_of h.low]at this
 exact this
end
end Go.Proofs.Ytogjmpkehjfecaa.Rc
namespace Go.Proofs.Ytogjmpkehjfecaa.Rc
open Go.Ab Go.Ab.Shr
def exT0:Tin:=⟨0,0,[[0,0],[0,0],[0,0,0]],[[0,0],[0,0],[0,0,0]]⟩
def exT1:Tin:=⟨1,0,[[171,-171],[341,-341],[341,-1194,853]],[[536870912,536870912],[536870912,536870912],[178962432,178954240,178954240]]⟩
theorem ex_new:newR exG=(exT0,0):=by kernel_rfl
theorem ex_run:runR exG exT0 1=(exT1,0):=by kernel_rfl
theorem ex_chk:chkS exG exT1=0:=by kernel_rfl
theorem ex_shr:(List.range exG.is.length).map (fun j=>shrI (exT1.A.getD j []))=[[65536,0],[65536,0],[18717,0,46819]]:=by kernel_rfl
end Go.Proofs.Ytogjmpkehjfecaa.Rc
namespace Go.Proofs.Ytogjmpkehjfecaa.Rc
open Go.Ab Go.Ab.Shr
section
variable {H:List AO}
theorem ex_sho:∀ l∈exT1.A,ShO l:=by
 intro l hl
 simp only[exT1,List.mem_cons,List.not_mem_nil,or_false]at hl
 rcases hl with rfl | rfl | rfl<;>refine⟨by decide,by decide,fun v hv => ?_⟩<;>simp at hv<;>omega
theorem fz_three {X:List AO} {p q0 q1 q2:Nat} {l0 l1 l2:List Int} (h:X[p]? = some ⟨[.own q0 0 l0.length 1 0,.own q1 0 l1.length 1 0,.own q2 0 l2.length 1 0],36,0,true⟩) (h0:X[q0]? = some ⟨ints l0,3,0,true⟩) (h1:X[q1]? = some ⟨ints l1,3,0,true⟩) (h2:X[q2]? = some ⟨ints l2,3,0,true⟩) :
 SV.fz 0 [] X 4 (.own p 0 3 1 0)=.slc (sls [l0,l1,l2]) 3:=by
 have:=fz_outsN (H:=[]) (G:=X) (I:=3) (p:=p) (q:=fun i=>[q0,q1,q2].getD i 0) (n:=fun i=>[l0.length,l1.length,l2.length].getD i 0) (A:=fun i=>[l0,l1,l2].getD i []) (v:=0) (w:=0) (T:=36) (by simp) (by rw[h]; rfl) (fun i hi=>by
  have hi3:i=0∨i=1∨i=2:=by omega
  rcases hi3 with rfl | rfl | rfl
  · exact⟨by simp,h0,rfl⟩
  · exact⟨by simp,h1,rfl⟩
  · exact⟨by simp,h2,rfl⟩) 1
 exact this
set_option maxRecDepth 10000 in
theorem ok6:Ok Try.prog 6 [] H (.ret (bl true)) H:=by
 refine ok_fn hm Try.func6 c6 (by simp) fun hcl => ?_
 have h13:=fun H=>ok13 (H:=H) (g:=exG)
 have h15:=fun H=>ok15 (H:=H) (g:=exG) exT0
 have h14:=fun H=>ok14 (H:=H) (g:=exG) (t:=exT1) (chk_zero ex_chk).1 ex_chk (chk_tin ex_chk) ex_sho
 rw[ex_new]at h13
 rw[ex_run]at h15
 rw[ex_shr]at h14
 simp only[Tin.cells]at h13 h15 h14
 simp -implicitDefEqProofs[i6,r6]
 refine call_go ok25 ?_
 simp -implicitDefEqProofs
 refine call_go (h13 _) ?_
 simp -implicitDefEqProofs
 refine callq_go (fun _=>ok25) ?_
 simp -implicitDefEqProofs
 refine callq_go (fun _=>h15 _) ?_
 simp -implicitDefEqProofs
 refine callq_go (fun _=>ok25) ?_
 simp -implicitDefEqProofs
 refine callq_go (fun _=>h14 _) ?_
 simp -implicitDefEqProofs
 have e1:∀ L:List AO,SV.fz 0 [] (H++L) 4 (.slc (sls exT1.A) exT1.A.length)=.slc (sls exT1.A) exT1.A.length:=fun L=>fz_under (by simp[sls_under])
 have at':∀ (L:List AO) (k:Nat),(H++L)[H.length+k]? = L[k]? := fun L k=>by rw[List.getElem?_append_right (by omega)]; congr 1; omega
 refine callq_st (r:=bl true) (fun _=>Ok.fz 4 ?_) ?_
 · simp only[List.map_cons,List.map_nil,SV.strip,e1]
   rw[fz_three (l0:=[171,-171]) (l1:=[341,-341]) (l2:=[341,-1194,853]) (by rw[at' _ 4]; rfl) (by rw[at' _ 1]; rfl) (by rw[at' _ 2]; rfl) (by rw[at' _ 3]; rfl)]
   exact ok26s (A:=exT1.A) (by decide) (by decide)
 simp -implicitDefEqProofs
 have e2:∀ L:List AO,SV.fz 0 [] (H++L) 4 (.slc (sls [[65536,0],[65536,0],[18717,0,46819]]) exG.is.length)=.slc (sls [[65536,0],[65536,0],[18717,0,46819]]) exG.is.length:=fun L=>fz_under (by simp[sls_under])
 refine callq_st (r:=bl true) (fun _=>Ok.fz 4 ?_) ?_
 · simp only[List.map_cons,List.map_nil,SV.strip,e2]
   rw[fz_three (l0:=[65536,0]) (l1:=[65536,0]) (l2:=[18717,0,46819]) (by rw[at' _ 8]; rfl) (by rw[at' _ 5]; rfl) (by rw[at' _ 6]; rfl) (by rw[at' _ 7]; rfl)]
   exact ok26s (A:=[[65536,0],[65536,0],[18717,0,46819]]) (by decide) (by decide)
 simp -implicitDefEqProofs
 exact cv_fz 1 hcl rfl (by simp)
end
section
variable {H:List AO} {g:Gm} {t:Tin}
theorem ok3 (n:Int) (hn : -9223372036854775808≤n∧n≤9223372036854775807) (hA:t.A.length≤9223372036854775807) (hP:t.P.length≤9223372036854775807) :
 Ok Try.prog 3 [.agg g.cells,.agg t.cells,i64 n] H (.ret (bl true)) H:=ok3' (fun _=>ok6) n hn hA hP
end
end Go.Proofs.Ytogjmpkehjfecaa.Rc
namespace Go.Proofs.Ytogjmpkehjfecaa.Rc
open Go.Ab
def shNd:Sh:=.st [.int .i64,.int .i64,.int .i64,.sl (.int .i64),.sl (.int .i64),.sl (.int .i64)]
def shIn:Sh:=.st [.int .i64,.int .i64]
def shGm:Sh:=.st [.int .i64,.sl shNd,.sl shIn]
theorem has_nd {d:Dt} (h:shNd.has d):∃ x:Nd,d.cells=x.cells:=by
 obtain⟨m,rfl,hm⟩:=has_st h
 obtain⟨d0,m,rfl,h0,hm⟩:=hasL_cons hm
 obtain⟨d1,m,rfl,h1,hm⟩:=hasL_cons hm
 obtain⟨d2,m,rfl,h2,hm⟩:=hasL_cons hm
 obtain⟨d3,m,rfl,h3,hm⟩:=hasL_cons hm
 obtain⟨d4,m,rfl,h4,hm⟩:=hasL_cons hm
 obtain⟨d5,m,rfl,h5,hm⟩:=hasL_cons hm
 obtain rfl:=hasL_nil hm
 obtain⟨n0,e0,_⟩:=has_i64 h0
 obtain⟨n1,e1,_⟩:=has_i64 h1
 obtain⟨n2,e2,_⟩:=has_i64 h2
 obtain⟨l3,e3,_⟩:=has_ints h3
 obtain⟨l4,e4,_⟩:=has_ints h4
 obtain⟨l5,e5,_⟩:=has_ints h5
 exact⟨⟨n0,n1,n2,l3,l4,l5⟩,by simp[cells_agg,Dt.cellsL,e0,e1,e2,e3,e4,e5,Nd.cells,sl]⟩
theorem has_nds {d:Dt} (h:(Sh.sl shNd).has d):∃ l:List Nd,d.cells=[.slc (nds l) l.length]:=by
 simp only[Sh.has]at h
 obtain⟨m,rfl,hl,hx⟩:=h
 have:∃ l:List Nd,l.length=m.length∧Dt.cellsL m=nds l:=by
  clear hl
  induction m with
  | nil=>exact⟨[],rfl,rfl⟩
  | cons x r ih =>
   obtain⟨l,h1,h2⟩:=ih fun y hy=>hx y (by simp[hy])
   obtain⟨n,hn⟩:=has_nd (hx x (by simp))
   exact⟨n::l,by simp[h1],by simp[Dt.cellsL,hn,h2,nds]⟩
 obtain⟨l,h1,h2⟩:=this
 exact⟨l,by simp only[Dt.cells,h2,<- h1]⟩
theorem has_infs {d:Dt} (h:(Sh.sl shIn).has d):∃ l:List (Int×Int),d.cells=[.slc (infs l) l.length]:=by
 simp only[Sh.has]at h
 obtain⟨m,rfl,hl,hx⟩:=h
 have:∃ l:List (Int×Int),l.length=m.length∧Dt.cellsL m=infs l:=by
  clear hl
  induction m with
  | nil=>exact⟨[],rfl,rfl⟩
  | cons x r ih =>
   obtain⟨l,h1,h2⟩:=ih fun y hy=>hx y (by simp[hy])
   obtain⟨m,rfl,hm⟩:=has_st (hx x (by simp))
   obtain⟨d0,m,rfl,h0,hm⟩:=hasL_cons hm
   obtain⟨d1,m,rfl,g1,hm⟩:=hasL_cons hm
   obtain rfl:=hasL_nil hm
   obtain⟨n0,e0,_⟩:=has_i64 h0
   obtain⟨n1,e1,_⟩:=has_i64 g1
   exact⟨(n0,n1)::l,by simp[h1],by simp[Dt.cellsL,cells_agg,e0,e1,h2,infs]⟩
 obtain⟨l,h1,h2⟩:=this
 exact⟨l,by simp only[Dt.cells,h2,<- h1]⟩
theorem has_gm {d:Dt} (h:shGm.has d):∃ g:Gm,d.sv=.agg g.cells:=by
 obtain⟨m,rfl,hm⟩:=has_st h
 obtain⟨d0,m,rfl,h0,hm⟩:=hasL_cons hm
 obtain⟨d1,m,rfl,h1,hm⟩:=hasL_cons hm
 obtain⟨d2,m,rfl,h2,hm⟩:=hasL_cons hm
 obtain rfl:=hasL_nil hm
 obtain⟨n0,e0,_⟩:=has_i64 h0
 obtain⟨l1,e1⟩:=has_nds h1
 obtain⟨l2,e2⟩:=has_infs h2
 exact⟨⟨n0,l1,l2⟩,by simp[sv_agg,Dt.cellsL,e0,e1,e2,Gm.cells]⟩
end Go.Proofs.Ytogjmpkehjfecaa.Rc
