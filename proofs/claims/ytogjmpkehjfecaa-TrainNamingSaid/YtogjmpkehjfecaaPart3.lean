/-
  Steps of the proof: contracts of functions and plain facts that the statement rests on.
-/
import Derived.Test.YtogjmpkehjfecaaPart2
import Derived.Test.YtogjmpkehjfecaaCore5
import Derived.Test.YtogjmpkehjfecaaPart1
set_option linter.all false
namespace Go.Proofs.Ytogjmpkehjfecaa.Rc
open Go.Ab Go.Ab.Shr
end Go.Proofs.Ytogjmpkehjfecaa.Rc
namespace Go.Proofs.Ytogjmpkehjfecaa.Rc
open Go.Ab Go.Ab.Shr
end Go.Proofs.Ytogjmpkehjfecaa.Rc
namespace Go.Proofs.Ytogjmpkehjfecaa.Rc
open Go.Ab Go.Ab.Shr
section
variable {H:List AO}
def ShO (l:List Int):Prop:=l.length≤10∧0<l.length∧∀ v∈l,-70368744177664≤v∧v≤70368744177664
def tB (t:Tin):AO:=⟨t.cells,28,0,true⟩
end
end Go.Proofs.Ytogjmpkehjfecaa.Rc
namespace Go.Proofs.Ytogjmpkehjfecaa.Rc
open Go.Ab Go.Ab.Shr
def blkZ (h:Nat) (g:Gm):Nat->List AO
 | 0=>[]
 | k+1=>blkZ h g k++[rowO 0 (zers (g.acts k)),⟨[.own (h+2+2*k) 0 (g.acts k) 1 0],36,0,true⟩]
theorem blkZ_len (h:Nat) (g:Gm):∀ k,(blkZ h g k).length=2*k
 | 0=>rfl
 | k+1=>by simp[blkZ,blkZ_len h g k]; omega
theorem blkZ_at (h:Nat) (g:Gm):∀ (k i:Nat),i<k->(blkZ h g k)[2*i]? = some (rowO 0 (zers (g.acts i)))
 | 0,i,hi=>absurd hi (by omega)
 | k+1,i,hi=>by
  have hl:=blkZ_len h g k
  by_cases e:i=k
  · subst e
    simp only[blkZ]
    rw[List.getElem?_append_right (by omega),hl]
    simp
  · simp only[blkZ]
    rw[List.getElem?_append_left (by omega)]
    exact blkZ_at h g k i (by omega)
end Go.Proofs.Ytogjmpkehjfecaa.Rc
namespace Go.Proofs.Ytogjmpkehjfecaa.Rc
open Go.Ab Go.Ab.Shr
def rowP (g:Gm) (V:List Int) (j:Nat):List Int:=rowF g.pl.toNat fun p=>V.getD (j*4+p) 0
def qV (h n j:Nat):Nat:=h+3+2*(n-1-j)
def outV (h n i m:Nat):List SV:=(List.range n).map fun j=>if j<i then .val (.slice none 0 0)else .own (qV h n j) 0 m 1 0
structure VN (g:Gm) (H:List AO) (V:List Int) (i:Nat) (f:Nat->Int) (X:List AO):Prop where
 b:X[H.length]? = some (gbox g)
 o:X[H.length+1]? = some ⟨outV H.length g.ns.length i g.pl.toNat,36,0,true⟩
 n:∀ h:i<g.ns.length,X[H.length+2+2*(g.ns.length-1-i)]? = some ⟨g.ns[i].cells,59,0,true⟩
 r0:i<g.ns.length->X[qV H.length g.ns.length i]? = some (rowO 0 (rowF g.pl.toNat f))
 r:∀ j,i<j->j<g.ns.length->X[qV H.length g.ns.length j]? = some (rowO 0 (rowP g V j))
 len:X.length=H.length+2+2*(g.ns.length-i)
 low:∀ j,j<H.length->X[j]? = H[j]?
structure ValOk (g:Gm) (M:List Int) (S:Nat->List Int) (V:List Int):Prop where
 eq:∀ i q:Nat,i<g.ns.length->(q:Int)<g.pl->V.getD (i*4+q) 0=valQ g M S V i q
 m:∀ i (h:i<g.ns.length),g.ns[i].k=1->M.getD i 0=wsum g.ns[i].ws∧0<M.getD i 0
end Go.Proofs.Ytogjmpkehjfecaa.Rc
namespace Go.Proofs.Ytogjmpkehjfecaa.Rc
open Go.Ab Go.Ab.Shr
section
variable {H X:List AO} {g:Gm} {V M:List Int} {S:List (List Int)} {i:Nat} {f f':Nat->Int}
theorem VN.setF (h:VN g H V i f X) (hi:i<g.ns.length) (f':Nat->Int):VN g H V i f' (X.set (qV H.length g.ns.length i) (rowO 0 (rowF g.pl.toNat f'))):=by
 have hl:=h.len
 refine⟨?_,?_,fun h1 => ?_,fun _ => ?_,fun j hj hj2 => ?_,by simp[hl],fun j hj => ?_⟩
 · rw[List.getElem?_set_ne (by unfold qV; omega)]; exact h.b
 · rw[List.getElem?_set_ne (by unfold qV; omega)]; exact h.o
 · rw[List.getElem?_set_ne (by unfold qV; omega)]; exact h.n h1
 · rw[List.getElem?_set_self (by rw[hl]; unfold qV; omega)]
 · rw[List.getElem?_set_ne (by unfold qV; omega)]; exact h.r j hj hj2
 · rw[List.getElem?_set_ne (by unfold qV; omega)]; exact h.low j hj
structure VM (g:Gm) (H:List AO) (V:List Int) (i:Nat) (X:List AO):Prop where
 b:X[H.length]? = some (gbox g)
 o:X[H.length+1]? = some ⟨outV H.length g.ns.length i g.pl.toNat,36,0,true⟩
 r:∀ j,i≤j->j<g.ns.length->X[qV H.length g.ns.length j]? = some (rowO 0 (rowP g V j))
 len:X.length=H.length+2+2*(g.ns.length-i)
 low:∀ j,j<H.length->X[j]? = H[j]?
theorem VM.next (h:VM g H V (i+1) X) (hi:i<g.ns.length) (f:Nat->Int):VN g H V i f (X.set (H.length+1) ⟨outV H.length g.ns.length i g.pl.toNat,36,0,true⟩++[⟨g.ns[i].cells,59,0,true⟩,rowO 0 (rowF g.pl.toNat f)]):=by
 have hl:=h.len
 refine⟨?_,?_,fun h1 => ?_,fun _ => ?_,fun j hj hj2 => ?_,by simp[hl]; omega,fun j hj => ?_⟩
 · rw[List.getElem?_append_left (by simp; omega),List.getElem?_set_ne (by omega)]; exact h.b
 · rw[List.getElem?_append_left (by simp; omega),List.getElem?_set_self (by omega)]
 · rw[List.getElem?_append_right (by simp; omega)]
   rw[show H.length+2+2*(g.ns.length-1-i)-(X.set (H.length+1) _).length=0 by simp; omega]; rfl
 · rw[List.getElem?_append_right (by simp; unfold qV; omega)]
   rw[show qV H.length g.ns.length i-(X.set (H.length+1) _).length=1 by simp; unfold qV; omega]; rfl
 · rw[List.getElem?_append_left (by simp; unfold qV; omega),List.getElem?_set_ne (by unfold qV; omega)]; exact h.r j (by omega) hj2
 · rw[List.getElem?_append_left (by simp; omega),List.getElem?_set_ne (by omega)]; exact h.low j hj
theorem VN.done (h:VN g H V i (fun p=>V.getD (i*4+p) 0) X):VM g H V i X :=
 ⟨h.b,h.o,fun j hj hj2=>by
  by_cases e:i=j
  · subst e; exact h.r0 hj2
  · exact h.r j (by omega) hj2,h.len,h.low⟩
end
end Go.Proofs.Ytogjmpkehjfecaa.Rc
namespace Go.Proofs.Ytogjmpkehjfecaa.Rc
open Go.Ab Go.Ab.Shr
section
variable {H X G:List AO} {g:Gm} {V M:List Int} {S:List (List Int)}
theorem fz_outsN {I:Nat} {p:Nat} (hp:H.length≤p) {q:Nat->Nat} {n:Nat->Nat} {A:Nat->List Int} {v w:Nat} {T:TypeId} (h:G[p]? = some ⟨outs I q n v,T,w,true⟩)
 (hq:∀ i,i<I->H.length≤q i∧G[q i]? = some ⟨ints (A i),3,v,true⟩∧(A i).length=n i) (d:Nat) :
 SV.fz H.length [] (G.drop H.length) (d+3) (.own p 0 I 1 w)=.slc (sls ((List.range I).map A)) I:=by
 have hg:(G.drop H.length)[p-H.length]? = some ⟨outs I q n v,T,w,true⟩:=by rw[List.getElem?_drop,show H.length+(p-H.length)=p by omega]; exact h
 unfold SV.fz
 rw[if_neg (by simp[SV.under]; omega)]
 simp only[hg,placeOf]
 simp only[outs_len,Nat.mul_one,Nat.zero_add,Nat.le_refl,and_self,if_true,List.drop_zero]
 congr 1
 have e:List.take I (outs I q n v)=outs I q n v:=List.take_of_length_le (by simp)
 rw[e]
 simp only[outs,sls,List.map_map]
 apply List.map_congr_left
 intro i hi
 simp only[List.mem_range]at hi
 obtain⟨q1,q2,q3⟩:=hq i hi
 simp only[Function.comp_apply]
 rw[←q3]
 exact fz_rowG q1 q2 d
theorem tail_of (hlow:∀ j,j<H.length->X[j]? = H[j]?):X=H++X.drop H.length:=by
 apply List.ext_getElem?
 intro i
 by_cases hi:i<H.length
 · rw[List.getElem?_append_left hi,hlow i hi]
 · rw[List.getElem?_append_right (by omega),List.getElem?_drop]
   congr 1; omega
end
end Go.Proofs.Ytogjmpkehjfecaa.Rc
namespace Go.Proofs.Ytogjmpkehjfecaa.Rc
open Go.Ab Go.Ab.Shr
structure RchOk (g:Gm) (own:Bool) (M:List Int) (S:Nat->List Int) (R:List Int):Prop where
 z:∀ q:Nat,(q:Int)<g.pl->R.getD q 0=1073741824
 eq:∀ i k q:Nat,∀ h:i<g.ns.length,k<g.ns[i].nx.length->(q:Int)<g.pl->R.getD ((g.ns[i].nx.getD k 0).toNat*4+q) 0=rchF g own S M R i k q
 m:∀ i (h:i<g.ns.length),g.ns[i].k=1->M.getD i 0=wsum g.ns[i].ws∧0<M.getD i 0
def Dn (g:Gm) (R:List Int) (p i:Nat) (f:Nat->Int):Prop:=∀ j,j<g.ns.length->gi g.wk.2.P j<i->f j=R.getD (j*4+p) 0
theorem Dn.put {g:Gm} {R:List Int} {p i:Nat} {f:Nat->Int} (h:Dn g R p i f) (c:Nat):Dn g R p i (put f c (R.getD (c*4+p) 0)):=fun j hj hp=>by
 unfold Shr.put
 split
 · rename_i e; rw[e]
 · exact h j hj hp
theorem Dn.at {g:Gm} {R:List Int} {p i:Nat} {f:Nat->Int} (hW:Wg g) (h:Dn g R p i f) (hi:i<g.ns.length):f i=R.getD (i*4+p) 0:=by
 refine h i hi ?_
 by_cases e:i=0
 · subst e; rw[hW.wf.p0]; omega
 · obtain⟨q,_,h1,h2,_⟩:=hW.wf.pf i (by omega) hi
   omega
end Go.Proofs.Ytogjmpkehjfecaa.Rc
namespace Go.Proofs.Ytogjmpkehjfecaa.Rc
open Go.Ab Go.Ab.Shr
end Go.Proofs.Ytogjmpkehjfecaa.Rc
namespace Go.Proofs.Ytogjmpkehjfecaa.Rc
open Go.Ab Go.Ab.Shr
def qSo (h:Nat):Nat:=h+5
def qS (h i:Nat):Nat:=h+6+2*i
def qPo (h n:Nat):Nat:=h+7+2*n
def qP (h n i:Nat):Nat:=h+8+2*n+2*i
def qE (h n:Nat):Nat:=h+8+4*n
def nxO (g:Gm) (h:Nat) (r s:Int):AO:=⟨[i64 r,i64 s,.own (qSo h) 0 g.is.length 1 g.is.length,.own (qPo h g.is.length) 0 g.is.length 1 g.is.length],28,1,true⟩
structure PW (g:Gm) (H:List AO) (t:Tin) (rr:Int) (A P:Nat->List Int) (X:List AO):Prop where
 b:X[H.length]? = some (gbox g)
 tb:X[H.length+1]? = some (tB t)
 rb:X[H.length+2]? = some ⟨[i64 0,i64 0,nl,nl],28,0,true⟩
 nx:X[H.length+3]? = some (nxO g H.length rr t.seed)
 so:X[qSo H.length]? = some ⟨outs g.is.length (qS H.length) g.acts 0,36,g.is.length,true⟩
 po:X[qPo H.length g.is.length]? = some ⟨outs g.is.length (qP H.length g.is.length) g.acts 0,36,g.is.length,true⟩
 s:∀ i,i<g.is.length->X[qS H.length i]? = some ⟨ints (A i),3,0,true⟩
 p:∀ i,i<g.is.length->X[qP H.length g.is.length i]? = some ⟨ints (P i),3,0,true⟩
 ls:∀ i,i<g.is.length->(A i).length=g.acts i
 lp:∀ i,i<g.is.length->(P i).length=g.acts i
 low:∀ j,j<H.length->X[j]? = H[j]?
 len:qE H.length g.is.length≤X.length
section
variable {g:Gm} {H X:List AO} {t:Tin} {rr:Int} {A P:Nat->List Int}
theorem PW.app (h:PW g H t rr A P X) (L:List AO):PW g H t rr A P (X++L):=by
 have up:∀ {i:Nat} {o:AO},X[i]? = some o->(X++L)[i]? = some o:=fun h=>by rw[List.getElem?_append_left (getElem?_lt h)]; exact h
 have hl:=h.len
 exact⟨up h.b,up h.tb,up h.rb,up h.nx,up h.so,up h.po,fun i hi=>up (h.s i hi),fun i hi=>up (h.p i hi),h.ls,h.lp,fun j hj=>by rw[List.getElem?_append_left (by unfold qE at hl; omega)]; exact h.low j hj,by simp; omega⟩
theorem PW.setS (h:PW g H t rr A P X) {j:Nat} (hj:j<g.is.length) {l:List Int} (hl:l.length=g.acts j):PW g H t rr (upA A j l) P (X.set (qS H.length j) ⟨ints l,3,0,true⟩):=by
 have ne:∀ {i:Nat} {o:AO},X[i]? = some o->i≠qS H.length j->(X.set (qS H.length j) ⟨ints l,3,0,true⟩)[i]? = some o:=fun h h2=>by rw[List.getElem?_set_ne (by omega)]; exact h
 have hlt:=getElem?_lt (h.s j hj)
 refine⟨ne h.b (by unfold qS; omega),ne h.tb (by unfold qS; omega),ne h.rb (by unfold qS; omega),ne h.nx (by unfold qS; omega),ne h.so (by unfold qS qSo; omega),ne h.po (by unfold qS qPo; omega),fun i hi => ?_,fun i hi=>ne (h.p i hi) (by unfold qS qP; omega),fun i hi => ?_,h.lp,fun i hi=>by rw[List.getElem?_set_ne (by unfold qS; omega)]; exact h.low i hi,by simp; exact h.len⟩
 · by_cases e:i=j
   · subst e; rw[List.getElem?_set_self hlt]; simp[upA]
   · rw[List.getElem?_set_ne (by unfold qS; omega),h.s i hi]; simp[upA,e]
 · unfold upA; split
   · rename_i e; rw[e]; exact hl
   · exact h.ls i hi
theorem PW.setP (h:PW g H t rr A P X) {j:Nat} (hj:j<g.is.length) {l:List Int} (hl:l.length=g.acts j):PW g H t rr A (upA P j l) (X.set (qP H.length g.is.length j) ⟨ints l,3,0,true⟩):=by
 have ne:∀ {i:Nat} {o:AO},X[i]? = some o->i≠qP H.length g.is.length j->(X.set (qP H.length g.is.length j) ⟨ints l,3,0,true⟩)[i]? = some o:=fun h h2=>by rw[List.getElem?_set_ne (by omega)]; exact h
 have hlt:=getElem?_lt (h.p j hj)
 refine⟨ne h.b (by unfold qP; omega),ne h.tb (by unfold qP; omega),ne h.rb (by unfold qP; omega),ne h.nx (by unfold qP; omega),ne h.so (by unfold qP qSo; omega),ne h.po (by unfold qP qPo; omega),fun i hi=>ne (h.s i hi) (by unfold qS qP; omega),fun i hi => ?_,h.ls,fun i hi => ?_,fun i hi=>by rw[List.getElem?_set_ne (by unfold qP; omega)]; exact h.low i hi,by simp; exact h.len⟩
 · by_cases e:i=j
   · subst e; rw[List.getElem?_set_self hlt]; simp[upA]
   · rw[List.getElem?_set_ne (by unfold qP; omega),h.p i hi]; simp[upA,e]
 · unfold upA; split
   · rename_i e; rw[e]; exact hl
   · exact h.lp i hi
def zersA (g:Gm) (i:Nat):List Int:=zers (g.acts i)
def initP (g:Gm) (H:List AO) (t:Tin) (rr:Int):List AO :=
 H++(gbox g::tB t::⟨[i64 0,i64 0,nl,nl],28,0,true⟩::nxO g H.length rr t.seed::gbox g::⟨outs g.is.length (qS H.length) g.acts 0,36,g.is.length,true⟩::(blkZ (H.length+4) g g.is.length++(gbox g::⟨outs g.is.length (qP H.length g.is.length) g.acts 0,36,g.is.length,true⟩::blkZ (H.length+6+2*g.is.length) g g.is.length)))
theorem PW.init:PW g H t rr (zersA g) (zersA g) (initP g H t rr):=by
 have hb1:=blkZ_len (H.length+4) g g.is.length
 have hb2:=blkZ_len (H.length+6+2*g.is.length) g g.is.length
 have hz1:=fun i hi=>blkZ_at (H.length+4) g g.is.length i hi
 have hz2:=fun i hi=>blkZ_at (H.length+6+2*g.is.length) g g.is.length i hi
 have at':∀ k,(initP g H t rr)[H.length+k]? = (gbox g::tB t::⟨[i64 0,i64 0,nl,nl],28,0,true⟩::nxO g H.length rr t.seed::gbox g::⟨outs g.is.length (qS H.length) g.acts 0,36,g.is.length,true⟩::(blkZ (H.length+4) g g.is.length++(gbox g::⟨outs g.is.length (qP H.length g.is.length) g.acts 0,36,g.is.length,true⟩::blkZ (H.length+6+2*g.is.length) g g.is.length)))[k]? := fun k=>by
  unfold initP
  rw[List.getElem?_append_right (by omega)]
  congr 1; omega
 refine⟨at' 0,at' 1,at' 2,at' 3,?_,?_,fun i hi => ?_,fun i hi => ?_,fun i _=>by simp[zersA,zers],fun i _=>by simp[zersA,zers],fun j hj=>by unfold initP; rw[List.getElem?_append_left hj],?_⟩
 · exact at' 5
 · have:=at' (7+2*g.is.length)
   rw[show qPo H.length g.is.length=H.length+(7+2*g.is.length)by unfold qPo; omega,this]
   rw[show 7+2*g.is.length=(1+2*g.is.length)+6 by omega]
   simp only[List.getElem?_cons_succ]
   rw[List.getElem?_append_right (by omega),hb1,show 1+2*g.is.length-2*g.is.length=1 by omega]
   rfl
 · rw[show qS H.length i=H.length+(2*i+6)by unfold qS; omega,at']
   simp only[List.getElem?_cons_succ]
   rw[List.getElem?_append_left (by omega),hz1 i hi]; rfl
 · rw[show qP H.length g.is.length i=H.length+((2*g.is.length+(2*i+2))+6)by unfold qP; omega,at']
   simp only[List.getElem?_cons_succ]
   rw[List.getElem?_append_right (by omega),hb1,show 2*g.is.length+(2*i+2)-2*g.is.length=2*i+2 by omega]
   simp only[List.getElem?_cons_succ]
   rw[hz2 i hi]; rfl
 · unfold initP qE
   simp[hb1,hb2]; omega
end
end Go.Proofs.Ytogjmpkehjfecaa.Rc
namespace Go.Proofs.Ytogjmpkehjfecaa.Rc
open Go.Ab Go.Ab.Shr
section
variable {g:Gm} {H X:List AO} {t:Tin} {rr:Int} {A P:Nat->List Int}
structure TinOk (g:Gm) (t:Tin):Prop where
 la:t.A.length=g.is.length
 lp:t.P.length=g.is.length
 a:∀ i (h:i<t.A.length),t.A[i].length=g.acts i
 p:∀ i (h:i<t.P.length),t.P[i].length=g.acts i
end
end Go.Proofs.Ytogjmpkehjfecaa.Rc
namespace Go.Proofs.Ytogjmpkehjfecaa.Rc
open Go.Ab Go.Ab.Shr
def bls (n:Nat) (s:Nat->Bool):List SV:=(List.range n).map fun j=>bl (s j)
structure PX (g:Gm) (H:List AO) (t:Tin) (rr:Int) (A P:Nat->List Int) (ps:Nat) (sn:Nat->Bool) (pn i:Nat) (X:List AO):Prop where
 w:PW g H t rr A P X
 eps:qE H.length g.is.length≤ps
 epn:ps<pn
 sn:X[ps]? = some ⟨bls g.is.length sn,4,0,true⟩
 n:∀ h:i<g.ns.length,X[pn]? = some ⟨g.ns[i].cells,59,0,true⟩
section
variable {g:Gm} {H X:List AO} {t:Tin} {rr:Int} {A P:Nat->List Int} {ps pn i:Nat} {sn:Nat->Bool}
theorem PX.setS (h:PX g H t rr A P ps sn pn i X) {j:Nat} (hj:j<g.is.length) {l:List Int} (hl:l.length=g.acts j):PX g H t rr (upA A j l) P ps sn pn i (X.set (qS H.length j) ⟨ints l,3,0,true⟩):=by
 have h1:=h.eps; have h2:=h.epn
 refine⟨h.w.setS hj hl,h1,h2,?_,fun hi => ?_⟩
 · rw[List.getElem?_set_ne (by unfold qE at h1; unfold qS; omega)]; exact h.sn
 · rw[List.getElem?_set_ne (by unfold qE at h1; unfold qS; omega)]; exact h.n hi
theorem PX.setP (h:PX g H t rr A P ps sn pn i X) {j:Nat} (hj:j<g.is.length) {l:List Int} (hl:l.length=g.acts j):PX g H t rr A (upA P j l) ps sn pn i (X.set (qP H.length g.is.length j) ⟨ints l,3,0,true⟩):=by
 have h1:=h.eps; have h2:=h.epn
 refine⟨h.w.setP hj hl,h1,h2,?_,fun hi => ?_⟩
 · rw[List.getElem?_set_ne (by unfold qE at h1; unfold qP; omega)]; exact h.sn
 · rw[List.getElem?_set_ne (by unfold qE at h1; unfold qP; omega)]; exact h.n hi
end
end Go.Proofs.Ytogjmpkehjfecaa.Rc
namespace Go.Proofs.Ytogjmpkehjfecaa.Rc
open Go.Ab Go.Ab.Shr
end Go.Proofs.Ytogjmpkehjfecaa.Rc
namespace Go.Proofs.Ytogjmpkehjfecaa.Rc
open Go.Ab Go.Ab.Shr
structure PY (g:Gm) (H:List AO) (t:Tin) (rr:Int) (A P:Nat->List Int) (ps:Nat) (sn:Nat->Bool) (X:List AO):Prop where
 w:PW g H t rr A P X
 eps:qE H.length g.is.length≤ps
 sn:X[ps]? = some ⟨bls g.is.length sn,4,0,true⟩
section
variable {g:Gm} {H X:List AO} {t:Tin} {rr:Int} {A P:Nat->List Int} {ps pn i p j:Nat} {sn:Nat->Bool} {V R O:List Int} {S:List (List Int)}
theorem PY.node (h:PY g H t rr A P ps sn X) (hi:i<g.ns.length):PX g H t rr A P ps sn X.length i (X++[⟨g.ns[i].cells,59,0,true⟩]):=by
 have hl:=getElem?_lt h.sn
 refine⟨h.w.app _,h.eps,hl,by rw[List.getElem?_append_left hl]; exact h.sn,fun _ => ?_⟩
 rw[List.getElem?_append_right (Nat.le_refl _)]; simp
theorem PX.y (h:PX g H t rr A P ps sn pn i X):PY g H t rr A P ps sn X:=⟨h.w,h.eps,h.sn⟩
theorem PW.setN (h:PW g H t rr A P X) {q:Nat} (hq:qE H.length g.is.length≤q) (o:AO):PW g H t rr A P (X.set q o):=by
 have ne:∀ {i:Nat} {o':AO},X[i]? = some o'->i<qE H.length g.is.length->(X.set q o)[i]? = some o':=fun h h2=>by rw[List.getElem?_set_ne (by omega)]; exact h
 have hl:=h.len
 exact⟨ne h.b (by unfold qE; omega),ne h.tb (by unfold qE; omega),ne h.rb (by unfold qE; omega),ne h.nx (by unfold qE; omega),ne h.so (by unfold qE qSo; omega),ne h.po (by unfold qE qPo; omega),fun i hi=>ne (h.s i hi) (by unfold qE qS; omega),fun i hi=>ne (h.p i hi) (by unfold qE qP; omega),h.ls,h.lp,fun i hi=>by rw[List.getElem?_set_ne (by unfold qE at hq; omega)]; exact h.low i hi,by simp; exact hl⟩
theorem PY.set (h:PY g H t rr A P ps sn X) (j:Nat):PY g H t rr A P ps (fun k=>if k=j then true else sn k) (X.set ps ⟨bls g.is.length (fun k=>if k=j then true else sn k),4,0,true⟩) :=
 ⟨h.w.setN h.eps _,h.eps,by rw[List.getElem?_set_self (getElem?_lt h.sn)]⟩
end
end Go.Proofs.Ytogjmpkehjfecaa.Rc
namespace Go.Proofs.Ytogjmpkehjfecaa.Rc
open Go.Ab Go.Ab.Shr
section
variable {g:Gm} {H X:List AO} {t:Tin} {rr:Int} {A P:Nat->List Int} {ps pn i p j:Nat} {sn:Nat->Bool} {V R O M:List Int} {S:List (List Int)}
theorem PW.seen (h:PW g H t rr A P X):PY g H t rr A P X.length (fun _=>false) (X++[⟨bls g.is.length fun _=>false,4,0,true⟩]):=by
 refine⟨h.app _,h.len,?_⟩
 rw[List.getElem?_append_right (Nat.le_refl _)]; simp
end
end Go.Proofs.Ytogjmpkehjfecaa.Rc
namespace Go.Proofs.Ytogjmpkehjfecaa.Rc
open Go.Ab Go.Ab.Shr
end Go.Proofs.Ytogjmpkehjfecaa.Rc
namespace Go.Proofs.Ytogjmpkehjfecaa.Rc
open Go.Ab Go.Ab.Shr
section
variable {g:Gm} {M:List Int} {S S':Nat->List Int}
theorem accQ_congr {V V' nx:List Int} {i q:Nat} (hS:∀ k,k<nx.length->brP g S i k=brP g S' i k) (hV:∀ k,k<nx.length->V.getD ((nx.getD k 0).toNat*4+q) 0=V'.getD ((nx.getD k 0).toNat*4+q) 0):∀ k,k≤nx.length->accQ g S V nx i q k=accQ g S' V' nx i q k
 | 0,_=>rfl
 | k+1,hk=>by
  simp only[accQ]
  rw[accQ_congr hS hV k (by omega),hS k (by omega),hV k (by omega)]
theorem brP_congr (hW:Wg g) {i:Nat} (hi:i<g.ns.length) (hS:∀ j,j<g.is.length->S j=S' j) (k:Nat) (hk:k<g.ns[i].nx.length):brP g S i k=brP g S' i k:=by
 have hx:g.ns[i]? = some g.ns[i]:=List.getElem?_eq_getElem hi
 simp only[brP,hx]
 rcases kd_of hW hi with h | h | h
 · rw[if_pos h,if_pos h]
 · rw[if_neg (by omega),if_neg (by omega),hS _ (mv_of hW hi h).1]
 · rw[(en_of hW hi h).1]at hk; simp at hk
theorem valQ_congr (hW:Wg g) {i q:Nat} (hi:i<g.ns.length) {V V':List Int} (hS:∀ j,j<g.is.length->S j=S' j) (hV:∀ c,i<c->c<g.ns.length->V.getD (c*4+q) 0=V'.getD (c*4+q) 0):valQ g M S V i q=valQ g M S' V' i q:=by
 have hx:g.ns[i]? = some g.ns[i]:=List.getElem?_eq_getElem hi
 simp only[valQ,hx]
 rw[accQ_congr (S':=S') (V':=V') (fun k hk=>brP_congr hW hi hS k hk) (fun k hk => ?_) _ (Nat.le_refl _)]
 have hch:=(hW.wf.nf i hi).ch _ (List.getElem_mem hk)
 have e:g.ns[i].nx.getD k 0=g.ns[i].nx[k]:=by simp[hk]
 rw[e]
 exact hV _ (by omega) (by omega)
theorem valL_len (V:List Int) (hV:V.length=4*g.ns.length):∀ m,m≤g.ns.length->(valL g M S V m).length=4*g.ns.length
 | 0,_=>hV
 | m+1,h=>blk_len (valL_len V hV m (by omega)) (by omega) _
theorem valL_eq (hW:Wg g) (V:List Int) (hV:V.length=4*g.ns.length):∀ m,m≤g.ns.length->∀ i q:Nat,g.ns.length-m≤i->i<g.ns.length->(q:Int)<g.pl->(valL g M S V m).getD (i*4+q) 0=valQ g M S (valL g M S V m) i q
 | 0,_,i,q,h1,h2,_=>absurd h1 (by omega)
 | m+1,hm,i,q,h1,h2,hq=>by
  have hp4:=hW.gd.p4
  have hl:=valL_len (g:=g) (M:=M) (S:=S) V hV m (by omega)
  have ih:=valL_eq hW V hV m (by omega)
  simp only[valL]
  generalize valL g M S V m=W at *
  have hcg:∀ i,g.ns.length-1-m≤i->i<g.ns.length->valQ g M S (blk4 W (g.ns.length-1-m) (plF g (valQ g M S W (g.ns.length-1-m)))) i q=valQ g M S W i q:=fun i hi1 hi2 =>
   valQ_congr hW hi2 (fun _ _=>rfl) fun c hc1 hc2=>blk_get hl (by omega) hc2 (by omega) (by omega) _
  rw[hcg i (by omega) h2]
  by_cases e:i=g.ns.length-1-m
  · subst e
    rw[blk_self hl (by omega) (by omega)]
    simp[plF,hq]
  · rw[blk_get hl (by omega) h2 (by omega) e]
    exact ih i q (by omega) h2 hq
end
end Go.Proofs.Ytogjmpkehjfecaa.Rc
namespace Go.Proofs.Ytogjmpkehjfecaa.Rc
open Go.Ab Go.Ab.Shr
section
variable {g:Gm} {M:List Int} {S S':Nat->List Int} {own:Bool}
theorem rchF_congr {R R':List Int} {i k q:Nat} (h:R.getD (i*4+q) 0=R'.getD (i*4+q) 0):rchF g own S M R i k q=rchF g own S M R' i k q:=by
 unfold rchF; rw[h]
theorem rchF_congrS (hW:Wg g) {R:List Int} {i k q:Nat} (hi:i<g.ns.length) (hk:k<g.ns[i].nx.length) (hS:∀ j,j<g.is.length->S j=S' j):rchF g own S M R i k q=rchF g own S' M R i k q:=by
 unfold rchF; rw[brP_congr hW hi hS k hk]
structure RInv (g:Gm) (own:Bool) (M:List Int) (S:Nat->List Int) (i k:Nat) (R:List Int):Prop where
 len:R.length=4*g.ns.length
 z:∀ q:Nat,(q:Int)<g.pl->R.getD (0*4+q) 0=1073741824
 eq:∀ a t q:Nat,∀ h:a<g.ns.length,(ht:t<g.ns[a].nx.length)->(q:Int)<g.pl->(a<i∨a=i∧t<k)->R.getD (g.ns[a].nx[t].toNat*4+q) 0=rchF g own S M R a t q
theorem RInv.step (hW:Wg g) {i k:Nat} {R:List Int} (h:RInv g own M S i k R) (hi:i<g.ns.length) (hk:k<g.ns[i].nx.length):RInv g own M S i (k+1) (chR g own S M R i k):=by
 have hp4:=hW.gd.p4
 have hx:g.ns[i]? = some g.ns[i]:=List.getElem?_eq_getElem hi
 have hch:=(hW.wf.nf i hi).ch _ (List.getElem_mem hk)
 have hinc:=(hW.wf.nf i hi).inc
 have e:g.ns[i].nx.getD k 0=g.ns[i].nx[k]:=by simp[hk]
 have er:chR g own S M R i k=blk4 R g.ns[i].nx[k].toNat (mixF g.pl.toNat (rchF g own S M R i k) (rowQ R i)):=by
  simp only[chR,hx,e]
 rw[er]
 have hl:=h.len
 have hcl:g.ns[i].nx[k].toNat<g.ns.length:=by omega
 refine⟨blk_len hl hcl _,fun q hq => ?_,fun a t q ha ht hq hat => ?_⟩
 · rw[blk_get hl hcl (by omega) (by omega) (by omega)]; exact h.z q hq
 · have hca:=(hW.wf.nf a ha).ch _ (List.getElem_mem ht)
   have hai:a≤i:=by omega
   have hR:(blk4 R g.ns[i].nx[k].toNat (mixF g.pl.toNat (rchF g own S M R i k) (rowQ R i))).getD (a*4+q) 0=R.getD (a*4+q) 0:=blk_get hl hcl ha (by omega) (by omega) _
   rw[rchF_congr hR]
   by_cases hs:a=i∧t=k
   · obtain⟨rfl,rfl⟩:=hs
     rw[blk_self hl hcl (by omega)]
     unfold mixF
     rw[if_pos (by omega)]
   · have hne:g.ns[a].nx[t].toNat≠g.ns[i].nx[k].toNat:=by
      intro hh
      by_cases hai2:a=i
      · subst hai2
        have htk:t<k:=by omega
        have:=List.pairwise_iff_getElem.1 hinc t k ht hk htk
        omega
      · have h1:=hca.2.2.1
        have h2:=hch.2.2.1
        rw[hh]at h1
        omega
     rw[blk_get hl hcl (by omega) (by omega) hne]
     exact h.eq a t q ha ht hq (by omega)
theorem RInv.chs (hW:Wg g) {i:Nat} {R:List Int} (h:RInv g own M S i 0 R) (hi:i<g.ns.length):∀ k,k≤g.ns[i].nx.length->RInv g own M S i k (chsR g own S M R i k)
 | 0,_=>h
 | k+1,hk=>(RInv.chs hW h hi k (by omega)).step hW hi (by omega)
theorem RInv.des (hW:Wg g) {R:List Int} (h:RInv g own M S 0 0 R):∀ i,i≤g.ns.length->RInv g own M S i 0 (desL g own S M R i)
 | 0,_=>h
 | i+1,hi=>by
  have hii:i<g.ns.length:=by omega
  have hx:g.ns[i]? = some g.ns[i]:=List.getElem?_eq_getElem hii
  have h1:=(RInv.des hW h i (by omega)).chs hW hii g.ns[i].nx.length (Nat.le_refl _)
  simp only[desL,hx]
  refine⟨h1.len,h1.z,fun a t q ha ht hq hat=>h1.eq a t q ha ht hq ?_⟩
  by_cases e:a=i
  · subst e; exact .inr ⟨rfl,ht⟩
  · omega
theorem des_ok (hW:Wg g) {R:List Int} (hl:R.length=4*g.ns.length) (hm:∀ i (h:i<g.ns.length),g.ns[i].k=1->M.getD i 0=wsum g.ns[i].ws∧0<M.getD i 0) (hS:∀ j,j<g.is.length->S j=S' j) :
 RchOk g own M S' (desL g own S M (blk4 R 0 (mixF g.pl.toNat (fun _=>1073741824) (rowQ R 0))) g.ns.length):=by
 have hp4:=hW.gd.p4
 have hn1:=hW.gd.n1
 have h0:RInv g own M S 0 0 (blk4 R 0 (mixF g.pl.toNat (fun _=>1073741824) (rowQ R 0))):=by
  refine⟨blk_len hl (by omega) _,fun q hq => ?_,fun a t q ha ht hq hat=>absurd hat (by omega)⟩
  rw[blk_self hl (by omega) (by omega)]
  unfold mixF
  rw[if_pos (by omega)]
 have h1:=RInv.des hW h0 g.ns.length (Nat.le_refl _)
 refine⟨fun q hq => ?_,fun i k q hi hk hq => ?_,hm⟩
 · have:=h1.z q hq
   simpa using this
 · have e:g.ns[i].nx.getD k 0=g.ns[i].nx[k]:=by simp[hk]
   rw[e,<- rchF_congrS hW hi hk hS]
   exact h1.eq i k q hi hk hq (.inl hi)
theorem val_ok (hW:Wg g) {V:List Int} (hl:V.length=4*g.ns.length) (hm:∀ i (h:i<g.ns.length),g.ns[i].k=1->M.getD i 0=wsum g.ns[i].ws∧0<M.getD i 0) (hS:∀ j,j<g.is.length->S j=S' j) :
 ValOk g M S' (valL g M S V g.ns.length):=by
 refine⟨fun i q hi hq => ?_,hm⟩
 rw[valL_eq hW V hl g.ns.length (Nat.le_refl _) i q (by omega) hi hq]
 exact valQ_congr hW hi hS fun _ _ _=>rfl
theorem cTC_m (hW:Wg g):∀ i (h:i<g.ns.length),g.ns[i].k=1->(cTC g).M.getD i 0=wsum g.ns[i].ws∧0<(cTC g).M.getD i 0:=fun i hi hk=>by
 have h1:=(cTC_ok hW).m i hi hk
 have hx:g.ns[i]? = some g.ns[i]:=List.getElem?_eq_getElem hi
 refine⟨?_,h1⟩
 simp only[cTC]
 rw[rowF_getD hi]
 simp only[wtF,hx]
end
end Go.Proofs.Ytogjmpkehjfecaa.Rc
namespace Go.Proofs.Ytogjmpkehjfecaa.Rc
open Go.Ab Go.Ab.Shr
def ownr (g:Gm) (j:Nat):Int:=(g.is.getD j (0,0)).1
section
variable {g:Gm} {V R O:List Int} {A P:Nat->List Int} {S:List (List Int)} {p:Nat}
theorem own_mv (hW:Wg g) {i:Nat} (hi:i<g.ns.length) (hk:g.ns[i].k=2):ownr g g.ns[i].i.toNat=g.ns[i].p:=by
 have:=hW.ty (List.getElem_mem hi) hk
 simp[ownr,this]
theorem lrn_len (hW:Wg g) (hA:∀ j,j<g.is.length->(A j).length=g.acts j):∀ i,i≤g.ns.length->∀ j,j<g.is.length->(lrnL g V R A i j).length=g.acts j
 | 0,_,j,hj=>hA j hj
 | i+1,hi,j,hj=>by
  have hii:i<g.ns.length:=by omega
  have hx:g.ns[i]? = some g.ns[i]:=List.getElem?_eq_getElem hii
  have ih:=lrn_len hW hA i (by omega) j hj
  simp only[lrnL,lrnA,hx]
  split
  · rename_i hk
    unfold upA
    split
    · rename_i e
      rw[e]
      simp[(mv_of hW hii hk).2.2.1]
    · exact ih
  · exact ih
end
end Go.Proofs.Ytogjmpkehjfecaa.Rc
namespace Go.Proofs.Ytogjmpkehjfecaa.Rc
open Go.Ab Go.Ab.Shr
def frs (g:Gm) (j:Nat):Nat:=((cTC g).F.getD j 0).toNat
section
variable {g:Gm} {V R O:List Int} {A P B:Nat->List Int} {S:List (List Int)} {p:Nat}
theorem frs_ok (hW:Wg g) {j:Nat} (hj:j<g.is.length):∃ h:frs g j<g.ns.length,(cTC g).F.getD j 0=frs g j∧g.ns[frs g j].k=2∧g.ns[frs g j].i.toNat=j∧∀ u (hu:u<frs g j),¬ (g.ns[u].k=2∧g.ns[u].i.toNat=j):=by
 obtain⟨t,ht,_,h2,h3,h4⟩:=fn_of hW hj
 have e:=fsL_at hj ht h2 h3 h4 g.ns.length (Nat.le_refl _) (by omega)
 have ef:frs g j=t:=by unfold frs cTC; rw[e]; omega
 subst ef
 exact⟨ht,by unfold cTC; exact e,h2,h3,h4⟩
end
end Go.Proofs.Ytogjmpkehjfecaa.Rc
namespace Go.Proofs.Ytogjmpkehjfecaa.Rc
open Go.Ab Go.Ab.Shr
theorem addL_rng:∀ (l:List Nat) (f:Nat->Int) (i:Nat),f i≤addL f l i∧addL f l i≤f i+l.length
 | [],f,i=>by simp[addL]
 | x::l,f,i=>by
  have h:=addL_rng l (put f x (f x+1)) i
  simp only[addL,List.length_cons]
  unfold put at h ⊢
  by_cases e:i=x
  · subst e
    rw[if_pos rfl]at h
    omega
  · rw[if_neg e]at h
    omega
theorem sumF_ge {f:Nat->Int} (h:∀ i,0≤f i):∀ (n k:Nat),k<n->f k≤sumF f n∧0≤sumF f n
 | 0,k,hk=>absurd hk (by omega)
 | n+1,k,hk=>by
  have h0:0≤sumF f n:=by
   cases n with
   | zero=>simp[sumF]
   | succ n=>exact(sumF_ge h (n+1) 0 (by omega)).2
  have hn:=h n
  simp only[sumF]
  by_cases e:k=n
  · subst e; omega
  · have:=sumF_ge h n k (by omega)
    omega
theorem shr_rng {l:List Int} {k:Nat} (hk:k<l.length):0≤(shrI l).getD k 0∧(shrI l).getD k 0≤65536:=by
 have hl:=lef_rng (l:=l) (by omega)
 have e:(shrI l).getD k 0=addL (floI l (totI l)) ((ordI l).take (lefI l).toNat) k:=by simp[shrI,hk]
 rw[e]
 have h1:=addL_rng ((ordI l).take (lefI l).toNat) (floI l (totI l)) k
 have h2:=sumF_ge (fun i=>floI_nn l i) l.length k hk
 have h3:((ordI l).take (lefI l).toNat).length≤(lefI l).toNat:=by simp; omega
 have h4:lefI l=65536-sumF (floI l (totI l)) l.length:=rfl
 have h5:=floI_nn l k
 omega
theorem ws_le {l:List Int} (h:∀ w∈l,1≤w∧w≤1000) (hl:l.length≤60) {k:Nat} (hk:k<l.length):l.getD k 0≤wsum l:=by
 have h1:=wsK_rng h hl l.length (Nat.le_refl _)
 have key:∀ n,n≤l.length->∀ k,k<n->l.getD k 0≤wsK l n:=by
  intro n
  induction n with
  | zero=>intro _ k hk; omega
  | succ n ih =>
   intro hn k hk
   have hr:=wsK_rng h hl n (by omega)
   have hw:=h _ (List.getElem_mem (show n<l.length by omega))
   have e:wsK l (n+1)=wsK l n+l[n]:=by
    have:wsK l (n+1)=IntKind.i64.wrap (wsK l n+l[n]):=by simp[wsK,show n<l.length by omega]
    rw[this]; exact wrap_id (by omega) (by omega)
   rw[e]
   by_cases ek:k=n
   · subst ek
     have:l.getD k 0=l[k]:=by simp[show k<l.length by omega]
     omega
   · have:=ih (by omega) k (by omega)
     omega
 exact key l.length (Nat.le_refl _) k hk
section
variable {g:Gm} {M O:List Int} {S:Nat->List Int} {own:Bool}
theorem qo_rng {a p w:Int} (ha:0≤a∧a≤1073741824) (hp:0≤p∧p≤w) (hw:0<w∧w≤65536):0≤qoF a p w∧qoF a p w≤1073741824:=by
 have h1:a*p≤1073741824*w:=Int.mul_le_mul ha.2 hp.2 hp.1 (by omega)
 have h0:0≤a*p:=Int.mul_nonneg ha.1 hp.1
 have h2:IntKind.i64.wrap (a*p)=a*p:=wrap_id (by omega) (by omega)
 unfold qoF
 rw[h2,Int.tdiv_eq_ediv_of_nonneg h0]
 have h3:a*p / w≤1073741824:=by
  apply Int.ediv_le_of_le_mul hw.1
  omega
 have h4:0≤a*p / w:=Int.ediv_nonneg h0 (by omega)
 rw[wrap_id (by omega) (by omega)]
 exact⟨h4,h3⟩
theorem rch_rng (hW:Wg g) (hR:RchOk g own M S O) (hS:∀ j,j<g.is.length->∀ k,k<g.acts j->0≤(S j).getD k 0∧(S j).getD k 0≤65536):∀ (n i q:Nat),i≤n->i<g.ns.length->(q:Int)<g.pl->0≤O.getD (i*4+q) 0∧O.getD (i*4+q) 0≤1073741824:=by
 intro n
 induction n with
 | zero =>
  intro i q hi hl hq
  have:i=0:=by omega
  subst this
  have:=hR.z q hq
  simp only[Nat.zero_mul,Nat.zero_add]
  omega
 | succ n ih =>
  intro i q hi hl hq
  rcases Nat.eq_zero_or_pos i with e0 | e0
  · exact ih i q (by omega) hl hq
  · obtain⟨a,ha,h1,h2,h3⟩:=hW.wf.pf i e0 hl
    obtain⟨k,hk,h4⟩:=List.getElem_of_mem h3
    have he:=hR.eq a k q ha hk hq
    have e1:(g.ns[a].nx.getD k 0).toNat=i:=by simp[hk,h4]
    rw[e1]at he
    rw[he]
    have hx:g.ns[a]? = some g.ns[a]:=List.getElem?_eq_getElem ha
    have iha:=ih a q (by omega) ha hq
    unfold rchF
    split
    · rcases kd_of hW ha with hk1 | hk2 | hk3
      · obtain⟨a1,a2,a3,a4⟩:=ch_of hW ha hk1
        obtain⟨m1,m2⟩:=hR.m a ha hk1
        have hkw:k<g.ns[a].ws.length:=by omega
        have hwl:=ws_le a4 (by omega) hkw
        have hw1:=a4 _ (List.getElem_mem hkw)
        have eg:g.ns[a].ws.getD k 0=g.ns[a].ws[k]:=by simp[hkw]
        have hws:=wsK_rng a4 (by omega) g.ns[a].ws.length (Nat.le_refl _)
        have eB:brW g M a=wsum g.ns[a].ws:=by simp only[brW,hx,hk1]; exact m1
        have eP:brP g S a k=g.ns[a].ws.getD k 0:=by simp only[brP,hx,hk1]; rfl
        rw[eB,eP]
        refine qo_rng iha ⟨by omega,hwl⟩ ⟨by omega,?_⟩
        unfold wsum
        omega
      · obtain⟨b1,b2,b3,b4,b5⟩:=mv_of hW ha hk2
        have eP:brP g S a k=(S g.ns[a].i.toNat).getD k 0:=by simp[brP,hx,hk2]
        have eB:brW g M a=65536:=by simp[brW,hx,hk2]
        rw[eB,eP]
        exact qo_rng iha (hS _ b1 k (by omega)) (by omega)
      · rw[(en_of hW ha hk3).1]at hk; simp at hk
    · exact iha
end
end Go.Proofs.Ytogjmpkehjfecaa.Rc
namespace Go.Proofs.Ytogjmpkehjfecaa.Rc
open Go.Ab Go.Ab.Shr
section
variable {g:Gm} {s:TS}
structure SOk (g:Gm) (s:TS):Prop where
 A:∀ i,i<g.is.length->(s.A i).length=g.acts i
 P:∀ i,i<g.is.length->(s.P i).length=g.acts i
 V:s.V.length=4*g.ns.length
 R:s.R.length=4*g.ns.length
 O:s.O.length=4*g.ns.length
 r0:0≤s.rnd
 r1:s.rnd≤1000000
 sd:0≤s.seed∧s.seed≤2147483646
 ok:okTS g s
 pn:∀ i,i<g.is.length->∀ a,0≤(s.P i).getD a 0
theorem lstE_zero {L:List (List Int)} {least:Int} (hW:Wg g) (h1:L.length=g.is.length) (h2:∀ i,i<g.is.length->lenL L i=g.acts i∧∀ x∈L.getD i [],least≤x∧x≤70368744177664):lstE g L least=0:=by
 unfold lstE
 rw[if_neg (by simpa using h1),fstE_zero]
 intro i _ hi
 have hii:i<g.is.length:=by omega
 obtain⟨a1,a2⟩:=h2 i hii
 have hgi:g.is.getD i (0,0)=g.is[i]:=by simp[hii]
 have hac:=acts_le hW hii
 have ha:(g.acts i:Int)=g.is[i].2:=by unfold Gm.acts at hac ⊢; rw[hgi]at hac ⊢; omega
 unfold rowE
 rw[hgi,if_neg (by rw[a1,ha]; simp),if_neg]
 simp only[List.any_eq_true,not_exists,not_and,Bool.or_eq_true,decide_eq_true_eq]
 intro x hx
 have:=a2 x hx
 omega
theorem getD_map_range {f:Nat->List Int} {n i:Nat} (h:i<n):((List.range n).map f).getD i []=f i:=by simp[h]
theorem mem_getD {l:List Int} {x:Int} (h:x∈l):∃ a,a<l.length∧l.getD a 0=x:=by
 obtain⟨a,ha,e⟩:=List.getElem_of_mem h
 exact⟨a,ha,by simp[ha,e]⟩
theorem out_zero (hW:Wg g) (hA:∀ i,i<g.is.length->(s.A i).length=g.acts i) (hP:∀ i,i<g.is.length->(s.P i).length=g.acts i) (hr:0≤s.rnd∧s.rnd≤1000000) (hs:0≤s.seed∧s.seed≤2147483646) (hp:∀ i,i<g.is.length->∀ a,0≤(s.P i).getD a 0) :
 valE g (outT g s)=0↔okTS g s:=by
 unfold valE
 rw[if_neg (by simp only[outT]; omega)]
 constructor
 · intro h
   split at h
   · rename_i h1; exact absurd h h1
   · rename_i h1
     have h1:lstE g (outT g s).A (-70368744177664)=0:=by simpa using h1
     obtain⟨_,a2⟩:=lst_zero hW h1
     obtain⟨_,p2⟩:=lst_zero hW h
     intro i hi a ha
     have e1:=(a2 i hi).2 ((s.A i).getD a 0) (by
      simp only[outT]; rw[getD_map_range hi]
      have:a<(s.A i).length:=by rw[hA i hi]; exact ha
      simp[this])
     have e2:=(p2 i hi).2 ((s.P i).getD a 0) (by
      simp only[outT]; rw[getD_map_range hi]
      have:a<(s.P i).length:=by rw[hP i hi]; exact ha
      simp[this])
     unfold okAt
     omega
 · intro h
   have h1:lstE g (outT g s).A (-70368744177664)=0:=by
    refine lstE_zero hW (by simp[outT]) fun i hi => ?_
    simp only[outT,lenL]
    rw[getD_map_range hi]
    refine⟨hA i hi,fun x hx => ?_⟩
    obtain⟨a,ha,rfl⟩:=mem_getD hx
    have:=h i hi a (by rw[←hA i hi]; exact ha)
    unfold okAt at this
    omega
   rw[if_neg (by simpa using h1)]
   refine lstE_zero hW (by simp[outT]) fun i hi => ?_
   simp only[outT,lenL]
   rw[getD_map_range hi]
   refine⟨hP i hi,fun x hx => ?_⟩
   obtain⟨a,ha,rfl⟩:=mem_getD hx
   have:=h i hi a (by rw[←hP i hi]; exact ha)
   have:=hp i hi a
   unfold okAt at *
   omega
theorem shL_S (s:TS):∀ (k j:Nat),j<k->(shL s k).S j=shrI (s.A j)
 | 0,j,h=>absurd h (by omega)
 | k+1,j,h=>by
  simp only[shL,upA]
  by_cases e:j=k
  · rw[if_pos e,e]
  · rw[if_neg e]; exact shL_S s k j (by omega)
def tabV (g:Gm) (s:TS):List Int:=valL g (cTC g).M (shL s g.is.length).S s.V g.ns.length
def tabR (g:Gm) (own:Bool) (s:TS) (R:List Int):List Int:=desL g own (shL s g.is.length).S (cTC g).M (blk4 R 0 (mixF g.pl.toNat (fun _=>1073741824) (rowQ R 0))) g.ns.length
theorem rnd_A:(rndT g (cTC g) s).A=lrnL g (tabV g s) (tabR g false s s.R) s.A g.ns.length:=by
 obtain⟨h1,h2,h3,h4,h5,h6,h7⟩:=shL_A s g.is.length
 simp only[rndT,tabV,tabR,h1,h3,h4]
theorem rnd_P:(rndT g (cTC g) s).P=plyL g (cTC g).F (tabR g true s s.O) (shL s g.is.length).S s.P g.is.length:=by
 obtain⟨h1,h2,h3,h4,h5,h6,h7⟩:=shL_A s g.is.length
 simp only[rndT,tabR,h2,h5]
theorem rnd_r:(rndT g (cTC g) s).rnd=IntKind.i64.wrap (s.rnd+1)∧(rndT g (cTC g) s).seed=s.seed:=by
 obtain⟨h1,h2,h3,h4,h5,h6,h7⟩:=shL_A s g.is.length
 simp only[rndT,h6,h7,and_self]
theorem ply_at {F O:List Int} {S P:Nat->List Int}:∀ (n j:Nat),plyL g F O S P n j=if j<n then rowF (g.acts j) (plyF (ownI g F O j) (P j) (S j))else P j
 | 0,j=>by simp[plyL]
 | n+1,j=>by
  simp only[plyL,upA]
  by_cases e:j=n
  · rw[if_pos e,if_pos (by omega),e]
  · rw[if_neg e,ply_at n j]
    by_cases h:j<n
    · rw[if_pos h,if_pos (by omega)]
    · rw[if_neg h,if_neg (by omega)]
end
end Go.Proofs.Ytogjmpkehjfecaa.Rc
namespace Go.Proofs.Ytogjmpkehjfecaa.Rc
open Go.Ab Go.Ab.Shr
section
variable {g:Gm} {s:TS}
theorem own_rng (hW:Wg g) {j:Nat} (hj:j<g.is.length):0≤ownr g j∧ownr g j<g.pl:=by
 obtain⟨h,_,h2,h3,_⟩:=frs_ok hW hj
 have h1:=mp_of hW h h2
 have h4:=own_mv hW h h2
 rw[h3]at h4
 omega
theorem tR_ok' (hW:Wg g) {own:Bool} {R:List Int} (hl:R.length=4*g.ns.length):RchOk g own (cTC g).M (shL s g.is.length).S (tabR g own s R) :=
 des_ok hW hl (cTC_m hW) fun _ _=>rfl
theorem des_len {own:Bool} {S:Nat->List Int} {M:List Int} (hW:Wg g) {R:List Int} (hl:R.length=4*g.ns.length):∀ i,i≤g.ns.length->(desL g own S M R i).length=4*g.ns.length
 | 0,_=>hl
 | i+1,hi=>by
  have hii:i<g.ns.length:=by omega
  have hx:g.ns[i]? = some g.ns[i]:=List.getElem?_eq_getElem hii
  have ih:=des_len (own:=own) (S:=S) (M:=M) hW hl i (by omega)
  simp only[desL,hx]
  generalize desL g own S M R i=R1 at *
  have key:∀ k,k≤g.ns[i].nx.length->(chsR g own S M R1 i k).length=4*g.ns.length:=by
   intro k
   induction k with
   | zero=>intro _; exact ih
   | succ k ihk =>
    intro hk
    have hch:=(hW.wf.nf i hii).ch _ (List.getElem_mem (show k<g.ns[i].nx.length by omega))
    have e:g.ns[i].nx.getD k 0=g.ns[i].nx[k]:=by simp[show k<g.ns[i].nx.length by omega]
    simp only[chsR,chR,hx,e]
    exact blk_len (ihk (by omega)) (by omega) _
  exact key _ (Nat.le_refl _)
theorem ply_nn (hW:Wg g) (h:SOk g s):∀ j,j<g.is.length->∀ a,0≤((rndT g (cTC g) s).P j).getD a 0:=by
 intro j hj a
 have ho:=own_rng hW hj
 obtain⟨hf,hF,_⟩:=frs_ok hW hj
 rw[rnd_P,ply_at,if_pos hj]
 by_cases ha:a<g.acts j
 · have hO:=rch_rng hW (tR_ok' (s:=s) (own:=true) hW h.O) (fun j hj k hk=>by
    rw[shL_S s _ j hj]; exact shr_rng (by rw[h.A j hj]; exact hk)) (frs g j) (frs g j) (ownr g j).toNat (Nat.le_refl _) hf (by omega)
   have hs:=shr_rng (l:=s.A j) (k:=a) (by rw[h.A j hj]; exact ha)
   have hpn:=h.pn j hj a
   have hok:=h.ok j hj a ha
   unfold okAt at hok
   rw[rowF_getD ha]
   have eo:ownI g (cTC g).F (tabR g true s s.O) j=(tabR g true s s.O).getD (frs g j*4+(ownr g j).toNat) 0:=rfl
   have hq:=qo_rng (a:=ownI g (cTC g).F (tabR g true s s.O) j) (p:=((shL s g.is.length).S j).getD a 0) (w:=65536) (by rw[eo]; exact hO) (by rw[shL_S s _ j hj]; exact hs) (by omega)
   have e3:plyD (ownI g (cTC g).F (tabR g true s s.O) j) (((shL s g.is.length).S j).getD a 0)=qoF (ownI g (cTC g).F (tabR g true s s.O) j) (((shL s g.is.length).S j).getD a 0) 65536:=rfl
   unfold plyF
   rw[e3,wrap_id (by omega) (by omega)]
   omega
 · have:(rowF (g.acts j) (plyF (ownI g (cTC g).F (tabR g true s s.O) j) (s.P j) ((shL s g.is.length).S j))).getD a 0=0:=by
    simp[rowF,ha]
   rw[this]
   exact Int.le_refl _
theorem rnd_len (hW:Wg g) (h:SOk g s):(∀ i,i<g.is.length->((rndT g (cTC g) s).A i).length=g.acts i)∧(∀ i,i<g.is.length->((rndT g (cTC g) s).P i).length=g.acts i):=by
 refine⟨fun i hi => ?_,fun i hi => ?_⟩
 · rw[rnd_A]; exact lrn_len hW h.A _ (Nat.le_refl _) i hi
 · rw[rnd_P,ply_at,if_pos hi]; simp
theorem rnd_sok (hW:Wg g) (h:SOk g s) (hr:s.rnd<1000000) (ho:okTS g (rndT g (cTC g) s)):SOk g (rndT g (cTC g) s):=by
 obtain⟨e1,e2⟩:=rnd_r (g:=g) (s:=s)
 have hr0:=h.r0
 have w1:IntKind.i64.wrap (s.rnd+1)=s.rnd+1:=wrap_id (by omega) (by omega)
 obtain⟨l1,l2⟩:=rnd_len hW h
 obtain⟨h1,h2,h3,h4,h5,h6,h7⟩:=shL_A s g.is.length
 refine⟨l1,l2,?_,?_,?_,by rw[e1,w1]; omega,by rw[e1,w1]; omega,by rw[e2]; exact h.sd,ho,ply_nn hW h⟩
 · simp only[rndT,h3]
   exact valL_len _ h.V _ (Nat.le_refl _)
 · simp only[rndT,h4]
   exact des_len hW (blk_len h.R (by have:=hW.gd.n1; omega) _) _ (Nat.le_refl _)
 · simp only[rndT,h5]
   exact des_len hW (blk_len h.O (by have:=hW.gd.n1; omega) _) _ (Nat.le_refl _)
theorem s0_sok {t:Tin} (h:chkS g t=0):SOk g (s0T g t.rnd t.seed t.A t.P):=by
 obtain⟨hW,h1,h2,h3,h4⟩:=chk_zero h
 obtain⟨a1,a2⟩:=lst_zero hW h3
 obtain⟨p1,p2⟩:=lst_zero hW h4
 have hs:0≤t.seed∧t.seed≤2147483646:=by
  unfold chkS at h
  by_cases hp:g.prpE=0
  · rw[if_neg (by simpa using hp)]at h
    unfold valE at h
    by_cases hc:t.rnd<0∨1000000<t.rnd∨t.seed<0∨2147483646<t.seed
    · rw[if_pos hc]at h; cases h
    · omega
  · rw[if_pos hp]at h; exact absurd h hp
 refine⟨fun i hi=>(a2 i hi).1,fun i hi=>(p2 i hi).1,by simp[s0T,zers],by simp[s0T,zers],by simp[s0T,zers],h1,h2,hs,s0_ok h,fun i hi a => ?_⟩
 simp only[s0T]
 by_cases ha:a<(t.P.getD i []).length
 · have e:(t.P.getD i []).getD a 0=(t.P.getD i [])[a]:=by rw[List.getD_eq_getElem?_getD,List.getElem?_eq_getElem ha]; rfl
   rw[e]
   exact((p2 i hi).2 _ (List.getElem_mem ha)).1
 · have:(t.P.getD i []).getD a 0=0:=by rw[List.getD_eq_getElem?_getD,List.getElem?_eq_none (by omega)]; rfl
   rw[this]; exact Int.le_refl _
end
end Go.Proofs.Ytogjmpkehjfecaa.Rc
namespace Go.Proofs.Ytogjmpkehjfecaa.Rc
open Go.Ab Go.Ab.Shr
end Go.Proofs.Ytogjmpkehjfecaa.Rc
namespace Go.Proofs.Ytogjmpkehjfecaa.Rc
open Go.Ab Go.Ab.Shr
section
variable {g:Gm} {H X:List AO} {t:Tin} {s:TS}
def zO:AO:=⟨[i64 0,i64 0,nl,nl],28,0,true⟩
end
end Go.Proofs.Ytogjmpkehjfecaa.Rc
namespace Go.Proofs.Ytogjmpkehjfecaa.Rc
open Go.Ab Go.Ab.Shr
theorem fzl_at (e:Env) (n:Nat) (L:List AO) (d t:Nat):(e.fzl n L (d+1)).get t=(e.get t).fz n [] L (d+1):=get_map e (SV.fz n [] L (d+1)) (fz_under rfl) t
section
variable {g:Gm} {H X:List AO} {t:Tin} {rr:Int} {A P:Nat->List Int}
theorem PW.split (h:PW g H t rr A P X):X=(H++[gbox g,tB t,zO,nxO g H.length rr t.seed])++X.drop (H.length+4):=by
 have ht:=tail_of (H:=H++[gbox g,tB t,zO,nxO g H.length rr t.seed]) (X:=X) fun j hj=>by
  by_cases h1:j<H.length
  · rw[List.getElem?_append_left h1]; exact h.low j h1
  · have h0:=h.b
    have h1':=h.tb
    have h2:=h.rb
    have h3:=h.nx
    rw[List.getElem?_append_right (by omega)]
    have hj':j=H.length∨j=H.length+1∨j=H.length+2∨j=H.length+3:=by
     simp at hj; omega
    rcases hj' with rfl | rfl | rfl | rfl
    · rw[h0]; simp
    · rw[h1']; simp
    · rw[h2]; simp[zO]
    · rw[h3]; simp
 have e:(H++[gbox g,tB t,zO,nxO g H.length rr t.seed]).length=H.length+4:=by simp
 rw[e]at ht
 exact ht
end
end Go.Proofs.Ytogjmpkehjfecaa.Rc
namespace Go.Proofs.Ytogjmpkehjfecaa.Rc
open Go.Ab Go.Ab.Shr
section
variable {g:Gm} {H X:List AO}
theorem chk_tin {t:Tin} (h:chkS g t=0):TinOk g t:=by
 obtain⟨hW,h1,h2,h3,h4⟩:=chk_zero h
 obtain⟨a1,a2⟩:=lst_zero hW h3
 obtain⟨p1,p2⟩:=lst_zero hW h4
 refine⟨a1,p1,fun i hi => ?_,fun i hi => ?_⟩
 · have:=(a2 i (by omega)).1; rw[lenL_at hi]at this; exact this
 · have:=(p2 i (by omega)).1; rw[lenL_at hi]at this; exact this
end
end Go.Proofs.Ytogjmpkehjfecaa.Rc
namespace Go.Proofs.Ytogjmpkehjfecaa.Rc
open Go.Ab
end Go.Proofs.Ytogjmpkehjfecaa.Rc
namespace Go.Proofs.Ytogjmpkehjfecaa.Rc
open Go.Ab Go.Ab.Shr
section
variable {H:List AO} {g:Gm}
set_option maxRecDepth 10000 in
theorem tlp26 {A:List (List Int)} (hA:A.length≤1000) (hAl:∀ l∈A,l.length≤100000) {N:Nat} {K:XE->Env->List AO->Prop} (hexit:∀ env,K (.exit 0) env H) :
 ∀ (n i:Nat) (env:Env),i+n=A.length->env.get 0=.slc (sls A) A.length->env.get 1=.slc (sls A) A.length->env.get 5=i64 i->LI Try.prog N drawB l26_0 env H K:=by
 intro n
 induction n with
 | zero =>
  intro i env hi h0 h1 h5
  refine li_go hm l26_0.eq_1 ?_
  have e:i=A.length:=by omega
  subst e
  simp -implicitDefEqProofs[h0,h1,h5]
  exact hexit _
 | succ n ih =>
  intro i env hi h0 h1 h5
  refine li_go hm l26_0.eq_1 ?_
  have hlt:i<A.length:=by omega
  have w1:=wrap_suc (show i<9223372036854775807 by omega)
  simp -implicitDefEqProofs[h0,h1,h5,hlt,sls_get hlt]
  repeat (refine⟨by omega,?_⟩)
  refine callq_go (fun _=>ok48s (isl H A[i]) (isl H A[i]) (by have:=hAl _ (List.getElem_mem hlt); omega)) ?_
  simp -implicitDefEqProofs[h5,w1]
  exact ih (i+1) _ (by omega) (by simp[h0]) (by simp[h1]) (by simp)
theorem ok26s {A:List (List Int)} (hA:A.length≤1000) (hAl:∀ l∈A,l.length≤100000):Ok Try.prog 26 [.slc (sls A) A.length,.slc (sls A) A.length] H (.ret (bl true)) H:=by
 refine ok_fn hm Try.func26 c26 (by simp[sls_under]) fun hcl => ?_
 simp -implicitDefEqProofs[i26,r26]
 refine tlp26 (A:=A) hA hAl (fun env => ?_) A.length 0 _ (by omega) (by simp) (by simp) (by simp)
 simp -implicitDefEqProofs
 exact cv_id
def Tin.small (T:Tin):Prop:=(T.A.length≤1000∧∀ l∈T.A,l.length≤100000)∧(T.P.length≤1000∧∀ l∈T.P,l.length≤100000)
theorem ok10 {T:Tin} (hT:T.small):Ok Try.prog 10 [.agg T.cells,.agg T.cells] H (.ret (bl true)) H:=by
 obtain⟨⟨a1,a2⟩,p1,p2⟩:=hT
 refine ok_fn hm Try.func10 c10 (by simp[Tin.cells,sls_under]) fun hcl => ?_
 simp -implicitDefEqProofs[i10,r10,Tin.cells]
 refine callq_st (fun _=>ok26s a1 a2) ?_
 simp -implicitDefEqProofs
 refine callq_st (fun _=>ok26s p1 p2) ?_
 simp -implicitDefEqProofs
 exact cv_fz 1 hcl rfl (by simp)
theorem rnds_sok {s s':TS} (hW:Wg g):∀ (m:Nat) (s:TS),SOk g s->s.rnd+m≤1000000->rnds g m s=some s'->SOk g s'
 | 0,s,h,_,e=>by simp only[rnds,Option.some.injEq]at e; rw[←e]; exact h
 | m+1,s,h,hr,e=>by
  simp only[rnds]at e
  by_cases ho:okB g (rndT g (cTC g) s)=true
  · rw[if_pos ho]at e
    have hr0:=h.r0
    obtain⟨e1,e2⟩:=rnd_r (g:=g) (s:=s)
    have w1:IntKind.i64.wrap (s.rnd+1)=s.rnd+1:=wrap_id (by omega) (by omega)
    exact rnds_sok (s:=s) hW m _ (rnd_sok hW h (by omega) (okB_iff.1 ho)) (by rw[e1,w1]; omega) e
  · rw[if_neg ho]at e; cases e
theorem zero_small:Tin.zero.small:=by simp[Tin.small,Tin.zero]
theorem run_small (t:Tin) (n:Int):(runR g t n).1.small:=by
 unfold runR
 by_cases hc:chkS g t=0
 · obtain⟨hW,r1,r2,r3,r4⟩:=chk_zero hc
   rw[if_neg (by simpa using hc)]
   by_cases hb:n<0∨20000<n∨1000000<t.rnd+n
   · rw[if_pos hb]; exact zero_small
   · rw[if_neg hb]
     cases hr:rnds g n.toNat (s0T g t.rnd t.seed t.A t.P)with
     | none=>exact zero_small
     | some s' =>
      have h:=rnds_sok (s:=s') hW n.toNat _ (s0_sok hc) (by show t.rnd+_≤_; omega) hr
      have hil:=hW.gd.i
      refine⟨⟨by simp[outT]; omega,fun l hl => ?_⟩,by simp[outT]; omega,fun l hl => ?_⟩
      · simp only[outT,List.mem_map,List.mem_range]at hl
        obtain⟨j,hj,rfl⟩:=hl
        have:=acts_le hW hj
        rw[h.A j hj]; omega
      · simp only[outT,List.mem_map,List.mem_range]at hl
        obtain⟨j,hj,rfl⟩:=hl
        have:=acts_le hW hj
        rw[h.P j hj]; omega
 · rw[if_pos hc]; exact zero_small
end
end Go.Proofs.Ytogjmpkehjfecaa.Rc
namespace Go.Proofs.Ytogjmpkehjfecaa.Rc
open Go.Ab Go.Ab.Shr
theorem sumF_put {f:Nat->Int} {x:Nat} {y:Int}:∀ n:Nat,sumF (put f x y) n=if x<n then sumF f n-f x+y else sumF f n
 | 0=>by simp[sumF]
 | n+1=>by
  simp only[sumF,sumF_put n]
  unfold put
  by_cases h:x<n
  · rw[if_pos h,if_neg (show ¬ n=x by omega),if_pos (show x<n+1 by omega)]; omega
  · rw[if_neg h]
    by_cases e:n=x
    · subst e; rw[if_pos rfl,if_pos (show n<n+1 by omega)]; omega
    · rw[if_neg e,if_neg (show ¬ x<n+1 by omega)]
theorem sumF_addL {n:Nat}:∀ (l:List Nat) (f:Nat->Int),(∀ x∈l,x<n)->sumF (addL f l) n=sumF f n+l.length
 | [],f,_=>by simp[addL]
 | x::l,f,h=>by
  simp only[addL,List.length_cons]
  rw[sumF_addL l _ (fun y hy=>h y (List.mem_cons_of_mem _ hy)),sumF_put,if_pos (h x (by simp))]
  omega
theorem sumF_congr' {f g:Nat->Int}:∀ n:Nat,(∀ i,i<n->f i=g i)->sumF f n=sumF g n
 | 0,_=>rfl
 | n+1,h=>by simp only[sumF]; rw[sumF_congr' n (fun i hi=>h i (by omega)),h n (by omega)]
theorem shr_sum {l:List Int} (hl:0<l.length):sumF (fun k=>(shrI l).getD k 0) l.length=65536:=by
 have h:=lef_rng hl
 have e:sumF (fun k=>(shrI l).getD k 0) l.length=sumF (addL (floI l (totI l)) ((ordI l).take (lefI l).toNat)) l.length :=
  sumF_congr' _ fun k hk=>by simp[shrI,hk]
 rw[e,sumF_addL]
 · have h4:lefI l=65536-sumF (floI l (totI l)) l.length:=rfl
   have h5:((ordI l).take (lefI l).toNat).length=(lefI l).toNat:=by
    rw[List.length_take,ord_len]; omega
   rw[h5]; omega
 · intro x hx
   have hx:=List.mem_of_mem_take hx
   unfold ordI at hx
   split at hx
   · exact mem_srt.1 hx
   · exact List.mem_range.1 hx
theorem wsK_sum {ws:List Int} (h:∀ w∈ws,1≤w∧w≤1000) (hl:ws.length≤60):∀ k,k≤ws.length->sumF (fun k=>ws.getD k 0) k=wsK ws k
 | 0,_=>rfl
 | k+1,hk=>by
  have h1:=wsK_rng h hl k (by omega)
  have h2:=h _ (List.getElem_mem (show k<ws.length by omega))
  have e:ws.getD k 0=ws[k]:=by simp[show k<ws.length by omega]
  simp only[sumF,wsK]
  rw[wsK_sum h hl k (by omega),e,wrap_id (by omega) (by omega)]
def SShr (g:Gm) (S:Nat->List Int):Prop:=∀ j,j<g.is.length->(∀ k,k<g.acts j->0≤(S j).getD k 0∧(S j).getD k 0≤65536)∧sumF (fun k=>(S j).getD k 0) (g.acts j)=65536
section
variable {g:Gm} {M V R:List Int} {S A P:Nat->List Int}
theorem sshr_of (hW:Wg g) {A:Nat->List Int} (hA:∀ j,j<g.is.length->(A j).length=g.acts j) (hS:∀ j,j<g.is.length->S j=shrI (A j)):SShr g S:=by
 intro j hj
 have ha:=acts_le hW hj
 have hl:=hA j hj
 refine⟨fun k hk=>by rw[hS j hj]; exact shr_rng (by omega),?_⟩
 rw[hS j hj,<- hl]
 exact shr_sum (by omega)
theorem br_sum (hW:Wg g) (hS:SShr g S) (hm:∀ i (h:i<g.ns.length),g.ns[i].k=1->M.getD i 0=wsum g.ns[i].ws∧0<M.getD i 0) {i:Nat} (hi:i<g.ns.length) (h3:g.ns[i].k≠3) :
 (∀ k,k<g.ns[i].nx.length->0≤brP g S i k)∧sumF (brP g S i) g.ns[i].nx.length=brW g M i∧0<brW g M i∧brW g M i≤65536:=by
 have hx:g.ns[i]? = some g.ns[i]:=List.getElem?_eq_getElem hi
 rcases kd_of hW hi with h | h | h
 · obtain⟨a1,a2,a3,a4⟩:=ch_of hW hi h
   obtain⟨m1,m2⟩:=hm i hi h
   have hws:=wsK_rng a4 (by omega) g.ns[i].ws.length (Nat.le_refl _)
   have eB:brW g M i=wsum g.ns[i].ws:=by simp only[brW,hx,h]; exact m1
   have eP:brP g S i=fun k=>g.ns[i].ws.getD k 0:=by funext k; simp only[brP,hx,h]; rfl
   rw[eB,eP]
   refine⟨fun k hk => ?_,?_,by rw[←m1]; exact m2,by unfold wsum; omega⟩
   · have hw:=a4 _ (List.getElem_mem (show k<g.ns[i].ws.length by omega))
     have e:g.ns[i].ws.getD k 0=g.ns[i].ws[k]:=by simp[show k<g.ns[i].ws.length by omega]
     simp only[e]; omega
   · rw[←a1]; exact wsK_sum a4 (by omega) _ (Nat.le_refl _)
 · obtain⟨b1,b2,b3,b4,b5⟩:=mv_of hW hi h
   have eB:brW g M i=65536:=by simp[brW,hx,h]
   have eP:brP g S i=fun k=>(S g.ns[i].i.toNat).getD k 0:=by funext k; simp[brP,hx,h]
   obtain⟨s1,s2⟩:=hS _ b1
   rw[eB,eP]
   refine⟨fun k hk=>(s1 k (by omega)).1,by rw[←b3]; exact s2,by omega,by omega⟩
 · exact absurd h h3
theorem sumF_inc {f:Nat->Int} {n:Nat} (h:∀ k,k<n->0≤f k):∀ m,m≤n->0≤sumF f m∧∀ d,m+d≤n->sumF f m≤sumF f (m+d):=by
 have step:∀ d m,m+d≤n->sumF f m≤sumF f (m+d):=by
  intro d
  induction d with
  | zero=>intro m _; exact Int.le_refl _
  | succ d ih =>
   intro m hm
   have h1:=ih m (by omega)
   have h2:=h (m+d) (by omega)
   have e:sumF f (m+(d+1))=sumF f (m+d)+f (m+d):=rfl
   omega
 intro m hm
 refine⟨?_,fun d hd=>step d m hd⟩
 have:=step m 0 (by omega)
 rw[Nat.zero_add]at this
 exact this
theorem abs_mul {v w B:Int} (hv : -B≤v∧v≤B) (hw:0≤w) : -(B*w)≤v*w∧v*w≤B*w:=by
 have h1:=Int.mul_le_mul_of_nonneg_right hv.2 hw
 have h2:=Int.mul_le_mul_of_nonneg_right hv.1 hw
 rw[Int.neg_mul]at h2
 exact⟨h2,h1⟩
theorem tdiv_bd {a w B:Int} (hw:0<w) (h : -(B*w)≤a∧a≤B*w) : -B≤a.tdiv w∧a.tdiv w≤B:=by
 have key:∀ x:Int,0≤x->x≤B*w->0≤x.tdiv w∧x.tdiv w≤B:=fun x hx hb=>by
  rw[Int.tdiv_eq_ediv_of_nonneg hx]
  exact⟨Int.ediv_nonneg hx (by omega),Int.ediv_le_of_le_mul hw hb⟩
 rcases Int.le_total 0 a with h0 | h0
 · have:=key a h0 h.2; omega
 · have:=key (-a) (by omega) (by omega)
   have e:(-a).tdiv w = -(a.tdiv w):=Int.neg_tdiv ..
   omega
theorem val_bd (hW:Wg g) (hS:SShr g S) (hV:ValOk g M S V):∀ (m i q:Nat),g.ns.length-m≤i->i<g.ns.length->(q:Int)<g.pl -> -1024000000≤V.getD (i*4+q) 0∧V.getD (i*4+q) 0≤1024000000:=by
 intro m
 induction m with
 | zero=>intro i q h1 h2; omega
 | succ m ih =>
  intro i q h1 hi hq
  have hx:g.ns[i]? = some g.ns[i]:=List.getElem?_eq_getElem hi
  rw[hV.eq i q hi hq]
  simp only[valQ,hx]
  by_cases h3:g.ns[i].k=3
  · rw[if_pos h3]
    obtain⟨e1,e2,e3⟩:=en_of hW hi h3
    have hql:q<g.ns[i].ps.length:=by omega
    have:=e3 _ (List.getElem_mem hql)
    have e:g.ns[i].ps.getD q 0=g.ns[i].ps[q]:=by simp[hql]
    rw[e,wrap_id (by omega) (by omega)]
    omega
  · rw[if_neg h3]
    obtain⟨p1,p2,p3,p4⟩:=br_sum hW hS hV.m hi h3
    have hm:=sumF_inc p1
    have acc:∀ k,k≤g.ns[i].nx.length -> -(1024000000*sumF (brP g S i) k)≤accQ g S V g.ns[i].nx i q k∧accQ g S V g.ns[i].nx i q k≤1024000000*sumF (brP g S i) k:=by
     intro k
     induction k with
     | zero=>intro _; simp[accQ,sumF]
     | succ k ihk =>
      intro hk
      have h1:=ihk (by omega)
      have hkl:k<g.ns[i].nx.length:=by omega
      have hch:=(hW.wf.nf i hi).ch _ (List.getElem_mem hkl)
      have e:g.ns[i].nx.getD k 0=g.ns[i].nx[k]:=by simp[hkl]
      have hv:=ih g.ns[i].nx[k].toNat q (by omega) (by omega) hq
      have hw:=p1 k hkl
      have hb:=abs_mul hv hw
      have hs:=(hm (k+1) hk).2 (g.ns[i].nx.length-(k+1)) (by omega)
      rw[show k+1+(g.ns[i].nx.length-(k+1))=g.ns[i].nx.length by omega,p2]at hs
      have hs0:=(hm k (by omega)).1
      have es:sumF (brP g S i) (k+1)=sumF (brP g S i) k+brP g S i k:=rfl
      simp only[accQ]
      rw[e]
      generalize V.getD (g.ns[i].nx[k].toNat*4+q) 0*brP g S i k=x at *
      generalize accQ g S V g.ns[i].nx i q k=y at *
      rw[es]at hs ⊢
      generalize sumF (brP g S i) k=u at *
      generalize brP g S i k=w at *
      rw[show IntKind.i64.wrap x=x from wrap_id (by omega) (by omega),show IntKind.i64.wrap (y+x)=y+x from wrap_id (by omega) (by omega)]
      omega
    have ha:=acc g.ns[i].nx.length (Nat.le_refl _)
    rw[p2]at ha
    have ht:=tdiv_bd p3 ha
    rw[wrap_id (by omega) (by omega)]
    exact ht
theorem dlt_bd (hW:Wg g) (hS:SShr g S) (hV:ValOk g M S V) (hR:RchOk g false M S R) {i a:Nat} (hi:i<g.ns.length) (hk:g.ns[i].k=2) (ha:a<g.ns[i].nx.length) : -2048000000≤dltA g V R i a∧dltA g V R i a≤2048000000:=by
 have hx:g.ns[i]? = some g.ns[i]:=List.getElem?_eq_getElem hi
 obtain⟨q0,q1⟩:=mp_of hW hi hk
 have hq:((g.ns[i].p.toNat:Nat):Int)<g.pl:=by omega
 have hch:=(hW.wf.nf i hi).ch _ (List.getElem_mem ha)
 have e:g.ns[i].nx.getD a 0=g.ns[i].nx[a]:=by simp[ha]
 have v1:=val_bd hW hS hV g.ns.length g.ns[i].nx[a].toNat g.ns[i].p.toNat (by omega) (by omega) hq
 have v2:=val_bd hW hS hV g.ns.length i g.ns[i].p.toNat (by omega) hi hq
 have r:=rch_rng hW hR (fun j hj=>(hS j hj).1) i i g.ns[i].p.toNat (Nat.le_refl _) hi hq
 simp only[dltA,hx]
 rw[e]
 generalize V.getD (g.ns[i].nx[a].toNat*4+g.ns[i].p.toNat) 0=x at *
 generalize V.getD (i*4+g.ns[i].p.toNat) 0=y at *
 generalize R.getD (i*4+g.ns[i].p.toNat) 0=z at *
 have w1:IntKind.i64.wrap (x-y)=x-y:=wrap_id (by omega) (by omega)
 have hb:=abs_mul (v:=x-y) (w:=z) (B:=2048000000) (by omega) r.1
 rw[Int.mul_comm (x-y) z]at hb
 have hz:2048000000*z≤2048000000*1073741824:=by omega
 have w2:IntKind.i64.wrap (z*(x-y))=z*(x-y):=by
  generalize z*(x-y)=t at *
  exact wrap_id (by omega) (by omega)
 rw[w1,w2]
 have ht:=tdiv_bd (a:=z*(x-y)) (w:=1073741824) (B:=2048000000) (by omega) (by
  generalize z*(x-y)=t at *
  omega)
 generalize (z*(x-y)).tdiv 1073741824=t at *
 rw[wrap_id (by omega) (by omega)]
 exact ht
theorem lrn_bd (hW:Wg g) (hS:SShr g S) (hV:ValOk g M S V) (hR:RchOk g false M S R) {C:Int} (hC:0≤C) (hA:∀ j a,-C≤(A j).getD a 0∧(A j).getD a 0≤C) :
 ∀ i,i≤g.ns.length->C+2048000000*i≤4611686018427387904->∀ j a,-(C+2048000000*i)≤(lrnL g V R A i j).getD a 0∧(lrnL g V R A i j).getD a 0≤C+2048000000*i
 | 0,_,_,j,a=>by have:=hA j a; simp only[lrnL]; omega
 | i+1,hi,hb,j,a=>by
  have ih:=lrn_bd hW hS hV hR hC hA i (by omega) (by omega)
  have hii:i<g.ns.length:=by omega
  have hx:g.ns[i]? = some g.ns[i]:=List.getElem?_eq_getElem hii
  simp only[lrnL,lrnA,hx]
  by_cases hk:g.ns[i].k=2
  · rw[if_pos hk]
    unfold upA
    by_cases e:j=g.ns[i].i.toNat
    · rw[if_pos e]
      by_cases ha:a<g.ns[i].nx.length
      · rw[rowF_getD ha]
        have h1:=ih g.ns[i].i.toNat a
        have h2:=dlt_bd hW hS hV hR hii hk ha
        rw[wrap_id (by omega) (by omega)]
        omega
      · have:(rowF g.ns[i].nx.length fun a=>IntKind.i64.wrap ((lrnL g V R A i g.ns[i].i.toNat).getD a 0+dltA g V R i a)).getD a 0=0:=by simp[rowF,ha]
        rw[this]; omega
    · rw[if_neg e]
      have:=ih j a
      omega
  · rw[if_neg hk]
    have:=ih j a
    omega
end
def SBd (s:TS) (C D:Int):Prop:=(∀ j a,-C≤(s.A j).getD a 0∧(s.A j).getD a 0≤C)∧∀ j a,(s.P j).getD a 0≤D
section
variable {g:Gm} {s:TS}
theorem sh_ok (hW:Wg g) (h:SOk g s):SShr g (shL s g.is.length).S:=sshr_of hW h.A fun j hj=>shL_S s _ j hj
theorem tV_ok' (hW:Wg g) (h:SOk g s):ValOk g (cTC g).M (shL s g.is.length).S (tabV g s):=val_ok hW h.V (cTC_m hW) fun _ _=>rfl
theorem rnd_bd (hW:Wg g) (h:SOk g s) {C D:Int} (hC:0≤C) (hD:0≤D) (hb:SBd s C D) (hCb:C+2048000000*g.ns.length≤4611686018427387904) (hDb:D+1073741824≤4611686018427387904):SBd (rndT g (cTC g) s) (C+2048000000*g.ns.length) (D+1073741824):=by
 refine⟨fun j a => ?_,fun j a => ?_⟩
 · rw[rnd_A]
   exact lrn_bd hW (sh_ok hW h) (tV_ok' hW h) (tR_ok' hW h.R) hC hb.1 g.ns.length (Nat.le_refl _) hCb j a
 · rw[rnd_P,ply_at]
   by_cases hj:j<g.is.length
   · rw[if_pos hj]
     by_cases ha:a<g.acts j
     · have ho:=own_rng hW hj
       obtain⟨hf,hF,_⟩:=frs_ok hW hj
       have hO:=rch_rng hW (tR_ok' (s:=s) (own:=true) hW h.O) (fun j hj=>(sh_ok hW h j hj).1) (frs g j) (frs g j) (ownr g j).toNat (Nat.le_refl _) hf (by omega)
       have hs:=(sh_ok hW h j hj).1 a ha
       have hpn:=h.pn j hj a
       have hp2:=hb.2 j a
       rw[rowF_getD ha]
       have eo:ownI g (cTC g).F (tabR g true s s.O) j=(tabR g true s s.O).getD (frs g j*4+(ownr g j).toNat) 0:=rfl
       have hq:=qo_rng (a:=ownI g (cTC g).F (tabR g true s s.O) j) (p:=((shL s g.is.length).S j).getD a 0) (w:=65536) (by rw[eo]; exact hO) hs (by omega)
       have e3:plyD (ownI g (cTC g).F (tabR g true s s.O) j) (((shL s g.is.length).S j).getD a 0)=qoF (ownI g (cTC g).F (tabR g true s s.O) j) (((shL s g.is.length).S j).getD a 0) 65536:=rfl
       unfold plyF
       rw[e3,wrap_id (by omega) (by omega)]
       omega
     · have:(rowF (g.acts j) (plyF (ownI g (cTC g).F (tabR g true s s.O) j) (s.P j) ((shL s g.is.length).S j))).getD a 0=0:=by
        simp[rowF,ha]
       rw[this]
       omega
   · rw[if_neg hj]
     have:=hb.2 j a
     omega
theorem rnds_bd (hW:Wg g) (hn:g.ns.length≤60):∀ (m:Nat) (s:TS) (k:Nat),SOk g s->SBd s (2048000000*60*k) (1073741824*k)->s.rnd+m≤1000000->k+m≤200 →
 ∃ s',rnds g m s=some s'∧SOk g s'∧SBd s' (2048000000*60*(k+m:Nat)) (1073741824*(k+m:Nat))∧s'.rnd=s.rnd+m∧s'.seed=s.seed
 | 0,s,k,h,hb,_,_=>⟨s,rfl,h,by simpa using hb,by simp,rfl⟩
 | m+1,s,k,h,hb,hr,hk=>by
  have h1:=rnd_bd hW h (by omega) (by omega) hb (by omega) (by omega)
  have h2:SBd (rndT g (cTC g) s) (2048000000*60*(k+1:Nat)) (1073741824*(k+1:Nat)):=by
   refine⟨fun j a => ?_,fun j a => ?_⟩
   · have:=h1.1 j a; omega
   · have:=h1.2 j a; omega
  have ho:okTS g (rndT g (cTC g) s):=by
   intro i _ a _
   have e1:=h2.1 i a
   have e2:=h2.2 i a
   unfold okAt
   omega
  have h3:=rnd_sok hW h (by omega) ho
  obtain⟨r1,r2⟩:=rnd_r (g:=g) (s:=s)
  have hr0:=h.r0
  rw[wrap_id (by omega) (by omega)]at r1
  obtain⟨s',q1,q2,q3,q4,q5⟩:=rnds_bd hW hn m _ (k+1) h3 h2 (by omega) (by omega)
  refine⟨s',?_,q2,by rw[show k+(m+1)=k+1+m by omega]; exact q3,by rw[q4,r1]; omega,by rw[q5,r2]⟩
  simp only[rnds]
  rw[if_pos (okB_iff.2 ho)]
  exact q1
end
end Go.Proofs.Ytogjmpkehjfecaa.Rc
namespace Go.Proofs.Ytogjmpkehjfecaa.Rc
open Go.Ab
theorem hm':Try.prog.follows .mixedOrders=true:=Try.checked.mixed
structure Gh where
 lv:Nat
 sn:List (List Int)
def NowR (a b:List (List Int)) (pl:Int) (k:Int):Prop:=b.length=a.length∧∀ (q:Nat) (h:q<a.length),∃ e:Int,b[q]? = some (a[q]++[e])∧((q:Int)=pl->e=k)
def Nd.mvr (x:Nd):Int:=if x.k=2 then x.p else -1
structure Rcl (g:Gm) (lvs:Nat->Int) (V:Nat->Option (Int×Int×List Int)) (gs:List Gh):Prop where
 len:gs.length=g.ns.length
 root:gs[0]? = some ⟨0,List.replicate g.pl.toNat []⟩
 edge:∀ (j:Nat) (x:Nd) (y:Gh),g.ns[j]? = some x->gs[j]? = some y->∀ (k:Nat) (c:Int),x.nx[k]? = some c->∃ (m:Nat) (z:Gh),c=(m:Int)∧gs[m]? = some z∧NowR y.sn z.sn x.mvr k∧z.lv=y.lv+1
 fit:∀ (j:Nat) (x:Nd) (y:Gh),g.ns[j]? = some x->gs[j]? = some y->(x.k=2->lvs y.lv=x.p∧0≤x.i∧0≤x.p∧∃ s,y.sn[x.p.toNat]? = some s∧V x.i.toNat=some (x.p,(y.lv:Int),s))∧(x.k=1->lvs y.lv<0)
 un:∀ (i j:Nat) (u:Int×Int×List Int),V i=some u->V j=some u->i=j
def NowQ (a b:List (List Int)) (pl:Int) (k:Int):Prop:=∀ (q:Nat) (h:q<b.length),∃ (e:Int) (h':q<a.length),b[q]=a[q]++[e]∧((q:Int)=pl->e=k)
theorem NowQ.nil (a:List (List Int)) (pl k:Int):NowQ a [] pl k:=fun q h=>by simp at h
theorem NowQ.snoc {a b:List (List Int)} {pl k e:Int} (h:NowQ a b pl k) (hl:b.length<a.length) (he:(b.length:Int)=pl->e=k):NowQ a (b++[a[b.length]++[e]]) pl k:=by
 intro q hq
 by_cases h1:q<b.length
 · obtain⟨e',h',h2,h3⟩:=h q h1
   exact⟨e',h',by rw[List.getElem_append_left h1]; exact h2,h3⟩
 · have:q=b.length:=by simp at hq; omega
   subst this
   exact⟨e,hl,by simp,he⟩
theorem NowQ.full {a b:List (List Int)} {pl k:Int} (h:NowQ a b pl k) (hl:b.length=a.length):NowR a b pl k:=by
 refine⟨hl,fun q hq => ?_⟩
 obtain⟨e,h',h1,h2⟩:=h q (by omega)
 exact⟨e,by rw[List.getElem?_eq_getElem (show q<b.length by omega),h1],h2⟩
end Go.Proofs.Ytogjmpkehjfecaa.Rc
namespace Go.Proofs.Ytogjmpkehjfecaa.Rc
open Go.Ab Go.Ab.Shr
section
variable {g:Gm}
theorem way_child (hW:Wg g) {pl:Int} {p i:Nat} (hp:p<g.ns.length) (hi:i<g.ns[p].nx.length) {c:Nat} (hc:g.ns[p].nx[i]=c) :
 g.way c pl=if g.ns[p].k=2∧g.ns[p].p=pl then g.way p pl++[(g.ns[p].i,(i:Int))]else g.way p pl:=by
 have hn:=hW.wf.nf p hp
 have hmem:(c:Int)∈g.ns[p].nx:=by rw[←hc]; exact List.getElem_mem hi
 obtain⟨c1,c2,c3,c4⟩:=hn.ch _ hmem
 obtain⟨k,hk,e1,e2,e3⟩:=fstAt_of hn.inc hmem
 have ek:i=k:=e3 i hi hc
 subst ek
 have hcl:c<g.ns.length:=by omega
 have hP:gi g.wk.2.P c=p:=by simpa using c3
 obtain⟨n,hnn⟩:∃ n,g.ns.length=n+1:=⟨g.ns.length-1,by omega⟩
 have h1:g.up c pl=upf g pl (n+1) c []:=by unfold Gm.up; rw[hnn]; rfl
 have h2:g.up p pl=upf g pl (n+1) p []:=by unfold Gm.up; rw[hnn]; rfl
 unfold Gm.way
 rw[h1,h2]
 unfold upf
 rw[up_step hW hp hP]
 have h3:=upf_fuel hW (pl:=pl) n (n+1) p [] (by omega) (by omega) hp
 have h4:=fun l=>upf_app hW (pl:=pl) n p l (by omega) hp
 unfold upf at h3 h4
 by_cases hc2:g.ns[p].k=2∧g.ns[p].p=pl
 · rw[if_pos hc2,if_pos hc2,h4,e2,h3]
   simp
 · rw[if_neg hc2,if_neg hc2,h3]
theorem way_root (hW:Wg g) {pl:Int}:g.way 0 pl=[]:=by
 have:=hW.gd.n1
 obtain⟨n,hnn⟩:∃ n,g.ns.length=n+1:=⟨g.ns.length-1,by omega⟩
 unfold Gm.way
 have h1:g.up 0 pl=upf g pl (n+1) 0 []:=by unfold Gm.up; rw[hnn]; rfl
 rw[h1,upf_root hW]; rfl
end
theorem occ_of {s:Nat}:∀ {l:List Nd} {o:Nat} {a:Int},a∈occ s l o->∃ t,∃ ht:t<l.length,a=((o+t:Nat):Int)∧l[t].k=2∧l[t].i.toNat=s
 | [],o,a,h=>by simp[occ]at h
 | x::r,o,a,h=>by
  unfold occ at h
  split at h
  · rename_i hc
    rcases List.mem_cons.1 h with rfl | h
    · exact⟨0,by simp,by simp,hc.1,hc.2⟩
    · obtain⟨t,ht,e,h1,h2⟩:=occ_of h
      exact⟨t+1,by simpa using ht,by rw[e]; congr 1; omega,by simpa using h1,by simpa using h2⟩
  · obtain⟨t,ht,e,h1,h2⟩:=occ_of h
    exact⟨t+1,by simpa using ht,by rw[e]; congr 1; omega,by simpa using h1,by simpa using h2⟩
section
variable {g:Gm} {lvs:Nat->Int} {V:Nat->Option (Int×Int×List Int)} {gs:List Gh}
theorem Rcl.par (hW:Wg g) (h:Rcl g lvs V gs) {b:Nat} (hb:0<b) (hl:b<g.ns.length) {z:Gh} (hz:gs[b]? = some z) :
 ∃ (a:Nat) (ha:a<g.ns.length) (k:Nat) (hk:k<g.ns[a].nx.length) (y:Gh),g.ns[a].nx[k]=(b:Int)∧gs[a]? = some y∧NowR y.sn z.sn g.ns[a].mvr k∧z.lv=y.lv+1:=by
 obtain⟨a,ha,h1,h2,h3⟩:=hW.wf.pf b hb hl
 obtain⟨k,hk,h4⟩:=List.getElem_of_mem h3
 have hal:a<gs.length:=by rw[h.len]; exact ha
 obtain⟨m,z',e1,e2,e3,e4⟩:=h.edge a g.ns[a] gs[a] (List.getElem?_eq_getElem ha) (List.getElem?_eq_getElem hal) k b (by rw[List.getElem?_eq_getElem hk,h4])
 have:m=b:=by omega
 subst this
 rw[hz]at e2
 cases e2
 exact⟨a,ha,k,hk,gs[a],h4,List.getElem?_eq_getElem hal,e3,e4⟩
theorem Rcl.ways (hW:Wg g) (h:Rcl g lvs V gs) {q:Nat}:∀ (n a b:Nat) (ya yb:Gh) (s:List Int),a<g.ns.length->b<g.ns.length->gs[a]? = some ya->gs[b]? = some yb->ya.lv=n->yb.lv=n->ya.sn[q]? = some s->yb.sn[q]? = some s->g.way a q=g.way b q:=by
 intro n
 have h0:∀ (b:Nat) (y:Gh),b<g.ns.length->gs[b]? = some y->y.lv=0->b=0:=by
  intro b y hb hy hl
  rcases Nat.eq_zero_or_pos b with e | e
  · exact e
  · obtain⟨_,_,_,_,_,_,_,_,e4⟩:=h.par hW e hb hy
    omega
 have h1:∀ (b:Nat) (y:Gh),gs[b]? = some y->0<y.lv->0<b:=by
  intro b y hy hl
  rcases Nat.eq_zero_or_pos b with e | e
  · subst e; rw[h.root]at hy; cases hy; simp at hl
  · exact e
 induction n with
 | zero =>
  intro a b ya yb s ha hb hya hyb la lb _ _
  rw[h0 a ya ha hya la,h0 b yb hb hyb lb]
 | succ n ih =>
  intro a b ya yb s ha hb hya hyb la lb sa sb
  obtain⟨pa,hpa,ka,hka,za,na,gza,ra,va⟩:=h.par hW (h1 a ya hya (by omega)) ha hya
  obtain⟨pb,hpb,kb,hkb,zb,nb,gzb,rb,vb⟩:=h.par hW (h1 b yb hyb (by omega)) hb hyb
  have qa:q<za.sn.length:=by rw[←ra.1]; exact getElem?_lt sa
  have qb:q<zb.sn.length:=by rw[←rb.1]; exact getElem?_lt sb
  obtain⟨ea,ea1,ea2⟩:=ra.2 q qa
  obtain⟨eb,eb1,eb2⟩:=rb.2 q qb
  rw[sa]at ea1
  rw[sb]at eb1
  simp only[Option.some.injEq]at ea1 eb1
  have hc:=ea1.symm.trans eb1
  obtain⟨c1,c2⟩:=List.append_inj' hc rfl
  have c2:ea=eb:=by simpa using c2
  have hi:=ih pa pb za zb za.sn[q] hpa hpb gza gzb (by omega) (by omega) (List.getElem?_eq_getElem qa) (by rw[List.getElem?_eq_getElem qb,c1])
  rw[way_child hW hpa hka na,way_child hW hpb hkb nb,hi]
  obtain⟨fa2,fa1⟩:=h.fit pa g.ns[pa] za (List.getElem?_eq_getElem hpa) gza
  obtain⟨fb2,fb1⟩:=h.fit pb g.ns[pb] zb (List.getElem?_eq_getElem hpb) gzb
  have hlv:za.lv=zb.lv:=by omega
  have key:∀ (p:Nat) (hp:p<g.ns.length) (k:Nat) (hk:k<g.ns[p].nx.length),(g.ns[p].k=2->lvs za.lv=g.ns[p].p)->(g.ns[p].k=1->lvs za.lv<0)->((g.ns[p].k=2∧g.ns[p].p=q)↔lvs za.lv=q):=by
   intro p hp k hk f2 f1
   rcases kd_of hW hp with k1 | k2 | k3
   · have:=f1 k1
     constructor
     · rintro⟨e,_⟩; omega
     · intro e; omega
   · have:=f2 k2
     constructor
     · rintro⟨_,e⟩; omega
     · intro e; exact⟨k2,by omega⟩
   · rw[(en_of hW hp k3).1]at hk; simp at hk
  have Ka:=key pa hpa ka hka (fun e=>(fa2 e).1) fa1
  have Kb:=key pb hpb kb hkb (fun e=>by rw[hlv]; exact(fb2 e).1) (fun e=>by rw[hlv]; exact fb1 e)
  by_cases hq:lvs za.lv=q
  · have ha2:=Ka.2 hq
    have hb2:=Kb.2 hq
    rw[if_pos ha2,if_pos hb2]
    obtain⟨_,i0,p0,s1,s2,s3⟩:=fa2 ha2.1
    obtain⟨_,j0,q0,t1,t2,t3⟩:=fb2 hb2.1
    have e1:g.ns[pa].p.toNat=q:=by omega
    have e2:g.ns[pb].p.toNat=q:=by omega
    rw[e1,List.getElem?_eq_getElem qa]at s2
    rw[e2,List.getElem?_eq_getElem qb]at t2
    simp only[Option.some.injEq]at s2 t2
    have ei:g.ns[pa].i.toNat=g.ns[pb].i.toNat:=by
     refine h.un _ _ _ s3 ?_
     rw[t3,<- s2,<- t2,c1,hlv,ha2.2,hb2.2]
    have ek:(ka:Int)=kb:=by
     rw[←ea2 (by unfold Nd.mvr; rw[if_pos ha2.1]; exact ha2.2.symm),<- eb2 (by unfold Nd.mvr; rw[if_pos hb2.1]; exact hb2.2.symm),c2]
    have ei2:g.ns[pa].i=g.ns[pb].i:=by omega
    rw[ei2,ek]
  · rw[if_neg (fun e=>hq (Ka.1 e)),if_neg (fun e=>hq (Kb.1 e))]
theorem Rcl.perf (hW:Wg g) (h:Rcl g lvs V gs) (hi:∀ x∈g.ns,x.k=2->∃ n,g.is[x.i.toNat]? = some (x.p,n)) {q:Nat}:g.perf q=true:=by
 unfold Gm.perf
 rw[setsP hW g.is.length 0 (by omega)]
 rintro t _ ht hp ⟨hs,ht',v,hv,hne⟩
 apply hne
 have hne0:g.sets[t]≠[]:=hW.ne t hs
 have hh:g.sets[t].headD 0∈g.sets[t]:=by
  cases hc:g.sets[t]with
  | nil=>exact absurd hc hne0
  | cons u l=>simp
 have key:∀ w∈g.sets[t],∃ (y:Gh) (s:List Int),w.toNat<g.ns.length∧gs[w.toNat]? = some y∧y.sn[q]? = some s∧V t=some ((q:Int),(y.lv:Int),s):=by
  intro w hw
  obtain⟨hr1,hr2⟩:=sets_mem hs hw
  rw[sets_occ hs]at hw
  have hwn:w.toNat<g.ns.length:=by omega
  obtain⟨a1,a2⟩:g.ns[w.toNat].k=2∧g.ns[w.toNat].i.toNat=t:=by
   obtain⟨u,hu,e,b1,b2⟩:=occ_of hw
   have:w.toNat=u:=by omega
   subst this
   exact⟨b1,b2⟩
  have hgl:w.toNat<gs.length:=by rw[h.len]; exact hwn
  obtain⟨f2,_⟩:=h.fit _ _ _ (List.getElem?_eq_getElem hwn) (List.getElem?_eq_getElem hgl)
  obtain⟨_,i0,p0,s,s1,s2⟩:=f2 a1
  obtain⟨n,hn⟩:=hi _ (List.getElem_mem hwn) a1
  rw[a2,List.getElem?_eq_getElem ht]at hn
  have hn:g.is[t]=(g.ns[w.toNat].p,n):=by simpa using hn
  have e:g.ns[w.toNat].p=q:=by rw[hn]at hp; exact hp
  rw[a2,e]at s2
  have e3:g.ns[w.toNat].p.toNat=q:=by omega
  rw[e3]at s1
  exact⟨_,s,hwn,List.getElem?_eq_getElem hgl,s1,s2⟩
 obtain⟨y,s,k1,k2,k3,k4⟩:=key v hv
 obtain⟨y',s',l1,l2,l3,l4⟩:=key _ hh
 rw[k4]at l4
 simp only[Option.some.injEq,Prod.mk.injEq,true_and]at l4
 rw[hp]
 exact h.ways hW y.lv _ _ y y' s k1 l1 k2 l2 rfl (by omega) k3 (by rw[l4.2]; exact l3)
theorem Rcl.prp (hW:Wg g) (hf:g.formE=0) (h:Rcl g lvs V gs) (hi:∀ x∈g.ns,x.k=2->∃ n,g.is[x.i.toNat]? = some (x.p,n)):g.prpE=0:=by
 unfold Gm.prpE
 rw[if_neg (by simpa using hf),fstE_zero]
 intro j _ _
 unfold perQ
 rw[if_pos (h.perf hW hi)]
end
end Go.Proofs.Ytogjmpkehjfecaa.Rc
namespace Go.Proofs.Ytogjmpkehjfecaa.Rc
open Go.Ab
theorem kidsR_app (w:Nat->Int->Option Nat×Int):∀ (a b:List Int) (r:Nat) (m:Int),kidsR w (a++b) r m=(match kidsR w a r m with | (none,m)=>(none,m) | (some r,m)=>kidsR w b r m)
 | [],b,r,m=>by simp[kidsR]
 | c::a,b,r,m=>by
  simp only[List.cons_append,kidsR]
  by_cases hc:c=r
  · rw[if_pos hc,if_pos hc]
    cases hh:w r m with
    | mk o m1 =>
     cases o with
     | none=>rfl
     | some r1=>exact kidsR_app w a b r1 m1
  · rw[if_neg hc,if_neg hc]
def Wlk (b h:Nat) (sub:List Nd):Prop:=∀ (pre post:List Nd) (f:Nat) (dep m:Int),pre.length=b->sub.length≤f →
 ∃ m',walkR (pre++(sub++post)) f dep b m=(some (b+sub.length),m')∧m'≤max m (dep+h)
def Kds (b h:Nat) (nx:List Int) (subs:List Nd):Prop:=∀ (pre post:List Nd) (f:Nat) (dep m:Int),pre.length=b->subs.length≤f →
 ∃ m',kidsR (walkR (pre++(subs++post)) f dep) nx b m=(some (b+subs.length),m')∧m'≤max m (dep+h)
theorem Kds.nil (b h:Nat):Kds b h [] []:=fun pre post f dep m _ _=>⟨m,by simp[kidsR],by omega⟩
theorem Kds.snoc {b h c:Nat} {nx:List Int} {subs sub:List Nd} (hk:Kds b h nx subs) (hw:Wlk c h sub) (hc:c=b+subs.length):Kds b h (nx++[(c:Int)]) (subs++sub):=by
 subst hc
 intro pre post f dep m hb hf
 obtain⟨m1,h1,h2⟩:=hk pre (sub++post) f dep m hb (by simp at hf; omega)
 obtain⟨m2,h3,h4⟩:=hw (pre++subs) post f dep m1 (by simp[hb]) (by simp at hf; omega)
 refine⟨m2,?_,by omega⟩
 rw[kidsR_app]
 have e:pre++(subs++sub++post)=pre++(subs++(sub++post)):=by simp
 rw[e,h1]
 simp only[kidsR]
 have e2:pre++(subs++(sub++post))=pre++subs++(sub++post):=by simp
 rw[if_pos trivial,e2,h3]
 simp[Nat.add_assoc]
theorem Wlk.node {b h:Nat} {x:Nd} {subs:List Nd} (hk:Kds (b+1) h x.nx subs):Wlk b (h+1) (x::subs):=by
 intro pre post f dep m hb hf
 obtain⟨f,rfl⟩:∃ g,f=g+1:=⟨f-1,by simp at hf; omega⟩
 obtain⟨m1,h1,h2⟩:=hk (pre++[x]) post f (dep+1) (max m dep) (by simp[hb]) (by simp at hf; omega)
 refine⟨m1,?_,by omega⟩
 have e:pre++(x::subs++post)=pre++[x]++(subs++post):=by simp
 have e1:(pre++[x]++(subs++post))[b]? = some x:=by
  subst hb; simp
 rw[e,walkR,e1]
 simp only
 rw[h1]
 simp; omega
theorem Wlk.leaf (b h:Nat) {x:Nd} (hx:x.nx=[]):Wlk b h [x]:=by
 intro pre post f dep m hb hf
 obtain⟨f,rfl⟩:∃ g,f=g+1:=⟨f-1,by simp at hf; omega⟩
 refine⟨max m dep,?_,by omega⟩
 have e1:(pre++([x]++post))[b]? = some x:=by
  subst hb; simp
 rw[walkR,e1]
 simp[hx,kidsR]
theorem Wlk.mono {b h h':Nat} {sub:List Nd} (hw:Wlk b h sub) (hh:h≤h'):Wlk b h' sub:=by
 intro pre post f dep m hb hf
 obtain⟨m1,h1,h2⟩:=hw pre post f dep m hb hf
 exact⟨m1,h1,by omega⟩
def rg:List Nd->Nat->Option Nat
 | [],c=>some c
 | x::r,c=>if x.k=2 then(if x.i=c then rg r (c+1)else if 0≤x.i∧x.i<c then rg r c else none)else rg r c
theorem rg_app:∀ (a b:List Nd) (c:Nat),rg (a++b) c=(rg a c).bind (rg b)
 | [],b,c=>by simp[rg]
 | x::a,b,c=>by
  simp only[List.cons_append,rg]
  split
  · split
    · exact rg_app a b _
    · split
      · exact rg_app a b _
      · rfl
  · exact rg_app a b _
theorem rg_occ:∀ {l:List Nd} {o c c':Nat},rg l c=some c'->(∀ s,c≤s->s<c'->occ s l o≠[])∧∀ s t,c≤s->s<t->t<c'->(occ s l o).headD 0<(occ t l o).headD 0
 | [],o,c,c',h=>by simp[rg]at h; subst h; exact⟨fun s h1 h2=>by omega,fun s t h1 h2 h3=>by omega⟩
 | x::r,o,c,c',h=>by
  simp only[rg]at h
  by_cases hk:x.k=2
  · rw[if_pos hk]at h
    by_cases hi:x.i=c
    · rw[if_pos hi]at h
      obtain⟨h1,h2⟩:=rg_occ (o:=o+1) h
      have e0:occ c (x::r) o=(o:Int)::occ c r (o+1):=by rw[occ]; rw[if_pos ⟨hk,by omega⟩]
      have e1:∀ s,c<s->occ s (x::r) o=occ s r (o+1):=fun s hs=>by rw[occ]; rw[if_neg]; rintro⟨_,h⟩; omega
      refine⟨fun s h3 h4 => ?_,fun s t h3 h4 h5 => ?_⟩
      · by_cases hs:s=c
        · subst hs; rw[e0]; simp
        · rw[e1 s (by omega)]; exact h1 s (by omega) h4
      · by_cases hs:s=c
        · subst hs
          rw[e0,e1 t h4]
          have hne:=h1 t (by omega) h5
          cases ho:occ t r (o+1)with
          | nil=>exact absurd ho hne
          | cons a q =>
           have:a∈occ t r (o+1):=by rw[ho]; simp
           have:=occ_lo this
           simp only[List.headD_cons]; omega
        · rw[e1 s (by omega),e1 t (by omega)]; exact h2 s t (by omega) h4 h5
    · rw[if_neg hi]at h
      by_cases hj:0≤x.i∧x.i<c
      · rw[if_pos hj]at h
        obtain⟨h1,h2⟩:=rg_occ (o:=o+1) h
        have e1:∀ s,c≤s->occ s (x::r) o=occ s r (o+1):=fun s hs=>by rw[occ]; rw[if_neg]; rintro⟨_,h⟩; omega
        exact⟨fun s h3 h4=>by rw[e1 s h3]; exact h1 s h3 h4,fun s t h3 h4 h5=>by rw[e1 s h3,e1 t (by omega)]; exact h2 s t h3 h4 h5⟩
      · rw[if_neg hj]at h; cases h
  · rw[if_neg hk]at h
    obtain⟨h1,h2⟩:=rg_occ (o:=o+1) h
    have e1:∀ s,occ s (x::r) o=occ s r (o+1):=fun s=>by rw[occ]; rw[if_neg]; rintro⟨h,_⟩; exact hk h
    exact⟨fun s h3 h4=>by rw[e1 s]; exact h1 s h3 h4,fun s t h3 h4 h5=>by rw[e1 s,e1 t]; exact h2 s t h3 h4 h5⟩
where
 occ_lo:∀ {s:Nat} {l:List Nd} {o:Nat} {a:Int},a∈occ s l o->(o:Int)≤a
  | s,[],o,a,h=>by simp[occ]at h
  | s,x::r,o,a,h=>by
   unfold occ at h
   split at h
   · rcases List.mem_cons.1 h with rfl | h
     · omega
     · have:=occ_lo h; omega
   · have:=occ_lo h; omega
def Nd.good (x:Nd) (pl:Int) (is:List (Int×Int)):Prop :=
 (x.k=1∧x.p=0∧x.i=0∧x.ps=[]∧1≤x.nx.length∧x.nx.length≤60∧x.ws.length=x.nx.length∧∀ w∈x.ws,1≤w∧w≤1000) ∨
 (x.k=2∧x.ws=[]∧x.ps=[]∧1≤x.nx.length∧x.nx.length≤10∧0≤x.p∧x.p<pl∧0≤x.i∧is[x.i.toNat]? = some (x.p,(x.nx.length:Int))) ∨
 (x.k=3∧x.p=0∧x.i=0∧x.nx=[]∧x.ws=[]∧(x.ps.length:Int)=pl∧∀ w∈x.ps,-1000000≤w∧w≤1000000)
theorem Nd.good.app {x:Nd} {pl:Int} {is:List (Int×Int)} (h:x.good pl is) (l:List (Int×Int)):x.good pl (is++l):=by
 rcases h with h | ⟨a1,a2,a3,a4,a5,a6,a7,a8,a9⟩ | h
 · exact .inl h
 · exact .inr (.inl ⟨a1,a2,a3,a4,a5,a6,a7,a8,by rw[List.getElem?_append_left (getElem?_lt a9)]; exact a9⟩)
 · exact .inr (.inr h)
theorem within_all {lo hi:Int} {l:List Int} (h:∀ w∈l,lo≤w∧w≤hi):within lo hi l=0 :=
 within_no fun j hj _=>by have:=h _ (List.getElem_mem hj); simp only[outR,Bool.or_eq_false_iff,decide_eq_false_iff_not]; omega
theorem Nd.good.err {x:Nd} {g:Gm} (h:x.good g.pl g.is):x.err g=0:=by
 rcases h with ⟨a1,a2,a3,a4,a5,a6,a7,a8⟩ | ⟨a1,a2,a3,a4,a5,a6,a7,a8,a9⟩ | ⟨a1,a2,a3,a4,a5,a6,a7⟩
 · unfold Nd.err
   rw[if_neg (by omega),if_pos a1]
   unfold Nd.chance
   rw[if_neg (by rw[a4]; simp only[List.length_nil]; omega),within_all a8]
 · have:=getElem?_lt a9
   unfold Nd.err
   rw[if_neg (by omega),if_neg (by omega),if_pos a1]
   unfold Nd.move
   rw[if_neg (by rw[a2,a3]; simp only[List.length_nil]; omega),within1,within1,if_neg (by omega),if_neg (by omega)]
 · unfold Nd.err
   rw[if_neg (by omega),if_neg (by omega),if_neg (by omega)]
   unfold Nd.end
   rw[if_neg (by rw[a4,a5]; simp only[List.length_nil]; omega),within_all a7]
theorem nodesE_all {g:Gm}:∀ {l:List Nd},(∀ x∈l,x.err g=0)->nodesE g l=0
 | [],_=>rfl
 | x::r,h=>by
  unfold nodesE
  rw[if_pos (h x (by simp))]
  exact nodesE_all fun y hy=>h y (by simp[hy])
theorem made_ok {g:Gm} {h:Nat} (p1:1≤g.pl) (p4:g.pl≤4) (n1:1≤g.ns.length) (n2:g.ns.length≤2000) (i2:g.is.length≤200) (hw:Wlk 0 h g.ns) (hh:h≤40)
 (hx:∀ x∈g.ns,x.good g.pl g.is) (hr:rg g.ns 0=some g.is.length):g.formE=0:=by
 rw[form_eq]
 unfold Gm.formR
 rw[if_neg (by unfold Gm.rng; omega),nodesE_all fun x h=>(hx x h).err]
 obtain⟨m,h1,h2⟩:=hw [] [] (g.ns.length+1) 0 0 rfl (by omega)
 simp only[List.nil_append,List.append_nil,Nat.zero_add]at h1
 have e:g.wr=(some g.ns.length,m):=h1
 rw[if_neg (by simp),e,if_neg (by simp),if_neg (by simp only; omega)]
 unfold Gm.setsR
 obtain⟨h3,h4⟩:=rg_occ (o:=0) hr
 have hs:∀ k,k<g.sets.length->g.sets.getD k []=occ k g.ns 0:=fun k hk=>sets_at (by rw[←sets_len]; exact hk)
 rw[if_neg,if_neg,if_pos]
 · intro k hk
   have hl:k+1<g.sets.length:=by omega
   rw[hs k (by omega),hs (k+1) hl]
   have:=h4 k (k+1) (by omega) (by omega) (by rw[←sets_len]; exact hl)
   rw[←sets_len]at h3
   have a:=h3 k (by omega) (by omega)
   have b:=h3 (k+1) (by omega) hl
   cases ha:occ k g.ns 0 with
   | nil=>exact absurd ha a
   | cons u l =>
    cases hb:occ (k+1) g.ns 0 with
    | nil=>exact absurd hb b
    | cons v l'=>rw[ha,hb]at this; simp at this ⊢; omega
 · intro hm
   obtain⟨k,hk,e⟩:=List.getElem_of_mem hm
   have:=hs k hk
   rw[List.getD_eq_getElem?_getD,List.getElem?_eq_getElem hk,Option.getD_some,e]at this
   exact h3 k (by omega) (by rw[←sets_len]; exact hk) this.symm
 · rintro⟨x,hxm,hk,hne⟩
   rcases hx x hxm with h | h | h
   · omega
   · exact hne h.2.2.2.2.2.2.2.2
   · omega
end Go.Proofs.Ytogjmpkehjfecaa.Rc
namespace Go.Proofs.Ytogjmpkehjfecaa.Rc
open Go.Ab
theorem objCells_hit {H:List AO} {j:Nat} (hj:j<H.length) (c:List SV) (T:TypeId) (v:Nat):objCells (H.set j ⟨c,T,v,true⟩) j v=c:=by
 unfold objCells; rw[List.getElem?_set_self hj]; simp
section
variable {H G:List AO}
theorem ok12 (x n:Int) (hn:0<n) (hn2:n≤9223372036854775807):Ok Try.prog 12 [i64 x,i64 n] H (.ret (i64 (x % n))) H:=by
 refine ok_fn hm Try.func12 c12 (by simp) fun hcl => ?_
 simp -implicitDefEqProofs[i12,r12]
 refine⟨by omega,?_⟩
 have h1:=Int.tmod_lt_of_pos x hn
 have h2:=Int.lt_tmod_of_pos x hn
 have h3:=Int.emod_nonneg x (show n≠0 by omega)
 have h4:=Int.emod_lt_of_pos x hn
 have h5:=Int.tmod_eq_emod (a:=x) (b:=n)
 have h6:(n.natAbs:Int)=n:=by omega
 split
 · have:IntKind.i64.wrap (x.tmod n+n)=x % n:=by
    rw[wrap_id (by omega) (by omega)]
    split at h5<;>omega
   rw[this]; exact cv_id
 · have:x.tmod n=x % n:=by split at h5<;>omega
   rw[this]; exact cv_id
theorem ok34 {l:List Int} {at' n:Int} {jd:Nat} (h:G[jd]? = some ⟨[.slc (ints l) l.length,i64 at'],78,0,true⟩) (hl:l.length<4611686018427387904) (h0:0≤at') (hn:n≤9223372036854775807) :
 OkP Try.prog 34 [.ptr (.own jd 0 0 0 0) 0,i64 n] G fun o G'=>∃ v a:Int,o=.ret (i64 v)∧0≤a∧0≤v∧(1≤n->v<n)∧G'=G.set jd ⟨[.slc (ints l) l.length,i64 a],78,0,true⟩:=by
 refine okP_fn hm Try.func34 c34 (by simp) fun hcl => ?_
 have e:=objCells_of h rfl
 have hj:=getElem?_lt h
 simp only at e
 simp -implicitDefEqProofs[i34,r34,e,setObj_some h,objCells_hit hj]
 split
 · refine⟨_,_,⟨0,rfl,at',h0,by omega,fun _=>by omega,?_⟩,cv_id⟩
   exact(List.ext_getElem? fun i=>by
    rw[List.getElem?_set]; split
    · rename_i e; subst e; rw[h]
    · rfl).symm
 · rename_i hc
   have w1:IntKind.i64.wrap (at'+1)=at'+1:=wrap_id (by omega) (by omega)
   have w2:IntKind.i64.wrap (at'+1-1)=at':=by rw[wrap_id (by omega) (by omega)]; omega
   have hlt:at'.toNat<l.length:=by omega
   rw[w1,w2]
   refine⟨by omega,by omega,?_⟩
   simp -implicitDefEqProofs[ints_get hlt]
   refine callq_go (fun _=>ok12 _ n (by omega) hn) ?_
   simp -implicitDefEqProofs
   refine⟨_,_,⟨_,rfl,at'+1,by omega,Int.emod_nonneg _ (by omega),fun _=>Int.emod_lt_of_pos _ (by omega),rfl⟩,cv_id⟩
end
end Go.Proofs.Ytogjmpkehjfecaa.Rc
namespace Go.Proofs.Ytogjmpkehjfecaa.Rc
open Go.Ab
structure Vw where
 pl:Int
 lv:Int
 sn:List Int
 inf:Int
def Vw.cells (v:Vw):List SV:=[i64 v.pl,i64 v.lv,.slc (ints v.sn) v.sn.length,i64 v.inf]
def Nd.cN (x:Nd):List SV:=[i64 x.k,i64 x.p,i64 x.i,slN x.nx,slN x.ws,slN x.ps]
def icN (x:Int×Int):List SV:=[i64 x.1,i64 x.2]
def lcN (x:Int×Int×Int):List SV:=[i64 x.1,i64 x.2.1,i64 x.2.2]
theorem Vw.len (v:Vw):v.cells.length=4:=rfl
theorem Nd.lenN (v:Nd):v.cN.length=6:=rfl
theorem icN_len (v:Int×Int):(icN v).length=2:=rfl
theorem lcN_len (v:Int×Int×Int):(lcN v).length=3:=rfl
structure Mc where
 l:List Int
 lv:List (Int×Int×Int)
 vl:Nat
 most:Int
 zero:Bool
 pl:Int
structure Ms where
 at':Int
 pend:Int
 vn:Nat
 vi:Nat
 vv:Nat
 ns:List Nd
 is:List (Int×Int)
 vs:List Vw
section
variable (a:Nat) (c:Mc) (s:Ms)
def Mc.D:AO:=⟨[.slc (ints c.l) c.l.length,i64 s.at'],78,0,true⟩
def Mc.M:AO:=⟨[.ptr (.own a 0 0 0 0) 0,.own (a+2) 0 c.lv.length 3 c.vl,.own (a+3) 0 s.vs.length 4 s.vv,i64 c.most,i64 s.pend,bl c.zero,bl false,i64 c.pl,.own (a+4) 0 s.ns.length 6 s.vn,.own (a+5) 0 s.is.length 2 s.vi],82,0,true⟩
def Mc.L:AO:=⟨rws lcN c.lv,85,c.vl,true⟩
def Mc.V:AO:=⟨rws Vw.cells s.vs,122,s.vv,true⟩
def Mc.N:AO:=⟨rws Nd.cN s.ns,59,s.vn,true⟩
def Mc.I:AO:=⟨rws icN s.is,45,s.vi,true⟩
end
def Mc.hp (c:Mc) (A B:List AO) (s:Ms):List AO:=A++(c.D s::c.M A.length s::c.L::Mc.V s::Mc.N s::Mc.I s::B)
section
variable {A B:List AO} {c:Mc} {s:Ms}
def nextP (c:Mc) (A B:List AO) (s:Ms) (n:Int) (o:Out) (G':List AO):Prop:=∃ v a:Int,o=.ret (i64 v)∧0≤a∧0≤v∧(1≤n->v<n)∧G'=c.hp A B { s with at':=a }
theorem ok34m {n:Int} (hl:c.l.length<4611686018427387904) (h0:0≤s.at') (hn:n≤9223372036854775807) :
 OkP Try.prog 34 [.ptr (.own A.length 0 0 0 0) 0,i64 n] (c.hp A B s) (nextP c A B s n):=by
 refine(ok34 (l:=c.l) (at':=s.at') (by simp[Mc.hp,Mc.D]) hl h0 hn).mono ?_
 rintro o G' ⟨v,a,h1,h2,h3,h4,h5⟩
 refine⟨v,a,h1,h2,h3,h4,?_⟩
 rw[h5]
 simp[Mc.hp,Mc.D,Mc.M,Mc.V,Mc.N,Mc.I]
set_option maxRecDepth 10000 in
theorem loop74 {pl lv:Int} {sn:List Int} {N:Nat} {K:XE->Env->List AO->Prop} (hv:s.vs.length<1000000) (hsl:∀ v∈s.vs,v.sn.length≤100)
 (hret:∀ i (h:i<s.vs.length),s.vs[i].pl=pl->s.vs[i].lv=lv->s.vs[i].sn=sn->∀ env B' L,B'=B++L->env.get 8=i64 s.vs[i].inf->K .ret env (c.hp A B' s))
 (hexit:(∀ v∈s.vs,¬ (v.pl=pl∧v.lv=lv∧v.sn=sn))->∀ env B' L,B'=B++L->env.get 0=.ptr (.own (A.length+1) 0 0 0 0) 0->env.get 1=i64 pl->env.get 2=i64 lv->env.get 3=.slc (ints sn) sn.length->K (.exit 0) env (c.hp A B' s)) :
 ∀ (n i:Nat) (env:Env) (B' L:List AO),B'=B++L->i+n=s.vs.length->(∀ j (h:j<s.vs.length),j<i->¬ (s.vs[j].pl=pl∧s.vs[j].lv=lv∧s.vs[j].sn=sn))->env.get 0=.ptr (.own (A.length+1) 0 0 0 0) 0->env.get 1=i64 pl->env.get 2=i64 lv->env.get 3=.slc (ints sn) sn.length->env.get 9=i64 i →
  LI Try.prog N drawB l60_0 env (c.hp A B' s) K:=by
 intro n
 induction n with
 | zero =>
  intro i env B' L hB hi hj h0 h1 h2 h3 h9
  refine li_go hm l60_0.eq_1 ?_
  have e:i=s.vs.length:=by omega
  subst e
  simp -implicitDefEqProofs[h0,h1,h2,h3,h9,Mc.hp,Mc.M]
  exact hexit (fun v hv'=>by obtain⟨j,hj',rfl⟩:=List.getElem_of_mem hv'; exact hj j hj' hj') _ B' L hB (by simp[h0]) (by simp[h1]) (by simp[h2]) (by simp[h3])
 | succ n ih =>
  intro i env B' L hB hi hj h0 h1 h2 h3 h9
  refine li_go hm l60_0.eq_1 ?_
  have hlt:i<s.vs.length:=by omega
  have d:=rws_at Vw.len hlt
  have d1:=rws_ge Vw.len hlt
  have d2:=rws_min Vw.len hlt
  rw[Vw.cells,List.cons_append,List.cons_append,List.cons_append,List.cons_append,List.nil_append]at d
  have w1:IntKind.i64.wrap ((i:Int)+1)=((i+1:Nat):Int):=wrap_succ (by omega)
  have hgo:∀ env' x,¬ (s.vs[i].pl=pl∧s.vs[i].lv=lv∧s.vs[i].sn=sn)->env'.get 0=.ptr (.own (A.length+1) 0 0 0 0) 0->env'.get 1=i64 pl->env'.get 2=i64 lv->env'.get 3=.slc (ints sn) sn.length->env'.get 9=i64 ((i+1:Nat):Int) →
   LI Try.prog N drawB l60_0 env' (c.hp A (B'++[x]) s) K:=fun env' x hne g0 g1 g2 g3 g9=>ih (i+1) env' (B'++[x]) (L++[x]) (by simp[hB]) (by omega) (fun j h h'=>by
   by_cases e:j=i
   · subst e; exact hne
   · exact hj j h (by omega)) g0 g1 g2 g3 g9
  have hsn:=hsl _ (List.getElem_mem hlt)
  by_cases hp:s.vs[i].pl=pl
  · by_cases hq:s.vs[i].lv=lv
    · simp -implicitDefEqProofs[h0,h1,h2,h3,h9,hlt,Mc.hp,Mc.M,Mc.V,d,d1,d2,hp,hq]
      refine callq_st (fun _=>by simp only[List.map_cons,List.map_nil,SV.strip]; exact ok48 (l:=s.vs[i].sn) (m:=sn) (isc _ _) (isc _ _) (by omega)) ?_
      by_cases he:s.vs[i].sn=sn
      · simp -implicitDefEqProofs[hlt,d,d1,d2,hp,hq,he]
        have:=hret i hlt hp hq he
        refine this _ (B'++[_]) (L++[_]) (by rw[hB,List.append_assoc]) ?_; simp
      · simp -implicitDefEqProofs[hlt,d,d1,d2,hp,hq,he]
        refine hgo _ _ (fun h=>he h.2.2) ?_ ?_ ?_ ?_ ?_<;>simp[h0,h1,h2,h3,w1]
    · simp -implicitDefEqProofs[h0,h1,h2,h3,h9,hlt,Mc.hp,Mc.M,Mc.V,d,d1,d2,hp,hq]
      refine callq_off _ _ _ _ ?_
      simp -implicitDefEqProofs[hlt,d,d1,d2,hp,hq]
      refine hgo _ _ (fun h=>hq h.2.1) ?_ ?_ ?_ ?_ ?_<;>simp[h0,h1,h2,h3,w1]
  · simp -implicitDefEqProofs[h0,h1,h2,h3,h9,hlt,Mc.hp,Mc.M,Mc.V,d,d1,d2,hp]
    refine callq_off _ _ _ _ ?_
    simp -implicitDefEqProofs[hlt,d,d1,d2,hp]
    refine hgo _ _ (fun h=>hp h.1) ?_ ?_ ?_ ?_ ?_<;>simp[h0,h1,h2,h3,w1]
def Ms.addV (s:Ms) (pl lv:Int) (sn:List Int) (k:Int) (a:Int):Ms :=
 { s with at':=a,vs:=s.vs++[⟨pl,lv,sn,s.is.length⟩],vv:=s.vv+1,is:=s.is++[(pl,k)],vi:=s.vi+1 }
theorem slN_under (n:Nat) (l:List Int):(slN l).under n=true:=by unfold slN; split; rfl; simp only[sl,SV.under]; exact underL_ints n l
theorem hp_len:(c.hp A B s).length=A.length+(B.length+6):=by simp[Mc.hp]
theorem closed_hp {s':Ms} (h:closed (c.hp A B s)):closed (c.hp A B s'):=by
 intro i o ho x hx
 have hl:(c.hp A B s').length=(c.hp A B s).length:=by rw[hp_len,hp_len]
 by_cases h1:i<A.length
 · have e:(c.hp A B s)[i]? = some o:=by
    unfold Mc.hp at ho ⊢; rw[List.getElem?_append_left h1]at ho ⊢; exact ho
   rw[hl]; exact h i o e x hx
 · by_cases h2:A.length+6≤i
   · have e:(c.hp A B s)[i]? = some o:=by
      unfold Mc.hp at ho ⊢
      obtain⟨k,rfl⟩:∃ k,i=A.length+(k+6):=⟨i-A.length-6,by omega⟩
      rw[List.getElem?_append_right (by omega)]at ho ⊢
      simpa using ho
     rw[hl]; exact h i o e x hx
   · obtain⟨k,rfl⟩:∃ k,i=A.length+k:=⟨i-A.length,by omega⟩
     unfold Mc.hp at ho
     rw[List.getElem?_append_right (by omega)]at ho
     have hk:k<6:=by omega
     rw[hp_len]
     have e:A.length+k-A.length=k:=by omega
     rw[e]at ho
     have key:∀ l:List SV,SV.underL (A.length+(B.length+6)) l=true->x∈l->x.under (A.length+(B.length+6))=true:=fun l h1 h2=>(SV.underL_iff _ _).1 h1 x h2
     match k,hk with
     | 0,_=>simp at ho; subst ho; exact key _ (by simp[Mc.D,SV.underL,SV.under]) hx
     | 1,_=>simp at ho; subst ho; exact key _ (by simp[Mc.M,SV.underL,SV.under]) hx
     | 2,_=>simp at ho; subst ho; exact key _ (rws_under (fun x=>by simp[lcN,SV.underL,SV.under]) _) hx
     | 3,_=>simp at ho; subst ho; exact key _ (rws_under (fun x=>by simp[Vw.cells,SV.underL,SV.under]) _) hx
     | 4,_=>simp at ho; subst ho; exact key _ (rws_under (fun x=>by simp[Nd.cN,SV.underL,SV.under,slN_under]) _) hx
     | 5,_=>simp at ho; subst ho; exact key _ (rws_under (fun x=>by simp[icN,SV.underL,SV.under]) _) hx
theorem hp_fin {s':Ms} (h:closed (c.hp A B s)) {B' L:List AO} (hB:B'=B++L) {r r':SV} (hr:r.fz (c.hp A B s').length [] L 2=r'):Cv (c.hp A B s).length r (c.hp A B' s') r' (c.hp A B s'):=by
 subst hB
 have e:c.hp A (B++L) s'=c.hp A B s'++L:=by simp[Mc.hp]
 rw[e]
 exact cv_fz 2 (closed_hp h) (by rw[hp_len,hp_len]) hr
def findP (c:Mc) (A B:List AO) (s:Ms) (pl lv:Int) (sn:List Int) (o:Out) (G':List AO):Prop :=
 (∃ i,∃ h:i<s.vs.length,s.vs[i].pl=pl∧s.vs[i].lv=lv∧s.vs[i].sn=sn∧o=.ret (i64 s.vs[i].inf)∧G'=c.hp A B s) ∨
 (∃ k a:Int,(∀ v∈s.vs,¬ (v.pl=pl∧v.lv=lv∧v.sn=sn))∧1≤k∧k≤3∧0≤a∧o=.ret (i64 s.is.length)∧G'=c.hp A B (s.addV pl lv sn k a))
set_option maxRecDepth 10000 in
theorem ok60 {pl lv:Int} {sn:List Int} (hl:c.l.length<4611686018427387904) (h0:0≤s.at') (hv:s.vs.length<1000000) (hi:s.is.length<1000000) (hsl:∀ v∈s.vs,v.sn.length≤100) :
 OkP Try.prog 60 [.ptr (.own (A.length+1) 0 0 0 0) 0,i64 pl,i64 lv,.slc (ints sn) sn.length] (c.hp A B s) (findP c A B s pl lv sn):=by
 refine okP_fn hm Try.func60 c60 (by simp) fun hcl => ?_
 simp -implicitDefEqProofs[i60,r60]
 refine loop74 (B:=B) (pl:=pl) (lv:=lv) (sn:=sn) hv hsl (fun i h e1 e2 e3 env B' L hB h8 => ?_) (fun hno env B' L hB g0 g1 g2 g3 => ?_) s.vs.length 0 _ B [] (by simp) (by omega) (fun j h h'=>by omega) (by simp) (by simp) (by simp) (by simp) (by simp)
 · simp -implicitDefEqProofs[h8]
   exact⟨_,_,.inl ⟨i,h,e1,e2,e3,rfl,rfl⟩,hp_fin hcl hB (fz_i64 _ _ _ _ _)⟩
 · simp -implicitDefEqProofs[g0,g1,g2,g3,Mc.hp,Mc.D,Mc.L,Mc.M,Mc.V,Mc.N,Mc.I,rws_len Vw.len]
   refine⟨by omega,by omega,?_⟩
   have h59:=ok34m (A:=A) (c:=c) (B:=B'++[⟨[i64 pl,i64 lv,SV.slc (ints sn) sn.length,i64 s.is.length],122,0,true⟩]) (n:=3) (s:={ s with vs:=s.vs++[⟨pl,lv,sn,s.is.length⟩],vv:=s.vv+1 }) hl h0 (by omega)
   refine call_goP (by simpa[Mc.hp,Mc.D,Mc.L,Mc.M,Mc.V,Mc.N,Mc.I,rws_app,rws,Vw.cells]using h59) ?_
   rintro o G' ⟨v,a,rfl,h1,h2,h3,rfl⟩
   have w1:IntKind.i64.wrap (1+v)=1+v:=wrap_id (by omega) (by omega)
   have w2:IntKind.i64.wrap (s.is.length:Int)=s.is.length:=wrap_nat (by omega)
   simp -implicitDefEqProofs[g0,g1,g2,g3,Mc.hp,Mc.D,Mc.L,Mc.M,Mc.V,Mc.N,Mc.I,rws_len icN_len,w1,w2]
   refine⟨by omega,by omega,_,_,.inr ⟨1+v,a,hno,by omega,by omega,h1,rfl,rfl⟩,?_⟩
   have hf:=hp_fin (s':=s.addV pl lv sn (1+v) a) hcl (B':=B'++[⟨[i64 pl,i64 lv,SV.slc (ints sn) sn.length,i64 s.is.length],122,0,true⟩,⟨[i64 pl,i64 (1+v)],45,0,true⟩]) (L:=L++_) (by rw[hB,List.append_assoc]) (r:=i64 s.is.length) (fz_i64 _ _ _ _ _)
   simpa[Ms.addV,Mc.hp,Mc.D,Mc.L,Mc.M,Mc.V,Mc.N,Mc.I,rws_app,rws,Vw.cells,icN]using hf
end
end Go.Proofs.Ytogjmpkehjfecaa.Rc
namespace Go.Proofs.Ytogjmpkehjfecaa.Rc
open Go.Ab
section
variable {A B:List AO} {c:Mc} {s:Ms}
set_option maxRecDepth 10000 in
theorem loop75 {info:Int} {N:Nat} {K:XE->Env->List AO->Prop} (hn:s.ns.length<1000000)
 (hret:(∃ x∈s.ns,x.k=2∧x.i=info)->∀ env,K .ret env (c.hp A B s))
 (hexit:(∀ x∈s.ns,¬ (x.k=2∧x.i=info))->∀ env,env.get 0=.ptr (.own (A.length+1) 0 0 0 0) 0->env.get 1=i64 info->K (.exit 0) env (c.hp A B s)) :
 ∀ (n i:Nat) (env:Env),i+n=s.ns.length->(∀ j (h:j<s.ns.length),j<i->¬ (s.ns[j].k=2∧s.ns[j].i=info))->env.get 0=.ptr (.own (A.length+1) 0 0 0 0) 0->env.get 1=i64 info->env.get 6=i64 i →
  LI Try.prog N drawB l61_0 env (c.hp A B s) K:=by
 intro n
 induction n with
 | zero =>
  intro i env hi hj h0 h1 h6
  refine li_go hm l61_0.eq_1 ?_
  have e:i=s.ns.length:=by omega
  subst e
  simp -implicitDefEqProofs[h0,h1,h6,Mc.hp,Mc.M]
  exact hexit (fun x hx=>by obtain⟨j,hj',rfl⟩:=List.getElem_of_mem hx; exact hj j hj' hj') _ (by simp[h0]) (by simp[h1])
 | succ n ih =>
  intro i env hi hj h0 h1 h6
  refine li_go hm l61_0.eq_1 ?_
  have hlt:i<s.ns.length:=by omega
  have d:=rws_at Nd.lenN hlt
  have d1:=rws_ge Nd.lenN hlt
  rw[Nd.cN]at d
  simp only[List.cons_append,List.nil_append]at d
  have d3:=rws_get Nd.lenN (t:=0) hlt (by omega)
  have d4:=rws_get Nd.lenN (t:=2) hlt (by omega)
  simp only[Nd.cN,List.getElem?_cons_zero,List.getElem?_cons_succ,Nat.add_zero]at d3 d4
  have w1:IntKind.i64.wrap ((i:Int)+1)=((i+1:Nat):Int):=wrap_succ (by omega)
  by_cases hp:s.ns[i].k=2
  · by_cases hq:s.ns[i].i=info
    · simp -implicitDefEqProofs[h0,h1,h6,hlt,Mc.hp,Mc.M,Mc.N,d,d1,d3,d4,hp,hq]
      refine⟨by omega,?_⟩
      exact hret ⟨_,List.getElem_mem hlt,hp,hq⟩ _
    · simp -implicitDefEqProofs[h0,h1,h6,hlt,Mc.hp,Mc.M,Mc.N,d,d1,d3,d4,hp,hq]
      refine⟨by omega,?_⟩
      refine ih (i+1) _ (by omega) (fun j h h' => ?_) ?_ ?_ ?_
      · by_cases e:j=i
        · subst e; simp[hq]
        · exact hj j h (by omega)
      all_goals simp[h0,h1,w1]
  · simp -implicitDefEqProofs[h0,h1,h6,hlt,Mc.hp,Mc.M,Mc.N,d,d1,d3,d4,hp]
    refine ih (i+1) _ (by omega) (fun j h h' => ?_) ?_ ?_ ?_
    · by_cases e:j=i
      · subst e; simp[hp]
      · exact hj j h (by omega)
    all_goals simp[h0,h1,w1]
def Ms.cut (s:Ms):Ms:={ s with is:=s.is.take (s.is.length-1),vs:=s.vs.take (s.vs.length-1) }
def dropP (c:Mc) (A B:List AO) (s:Ms) (info pl:Int) (o:Out) (G':List AO):Prop :=
 o=.ret (.tup [])∧(((pl<0∨info≠s.is.length-1∨∃ x∈s.ns,x.k=2∧x.i=info)∧G'=c.hp A B s) ∨
  (0≤pl∧info=s.is.length-1∧(∀ x∈s.ns,¬ (x.k=2∧x.i=info))∧G'=c.hp A B s.cut))
set_option maxRecDepth 10000 in
theorem ok61 {info pl:Int} (hn:s.ns.length<1000000) (hi:s.is.length<1000000) (hi1:0≤pl->1≤s.is.length) (hv:s.vs.length=s.is.length) :
 OkP Try.prog 61 [.ptr (.own (A.length+1) 0 0 0 0) 0,i64 info,i64 pl] (c.hp A B s) (dropP c A B s info pl):=by
 refine okP_fn hm Try.func61 c61 (by simp) fun hcl => ?_
 have w1:IntKind.i64.wrap ((s.is.length:Int)-1)=s.is.length-1:=wrap_id (by omega) (by omega)
 by_cases hp:pl<0
 · simp -implicitDefEqProofs[i61,r61,hp]
   exact⟨_,_,⟨rfl,.inl ⟨.inl hp,rfl⟩⟩,cv_id⟩
 · by_cases hq:info=s.is.length-1
   · have ha:c.hp A B s=A++(c.D s::c.M A.length s::c.L::Mc.V s::Mc.N s::Mc.I s::B):=rfl
     rw[ha]
     simp -implicitDefEqProofs[i61,r61,hp,Mc.M,w1,hq]
     rw[←hq]
     refine loop75 (A:=A) (B:=B) (c:=c) (s:=s) (info:=info) hn (fun hx env => ?_) (fun hx env g0 g1 => ?_) s.ns.length 0 _ (by omega) (fun j h h'=>by omega) (by simp) (by simp) (by simp)
     · simp -implicitDefEqProofs
       exact⟨_,_,⟨rfl,.inl ⟨.inr (.inr hx),rfl⟩⟩,cv_id⟩
     · simp -implicitDefEqProofs[g0,g1,Mc.hp,Mc.M,hq,w1,hv,rws_len]
       refine⟨by omega,_,_,⟨rfl,.inr ⟨by omega,rfl,by rw[←hq]; exact hx,rfl⟩⟩,?_⟩
       have e1:=cv_trunc (n0:=A.length+(B.length+6)) (r:=.tup []) (H:=A++(c.D s::c.M A.length s.cut::c.L::Mc.V s::Mc.N s::Mc.I s::B)) (j:=A.length+3) (o:=Mc.V s) (by simp) (by rw[List.getElem?_append_right (by omega)]; simp) rfl ((s.vs.length-1)*4)
       have e2:=cv_trunc (n0:=A.length+(B.length+6)) (r:=.tup []) (H:=A++(c.D s::c.M A.length s.cut::c.L::Mc.V s.cut::Mc.N s::Mc.I s::B)) (j:=A.length+5) (o:=Mc.I s) (by simp) (by rw[List.getElem?_append_right (by omega)]; simp) rfl ((s.is.length-1)*2)
       have t1:=rws_take Vw.len s.vs (s.vs.length-1) (by omega)
       have t2:=rws_take icN_len s.is (s.is.length-1) (by omega)
       have m1:min (s.vs.length-1) s.vs.length=s.vs.length-1:=by omega
       have m2:min (s.is.length-1) s.is.length=s.is.length-1:=by omega
       have e3:=Cv.trans (r2:=.tup []) (r3:=.tup []) (by simpa[Mc.hp,Mc.M,Mc.V,Mc.N,Mc.I,Mc.D,Ms.cut,t1,t2,m1,m2]using e1) (by simpa[Mc.hp,Mc.M,Mc.V,Mc.N,Mc.I,Mc.D,Ms.cut,t1,t2,m1,m2]using e2)
       simpa[Mc.hp,Mc.M,Mc.V,Mc.N,Mc.I,Mc.D,Ms.cut,t1,t2,m1,m2,hv]using e3
   · have ha:c.hp A B s=A++(c.D s::c.M A.length s::c.L::Mc.V s::Mc.N s::Mc.I s::B):=rfl
     rw[ha]
     simp -implicitDefEqProofs[i61,r61,hp,Mc.M,w1,hq]
     exact⟨_,_,⟨rfl,.inl ⟨.inr (.inl hq),rfl⟩⟩,cv_id⟩
end
end Go.Proofs.Ytogjmpkehjfecaa.Rc
namespace Go.Proofs.Ytogjmpkehjfecaa.Rc
open Go.Ab
section
variable {A B:List AO} {c:Mc} {s:Ms}
def endX (A B:List AO) (ps:List Int):AO:=⟨[i64 3,i64 0,i64 0,.val (.slice none 0 0),.val (.slice none 0 0),.own (A.length+(B.length+7)) 0 ps.length 1 ps.length],59,0,true⟩
def endP (ps:List Int):AO:=⟨ints ps,3,ps.length,true⟩
set_option maxRecDepth 10000 in
theorem loop73 {np:Nat} {at':Int} {N:Nat} {K:XE->Env->List AO->Prop} (hl:c.l.length<4611686018427387904) (hp:c.pl=np) (hnp:np≤1000)
 (hexit:∀ env ps L a,ps.length=np->(∀ w∈ps,-3≤w∧w≤3)->0≤a->env.get 0=.ptr (.own (A.length+1) 0 0 0 0) 0->env.get 1=i64 at'->env.get 4=.ptr (.own (A.length+(B.length+6)) 0 0 0 0) 0 →
  K (.exit 0) env (c.hp A (B++endX A B ps::endP ps::L) { s with at':=a })) :
 ∀ (n:Nat) (env:Env) (ps:List Int) (L:List AO) (a:Int),ps.length+n=np->(∀ w∈ps,-3≤w∧w≤3)->0≤a->env.get 0=.ptr (.own (A.length+1) 0 0 0 0) 0->env.get 1=i64 at'->env.get 4=.ptr (.own (A.length+(B.length+6)) 0 0 0 0) 0->env.get 5=i64 ps.length →
  LI Try.prog N drawB l59_0 env (c.hp A (B++endX A B ps::endP ps::L) { s with at':=a }) K:=by
 intro n
 induction n with
 | zero =>
  intro env ps L a hn hw ha h0 h1 h4 h5
  refine li_go hm l59_0.eq_1 ?_
  have e:ps.length=np:=by omega
  simp -implicitDefEqProofs[h0,h1,h4,h5,Mc.hp,Mc.M,show ¬ ((ps.length:Int)<c.pl)by omega]
  refine hexit _ ps L a e hw ha ?_ ?_ ?_<;>simp[h0,h1,h4]
 | succ n ih =>
  intro env ps L a hn hw ha h0 h1 h4 h5
  refine li_go hm l59_0.eq_1 ?_
  have hlt:ps.length<np:=by omega
  simp -implicitDefEqProofs[h0,h1,h4,h5,Mc.hp,Mc.M,show(ps.length:Int)<c.pl by omega,endX,endP]
  have h59:=ok34m (A:=A) (c:=c) (B:=B++endX A B ps::endP ps::L) (n:=7) (s:={ s with at':=a }) hl ha (by omega)
  refine call_goP (by simpa[Mc.hp,Mc.D,Mc.L,Mc.M,Mc.V,Mc.N,Mc.I,endX,endP]using h59) ?_
  rintro o G' ⟨v,a',rfl,h1',h2,h3,rfl⟩
  have w1:IntKind.i64.wrap (v-3)=v-3:=wrap_id (by omega) (by omega)
  have w2:IntKind.i64.wrap ((ps.length:Int)+1)=((ps.length+1:Nat):Int):=wrap_succ (by omega)
  simp -implicitDefEqProofs[h0,h1,h4,h5,Mc.hp,Mc.D,Mc.L,Mc.M,Mc.V,Mc.N,Mc.I,endX,endP,w1]
  refine⟨by omega,by omega,?_⟩
  refine LI.cong (H':=c.hp A (B++endX A B (ps++[v-3])::endP (ps++[v-3])::(L++[⟨[i64 (v-3)],3,0,true⟩])) { s with at':=a' }) (by simp[Mc.hp,Mc.D,Mc.L,Mc.M,Mc.V,Mc.N,Mc.I,endX,endP,show ints (ps++[v-3])=ints ps++[i64 (v-3)]by simp[ints]]) (ih _ _ _ _ (by simp; omega) ?_ h1' ?_ ?_ ?_ ?_)
  · intro w hw'
    rcases List.mem_append.1 hw' with h | h
    · exact hw w h
    · simp at h; omega
  all_goals simp[h0,h1,h4,w2]
theorem hp_setN (n:AO):(c.hp A B s).set (A.length+4) n=A++(c.D s::c.M A.length s::c.L::Mc.V s::n::Mc.I s::B):=by
 unfold Mc.hp; rw[List.set_append_right _ _ (by omega)]; simp
theorem cN_cells (x:Nd):cellsOk x.cN:=by
 intro y hy
 have hs:∀ l:List Int,(slN l).isCell=true:=fun l=>by unfold slN; split<;>rfl
 simp only[Nd.cN,List.mem_cons,List.not_mem_nil,or_false]at hy
 rcases hy with rfl | rfl | rfl | rfl | rfl | rfl
 · rfl
 · rfl
 · rfl
 · exact hs _
 · exact hs _
 · exact hs _
theorem cN_under (n:Nat) (x:Nd):SV.underL n x.cN=true:=by simp[Nd.cN,SV.underL,SV.under,slN_under]
theorem fin_node {n0 k:Nat} {L:List AO} {r:SV} {x:Nd} {cx:List SV} (hcl:closed (c.hp A B s)) (hn:n0≤A.length+(B.length+6)) (hk:k<s.ns.length) (hx:cx.map (SV.fz (A.length+(B.length+6)) [] L 2)=x.cN) :
 Cv n0 r (A++(c.D s::c.M A.length s::c.L::Mc.V s::⟨(rws Nd.cN s.ns).take (k*6)++(cx++(rws Nd.cN s.ns).drop (k*6+6)),59,s.vn,true⟩::Mc.I s::(B++L))) (r.fz (A.length+(B.length+6)) [] L 2) (c.hp A B { s with ns:=s.ns.set k x }):=by
 have hu0:=rws_under (cN_under (A.length+(B.length+6))) s.ns
 have hm:∀ l:List SV,(∀ y∈l,y∈rws Nd.cN s.ns)->l.map (SV.fz (A.length+(B.length+6)) [] L 2)=l:=by
  intro l hl
  exact map_fz_under _ [] L 1 ((SV.underL_iff _ _).2 fun y hy=>(SV.underL_iff _ _).1 hu0 y (hl y hy))
 have hc:((rws Nd.cN s.ns).take (k*6)++(cx++(rws Nd.cN s.ns).drop (k*6+6))).map (SV.fz (A.length+(B.length+6)) [] L 2)=rws Nd.cN (s.ns.set k x):=by
  rw[List.map_append,List.map_append,hx,hm _ (fun y hy=>List.mem_of_mem_take hy),hm _ (fun y hy=>List.mem_of_mem_drop hy),rws_set Nd.lenN hk]
 have hlen:((c.hp A B s).set (A.length+4) ⟨(rws Nd.cN s.ns).take (k*6)++(cx++(rws Nd.cN s.ns).drop (k*6+6)),59,s.vn,true⟩).length=A.length+(B.length+6):=by rw[List.length_set,hp_len]
 have hz:=Refz.one (L:=L) (ks:=[]) (d:=2) (j:=A.length+4) (H0:=(c.hp A B s).set (A.length+4) ⟨(rws Nd.cN s.ns).take (k*6)++(cx++(rws Nd.cN s.ns).drop (k*6+6)),59,s.vn,true⟩)
  (fun i o hi ho y hy=>by rw[List.getElem?_set_ne (by omega)]at ho; rw[List.length_set]; exact hcl i o ho y hy)
  (List.getElem?_set_self (by rw[hp_len]; omega)) rfl (by rw[hlen,hc]; exact rws_cells cN_cells _)
 rw[hlen,hc,List.set_set,hp_setN,hp_setN]at hz
 have:=cv_noneM (n0:=n0) (r:=r) (Hx:=A++(c.D s::c.M A.length s::c.L::Mc.V s::⟨(rws Nd.cN s.ns).take (k*6)++(cx++(rws Nd.cN s.ns).drop (k*6+6)),59,s.vn,true⟩::Mc.I s::(B++L))) 2 (by simp) (by simp; omega) hz
 rw[hp_setN]at hlen
 rw[hlen]at this
 have e:c.hp A B { s with ns:=s.ns.set k x }=A++(c.D s::c.M A.length s::c.L::Mc.V s::⟨rws Nd.cN (s.ns.set k x),59,s.vn,true⟩::Mc.I s::B):=by simp[Mc.hp,Mc.D,Mc.M,Mc.V,Mc.N,Mc.I]
 rw[e]; exact this
def Ms.endN (s:Ms) (k:Nat) (ps:List Int) (a:Int):Ms:={ s with at':=a,ns:=s.ns.set k ⟨3,0,0,[],[],ps⟩ }
def endQ (c:Mc) (A B:List AO) (s:Ms) (k:Nat) (o:Out) (G':List AO):Prop :=
 o=.ret (.tup [])∧∃ (ps:List Int) (a:Int),(ps.length:Int)=c.pl∧(∀ w∈ps,-3≤w∧w≤3)∧0≤a∧G'=c.hp A B (s.endN k ps a)
set_option maxRecDepth 10000 in
theorem ok59 {k:Nat} (hl:c.l.length<4611686018427387904) (h0:0≤s.at') (hp:1≤c.pl) (hp2:c.pl≤1000) (hk:k<s.ns.length) (hn:s.ns.length<1000000) :
 OkP Try.prog 59 [.ptr (.own (A.length+1) 0 0 0 0) 0,i64 k] (c.hp A B s) (endQ c A B s k):=by
 refine okP_fn hm Try.func59 c59 (by simp) fun hcl => ?_
 obtain⟨np,hnp⟩:∃ np:Nat,c.pl=np:=⟨c.pl.toNat,by omega⟩
 have ha:c.hp A B s=A++(c.D s::c.M A.length s::c.L::Mc.V s::Mc.N s::Mc.I s::B):=rfl
 rw[ha]
 simp -implicitDefEqProofs[i59,r59]
 refine⟨rfl,LI.tell (Tell.own0 (j:=A.length+(B.length+6)) (p:=5) (o:=⟨[i64 3,i64 0,i64 0,.val (.slice none 0 0),.val (.slice none 0 0),.val (.slice none 0 0)],59,0,true⟩) ?_ rfl rfl 3 1) ?_⟩
 · rw[List.getElem?_append_right (Nat.le_add_right _ _),Nat.add_sub_cancel_left]; simp
 simp -implicitDefEqProofs
 refine loop73 (A:=A) (B:=B) (c:=c) (s:=s) (np:=np) (at':=k) hl hnp (by omega) (fun env ps L a hps hw ha' g0 g1 g4 => ?_) np _ [] [] s.at' (by simp) (by simp) h0 (by simp) (by simp) (by simp) (by simp)
 have hle:=rws_le Nd.lenN hk
 have key:∀ ps':List Int,ps'.length=np->(∀ w∈ps',-3≤w∧w≤3)->FinQ (A.length+(B.length+6)) (endQ c A B s k) (.tup [])
  (A++(c.D { s with at':=a }::c.M A.length s::c.L::Mc.V s::⟨(rws Nd.cN s.ns).take (k*6)++([i64 3,i64 0,i64 0,.val (.slice none 0 0),.val (.slice none 0 0),.own (A.length+(B.length+7)) 0 ps.length 1 ps.length]++(rws Nd.cN s.ns).drop (k*6+6)),59,s.vn,true⟩::Mc.I s ::
   (B++endX A B ps::⟨ints ps',3,ps.length,true⟩::L))):=by
  intro ps' hps' hw'
  have hne:ps'≠[]:=by intro e; subst e; simp at hps'; omega
  refine⟨_,_,⟨rfl,ps',a,by omega,hw',ha',rfl⟩,?_⟩
  have:=fin_node (A:=A) (B:=B) (c:=c) (s:={ s with at':=a }) (n0:=A.length+(B.length+6)) (k:=k) (L:=endX A B ps::⟨ints ps',3,ps.length,true⟩::L) (r:=.tup []) (x:=⟨3,0,0,[],[],ps'⟩)
   (cx:=[i64 3,i64 0,i64 0,.val (.slice none 0 0),.val (.slice none 0 0),.own (A.length+(B.length+7)) 0 ps.length 1 ps.length]) (closed_hp hcl) (by omega) hk (by
    have e1:SV.fz (A.length+(B.length+6)) [] (endX A B ps::⟨ints ps',3,ps.length,true⟩::L) 2 (.own (A.length+(B.length+7)) 0 ps.length 1 ps.length)=.slc (ints ps') ps'.length:=by
     have h:=fz_own (n:=A.length+(B.length+6)) (ks:=[]) (L:=endX A B ps::⟨ints ps',3,ps.length,true⟩::L) (d:=1) 1 0 ps.length 1 ps.length
     rw[show A.length+(B.length+7)=A.length+(B.length+6)+1 by omega,h]
     simp[placeOf,hps,hps',show(ints ps').length=np by simp[ints,hps'],List.take_of_length_le]
    simp[Nd.cN,slN,hne,e1,sl,fz_under,SV.under])
  simp[Mc.hp,Ms.endN,Mc.D,Mc.L,Mc.M,Mc.V,Mc.N,Mc.I]at this ⊢
  exact this
 simp -implicitDefEqProofs[g0,g1,g4,Mc.hp,Mc.D,Mc.L,Mc.M,Mc.V,Mc.N,Mc.I,endX,endP]
 by_cases hz:c.zero=true∧c.pl=2
 · rw[if_pos hz]
   have h2:np=2:=by omega
   match ps,hps,hw,key with
   | [x,y],hps,hw,key =>
    have hx:=hw x (by simp)
    have w1:IntKind.i64.wrap (-x) = -x:=wrap_id (by omega) (by omega)
    simp[ints,w1]
    refine⟨hk,rfl,hle,?_⟩
    have:=key [x,-x] (by simp[h2]) (by intro w h; simp at h; omega)
    simpa[Mc.D,Mc.L,Mc.M,Mc.V,Mc.N,Mc.I,endX,ints]using this
   | [],hps,_,_=>simp at hps; omega
   | [_],hps,_,_=>simp at hps; omega
   | _::_::_::_,hps,_,_=>simp at hps; omega
 · rw[if_neg hz]
   refine⟨hk,rfl,hle,?_⟩
   have:=key ps hps hw
   simpa[Mc.D,Mc.L,Mc.M,Mc.V,Mc.N,Mc.I,endX]using this
end
end Go.Proofs.Ytogjmpkehjfecaa.Rc
namespace Go.Proofs.Ytogjmpkehjfecaa.Rc
open Go.Ab
section
variable {A B:List AO} {c:Mc} {s:Ms}
def nowO (l:List (List Int)):AO:=⟨l.map sl,36,l.length,true⟩
def seenV (l:List (List Int)):SV:=.slc (l.map sl) l.length
set_option maxRecDepth 10000 in
theorem loop60_1 {seen:List (List Int)} {jp:Nat} {x0 x1 x2 i:Int} {N:Nat} {K:XE->Env->List AO->Prop} {y1 y7 y9:Int} {y11:Nat} {m:Nat} (hcl:closed (c.hp A B s)) (hs:seen.length≤1000) (hsl:∀ l∈seen,l.length≤m) (hm:m≤1000)
 (hpb:B[jp]? = some ⟨[i64 x0,i64 x1,i64 x2],85,0,true⟩)
 (hexit:∀ env L l,Cl 0 L->l.length=seen.length->(∀ x∈l,x.length≤m+1)->NowQ seen l x0 i->env.get 0=.ptr (.own (A.length+1) 0 0 0 0) 0->env.get 1=i64 y1->env.get 2=seenV seen->env.get 7=i64 y7->env.get 8=.ptr (.own (A.length+(jp+6)) 0 0 0 0) 0->env.get 9=i64 y9->env.get 11=.ptr (.own y11 0 0 0 0) 0->env.get 12=i64 i →
  env.get 13=.own (A.length+(B.length+6)) 0 seen.length 1 seen.length->K (.exit 2) env (c.hp A (B++nowO l::L) s)) :
 ∀ (n:Nat) (env:Env) (l:List (List Int)) (L:List AO),l.length+n=seen.length->Cl 0 L->(∀ x∈l,x.length≤m+1)->NowQ seen l x0 i->env.get 0=.ptr (.own (A.length+1) 0 0 0 0) 0->env.get 1=i64 y1->env.get 2=seenV seen->env.get 7=i64 y7->env.get 8=.ptr (.own (A.length+(jp+6)) 0 0 0 0) 0->env.get 9=i64 y9->env.get 11=.ptr (.own y11 0 0 0 0) 0->env.get 12=i64 i →
  env.get 13=.own (A.length+(B.length+6)) 0 l.length 1 l.length->env.get 14=i64 l.length->LI Try.prog N drawB l35_1 env (c.hp A (B++nowO l::L) s) K:=by
 intro n
 induction n with
 | zero =>
  intro env l L hn hL hl hnq h0 h1 h2 h7 h8 h9 h11 h12 h13 h14
  refine li_go hm' l35_1.eq_1 ?_
  have e:l.length=seen.length:=by omega
  simp -implicitDefEqProofs[h0,h1,h2,h7,h8,h9,h11,h12,h13,h14,seenV,e]
  refine hexit _ L l hL e hl hnq ?_ ?_ ?_ ?_ ?_ ?_ ?_ ?_ ?_<;>simp[h0,h1,h2,h7,h8,h9,h11,h12,h13,e,seenV]
 | succ n ih =>
  intro env l L hn hL hl hnq h0 h1 h2 h7 h8 h9 h11 h12 h13 h14
  refine li_go hm' l35_1.eq_1 ?_
  have hlt:l.length<seen.length:=by omega
  have ep:∀ X,objCells (B++X) jp 0=[i64 x0,i64 x1,i64 x2]:=fun X=>by rw[objCells_app X (getElem?_lt hpb)]; exact objCells_of hpb rfl
  have hle:=hsl _ (List.getElem_mem hlt)
  have w1:IntKind.i64.wrap ((l.length:Int)+1)=((l.length+1:Nat):Int):=wrap_succ (by omega)
  have key:∀ (v:Int) (env:Env),((l.length:Int)=x0->v=i)->env.get 0=.ptr (.own (A.length+1) 0 0 0 0) 0->env.get 1=i64 y1->env.get 2=seenV seen->env.get 7=i64 y7->env.get 8=.ptr (.own (A.length+(jp+6)) 0 0 0 0) 0->env.get 9=i64 y9->env.get 11=.ptr (.own y11 0 0 0 0) 0->env.get 12=i64 i →
   env.get 13=.own (A.length+(B.length+6)) 0 (l.length+1) 1 (l.length+1)->env.get 14=i64 ((l.length+1:Nat):Int) →
   LI Try.prog N drawB l35_1 env (A++(c.D s::c.M A.length s::c.L::Mc.V s::Mc.N s::Mc.I s::(B++⟨l.map sl++[.own (A.length+(B.length+(L.length+7))) 0 (seen[l.length].length+1) 1 2],36,l.length+1,true⟩ ::
    (L++[⟨ints seen[l.length]++[i64 v],3,2,true⟩,⟨[i64 v],3,0,true⟩,⟨[.own (A.length+(B.length+(L.length+7))) 0 (seen[l.length].length+1) 1 2],36,0,true⟩])))) K:=by
   intro v env hvi g0 g1 g2 g7 g8 g9 g11 g12 g13 g14
   have el:ints seen[l.length]++[i64 v]=ints (seen[l.length]++[v]):=by simp[ints]
   rw[el]
   refine LI.cong (H':=c.hp A B s++(⟨l.map sl++[.own (A.length+(B.length+(L.length+7))) 0 (seen[l.length].length+1) 1 2],36,l.length+1,true⟩ ::
    (L++[⟨ints (seen[l.length]++[v]),3,2,true⟩,⟨[i64 v],3,0,true⟩,⟨[.own (A.length+(B.length+(L.length+7))) 0 (seen[l.length].length+1) 1 2],36,0,true⟩]))) (by simp[Mc.hp]) ?_
   refine LI.tell (Tell.give hcl (L.length+1) 1 (o:=⟨ints (seen[l.length]++[v]),3,2,true⟩) (by simp) rfl) ?_
   have hk:(c.hp A B s).length+(L.length+1)=A.length+(B.length+(L.length+7)):=by rw[hp_len]; omega
   have hg:SV.gv (A.length+(B.length+(L.length+7))) 2 (ints (seen[l.length]++[v])) 1 (.own (A.length+(B.length+(L.length+7))) 0 (seen[l.length].length+1) 1 2)=sl (seen[l.length]++[v]):=by
    simp[sl,show(ints (seen[l.length]++[v])).length=seen[l.length].length+1 by simp[ints],List.take_of_length_le]
   have hgi:∀ k:Int,SV.gv (A.length+(B.length+(L.length+7))) 2 (ints (seen[l.length]++[v])) 1 (i64 k)=i64 k:=fun k=>rfl
   have hgl:(l.map sl).map (SV.gv (A.length+(B.length+(L.length+7))) 2 (ints (seen[l.length]++[v])) 1)=l.map sl:=by simp[Function.comp_def,sl]
   refine LI.cong (H':=c.hp A B s++(nowO (l++[seen[l.length]++[v]])::(L++[⟨[],3,3,false⟩,⟨[i64 v],3,0,true⟩,⟨[sl (seen[l.length]++[v])],36,0,true⟩]))) ?_ ?_
   · rw[hk]
     simp[AO.gv_cl (Nat.zero_le _) hL,hg,hgi,hgl,nowO,AO.dead]
   · refine LI.cong (H':=c.hp A (B++(nowO (l++[seen[l.length]++[v]])::(L++[⟨[],3,3,false⟩,⟨[i64 v],3,0,true⟩,⟨[sl (seen[l.length]++[v])],36,0,true⟩]))) s) (by simp[Mc.hp]) ?_
     rw[hk]
     refine ih _ _ _ (by simp; omega) ?_ ?_ (hnq.snoc hlt hvi) ?_ ?_ ?_ ?_ ?_ ?_ ?_ ?_ ?_ ?_
     · exact hL.app (Cl.cons rfl (Cl.cons rfl (Cl.cons (by simp[SV.underL,sl,SV.under]) (Cl.nil _))))
     · intro x hx
       rcases List.mem_append.1 hx with h | h
       · exact hl x h
       · simp at h; subst h; simp; omega
     all_goals rw[get_map _ (SV.gv _ _ _ _) (gv_any _ _ _ _)]; simp[g0,g1,g2,g7,g8,g9,g11,g12,g13,g14,seenV]
  simp -implicitDefEqProofs[h0,h1,h2,h7,h8,h9,h11,h12,h13,h14,seenV,hlt,Mc.hp,sl,ep,nowO,Nat.add_assoc]
  refine⟨by omega,by omega,by omega,?_⟩
  split
  · rename_i hcnd
    refine⟨by omega,by omega,by omega,by omega,?_⟩
    refine key i _ (fun _=>rfl) ?_ ?_ ?_ ?_ ?_ ?_ ?_ ?_ ?_ ?_<;>simp[h0,h1,h2,h7,h8,h9,h11,h12,h13,h14,w1,seenV]
  · rename_i hcnd
    refine⟨by omega,by omega,by omega,by omega,?_⟩
    refine key (-1) _ (fun hq=>absurd (Or.inl hq) hcnd) ?_ ?_ ?_ ?_ ?_ ?_ ?_ ?_ ?_ ?_<;>simp[h0,h1,h2,h7,h8,h9,h11,h12,h13,h14,w1,seenV]
end
end Go.Proofs.Ytogjmpkehjfecaa.Rc
namespace Go.Proofs.Ytogjmpkehjfecaa.Rc
open Go.Ab
structure Mc.Good (c:Mc):Prop where
 l:c.l.length<4611686018427387904
 p1:1≤c.pl
 p2:c.pl≤1000
 m:c.most≤2000
 lv:c.lv.length≤100
 lvr:∀ q∈c.lv,-1≤q.1∧q.1<c.pl∧2≤q.2.1∧q.2.1≤3
structure MInv (c:Mc) (s:Ms) (level:Nat):Prop where
 a0:0≤s.at'
 vl:s.vs.length=s.is.length
 vi:∀ j (h:j<s.vs.length),s.vs[j].inf=j∧s.vs[j].pl=(s.is[j]'(by omega)).1
 vsn:∀ v∈s.vs,v.sn.length≤100
 used:∀ j (h:j<s.vs.length),(level:Int)≤s.vs[j].lv->∃ x∈s.ns,x.k=2∧x.i=j
 isr:∀ q∈s.is,0≤q.1∧q.1<c.pl∧1≤q.2∧q.2≤3
 nsr:∀ x∈s.ns,x.k=2->0≤x.i∧x.i<s.is.length
 il:s.is.length≤s.ns.length
 ml:(s.ns.length:Int)+s.pend≤c.most
structure MPost (c:Mc) (s s':Ms) (level h:Nat) (sub:List Nd) (isN:List (Int×Int)) (vsN:List Vw):Prop where
 ns:s'.ns=s.ns++sub
 is:s'.is=s.is++isN
 vs:s'.vs=s.vs++vsN
 pend:s'.pend=s.pend-1
 lv:∀ v∈vsN,(level:Int)≤v.lv
 wlk:Wlk s.ns.length h sub
 rg:rg sub s.is.length=some s'.is.length
 good:∀ x∈sub,x.good c.pl s'.is
 inv:MInv c s' level
def Unq (vs:List Vw):Prop:=∀ (i j:Nat) (u v:Vw),vs[i]? = some u->vs[j]? = some v->u.pl=v.pl->u.lv=v.lv->u.sn=v.sn->i=j
def Lnk (b:Nat) (ns:List Nd) (gs:List Gh):Prop:=∀ (j:Nat) (x:Nd) (y:Gh),ns[j]? = some x->gs[j]? = some y->∀ (k:Nat) (d:Int),x.nx[k]? = some d->∃ (m:Nat) (z:Gh),d=((b+m:Nat):Int)∧gs[m]? = some z∧NowR y.sn z.sn x.mvr k∧z.lv=y.lv+1
def lvF (c:Mc) (l:Nat):Int:=(c.lv.getD l (0,0,0)).1
def FitG (c:Mc) (ns:List Nd) (gs:List Gh) (vs:List Vw):Prop:=∀ (j:Nat) (x:Nd) (y:Gh),ns[j]? = some x->gs[j]? = some y →
 (x.k=2->lvF c y.lv=x.p∧0≤x.i∧0≤x.p∧∃ s v,y.sn[x.p.toNat]? = some s∧vs[x.i.toNat]? = some v∧v.pl=x.p∧v.lv=y.lv∧v.sn=s)∧(x.k=1->lvF c y.lv<0)
theorem FitG.mono {c:Mc} {ns:List Nd} {gs:List Gh} {vs:List Vw} (h:FitG c ns gs vs) (l:List Vw):FitG c ns gs (vs++l):=fun j x y hx hy=>by
 obtain⟨h1,h2⟩:=h j x y hx hy
 refine⟨fun hk => ?_,h2⟩
 obtain⟨a,b,b',s,v,d,e,f⟩:=h1 hk
 exact⟨a,b,b',s,v,d,by rw[List.getElem?_append_left (getElem?_lt e)]; exact e,f⟩
theorem FitG.app {c:Mc} {n1 n2:List Nd} {g1 g2:List Gh} {vs:List Vw} (hl:g1.length=n1.length) (h1:FitG c n1 g1 vs) (h2:FitG c n2 g2 vs):FitG c (n1++n2) (g1++g2) vs:=fun j x y hx hy=>by
 by_cases h:j<n1.length
 · rw[List.getElem?_append_left h]at hx
   rw[List.getElem?_append_left (by omega)]at hy
   exact h1 j x y hx hy
 · rw[List.getElem?_append_right (by omega)]at hx
   rw[List.getElem?_append_right (by omega),hl]at hy
   exact h2 _ x y hx hy
theorem Lnk.app {b:Nat} {n1 n2:List Nd} {g1 g2:List Gh} (hl:g1.length=n1.length) (h1:Lnk b n1 g1) (h2:Lnk (b+n1.length) n2 g2):Lnk b (n1++n2) (g1++g2):=fun j x y hx hy k d hd=>by
 by_cases h:j<n1.length
 · rw[List.getElem?_append_left h]at hx
   rw[List.getElem?_append_left (by omega)]at hy
   obtain⟨m,z,e1,e2,e3⟩:=h1 j x y hx hy k d hd
   exact⟨m,z,e1,by rw[List.getElem?_append_left (getElem?_lt e2)]; exact e2,e3⟩
 · rw[List.getElem?_append_right (by omega)]at hx
   rw[List.getElem?_append_right (by omega),hl]at hy
   obtain⟨m,z,e1,e2,e3⟩:=h2 _ x y hx hy k d hd
   exact⟨n1.length+m,z,by rw[e1]; congr 1; omega,by rw[List.getElem?_append_right (by omega),hl,Nat.add_sub_cancel_left]; exact e2,e3⟩
def GhP (c:Mc) (b level:Nat) (seen:List (List Int)) (sub:List Nd) (vs:List Vw):Prop:=Unq vs∧∃ gs:List Gh,gs.length=sub.length∧gs[0]? = some ⟨level,seen⟩∧Lnk b sub gs∧FitG c sub gs vs
def KGh (c:Mc) (b level:Nat) (seen:List (List Int)) (x0:Int) (nx:List Int) (subs:List Nd) (vs:List Vw):Prop:=Unq vs∧∃ gs:List Gh,gs.length=subs.length∧(∀ (k:Nat) (d:Int),nx[k]? = some d->∃ (m:Nat) (z:Gh),d=((b+m:Nat):Int)∧gs[m]? = some z∧NowR seen z.sn x0 k∧z.lv=level)∧Lnk b subs gs∧FitG c subs gs vs
theorem KGh.zero {c:Mc} {b level:Nat} {seen:List (List Int)} {x0:Int} {vs:List Vw} (h:Unq vs):KGh c b level seen x0 [] [] vs :=
 ⟨h,[],rfl,fun k d h=>by simp at h,fun j x y h=>by simp at h,fun j x y h=>by simp at h⟩
theorem KGh.snoc {c:Mc} {b level:Nat} {seen now:List (List Int)} {x0:Int} {nx:List Int} {subs sub:List Nd} {vs vs':List Vw} (h:KGh c b level seen x0 nx subs vs) (hn:NowR seen now x0 nx.length) (hp:GhP c (b+subs.length) level now sub (vs++vs')) :
 KGh c b level seen x0 (nx++[((b+subs.length:Nat):Int)]) (subs++sub) (vs++vs'):=by
 obtain⟨_,g1,l1,k1,n1,f1⟩:=h
 obtain⟨u2,g2,l2,r2,n2,f2⟩:=hp
 refine⟨u2,g1++g2,by simp[l1,l2],fun k d hd => ?_,n1.app l1 n2,(f1.mono vs').app l1 f2⟩
 by_cases hk:k<nx.length
 · rw[List.getElem?_append_left hk]at hd
   obtain⟨m,z,e1,e2,e3⟩:=k1 k d hd
   exact⟨m,z,e1,by rw[List.getElem?_append_left (getElem?_lt e2)]; exact e2,e3⟩
 · rw[List.getElem?_append_right (by omega)]at hd
   have hlt:=getElem?_lt hd
   have e:k=nx.length:=by simp at hlt; omega
   subst e
   simp at hd
   exact⟨subs.length,_,hd.symm,by rw[List.getElem?_append_right (by omega),l1,Nat.sub_self]; exact r2,hn,rfl⟩
def buildP (c:Mc) (A B:List AO) (s:Ms) (level:Nat) (seen:List (List Int)) (o:Out) (G':List AO):Prop :=
 o=.ret (i64 s.ns.length)∧∃ s' sub isN vsN,MPost c s s' level (c.lv.length-level) sub isN vsN∧GhP c s.ns.length level seen sub s'.vs∧G'=c.hp A B s'
def BuildOk (c:Mc) (level:Nat):Prop :=
 ∀ (A B:List AO) (s:Ms) (seen:List (List Int)),MInv c s level->Unq s.vs->1≤s.pend->(seen.length:Int)=c.pl->(∀ l∈seen,l.length≤level) →
  OkP Try.prog 35 [.ptr (.own (A.length+1) 0 0 0 0) 0,i64 level,seenV seen] (c.hp A B s) (buildP c A B s level seen)
structure KPost (c:Mc) (s s':Ms) (level h:Nat) (nx:List Int) (subs:List Nd) (isN:List (Int×Int)) (vsN:List Vw):Prop where
 ns:s'.ns=s.ns++subs
 is:s'.is=s.is++isN
 vs:s'.vs=s.vs++vsN
 pend:s'.pend=s.pend-nx.length
 lv:∀ v∈vsN,(level:Int)≤v.lv
 kds:Kds s.ns.length h nx subs
 rg:rg subs s.is.length=some s'.is.length
 good:∀ x∈subs,x.good c.pl s'.is
 inv:MInv c s' level
theorem KPost.zero {c:Mc} {s:Ms} {level h:Nat} (hi:MInv c s level):KPost c s s level h [] [] [] [] :=
 ⟨by simp,by simp,by simp,by simp,by simp,Kds.nil _ _,by simp[Proofs.Ytogjmpkehjfecaa.Rc.rg],by simp,hi⟩
theorem KPost.snoc {c:Mc} {s s1 s2:Ms} {level h:Nat} {nx:List Int} {subs sub:List Nd} {i1 i2:List (Int×Int)} {v1 v2:List Vw} (hk:KPost c s s1 level h nx subs i1 v1) (hp:MPost c s1 s2 level h sub i2 v2) :
 KPost c s s2 level h (nx++[(s1.ns.length:Int)]) (subs++sub) (i1++i2) (v1++v2):=by
 refine⟨?_,?_,?_,?_,?_,?_,?_,?_,hp.inv⟩
 · rw[hp.ns,hk.ns,List.append_assoc]
 · rw[hp.is,hk.is,List.append_assoc]
 · rw[hp.vs,hk.vs,List.append_assoc]
 · rw[hp.pend,hk.pend]; simp; omega
 · intro v hv
   rcases List.mem_append.1 hv with h | h
   · exact hk.lv v h
   · exact hp.lv v h
 · exact hk.kds.snoc hp.wlk (by rw[hk.ns]; simp)
 · rw[rg_app,hk.rg]; exact hp.rg
 · intro x hx
   rcases List.mem_append.1 hx with h | h
   · rw[hp.is]; exact(hk.good x h).app _
   · exact hp.good x h
section
variable {A B:List AO} {c:Mc} {s:Ms}
def nodX (A B:List AO) (ch:Bool) (x0 info:Int) (nx ws:List Int):AO :=
 ⟨[i64 (if ch=true then 1 else 2),i64 (if ch=true then 0 else x0),i64 (if ch=true then 0 else info),.own (A.length+(B.length+9)) 0 nx.length 1 nx.length,if ch=true then .own (A.length+(B.length+10)) 0 ws.length 1 ws.length else .val (.slice none 0 0),.val (.slice none 0 0)],59,0,true⟩
def intO (l:List Int):AO:=⟨ints l,3,l.length,true⟩
theorem Cl_hp {n:Nat} (hA:Cl n A) (hB:Cl n B) (hn:A.length+6≤n):Cl n (c.hp A B s):=by
 unfold Mc.hp
 refine hA.app ?_
 refine Cl.cons (by simp[Mc.D,SV.underL,SV.under]) (Cl.cons (by simp only[Mc.M,SV.underL,SV.under,Bool.and_eq_true,decide_eq_true_eq,Bool.and_true]; refine⟨?_,?_,?_,?_,?_,?_,?_,?_,?_,?_⟩<;>first | omega | rfl) (Cl.cons ?_ (Cl.cons ?_ (Cl.cons ?_ (Cl.cons ?_ hB)))))
 · exact rws_under (fun x=>by simp[lcN,SV.underL,SV.under]) _
 · exact rws_under (fun x=>by simp[Vw.cells,SV.underL,SV.under]) _
 · exact rws_under (cN_under _) _
 · exact rws_under (fun x=>by simp[icN,SV.underL,SV.under]) _
def w60:IC:=match l35_0 with
 | .keep _ (.seq _ (.seq (.blk 1 (.seq _ (.seq _ (.seq _ w)))) _))=>w
 | _=>.skip
set_option maxRecDepth 10000 in
theorem call60 {l:List (List Int)} {ch:Bool} {x0 x1 x2 info:Int} {level:Nat} {g:AO} {s':Ms} {N:Nat} {K:XE->Env->List AO->Prop} (hb:BuildOk c (level+1)) {nx ws:List Int} {L L2:List AO} {env:Env} (hl:(l.length:Int)=c.pl) (hll:∀ x∈l,x.length≤level+1) (hi:MInv c s' (level+1)) (hu:Unq s'.vs) (hp:1≤s'.pend) (hm:level≤1000) (hx:nx.length≤1000) (hns:s'.ns.length≤100000)
 (h0:env.get 0=.ptr (.own (A.length+1) 0 0 0 0) 0) (h1:env.get 1=i64 level) (h11:env.get 11=.ptr (.own (A.length+(B.length+8)) 0 0 0 0) 0) (h13:env.get 13=.own (A.length+(B.length+(L.length+11))) 0 l.length 1 l.length)
 (hK:∀ env' v1 v2 s2 sub isN vsN,MPost c s' s2 (level+1) (c.lv.length-(level+1)) sub isN vsN->GhP c s'.ns.length (level+1) l sub s2.vs->(∀ t,t<185->env'.get t=env.get t)->K .normal env' (c.hp A (B++g::⟨[i64 x0,i64 x1,i64 x2],85,0,true⟩::nodX A B ch x0 info (nx++[(s'.ns.length:Int)]) ws::intO (nx++[(s'.ns.length:Int)])::intO ws::(L++⟨[],36,v1,false⟩::(L2++[⟨[i64 v2],3,0,true⟩]))) s2)) :
 X Try.prog N drawB w60 env (c.hp A (B++g::⟨[i64 x0,i64 x1,i64 x2],85,0,true⟩::nodX A B ch x0 info nx ws::intO nx::intO ws::(L++nowO l::L2)) s') K:=by
 have w1:IntKind.i64.wrap ((level:Int)+1)=((level+1:Nat):Int):=wrap_succ (by omega)
 simp -implicitDefEqProofs[w60,l35_0,h0,h1,h11,h13,nodX,Mc.hp,w1]
 have hb':=hb A (B++g::⟨[i64 x0,i64 x1,i64 x2],85,0,true⟩::nodX A B ch x0 info nx ws::intO nx::intO ws::(L++⟨[],36,l.length+1,false⟩::L2)) s' l hi hu hp hl hll
 refine call_goP (OkP.give (A.length+(B.length+(L.length+11))) 1 (o:=nowO l) ?_ rfl (OkP.cast ?_ ?_ hb')) ?_
 · simp only[get_app,get_c2,List.getElem?_cons_succ,get_app0,List.getElem?_cons_zero]
 · simp[nowO,seenV,List.take_of_length_le]
 · simp[Go.Ab.set_app,set_app0,set_c2,Mc.hp,nodX,nowO,AO.dead]
 rintro o G' ⟨rfl,s2,sub,isN,vsN,hp2,hgh,rfl⟩
 simp -implicitDefEqProofs[w60,l35_0,h0,h1,h11,h13,nodX,Mc.hp,w1]
 refine⟨by omega,by omega,⟨rfl,rfl,rfl,by simp[intO]⟩,?_⟩
 have e:ints (nx++[(s'.ns.length:Int)])=ints nx++[i64 s'.ns.length]:=by simp[ints]
 have:=hK ((194,(SV.own (A.length+(B.length+8)) 0 0 0 0).ptr 3)::(193,SV.own (A.length+(B.length+9)) 0 (nx.length+1) 1 (nx.length+1))::(192,SV.own (A.length+(B.length+(L.length+(L2.length+12)))) 0 1 1 0)::(191,i64 s'.ns.length)::(190,SV.own (A.length+(B.length+(L.length+11))) 0 l.length 1 l.length)::(189,i64 (level+1))::(188,i64 level) ::
  (187,(SV.own (A.length+1) 0 0 0 0).ptr 0)::(186,SV.own (A.length+(B.length+9)) 0 nx.length 1 nx.length)::(185,(SV.own (A.length+(B.length+8)) 0 0 0 0).ptr 3)::env) (l.length+1) s'.ns.length s2 sub isN vsN hp2 hgh (fun t ht=>by
   simp only[Env.get]
   repeat rw[if_neg (by omega)])
 simpa[Mc.hp,nodX,intO,e]using this
set_option maxRecDepth 10000 in
theorem loop60_0 {seen:List (List Int)} {ch:Bool} {x0 x1 x2 info:Int} {level many:Nat} {g:AO} {s1:Ms} {N:Nat} {K:XE->Env->List AO->Prop} (hc:c.Good) (hb:BuildOk c (level+1)) (hA:Cl (A.length+(B.length+6)) A) (hB:Cl (A.length+(B.length+6)) B) (hg:Cl 0 [g])
 (hs:(seen.length:Int)=c.pl) (hsl:∀ l∈seen,l.length≤level) (hlv:level<c.lv.length) (hmy:many≤3) (hx0:ch=decide (x0<0)) (hp1:(many:Int)≤s1.pend) {at':Nat}
 (hexit:∀ env L s' nx ws subs isN vsN,nx.length=many->KPost c s1 s' (level+1) (c.lv.length-(level+1)) nx subs isN vsN->KGh c s1.ns.length (level+1) seen x0 nx subs s'.vs->(ws.length=if ch=true then many else 0)->(∀ w∈ws,1≤w∧w≤3)->Cl 0 L →
  env.get 0=.ptr (.own (A.length+1) 0 0 0 0) 0->env.get 7=i64 at'->env.get 11=.ptr (.own (A.length+(B.length+8)) 0 0 0 0) 0 →
  K (.exit 0) env (c.hp A (B++g::⟨[i64 x0,i64 x1,i64 x2],85,0,true⟩::nodX A B ch x0 info nx ws::intO nx::intO ws::L) s')) :
 ∀ (n:Nat) (env:Env) (L:List AO) (s':Ms) (nx ws:List Int) (subs:List Nd) (isN:List (Int×Int)) (vsN:List Vw),nx.length+n=many->KPost c s1 s' (level+1) (c.lv.length-(level+1)) nx subs isN vsN->KGh c s1.ns.length (level+1) seen x0 nx subs s'.vs →
  (ws.length=if ch=true then nx.length else 0)->(∀ w∈ws,1≤w∧w≤3)->Cl 0 L →
  env.get 0=.ptr (.own (A.length+1) 0 0 0 0) 0->env.get 1=i64 level->env.get 2=seenV seen->env.get 7=i64 at'->env.get 8=.ptr (.own (A.length+(B.length+7)) 0 0 0 0) 0->env.get 9=i64 many->env.get 11=.ptr (.own (A.length+(B.length+8)) 0 0 0 0) 0->env.get 12=i64 nx.length →
  LI Try.prog N drawB l35_0 env (c.hp A (B++g::⟨[i64 x0,i64 x1,i64 x2],85,0,true⟩::nodX A B ch x0 info nx ws::intO nx::intO ws::L) s') K:=by
 intro n
 induction n with
 | zero =>
  intro env L s' nx ws subs isN vsN hn hk hkg hws hw hL h0 h1 h2 h7 h8 h9 h11 h12
  refine li_go hm' l35_0.eq_1 ?_
  simp -implicitDefEqProofs[h0,h1,h2,h7,h8,h9,h11,h12,show ¬ nx.length<many by omega]
  refine hexit _ L s' nx ws subs isN vsN (by omega) hk hkg (by rw[hws]; split<;>omega) hw hL ?_ ?_ ?_<;>simp[h0,h7,h11]
 | succ n ih =>
  intro env L s' nx ws subs isN vsN hn hk hkg hws hw hL h0 h1 h2 h7 h8 h9 h11 h12
  refine li_go hm' l35_0.eq_1 ?_
  have hlt:nx.length<many:=by omega
  have w1:IntKind.i64.wrap ((nx.length:Int)+1)=((nx.length+1:Nat):Int):=wrap_succ (by omega)
  have hps:=hk.pend
  have hil:=hk.inv.ml
  have hcm:=hc.m
  have hcl':=hc.lv
  have hcp:=hc.p2
  have key:∀ (ws':List Int) (s2:Ms) (L2:List AO) (env:Env),KPost c s1 s2 (level+1) (c.lv.length-(level+1)) nx subs isN vsN->KGh c s1.ns.length (level+1) seen x0 nx subs s2.vs->(ws'.length=if ch=true then nx.length+1 else 0)->(∀ w∈ws',1≤w∧w≤3)->Cl 0 L2 →
   env.get 0=.ptr (.own (A.length+1) 0 0 0 0) 0->env.get 1=i64 level->env.get 2=seenV seen->env.get 7=i64 at'->env.get 8=.ptr (.own (A.length+(B.length+7)) 0 0 0 0) 0->env.get 9=i64 many->env.get 11=.ptr (.own (A.length+(B.length+8)) 0 0 0 0) 0->env.get 12=i64 nx.length →
   env.get 13=.own (A.length+(B.length+(L2.length+11))) 0 0 1 0->env.get 14=i64 0 →
   ∀ K' K2:XE->Env->List AO->Prop,(∀ env H,X Try.prog N drawB w60 env H K2->K' (.exit 2) env H)->(∀ (e:Env) (H:List AO),e.get 12=i64 nx.length->LI Try.prog N drawB l35_0 ((12,i64 ((nx.length+1:Nat):Int))::(135,i64 ((nx.length+1:Nat):Int))::(134,i64 nx.length)::e) H K->K2 .normal e H) →
   LI Try.prog N drawB l35_1 env (c.hp A (B++g::⟨[i64 x0,i64 x1,i64 x2],85,0,true⟩::nodX A B ch x0 info nx ws'::intO nx::intO ws'::(L2++[nowO []])) s2) K':=by
   intro ws' s2 L2 env hk2 hkg2 hws2 hw2 hL2 g0 g1 g2 g7 g8 g9 g11 g12 g13 g14 K' K2 hK' hK2
   have hps2:=hk2.pend
   have hil2:=hk2.inv.ml
   have hm:A.length+(B.length+6)≤A.length+((B++g::⟨[i64 x0,i64 x1,i64 x2],85,0,true⟩::nodX A B ch x0 info nx ws'::intO nx::intO ws'::L2).length+6):=by simp
   have hclo:closed (c.hp A (B++g::⟨[i64 x0,i64 x1,i64 x2],85,0,true⟩::nodX A B ch x0 info nx ws'::intO nx::intO ws'::L2) s2):=by
    rw[closed_iff,hp_len]
    refine Cl_hp (hA.mono hm) ((hB.mono hm).app ?_) (by omega)
    refine Cl.cons ((SV.underL_iff _ _).2 fun y hy=>SV.under_mono (Nat.zero_le _) y (hg g (by simp) y hy)) (Cl.cons (by simp[SV.underL,SV.under]) (Cl.cons ?_ (Cl.cons (underL_ints _ _) (Cl.cons (underL_ints _ _) (hL2.mono (Nat.zero_le _))))))
    cases ch<;>simp[nodX,SV.underL,SV.under]<;>omega
   refine LI.cong (H':=c.hp A ((B++g::⟨[i64 x0,i64 x1,i64 x2],85,0,true⟩::nodX A B ch x0 info nx ws'::intO nx::intO ws'::L2)++nowO []::[]) s2) (by simp) ?_
   refine loop60_1 (seen:=seen) (m:=level) (jp:=B.length+1) (x0:=x0) (x1:=x1) (x2:=x2) (i:=nx.length) (y1:=level) (y7:=at') (y9:=many) (y11:=A.length+(B.length+8)) hclo (by omega) hsl (by omega) (by simp) (fun env L l hL hl hl2 hnq k0 k1 k2 k7 k8 k9 k11 k12 k13 => ?_) seen.length env [] [] (by simp) (Cl.nil _) (by simp) (NowQ.nil _ _ _) g0 g1 g2 g7 (by rw[g8]) g9 g11 g12 (by rw[g13]; simp; omega) g14
   refine hK' _ _ ?_
   have e:c.hp A ((B++g::⟨[i64 x0,i64 x1,i64 x2],85,0,true⟩::nodX A B ch x0 info nx ws'::intO nx::intO ws'::L2)++nowO l::L) s2=c.hp A (B++g::⟨[i64 x0,i64 x1,i64 x2],85,0,true⟩::nodX A B ch x0 info nx ws'::intO nx::intO ws'::(L2++nowO l::L)) s2:=by simp
   rw[e]
   refine call60 hb (l:=l) (L:=L2) (L2:=L) (by rw[hl]; exact hs) hl2 hk2.inv hkg2.1 (by omega) (by omega) (by omega) (by omega) k0 k1 k11 (by rw[k13,hl]; simp; omega) (fun env' v1 v2 s3 sub isN' vsN' hpo hgh he => ?_)
   refine hK2 _ _ (by rw[he 12 (by omega)]; exact k12) ?_
   refine ih _ _ s3 (nx++[(s2.ns.length:Int)]) ws' _ _ _ (by simp; omega) (hk2.snoc hpo) (by
    have e1:s2.ns.length=s1.ns.length+subs.length:=by rw[hk2.ns]; simp
    have e2:=hpo.vs
    rw[e1]at hgh ⊢
    rw[e2]at hgh ⊢
    exact hkg2.snoc (hnq.full hl) hgh) (by simpa using hws2) hw2 (hL2.app (Cl.cons rfl (hL.app (Cl.cons rfl (Cl.nil _))))) ?_ ?_ ?_ ?_ ?_ ?_ ?_ ?_
   all_goals simp[he,k0,k1,k2,k7,k8,k9,k11]
  cases ch with
  | true =>
   have hneg:x0<0:=by simpa using hx0.symm
   simp -implicitDefEqProofs[h0,h1,h2,h7,h8,h9,h11,h12,hlt,hneg,nodX,Mc.hp,Mc.M]
   have h59:=ok34m (A:=A) (c:=c) (B:=B++g::⟨[i64 x0,i64 x1,i64 x2],85,0,true⟩::nodX A B true x0 info nx ws::intO nx::intO ws::L) (n:=3) (s:=s') hc.l hk.inv.a0 (by omega)
   refine call_goP (by simpa[Mc.hp,Mc.M,nodX]using h59) ?_
   rintro o G' ⟨v,a,rfl,hv1,hv2,hv3,rfl⟩
   have w2:IntKind.i64.wrap (1+v)=1+v:=wrap_id (by omega) (by omega)
   simp -implicitDefEqProofs[h0,h1,h2,h7,h8,h9,h11,h12,hlt,hneg,nodX,Mc.hp,Mc.M,w2,intO]
   simp at hws
   refine⟨by omega,by omega,?_⟩
   have hk3:KPost c s1 { s' with at':=a } (level+1) (c.lv.length-(level+1)) nx subs isN vsN:=⟨hk.ns,hk.is,hk.vs,hk.pend,hk.lv,hk.kds,hk.rg,hk.good,⟨hv1,hk.inv.vl,hk.inv.vi,hk.inv.vsn,hk.inv.used,hk.inv.isr,hk.inv.nsr,hk.inv.il,hk.inv.ml⟩⟩
   refine LI.cong (H':=c.hp A (B++g::⟨[i64 x0,i64 x1,i64 x2],85,0,true⟩::nodX A B true x0 info nx (ws++[1+v])::intO nx::intO (ws++[1+v])::((L++[⟨[i64 (1+v)],3,0,true⟩])++[nowO []])) { s' with at':=a }) (by simp[Mc.hp,Mc.M,nodX,nowO,intO,show ints (ws++[1+v])=ints ws++[i64 (1+v)]by simp[ints]])
    (key (ws++[1+v]) _ _ _ hk3 hkg (by simp; omega) ?_ (hL.app (Cl.cons rfl (Cl.nil _))) ?_ ?_ ?_ ?_ ?_ ?_ ?_ ?_ ?_ ?_ _ _ (fun env H hX=>by simp only[if_true]; exact hX) ?_)
   · intro w hw'
     rcases List.mem_append.1 hw' with h | h
     · exact hw w h
     · simp at h; omega
   all_goals try (simp[h0,h1,h2,h7,h8,h9,h11,h12]; done)
   intro e H g12 hLI
   simp -implicitDefEqProofs[g12,w1]
   exact hLI
  | false =>
   have hneg:¬ x0<0:=by simpa using hx0.symm
   simp -implicitDefEqProofs[h0,h1,h2,h7,h8,h9,h11,h12,hlt,hneg,nodX,Mc.hp,Mc.M]
   refine LI.cong (H':=c.hp A (B++g::⟨[i64 x0,i64 x1,i64 x2],85,0,true⟩::nodX A B false x0 info nx ws::intO nx::intO ws::(L++[nowO []])) s') (by simp[Mc.hp,Mc.M,nodX,nowO]) (key ws s' L _ hk hkg hws hw hL ?_ ?_ ?_ ?_ ?_ ?_ ?_ ?_ ?_ ?_ _ _ (fun env H hX=>by simp only[if_true]; exact hX) ?_)
   all_goals try (simp[h0,h1,h2,h7,h8,h9,h11,h12]; done)
   intro e H g12 hLI
   simp -implicitDefEqProofs[g12,w1]
   exact hLI
end
end Go.Proofs.Ytogjmpkehjfecaa.Rc
namespace Go.Proofs.Ytogjmpkehjfecaa.Rc
open Go.Ab
def phN:Nd:=⟨0,0,0,[],[],[]⟩
structure MMid (c:Mc) (s s2:Ms) (level:Nat) (x0:Int) (info many:Nat):Prop where
 ns:s2.ns=s.ns++[phN]
 pend:s2.pend=s.pend-1
 a0:0≤s2.at'
 m3:1≤many∧many≤3
 set:(x0<0∧info=0∧s2.is=s.is∧s2.vs=s.vs) ∨
  (0≤x0∧s2.is[info]? = some (x0,(many:Int))∧((s2.is=s.is∧s2.vs=s.vs∧∃ h:info<s.vs.length,s.vs[info].lv=level) ∨
   (x0<c.pl∧info=s.is.length∧s2.is=s.is++[(x0,(many:Int))]∧∃ sn:List Int,sn.length≤100∧s2.vs=s.vs++[⟨x0,level,sn,info⟩])))
section
variable {c:Mc} {s s2 s3:Ms} {level info many:Nat} {x0:Int}
theorem set_last {α:Type} (l:List α) (p x:α) (r:List α):(l++p::r).set l.length x=l++x::r:=by
 rw[List.set_append_right _ _ (Nat.le_refl _)]; simp
theorem post_end {ps:List Int} {a:Int} {h:Nat} (hc:c.Good) (hi:MInv c s level) (hp1:1≤s.pend) (hns:s3.ns=s.ns++[phN]) (hpe:s3.pend=s.pend-1) (his:s3.is=s.is) (hvs:s3.vs=s.vs) (hps:(ps.length:Int)=c.pl) (hw:∀ w∈ps,-3≤w∧w≤3) (ha:0≤a) :
 MPost c s (s3.endN s.ns.length ps a) level h [⟨3,0,0,[],[],ps⟩] [] []:=by
 have e:(s3.endN s.ns.length ps a).ns=s.ns++[⟨3,0,0,[],[],ps⟩]:=by simp only[Ms.endN,hns]; exact set_last _ _ _ _
 have ei:(s3.endN s.ns.length ps a).is=s.is:=his
 have ev:(s3.endN s.ns.length ps a).vs=s.vs:=hvs
 refine⟨e,by rw[ei]; simp,by rw[ev]; simp,hpe,by simp,Wlk.leaf _ _ rfl,by simp[rg,ei],?_,⟨ha,?_,?_,?_,?_,?_,?_,?_,?_⟩⟩
 · intro x hx
   simp at hx; subst hx
   exact .inr (.inr ⟨rfl,rfl,rfl,rfl,rfl,hps,fun w h=>by have:=hw w h; omega⟩)
 · rw[ei,ev]; exact hi.vl
 · intro j hj
   have hj':j<s.vs.length:=by rw[←ev]; exact hj
   have:=hi.vi j hj'
   simp only[ei,ev]; exact this
 · rw[ev]; exact hi.vsn
 · intro j hj hl
   have hj':j<s.vs.length:=by rw[←ev]; exact hj
   simp only[ev]at hl
   obtain⟨x,h1,h2⟩:=hi.used j hj' hl
   exact⟨x,by rw[e]; exact List.mem_append_left _ h1,h2⟩
 · rw[ei]; exact hi.isr
 · intro x hx hk
   rw[e]at hx
   rcases List.mem_append.1 hx with h | h
   · rw[ei]; exact hi.nsr x h hk
   · simp at h; subst h; simp at hk
 · rw[ei,e]; have:=hi.il; simp; omega
 · rw[e]; have:=hi.ml; have:(s3.endN s.ns.length ps a).pend=s.pend-1:=hpe; simp; omega
theorem MMid.set' (hm:MMid c s s2 level x0 info many) (hi:MInv c s level):∃ i1 v1,s2.is=s.is++i1∧s2.vs=s.vs++v1∧(∀ v∈v1,v.lv=level∧v.sn.length≤100∧i1=[(v.pl,(many:Int))]∧v.inf=s.is.length∧0≤v.pl∧v.pl<c.pl)∧i1.length=v1.length∧i1.length≤1:=by
 rcases hm.set with ⟨_,_,h1,h2⟩ | ⟨h0,_,⟨h1,h2,_⟩ | ⟨h3,h4,h1,sn,h5,h2⟩⟩
 · exact⟨[],[],by simp[h1],by simp[h2],by simp,rfl,by simp⟩
 · exact⟨[],[],by simp[h1],by simp[h2],by simp,rfl,by simp⟩
 · exact⟨_,_,h1,h2,by simp[h5,h0,h3,h4],rfl,by simp⟩
theorem MMid.inv (hm:MMid c s s2 level x0 info many) (hc:c.Good) (hi:MInv c s level) (hp1:1≤s.pend) (hle:(s.ns.length:Int)+1+s2.pend+many≤c.most):MInv c { s2 with pend:=s2.pend+many } (level+1):=by
 obtain⟨i1,v1,e1,e2,h1,h2,h3⟩:=hm.set' hi
 have hvl:=hi.vl
 refine⟨hm.a0,?_,?_,?_,?_,?_,?_,?_,?_⟩
 · simp only[e1,e2,List.length_append]; omega
 · intro j hj
   simp only[e2,List.length_append]at hj
   simp only[e1,e2]
   by_cases hj':j<s.vs.length
   · rw[List.getElem_append_left hj',List.getElem_append_left (by omega)]
     exact hi.vi j hj'
   · have hj2:j-s.vs.length<v1.length:=by omega
     rw[List.getElem_append_right (by omega),List.getElem_append_right (by omega)]
     obtain⟨k1,k2,k3,k4,k5,k6⟩:=h1 _ (List.getElem_mem hj2)
     have:j=s.vs.length:=by omega
     refine⟨by rw[k4]; omega,?_⟩
     simp only[k3]; simp
 · intro v hv
   simp only[e2]at hv
   rcases List.mem_append.1 hv with h | h
   · exact hi.vsn v h
   · exact(h1 v h).2.1
 · intro j hj hl
   simp only[e2,List.length_append]at hj hl
   by_cases hj':j<s.vs.length
   · rw[List.getElem_append_left hj']at hl
     obtain⟨x,k1,k2⟩:=hi.used j hj' (by omega)
     exact⟨x,by simp only[hm.ns]; exact List.mem_append_left _ k1,k2⟩
   · rw[List.getElem_append_right (by omega)]at hl
     have:=(h1 _ (List.getElem_mem (show j-s.vs.length<v1.length by omega))).1
     omega
 · intro q hq
   simp only[e1]at hq
   rcases List.mem_append.1 hq with h | h
   · exact hi.isr q h
   · cases hv:v1 with
     | nil=>rw[hv]at h2; simp at h2; rw[h2]at h; simp at h
     | cons v r =>
      obtain⟨k1,k2,k3,k4,k5,k6⟩:=h1 v (by rw[hv]; simp)
      rw[k3]at h; simp at h; subst h
      have:=hm.m3
      exact⟨k5,k6,by omega,by omega⟩
 · intro x hx hk
   simp only[hm.ns]at hx
   rcases List.mem_append.1 hx with h | h
   · have:=hi.nsr x h hk
     simp only[e1,List.length_append]; omega
   · simp[phN]at h; subst h; simp at hk
 · have:=hi.il
   simp only[e1,hm.ns,List.length_append,List.length_singleton]; omega
 · simp only[hm.ns,List.length_append,List.length_singleton]; have:=hm.pend; omega
def nodeN (ch:Bool) (x0:Int) (info:Nat) (nx ws:List Int):Nd:=if ch=true then⟨1,0,0,nx,ws,[]⟩else⟨2,x0,info,nx,[],[]⟩
theorem post_node {s4:Ms} {ch:Bool} {nx ws:List Int} {subs:List Nd} {isN:List (Int×Int)} {vsN:List Vw} {h':Nat} (hc:c.Good) (hi:MInv c s level) (hp1:1≤s.pend) (hm:MMid c s s2 level x0 info many) (hch:ch=decide (x0<0))
 (hk:KPost c { s2 with pend:=s2.pend+many } s4 (level+1) h' nx subs isN vsN) (hnx:nx.length=many) (hws:ws.length=if ch=true then many else 0) (hw:∀ w∈ws,1≤w∧w≤3) :
 ∃ isM vsM,MPost c s { s4 with ns:=s4.ns.set s.ns.length (nodeN ch x0 info nx ws) } level (h'+1) (nodeN ch x0 info nx ws::subs) isM vsM:=by
 obtain⟨i1,v1,e1,e2,h1,h2,h3⟩:=hm.set' hi
 have hvl:=hi.vl
 have m3:=hm.m3
 have hns4:s4.ns=s.ns++phN::subs:=by rw[hk.ns]; simp[hm.ns]
 have his4:s4.is=s.is++(i1++isN):=by rw[hk.is]; simp[e1]
 have hvs4:s4.vs=s.vs++(v1++vsN):=by rw[hk.vs]; simp[e2]
 have e:s4.ns.set s.ns.length (nodeN ch x0 info nx ws)=s.ns++nodeN ch x0 info nx ws::subs:=by rw[hns4]; exact set_last _ _ _ _
 have hkn:(nodeN ch x0 info nx ws).nx=nx:=by unfold nodeN; split<;>rfl
 have hkd:Kds (s.ns.length+1) h' nx subs:=by have:=hk.kds; simp only[hm.ns,List.length_append,List.length_singleton]at this; exact this
 have hinfo:ch=false->s4.is[info]? = some (x0,(many:Int))∧0≤x0∧x0<c.pl:=by
  intro hf
  have hx:¬ x0<0:=by rw[hf]at hch; simpa using hch.symm
  have key:s2.is[info]? = some (x0,(many:Int)):=by
   rcases hm.set with ⟨h,_⟩ | ⟨_,h,_⟩
   · exact absurd h hx
   · exact h
  refine⟨by rw[hk.is,List.getElem?_append_left (getElem?_lt key)]; exact key,by omega,?_⟩
  have:=hk.inv.isr (x0,(many:Int)) (by rw[hk.is]; exact List.mem_append_left _ (List.mem_of_getElem? key))
  exact this.2.1
 refine⟨i1++isN,v1++vsN,e,his4,hvs4,?_,?_,Wlk.node (by rw[hkn]; exact hkd),?_,?_,?_⟩
 · show s4.pend=_
   rw[hk.pend]; simp only[hm.pend,hnx]; omega
 · intro v hv
   rcases List.mem_append.1 hv with h | h
   · rw[(h1 v h).1]; exact Int.le_refl _
   · have:=hk.lv v h; omega
 · have hr:=hk.rg
   simp only[e1]at hr
   cases ch with
   | true =>
    have hx:x0<0:=by simpa using hch.symm
    have hi1:i1=[]:=by
     rcases hm.set with ⟨_,_,h,_⟩ | ⟨h,_⟩
     · rw[e1]at h; simpa using h
     · omega
    rw[hi1]at hr; simp at hr
    simp[rg,nodeN]; exact hr
   | false =>
    have hx:¬ x0<0:=by simpa using hch.symm
    rcases hm.set with ⟨h,_⟩ | ⟨_,_,⟨h4,_,hlt,_⟩ | ⟨_,h4,h5,_⟩⟩
    · omega
    · have hi1:i1=[]:=by rw[e1]at h4; simpa using h4
      rw[hi1]at hr; simp at hr
      rw[show nodeN false x0 info nx ws=⟨2,x0,info,nx,[],[]⟩from rfl]
      simp only[rg]
      rw[if_pos trivial,if_neg (by omega),if_pos (by omega)]; exact hr
    · have hi1:i1=[(x0,(many:Int))]:=by rw[e1]at h5; simpa using h5
      rw[hi1]at hr; simp at hr
      rw[show nodeN false x0 info nx ws=⟨2,x0,info,nx,[],[]⟩from rfl]
      simp only[rg]
      rw[if_pos trivial,if_pos (by omega)]; exact hr
 · intro x hx
   rcases List.mem_cons.1 hx with rfl | hx
   · cases ch with
     | true=>exact .inl ⟨rfl,rfl,rfl,rfl,by simp[nodeN]; omega,by simp[nodeN]; omega,by simp at hws; simp[nodeN]; omega,fun w h=>by have:=hw w h; omega⟩
     | false =>
      obtain⟨k1,k2,k3⟩:=hinfo rfl
      exact .inr (.inl ⟨rfl,rfl,rfl,by simp[nodeN]; omega,by simp[nodeN]; omega,k2,k3,by simp[nodeN],by simp[nodeN,hnx]; exact k1⟩)
   · exact hk.good x hx
 · have hin:∀ y∈s4.ns,y.k=2->y∈s4.ns.set s.ns.length (nodeN ch x0 info nx ws):=by
    intro y hy hy2
    rw[hns4]at hy; rw[e]
    rcases List.mem_append.1 hy with h | h
    · exact List.mem_append_left _ h
    · rcases List.mem_cons.1 h with rfl | h
      · simp[phN]at hy2
      · exact List.mem_append_right _ (List.mem_cons_of_mem _ h)
   refine⟨hk.inv.a0,hk.inv.vl,hk.inv.vi,hk.inv.vsn,?_,hk.inv.isr,?_,?_,?_⟩
   · intro j hj hl
     by_cases hj2:((level+1:Nat):Int)≤s4.vs[j].lv
     · obtain⟨x,k1,k2,k3⟩:=hk.inv.used j hj hj2
       exact⟨x,hin x k1 k2,k2,k3⟩
     · have hlv:s4.vs[j].lv=level:=by show s4.vs[j].lv=_; have:(level:Int)≤s4.vs[j].lv:=hl; omega
       by_cases hj3:j<s.vs.length
       · have ej:s4.vs[j]=s.vs[j]:=by simp only[hvs4]; rw[List.getElem_append_left hj3]
         obtain⟨x,k1,k2,k3⟩:=hi.used j hj3 (by rw[←ej,hlv]; exact Int.le_refl _)
         exact⟨x,by show x∈s4.ns.set _ _; rw[e]; exact List.mem_append_left _ k1,k2,k3⟩
       · by_cases hj4:j-s.vs.length<v1.length
         · have hv1:v1.length=1:=by omega
           rcases hm.set with ⟨_,_,_,h⟩ | ⟨hx0,_,⟨_,h,_⟩ | ⟨_,h4,_,sn,_,h⟩⟩
           · rw[e2]at h; simp at h; rw[h]at hv1; simp at hv1
           · rw[e2]at h; simp at h; rw[h]at hv1; simp at hv1
           · have hcf:ch=false:=by rw[hch]; simpa using hx0
             refine⟨nodeN ch x0 info nx ws,by show _∈s4.ns.set _ _; rw[e]; simp,by rw[hcf]; rfl,?_⟩
             rw[hcf]; show(info:Int)=j; omega
         · exfalso
           have hj5:j-s.vs.length-v1.length<vsN.length:=by
            have:j<s4.vs.length:=hj
            rw[hvs4]at this; simp at this; omega
           have ej:s4.vs[j]=vsN[j-s.vs.length-v1.length]:=by
            simp only[hvs4]; rw[List.getElem_append_right (by omega),List.getElem_append_right (by omega)]
           have:=hk.lv _ (List.getElem_mem hj5)
           rw[←ej]at this; omega
   · intro x hx hx2
     have hx':x∈s.ns++nodeN ch x0 info nx ws::subs:=by rw[←e]; exact hx
     rcases List.mem_append.1 hx' with h | h
     · exact hk.inv.nsr x (by rw[hns4]; exact List.mem_append_left _ h) hx2
     · rcases List.mem_cons.1 h with rfl | h
       · cases hcc:ch with
         | true=>rw[hcc]at hx2; simp[nodeN]at hx2
         | false =>
          have:=getElem?_lt (hinfo hcc).1
          show 0≤(info:Int)∧(info:Int)<s4.is.length
          omega
       · exact hk.inv.nsr x (by rw[hns4]; exact List.mem_append_right _ (List.mem_cons_of_mem _ h)) hx2
   · show s4.is.length≤(s4.ns.set _ _).length
     rw[List.length_set]; exact hk.inv.il
   · show((s4.ns.set _ _).length:Int)+s4.pend≤_
     rw[List.length_set]; exact hk.inv.ml
end
structure GMid (c:Mc) (s2:Ms) (level:Nat) (x0:Int) (info:Nat) (seen:List (List Int)):Prop where
 un:Unq s2.vs
 lv:lvF c level=x0
 vw:0≤x0->∃ s v,seen[x0.toNat]? = some s∧s2.vs[info]? = some v∧v.pl=x0∧v.lv=level∧v.sn=s
theorem gh_leaf {c:Mc} {b level:Nat} {seen:List (List Int)} {x:Nd} {vs:List Vw} (hk:x.k=3) (hx:x.nx=[]) (h:Unq vs):GhP c b level seen [x] vs:=by
 have hj:∀ (j:Nat) (y:Nd),[x][j]? = some y->y=x:=fun j y h=>by
  have:=List.mem_of_getElem? h
  simpa using this
 refine⟨h,[⟨level,seen⟩],rfl,rfl,fun j y z hy hz k d hd => ?_,fun j y z hy hz => ?_⟩
 · rw[hj j y hy,hx]at hd; simp at hd
 · rw[hj j y hy]
   exact⟨fun h=>by omega,fun h=>by omega⟩
theorem gh_node {c:Mc} {s2:Ms} {b level info:Nat} {x0:Int} {seen:List (List Int)} {ch:Bool} {nx ws:List Int} {subs:List Nd} {vsN:List Vw} (hg:GMid c s2 level x0 info seen) (hch:ch=decide (x0<0)) (hk:KGh c (b+1) (level+1) seen x0 nx subs (s2.vs++vsN)) :
 GhP c b level seen (nodeN ch x0 info nx ws::subs) (s2.vs++vsN):=by
 obtain⟨u,gs,l,k1,n1,f1⟩:=hk
 refine⟨u,⟨level,seen⟩::gs,by simp[l],rfl,fun j x y hx hy k d hd => ?_,fun j x y hx hy => ?_⟩
 · cases j with
   | zero =>
    simp only[List.getElem?_cons_zero,Option.some.injEq]at hx hy
    subst hx; subst hy
    have e:(nodeN ch x0 info nx ws).nx=nx:=by unfold nodeN; split<;>rfl
    rw[e]at hd
    obtain⟨m,z,e1,e2,e3,e4⟩:=k1 k d hd
    refine⟨m+1,z,by rw[e1]; congr 1; omega,by simpa using e2,?_,e4⟩
    refine⟨e3.1,fun q hq => ?_⟩
    obtain⟨e',a1,a2⟩:=e3.2 q hq
    refine⟨e',a1,fun hm=>a2 ?_⟩
    cases ch with
    | true =>
     have:(nodeN true x0 info nx ws).mvr = -1:=rfl
     rw[this]at hm; omega
    | false =>
     have:(nodeN false x0 info nx ws).mvr=x0:=rfl
     rw[this]at hm; exact hm
   | succ j =>
    simp only[List.getElem?_cons_succ]at hx hy
    obtain⟨m,z,e1,e2,e3⟩:=n1 j x y hx hy k d hd
    exact⟨m+1,z,by rw[e1]; congr 1; omega,by simpa using e2,e3⟩
 · cases j with
   | zero =>
    simp only[List.getElem?_cons_zero,Option.some.injEq]at hx hy
    subst hx; subst hy
    cases ch with
    | true =>
     have hn:x0<0:=by simpa using hch.symm
     exact⟨fun h=>by simp[nodeN]at h,fun _=>by rw[hg.lv]; exact hn⟩
    | false =>
     have hn:¬ x0<0:=by simpa using hch.symm
     obtain⟨s,v,h1,h2,h3⟩:=hg.vw (by omega)
     refine⟨fun _=>⟨hg.lv,by simp[nodeN],by show 0≤x0; omega,s,v,h1,?_,h3⟩,fun h=>by simp[nodeN]at h⟩
     show(s2.vs++vsN)[(info:Int).toNat]? = _
     rw[Int.toNat_natCast,List.getElem?_append_left (getElem?_lt h2)]
     exact h2
   | succ j =>
    simp only[List.getElem?_cons_succ]at hx hy
    exact f1 j x y hx hy
end Go.Proofs.Ytogjmpkehjfecaa.Rc
namespace Go.Proofs.Ytogjmpkehjfecaa.Rc
open Go.Ab
def t60:IC:=IC.tl 8 i35
section
variable {A B:List AO} {c:Mc} {s s2:Ms} {level info many:Nat} {x0 x1 x2:Int} {seen:List (List Int)}
set_option maxRecDepth 10000 in
theorem tail60 {env:Env} {g:AO} {N:Nat} (hc:c.Good) (hi:MInv c s level) (hp1:1≤s.pend) (hm:MMid c s s2 level x0 info many) (hus:Unq s.vs) (hgm:GMid c s2 level x0 info seen) (hb:BuildOk c (level+1)) (hcl:closed (c.hp A B s)) (hg:Cl 0 [g]) (hlv:level<c.lv.length)
 (hs:(seen.length:Int)=c.pl) (hsl:∀ l∈seen,l.length≤level) (h0:env.get 0=.ptr (.own (A.length+1) 0 0 0 0) 0) (h1:env.get 1=i64 level) (h2:env.get 2=seenV seen) (h7:env.get 7=i64 s.ns.length) (h8:env.get 8=.ptr (.own (A.length+(B.length+7)) 0 0 0 0) 0)
 (h9:env.get 9=i64 many) (h10:env.get 10=i64 info) :
 X Try.prog N drawB t60 env (c.hp A (B++[g,⟨[i64 x0,i64 x1,i64 x2],85,0,true⟩]) s2) (FinP (A.length+(B.length+6)) r35 (buildP c A B s level seen)):=by
 have hcm:=hc.m
 have hml:=hi.ml
 have m3:=hm.m3
 have hpe:=hm.pend
 have hcp:=hc.p2
 have w1:IntKind.i64.wrap ((s.ns.length:Int)+1)=s.ns.length+1:=wrap_id (by omega) (by omega)
 have w2:IntKind.i64.wrap ((s.ns.length:Int)+1+s2.pend)=s.ns.length+1+s2.pend:=wrap_id (by omega) (by omega)
 have w3:IntKind.i64.wrap ((s.ns.length:Int)+1+s2.pend+many)=s.ns.length+1+s2.pend+many:=wrap_id (by omega) (by omega)
 have w4:IntKind.i64.wrap (s2.pend+many)=s2.pend+many:=wrap_id (by omega) (by omega)
 by_cases hgt:c.most<(s.ns.length:Int)+1+s2.pend+many
 · simp -implicitDefEqProofs[t60,IC.tl,i35,r35,h0,h1,h2,h7,h8,h9,h10,Mc.hp,Mc.M,w1,w2,w3,w4,hgt]
   obtain⟨i1,v1,e1,e2,hv1,hv2,hv3⟩:=hm.set' hi
   have hvl:=hi.vl
   have hil:=hi.il
   have hn2:s2.ns.length=s.ns.length+1:=by simp[hm.ns]
   have hd:=ok61 (A:=A) (B:=B++[g,⟨[i64 x0,i64 x1,i64 x2],85,0,true⟩]) (c:=c) (s:=s2) (info:=info) (pl:=x0) (by omega) (by rw[e1]; simp; omega) (fun h=>by
    rcases hm.set with ⟨h',_⟩ | ⟨_,h',_⟩
    · omega
    · have:=getElem?_lt h'; omega) (by rw[e1,e2]; simp; omega)
   refine call_goP hd ?_
   rintro o G' ⟨rfl,hcase⟩
   obtain⟨s3,rfl,k1,k2,k3,k4,k5⟩:∃ s3,G'=c.hp A (B++[g,⟨[i64 x0,i64 x1,i64 x2],85,0,true⟩]) s3∧s3.ns=s.ns++[phN]∧s3.pend=s.pend-1∧s3.is=s.is∧s3.vs=s.vs∧0≤s3.at':=by
    rcases hcase with ⟨hcond,rfl⟩ | ⟨hx,hcond,hno,rfl⟩
    · refine⟨s2,rfl,hm.ns,hm.pend,?_,?_,hm.a0⟩<;>rcases hm.set with ⟨_,_,h,h'⟩ | ⟨hx,_,⟨h,h',_⟩ | ⟨_,h4,h,sn,_,h'⟩⟩
      all_goals first
       | exact h
       | exact h'
       | skip
      all_goals
       exfalso
       rcases hcond with hh | hh | ⟨x,hx1,hx2,hx3⟩
       · omega
       · rw[h]at hh; simp at hh; omega
       · rw[hm.ns]at hx1
         rcases List.mem_append.1 hx1 with hx1 | hx1
         · have:=hi.nsr x hx1 hx2; omega
         · simp[phN]at hx1; subst hx1; simp at hx2
    · refine⟨s2.cut,rfl,hm.ns,hm.pend,?_,?_,hm.a0⟩<;>rcases hm.set with ⟨hx',_⟩ | ⟨_,h6,⟨h,h',hlt,hlv'⟩ | ⟨_,h4,h,sn,_,h'⟩⟩
      · omega
      · exfalso
        obtain⟨x,hx1,hx2,hx3⟩:=hi.used info hlt (by rw[hlv']; exact Int.le_refl _)
        exact hno x (by rw[hm.ns]; exact List.mem_append_left _ hx1) ⟨hx2,hx3⟩
      · simp[Ms.cut,h]
      · omega
      · exfalso
        obtain⟨x,hx1,hx2,hx3⟩:=hi.used info hlt (by rw[hlv']; exact Int.le_refl _)
        exact hno x (by rw[hm.ns]; exact List.mem_append_left _ hx1) ⟨hx2,hx3⟩
      · simp[Ms.cut,h']
   simp -implicitDefEqProofs[h0,h1,h2,h7,h8,h9,h10]
   refine call_goP (ok59 (k:=s.ns.length) hc.l k5 hc.p1 hc.p2 (by rw[k1]; simp) (by rw[k1]; simp; omega)) ?_
   rintro o G' ⟨rfl,ps,a,p1,p2,p3,rfl⟩
   simp -implicitDefEqProofs[h0,h1,h2,h7,h8,h9,h10]
   exact⟨_,_,⟨rfl,_,_,_,_,post_end hc hi hp1 k1 k2 k3 k4 p1 p2 p3,gh_leaf rfl rfl (by show Unq s3.vs; rw[k4]; exact hus),rfl⟩,by rw[←hp_len]; exact hp_fin hcl rfl (fz_i64 _ _ _ _ _)⟩
 · simp -implicitDefEqProofs[t60,IC.tl,i35,r35,h0,h1,h2,h7,h8,h9,h10,Mc.hp,Mc.M,w1,w2,w3,w4,hgt]
   have hfin:∀ (ch:Bool),ch=decide (x0<0)->∀ (env:Env) (L:List AO) (s':Ms) (nx ws:List Int) (subs:List Nd) (isN:List (Int×Int)) (vsN:List Vw),nx.length=many->KPost c { s2 with pend:=s2.pend+many } s' (level+1) (c.lv.length-(level+1)) nx subs isN vsN->KGh c (s.ns.length+1) (level+1) seen x0 nx subs s'.vs->(ws.length=if ch=true then many else 0)->(∀ w∈ws,1≤w∧w≤3)->Cl 0 L →
    env.get 0=.ptr (.own (A.length+1) 0 0 0 0) 0->env.get 7=i64 s.ns.length->env.get 11=.ptr (.own (A.length+(B.length+8)) 0 0 0 0) 0 →
    X Try.prog N drawB (IC.tl 5 t60) env (c.hp A (B++g::⟨[i64 x0,i64 x1,i64 x2],85,0,true⟩::nodX A B ch x0 info nx ws::intO nx::intO ws::L) s') (FinP (A.length+(B.length+6)) r35 (buildP c A B s level seen)):=by
    intro ch hch env L s' nx ws subs isN vsN hnx hk hkg hws hw hL g0 g7 g11
    obtain⟨isM,vsM,hpo⟩:=post_node hc hi hp1 hm hch hk hnx hws hw
    have hlt:s.ns.length<s'.ns.length:=by rw[hk.ns]; simp[hm.ns]
    have hle:=rws_le Nd.lenN hlt
    simp -implicitDefEqProofs[t60,IC.tl,i35,r35,g0,g7,g11,Mc.hp,Mc.M,nodX]
    refine⟨hlt,⟨by cases ch<;>rfl,rfl⟩,by simpa[Mc.N]using hle,_,_,⟨rfl,_,_,_,_,(by rw[show c.lv.length-level=c.lv.length-(level+1)+1 by omega]; exact hpo),(by
     have e2:s'.vs=s2.vs++vsN:=hk.vs
     rw[e2]at hkg
     show GhP c s.ns.length level seen _ s'.vs
     rw[e2]
     exact gh_node hgm hch hkg),rfl⟩,?_⟩
    have f1:=fz_own (n:=A.length+(B.length+6)) (ks:=[]) (L:=g::⟨[i64 x0,i64 x1,i64 x2],85,0,true⟩::nodX A B ch x0 info nx ws::intO nx::intO ws::L) (d:=1) 3 0 nx.length 1 nx.length
    have f2:=fz_own (n:=A.length+(B.length+6)) (ks:=[]) (L:=g::⟨[i64 x0,i64 x1,i64 x2],85,0,true⟩::nodX A B ch x0 info nx ws::intO nx::intO ws::L) (d:=1) 4 0 ws.length 1 ws.length
    have z1:(ints nx).length=nx.length:=by simp[ints]
    have z2:(ints ws).length=ws.length:=by simp[ints]
    have hne:nx≠[]:=by intro e; subst e; simp at hnx; omega
    have hcl2:closed (c.hp A B s'):=closed_hp hcl
    have:=fin_node (A:=A) (B:=B) (c:=c) (s:=s') (n0:=A.length+(B.length+6)) (k:=s.ns.length) (L:=g::⟨[i64 x0,i64 x1,i64 x2],85,0,true⟩::nodX A B ch x0 info nx ws::intO nx::intO ws::L) (r:=i64 s.ns.length) (x:=nodeN ch x0 info nx ws)
     (cx:=[i64 (if ch=true then 1 else 2),i64 (if ch=true then 0 else x0),i64 (if ch=true then 0 else info),.own (A.length+(B.length+9)) 0 nx.length 1 nx.length,if ch=true then .own (A.length+(B.length+10)) 0 ws.length 1 ws.length else .val (.slice none 0 0),.val (.slice none 0 0)]) hcl2 (Nat.le_refl _) hlt (by
      rw[show A.length+(B.length+9)=A.length+(B.length+6)+3 by omega,show A.length+(B.length+10)=A.length+(B.length+6)+4 by omega]
      simp[placeOf,intO,z1,z2,List.take_of_length_le]at f1 f2
      cases ch with
      | true =>
       have hne2:ws≠[]:=by intro e; subst e; simp at hws; omega
       simp[nodeN,Nd.cN,slN,hne,hne2,sl,f1,f2,intO,placeOf,z1,z2,List.take_of_length_le]
      | false=>simp[nodeN,Nd.cN,slN,hne,sl,f1,f2,intO,placeOf,z1,z2,List.take_of_length_le])
    simp[Mc.hp,Mc.D,Mc.L,Mc.M,Mc.V,Mc.N,Mc.I,nodX]at this ⊢
    exact this
   have hinv:=hm.inv hc hi hp1 (by omega)
   have hA:Cl (A.length+(B.length+6)) A:=by have:=closed_iff.1 hcl; rw[hp_len]at this; exact this.left
   have hB:Cl (A.length+(B.length+6)) B:=by have:=closed_iff.1 hcl; rw[hp_len]at this; exact this.right.tail.tail.tail.tail.tail.tail
   have hloop:∀ (ch:Bool),ch=decide (x0<0)->∀ (env:Env) (K':XE->Env->List AO->Prop),(∀ env H,X Try.prog N drawB (IC.tl 5 t60) env H (FinP (A.length+(B.length+6)) r35 (buildP c A B s level seen))->K' (.exit 0) env H) →
    env.get 0=.ptr (.own (A.length+1) 0 0 0 0) 0->env.get 1=i64 level->env.get 2=seenV seen->env.get 7=i64 s.ns.length->env.get 8=.ptr (.own (A.length+(B.length+7)) 0 0 0 0) 0->env.get 9=i64 many->env.get 11=.ptr (.own (A.length+(B.length+8)) 0 0 0 0) 0->env.get 12=i64 0 →
    LI Try.prog N drawB l35_0 env (c.hp A (B++g::⟨[i64 x0,i64 x1,i64 x2],85,0,true⟩::nodX A B ch x0 info [] []::intO []::intO []::[]) { s2 with pend:=s2.pend+many }) K':=by
    intro ch hch env K' hK' g0 g1 g2 g7 g8 g9 g11 g12
    refine loop60_0 (s1:={ s2 with pend:=s2.pend+many }) (level:=level) (many:=many) (seen:=seen) hc hb hA hB hg hs hsl hlv m3.2 hch (by show(many:Int)≤s2.pend+many; omega) (at':=s.ns.length) (fun env L s' nx ws subs isN vsN hnx hk hkg hws hw hL k0 k7 k11=>hK' _ _ (hfin ch hch env L s' nx ws subs isN vsN hnx hk (by simpa[hm.ns]using hkg) hws hw hL k0 k7 k11)) many env [] _ [] [] [] [] [] (by simp) (KPost.zero hinv) (KGh.zero hgm.un) (by cases ch<;>rfl) (by simp) (Cl.nil _) g0 g1 g2 g7 g8 g9 g11 g12
   refine⟨rfl,?_⟩
   by_cases hx:0≤x0
   · rw[if_pos hx]
     refine⟨rfl,LI.tell (Tell.own0 (j:=A.length+(B.length+8)) (p:=3) (o:=⟨[i64 2,i64 x0,i64 info,.val (.slice none 0 0),.val (.slice none 0 0),.val (.slice none 0 0)],59,0,true⟩) ?_ rfl rfl 3 1) (LI.tell (Tell.nil 3) (LI.cong (H':=c.hp A (B++g::⟨[i64 x0,i64 x1,i64 x2],85,0,true⟩::nodX A B false x0 info [] []::intO []::intO []::[]) { s2 with pend:=s2.pend+many }) ?_ (hloop false (by simpa using hx) _ _ (fun env H h=>h) ?_ ?_ ?_ ?_ ?_ ?_ ?_ ?_)))⟩
     · simp only[get_app,get_c2,List.getElem?_cons_succ,get_app0,List.getElem?_cons_zero]
     · simp[Mc.hp,Mc.M,nodX,intO,Go.Ab.set_app,set_c2]
       exact⟨rfl,rfl,rfl,rfl,rfl⟩
     all_goals simp[h0,h1,h2,h7,h8,h9]
   · rw[if_neg hx]
     refine LI.tell (Tell.own0 (j:=A.length+(B.length+8)) (p:=3) (o:=⟨[i64 1,i64 0,i64 0,.val (.slice none 0 0),.val (.slice none 0 0),.val (.slice none 0 0)],59,0,true⟩) ?_ rfl rfl 3 1) (LI.tell (Tell.own0 (j:=A.length+(B.length+8)) (p:=4) (o:=⟨[i64 1,i64 0,i64 0,.own (A.length+(B.length+9)) 0 0 1 0,.val (.slice none 0 0),.val (.slice none 0 0)],59,0,true⟩) ?_ rfl rfl 3 1)
      (LI.cong (H':=c.hp A (B++g::⟨[i64 x0,i64 x1,i64 x2],85,0,true⟩::nodX A B true x0 info [] []::intO []::intO []::[]) { s2 with pend:=s2.pend+many }) ?_ (hloop true (by simpa using hx) _ _ (fun env H h=>h) ?_ ?_ ?_ ?_ ?_ ?_ ?_ ?_)))
     · simp only[get_app,get_c2,List.getElem?_cons_succ,get_app0,List.getElem?_cons_zero]
     · simp only[get_app,Go.Ab.set_app,set_c2,get_c2,List.set_cons_succ,List.getElem?_cons_succ,set_app0,List.set_cons_zero,List.append_assoc,List.cons_append,get_app0,List.getElem?_cons_zero]
       simp
     · simp[Mc.hp,Mc.M,nodX,intO,Go.Ab.set_app,set_c2]
       exact⟨rfl,rfl,rfl,rfl,rfl⟩
     all_goals simp[h0,h1,h2,h7,h8,h9]
end
end Go.Proofs.Ytogjmpkehjfecaa.Rc
namespace Go.Proofs.Ytogjmpkehjfecaa.Rc
open Go.Ab
section
variable {A B:List AO} {c:Mc} {s:Ms} {level:Nat} {seen:List (List Int)}
theorem Unq.snoc {vs:List Vw} {p l:Int} {sn:List Int} {i:Int} (h:Unq vs) (hn:∀ v∈vs,¬ (v.pl=p∧v.lv=l∧v.sn=sn)):Unq (vs++[⟨p,l,sn,i⟩]):=by
 intro a b u v ha hb h1 h2 h3
 have hlast:∀ (k:Nat) (w:Vw),¬ k<vs.length->(vs++[(⟨p,l,sn,i⟩:Vw)])[k]? = some w->k=vs.length∧w=⟨p,l,sn,i⟩:=fun k w hk hw=>by
  rw[List.getElem?_append_right (by omega)]at hw
  have hlt:=getElem?_lt hw
  have e:k-vs.length=0:=by simp at hlt; omega
  rw[e]at hw
  exact⟨by omega,by simpa using hw.symm⟩
 by_cases ka:a<vs.length
 · rw[List.getElem?_append_left ka]at ha
   by_cases kb:b<vs.length
   · rw[List.getElem?_append_left kb]at hb
     exact h a b u v ha hb h1 h2 h3
   · obtain⟨_,rfl⟩:=hlast b v kb hb
     exact absurd ⟨h1,h2,h3⟩ (hn u (List.mem_of_getElem? ha))
 · obtain⟨ea,rfl⟩:=hlast a u ka ha
   by_cases kb:b<vs.length
   · rw[List.getElem?_append_left kb]at hb
     exact absurd ⟨h1.symm,h2.symm,h3.symm⟩ (hn v (List.mem_of_getElem? hb))
   · obtain⟨eb,_⟩:=hlast b v kb hb
     omega
def gb:AO:=⟨[i64 0,i64 0,i64 0,.val (.slice none 0 0),.val (.slice none 0 0),.val (.slice none 0 0)],59,0,true⟩
def Ms.push (s:Ms):Ms:={ s with ns:=s.ns++[phN],vn:=s.vn+1,pend:=s.pend-1 }
def m60:IC:=.seq (IC.nth 4 i35) (.seq (IC.nth 5 i35) (.seq (IC.nth 6 i35) (.seq (IC.nth 7 i35) t60)))
theorem h60':i35=.seq (IC.nth 0 i35) (.seq (IC.nth 1 i35) (.seq (IC.nth 2 i35) (.seq (IC.nth 3 i35) m60))):=rfl
set_option maxRecDepth 10000 in
theorem mid60 {env:Env} {N:Nat} (hc:c.Good) (hle:level≤c.lv.length) (hb:level<c.lv.length->BuildOk c (level+1)) (hi:MInv c s level) (hus:Unq s.vs) (hp1:1≤s.pend) (hcl:closed (c.hp A B s)) (hs:(seen.length:Int)=c.pl) (hsl:∀ l∈seen,l.length≤level)
 (h0:env.get 0=.ptr (.own (A.length+1) 0 0 0 0) 0) (h1:env.get 1=i64 level) (h2:env.get 2=seenV seen) (h7:env.get 7=i64 s.ns.length) :
 X Try.prog N drawB m60 env (c.hp A (B++[gb]) s.push) (FinP (A.length+(B.length+6)) r35 (buildP c A B s level seen)):=by
 have hcm:=hc.m
 have hml:=hi.ml
 have hcp:=hc.p2
 have hil:=hi.il
 have hvl:=hi.vl
 have hlv:=hc.lv
 have hend:∀ a:Int,0≤a->OkP Try.prog 59 [.ptr (.own (A.length+1) 0 0 0 0) 0,i64 s.ns.length] (c.hp A (B++[gb]) { s.push with at':=a }) (endQ c A (B++[gb]) { s.push with at':=a } s.ns.length):=fun a ha =>
  ok59 (A:=A) (B:=B++[gb]) (c:=c) (s:={ s.push with at':=a }) (k:=s.ns.length) hc.l ha hc.p1 hc.p2 (by simp[Ms.push]) (by simp[Ms.push]; omega)
 have hfin:∀ (a:Int),0≤a->∀ o G',endQ c A (B++[gb]) { s.push with at':=a } s.ns.length o G'->o=.ret (.tup [])∧FinQ (c.hp A B s).length (buildP c A B s level seen) (i64 s.ns.length) G':=by
  rintro a ha o G' ⟨rfl,ps,a',p1,p2,p3,rfl⟩
  exact⟨rfl,_,_,⟨rfl,_,_,_,_,post_end (s3:={ s.push with at':=a }) hc hi hp1 rfl rfl rfl rfl p1 p2 p3,gh_leaf rfl rfl hus,rfl⟩,hp_fin hcl rfl (fz_i64 _ _ _ _ _)⟩
 rw[hp_len]at hfin
 by_cases hlev:level=c.lv.length
 · simp -implicitDefEqProofs[m60,IC.nth,i35,r35,Mc.hp,Mc.M,h0,h1,h2,h7,hlev]
   refine call_goP (hend s.at' hi.a0) ?_
   intro o G' hq
   obtain⟨rfl,hf⟩:=hfin _ hi.a0 _ _ hq
   simp -implicitDefEqProofs[h0,h1,h2,h7]
   rw[hlev]at hf
   exact hf
 · have hlt:level<c.lv.length:=by omega
   have hd:=rws_at lcN_len hlt
   have hd1:=rws_ge lcN_len hlt
   have hd2:=rws_min lcN_len hlt
   rw[lcN,List.cons_append,List.cons_append,List.cons_append,List.nil_append]at hd
   have hlr:=hc.lvr _ (List.getElem_mem hlt)
   simp -implicitDefEqProofs[m60,IC.nth,i35,r35,Mc.hp,Mc.M,h0,h1,h2,h7,show ¬ ((level:Int)=c.lv.length)by omega]
   refine call_goP (OkP.strip (by show OkP Try.prog 34 [.ptr (.own A.length 0 0 0 0) 0,i64 8] _ _; exact ok34m (A:=A) (B:=B++[gb]) (c:=c) (s:=s.push) (n:=8) hc.l hi.a0 (by omega))) ?_
   rintro o G' ⟨v,a,rfl,ha,hv1,hv2,rfl⟩
   by_cases hv:v=1
   · simp -implicitDefEqProofs[h0,h1,h2,h7,Mc.hp,Mc.M,hv,show ¬ ((level:Int)=c.lv.length)by omega]
     refine call_goP (hend a ha) ?_
     intro o G' hq
     obtain⟨rfl,hf⟩:=hfin _ ha _ _ hq
     simp -implicitDefEqProofs[h0,h1,h2,h7]
     exact hf
   · generalize hx:c.lv[level]=x at hd hlr
     obtain⟨x0,x1,x2⟩:=x
     simp only at hd hlr
     have htail:=fun(s2:Ms) (info many:Nat) (env:Env) (hm:MMid c s s2 level x0 info many) (hgm:GMid c s2 level x0 info seen) (k0:env.get 0=_) (k1:env.get 1=_) (k2:env.get 2=_) (k7:env.get 7=_) (k8:env.get 8=_) (k9:env.get 9=_) (k10:env.get 10=_) =>
      tail60 (A:=A) (B:=B) (c:=c) (s:=s) (s2:=s2) (seen:=seen) (env:=env) (g:=gb) (N:=N) (x1:=x1) (x2:=x2) hc hi hp1 hm hus hgm (hb hlt) hcl (Cl.cons rfl (Cl.nil _)) hlt hs hsl k0 k1 k2 k7 k8 k9 k10
     have hlvF:lvF c level=x0:=by simp[lvF,hlt,hx]
     by_cases hx0:0≤x0
     · have hxl:x0.toNat<seen.length:=by omega
       simp -implicitDefEqProofs[h0,h1,h2,h7,Mc.hp,Mc.M,Mc.L,hv,hd,hd1,hd2,hx0,hxl,seenV,sl,show x0<(seen.length:Int)by omega,show ¬ ((level:Int)=c.lv.length)by omega,Nat.add_assoc,show 1≤seen.length-x0.toNat by omega]
       refine⟨hlt,?_⟩
       have h74:=ok60 (A:=A) (B:=B++[gb,⟨[i64 x0,i64 x1,i64 x2],85,0,true⟩]) (c:=c) (s:={ s.push with at':=a }) (pl:=x0) (lv:=level) (sn:=seen[x0.toNat]) hc.l ha (by simp[Ms.push]; omega) (by simp[Ms.push]; omega) (fun v h=>hi.vsn v h)
       refine call_goP (by simpa[Mc.hp,Mc.M,Mc.L,sl]using h74) ?_
       rintro o G' (⟨i,hil',e1,e2,e3,rfl,rfl⟩ | ⟨k,a',hno,hk1,hk2,ha',rfl,rfl⟩)
       · have hil2:i<s.vs.length:=hil'
         have hii:i<s.is.length:=by omega
         obtain⟨v1,v2⟩:=hi.vi i hil2
         have q1:=rws_get icN_len (t:=1) hii (by omega)
         simp only[icN,List.getElem?_cons_zero,List.getElem?_cons_succ]at q1
         have q2:=rws_ge icN_len hii
         have hr:=hi.isr _ (List.getElem_mem hii)
         obtain⟨many,hmany⟩:∃ m:Nat,s.is[i].2=m:=⟨s.is[i].2.toNat,by omega⟩
         rw[hmany]at q1
         simp -implicitDefEqProofs[h0,h1,h2,h7,Mc.hp,Mc.M,Mc.I,Ms.push,v1,hii,q1,q2]
         refine⟨by omega,?_⟩
         have hq:s.is[i]? = some (x0,(many:Int)):=by
          rw[List.getElem?_eq_getElem hii,<- hmany]
          have:s.is[i].1=x0:=by rw[←v2]; exact e1
          rw[←this]
         have:=fun env k0 k1 k2 k7 k8 k9 k10=>htail { s.push with at':=a } i many env ⟨rfl,rfl,ha,by omega,.inr ⟨hx0,hq,.inl ⟨rfl,rfl,hil2,e2⟩⟩⟩ ⟨hus,hlvF,fun _=>⟨_,_,List.getElem?_eq_getElem hxl,List.getElem?_eq_getElem hil2,e1,e2,e3⟩⟩ k0 k1 k2 k7 k8 k9 k10
         simp only[Mc.hp,Mc.M,Mc.I,Ms.push,List.length_append,List.length_singleton]at this ⊢
         refine this _ ?_ ?_ ?_ ?_ ?_ ?_ ?_<;>simp[h0,h1,h2,h7]
       · obtain⟨many,hmany⟩:∃ m:Nat,k=m:=⟨k.toNat,by omega⟩
         subst hmany
         have hii:s.is.length<(s.is++[(x0,(many:Int))]).length:=by simp
         have q1:=rws_get icN_len (l:=s.is++[(x0,(many:Int))]) (t:=1) hii (by omega)
         rw[List.getElem_append_right (by omega)]at q1
         simp only[icN,List.getElem?_cons_zero,List.getElem?_cons_succ,Nat.sub_self,List.getElem_cons_zero]at q1
         have q2:=rws_ge icN_len hii
         simp -implicitDefEqProofs[h0,h1,h2,h7,Mc.hp,Mc.M,Mc.I,Ms.push,Ms.addV,q1,q2]
         refine⟨by omega,by omega,?_⟩
         have:=fun env k0 k1 k2 k7 k8 k9 k10=>htail ({ s.push with at':=a }.addV x0 level seen[x0.toNat] many a') s.is.length many env ⟨rfl,rfl,ha',by omega,.inr ⟨hx0,by simp[Ms.addV,Ms.push],.inr ⟨by omega,rfl,rfl,_,(by have:=hsl _ (List.getElem_mem hxl); omega),rfl⟩⟩⟩ ⟨hus.snoc hno,hlvF,fun _=>⟨_,⟨x0,level,seen[x0.toNat],s.is.length⟩,List.getElem?_eq_getElem hxl,by simp[Ms.addV,Ms.push,hvl],rfl,rfl,rfl⟩⟩ k0 k1 k2 k7 k8 k9 k10
         simp only[Mc.hp,Mc.M,Mc.I,Ms.push,Ms.addV,List.length_append,List.length_singleton]at this ⊢
         refine this _ ?_ ?_ ?_ ?_ ?_ ?_ ?_<;>simp[h0,h1,h2,h7]
     · simp -implicitDefEqProofs[h0,h1,h2,h7,Mc.hp,Mc.M,Mc.L,hv,hd,hd1,hd2,hx0,show ¬ ((level:Int)=c.lv.length)by omega]
       refine⟨hlt,?_⟩
       obtain⟨many,hmany⟩:∃ m:Nat,x1=m:=⟨x1.toNat,by omega⟩
       refine htail { s.push with at':=a } 0 many _ ⟨rfl,rfl,ha,by omega,.inl ⟨by omega,rfl,rfl,rfl⟩⟩ ⟨hus,hlvF,fun h=>absurd h hx0⟩ ?_ ?_ ?_ ?_ ?_ ?_ ?_<;>simp[h0,h1,h2,h7,hmany]
set_option maxRecDepth 10000 in
theorem build_step (hc:c.Good) (hle:level≤c.lv.length) (hb:level<c.lv.length->BuildOk c (level+1)):BuildOk c level:=by
 intro A B s seen hi hus hp1 hs hsl
 refine okP_fn hm' Try.func35 c35 (by simp) fun hcl => ?_
 have hcm:=hc.m
 have hml:=hi.ml
 have z0:=rws_len Nd.lenN s.ns
 have w1:IntKind.i64.wrap (s.pend-1)=s.pend-1:=wrap_id (by omega) (by omega)
 have ePh:rws Nd.cN (s.ns++[phN])=rws Nd.cN s.ns++[i64 0,i64 0,i64 0,.val (.slice none 0 0),.val (.slice none 0 0),.val (.slice none 0 0)]:=by rw[rws_app]; rfl
 rw[h60']
 simp -implicitDefEqProofs[IC.nth,i35,Mc.hp,Mc.M,Mc.N,w1,z0]
 refine⟨rfl,by omega,by omega,?_⟩
 have:=fun env h0 h1 h2 h7=>mid60 (env:=env) (N:=Try.f35.ntmps) hc hle hb hi hus hp1 hcl hs hsl h0 h1 h2 h7
 simp only[Mc.hp,Mc.D,Mc.M,Mc.N,Mc.V,Mc.I,Ms.push,gb,ePh,List.append_assoc,List.length_append,List.length_singleton]at this ⊢
 refine this _ ?_ ?_ ?_ ?_<;>simp
end
end Go.Proofs.Ytogjmpkehjfecaa.Rc
