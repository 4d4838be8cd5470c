/- Steps of the proof. -/
import Derived.Test.YtogjmpkehjfecaaGreatDoorPart4
import Derived.Test.YtogjmpkehjfecaaGreatDoorPart3
import Derived.Test.YtogjmpkehjfecaaGreatDoorPart2
import Derived.Test.YtogjmpkehjfecaaGreatDoorCore5
set_option linter.all false
namespace Go.Proofs.YtogjmpkehjfecaaGreatDoor.Rc
open Go.Ab Go.Ab.Shr
def qSo (h:Nat):Nat:=h+5
def qS (h i:Nat):Nat:=h+6+2*i
def qPo (h n:Nat):Nat:=h+7+2*n
def qP (h n i:Nat):Nat:=h+8+2*n+2*i
def qE (h n:Nat):Nat:=h+8+4*n
def nxO (g:Gm) (h:Nat) (r s:Int):AO:=⟨[i64 r,i64 s,.own (qSo h) 0 g.is.length 1 g.is.length,.own (qPo h g.is.length) 0 g.is.length 1 g.is.length],30,1,true⟩
structure PW (g:Gm) (H:Ws) (t:Tin) (rr:Int) (A P:Nat->List Int) (X:Ws):Prop where
 b:X[H.length]? = some (Qk g)
 tb:X[H.length+1]? = some (tB t)
 rb:X[H.length+2]? = some ⟨[i64 0,i64 0,nl,nl],30,0,true⟩
 nx:X[H.length+3]? = some (nxO g H.length rr t.seed)
 so:X[qSo H.length]? = some ⟨QH g.is.length (qS H.length) g.acts 0,45,g.is.length,true⟩
 po:X[qPo H.length g.is.length]? = some ⟨QH g.is.length (qP H.length g.is.length) g.acts 0,45,g.is.length,true⟩
 s:∀ i,i<g.is.length->X[qS H.length i]? = some ⟨Qa (A i),3,0,true⟩
 p:∀ i,i<g.is.length->X[qP H.length g.is.length i]? = some ⟨Qa (P i),3,0,true⟩
 ls:∀ i,i<g.is.length->(A i).length=g.acts i
 lp:∀ i,i<g.is.length->(P i).length=g.acts i
 low:∀ j,j<H.length->X[j]? = H[j]?
 len:qE H.length g.is.length<=X.length
section
variable {g:Gm} {H X:Ws} {t:Tin} {rr:Int} {A P:Nat->List Int}
theorem PW.app (h:PW g H t rr A P X) (L:Ws):PW g H t rr A P (X++L):=by
 have up:∀ {i:Nat} {o:AO},X[i]? = some o->(X++L)[i]? = some o:=λh=>by rw[Vd (Qd h)]; exact h
 have hl:=h.len;exact⟨up h.b,up h.tb,up h.rb,up h.nx,up h.so,up h.po,λi hi=>up (h.s i hi),λi hi=>up (h.p i hi),h.ls,h.lp,λj hj=>by rw[Vd (by unfold qE at hl; omega)]; exact h.low j hj,by simp; omega⟩
theorem PW.setS (h:PW g H t rr A P X) {j:Nat} (hj:j<g.is.length) {l:List Int} (hl:l.length=g.acts j):PW g H t rr (upA A j l) P (X.set (qS H.length j) ⟨Qa l,3,0,true⟩):=by
 have ne:∀ {i:Nat} {o:AO},X[i]? = some o->i≠qS H.length j->(X.set (qS H.length j) ⟨Qa l,3,0,true⟩)[i]? = some o:=λh h2=>by rw[Ve (by omega)]; exact h
 have hlt:=Qd (h.s j hj);refine⟨ne h.b (by unfold qS; omega),ne h.tb (by unfold qS; omega),ne h.rb (by unfold qS; omega),ne h.nx (by unfold qS; omega),ne h.so (by unfold qS qSo; omega),ne h.po (by unfold qS qPo; omega),λi hi => ?_,λi hi=>ne (h.p i hi) (by unfold qS qP; omega),λi hi => ?_,h.lp,λi hi=>by rw[Ve (by unfold qS; omega)]; exact h.low i hi,by simp; exact h.len⟩
 . by_cases e:i=j
   . subst e; rw[Vh hlt]; simp[upA]
   . rw[Ve (by unfold qS; omega),h.s i hi]; simp[upA,e]
 . unfold upA; split
   . rename_i e; rw[e]; exact hl
   . exact h.ls i hi
theorem PW.setP (h:PW g H t rr A P X) {j:Nat} (hj:j<g.is.length) {l:List Int} (hl:l.length=g.acts j):PW g H t rr A (upA P j l) (X.set (qP H.length g.is.length j) ⟨Qa l,3,0,true⟩):=by
 have ne:∀ {i:Nat} {o:AO},X[i]? = some o->i≠qP H.length g.is.length j->(X.set (qP H.length g.is.length j) ⟨Qa l,3,0,true⟩)[i]? = some o:=λh h2=>by rw[Ve (by omega)]; exact h
 have hlt:=Qd (h.p j hj);refine⟨ne h.b (by unfold qP; omega),ne h.tb (by unfold qP; omega),ne h.rb (by unfold qP; omega),ne h.nx (by unfold qP; omega),ne h.so (by unfold qP qSo; omega),ne h.po (by unfold qP qPo; omega),λi hi=>ne (h.s i hi) (by unfold qS qP; omega),λi hi => ?_,h.ls,λi hi => ?_,λi hi=>by rw[Ve (by unfold qP; omega)]; exact h.low i hi,by simp; exact h.len⟩
 . by_cases e:i=j
   . subst e; rw[Vh hlt]; simp[upA]
   . rw[Ve (by unfold qP; omega),h.p i hi]; simp[upA,e]
 . unfold upA; split
   . rename_i e; rw[e]; exact hl
   . exact h.lp i hi
def Qai (g:Gm) (i:Nat):List Int:=Qu (g.acts i)
def Qgh (g:Gm) (H:Ws) (t:Tin) (rr:Int):Ws :=
 H++(Qk g::tB t::⟨[i64 0,i64 0,nl,nl],30,0,true⟩::nxO g H.length rr t.seed::Qk g::⟨QH g.is.length (qS H.length) g.acts 0,45,g.is.length,true⟩::(QcW (H.length+4) g g.is.length++(Qk g::⟨QH g.is.length (qP H.length g.is.length) g.acts 0,45,g.is.length,true⟩::QcW (H.length+6+2*g.is.length) g g.is.length)))
theorem PW.init:PW g H t rr (Qai g) (Qai g) (Qgh g H t rr):=by
 have hb1:=QhD (H.length+4) g g.is.length;have hb2:=QhD (H.length+6+2*g.is.length) g g.is.length;have hz1:=λi hi=>QlI (H.length+4) g g.is.length i hi;have hz2:=λi hi=>QlI (H.length+6+2*g.is.length) g g.is.length i hi;have at':∀ k,(Qgh g H t rr)[H.length+k]? = (Qk g::tB t::⟨[i64 0,i64 0,nl,nl],30,0,true⟩::nxO g H.length rr t.seed::Qk g::⟨QH g.is.length (qS H.length) g.acts 0,45,g.is.length,true⟩::(QcW (H.length+4) g g.is.length++(Qk g::⟨QH g.is.length (qP H.length g.is.length) g.acts 0,45,g.is.length,true⟩::QcW (H.length+6+2*g.is.length) g g.is.length)))[k]? := λk=>by
  unfold Qgh;rw[Vg (by omega)];congr 1; omega
 refine⟨at' 0,at' 1,at' 2,at' 3,?_,?_,λi hi => ?_,λi hi => ?_,λi _=>by simp[Qai,Qu],λi _=>by simp[Qai,Qu],λj hj=>by unfold Qgh; rw[Vd hj],?_⟩
 . exact at' 5
 . have:=at' (7+2*g.is.length);rw[show qPo H.length g.is.length=H.length+(7+2*g.is.length)by unfold qPo; omega,this];rw[show 7+2*g.is.length=(1+2*g.is.length)+6 by omega];simp only[VW];rw[Vg (by omega),hb1,show 1+2*g.is.length-2*g.is.length=1 by omega];rfl
 . rw[show qS H.length i=H.length+(2*i+6)by unfold qS; omega,at'];simp only[VW];rw[Vd (by omega),hz1 i hi]; rfl
 . rw[show qP H.length g.is.length i=H.length+((2*g.is.length+(2*i+2))+6)by unfold qP; omega,at'];simp only[VW];rw[Vg (by omega),hb1,show 2*g.is.length+(2*i+2)-2*g.is.length=2*i+2 by omega];simp only[VW];rw[hz2 i hi]; rfl
 . unfold Qgh qE;simp[hb1,hb2]; omega
end
section
variable {g:Gm} {H X:Ws} {t:Tin} {rr:Int} {A P:Nat->List Int}
structure QjN (g:Gm) (t:Tin):Prop where
 la:t.A.length=g.is.length
 lp:t.P.length=g.is.length
 a:∀ i (h:i<t.A.length),t.A[i].length=g.acts i
 p:∀ i (h:i<t.P.length),t.P[i].length=g.acts i
end
def bls (n:Nat) (s:Nat->Bool):Wt:=(List.range n).map λj=>bl (s j)
structure PX (g:Gm) (H:Ws) (t:Tin) (rr:Int) (A P:Nat->List Int) (ps:Nat) (sn:Nat->Bool) (pn i:Nat) (X:Ws):Prop where
 w:PW g H t rr A P X
 eps:qE H.length g.is.length<=ps
 epn:ps<pn
 sn:X[ps]? = some ⟨bls g.is.length sn,4,0,true⟩
 n:∀ h:i<g.ns.length,X[pn]? = some ⟨g.ns[i].cells,57,0,true⟩
section
variable {g:Gm} {H X:Ws} {t:Tin} {rr:Int} {A P:Nat->List Int} {ps pn i:Nat} {sn:Nat->Bool}
theorem PX.setS (h:PX g H t rr A P ps sn pn i X) {j:Nat} (hj:j<g.is.length) {l:List Int} (hl:l.length=g.acts j):PX g H t rr (upA A j l) P ps sn pn i (X.set (qS H.length j) ⟨Qa l,3,0,true⟩):=by
 have h1:=h.eps; have h2:=h.epn;refine⟨h.w.setS hj hl,h1,h2,?_,λhi => ?_⟩
 . rw[Ve (by unfold qE at h1; unfold qS; omega)]; exact h.sn
 . rw[Ve (by unfold qE at h1; unfold qS; omega)]; exact h.n hi
theorem PX.setP (h:PX g H t rr A P ps sn pn i X) {j:Nat} (hj:j<g.is.length) {l:List Int} (hl:l.length=g.acts j):PX g H t rr A (upA P j l) ps sn pn i (X.set (qP H.length g.is.length j) ⟨Qa l,3,0,true⟩):=by
 have h1:=h.eps; have h2:=h.epn;refine⟨h.w.setP hj hl,h1,h2,?_,λhi => ?_⟩
 . rw[Ve (by unfold qE at h1; unfold qP; omega)]; exact h.sn
 . rw[Ve (by unfold qE at h1; unfold qP; omega)]; exact h.n hi
end
structure PY (g:Gm) (H:Ws) (t:Tin) (rr:Int) (A P:Nat->List Int) (ps:Nat) (sn:Nat->Bool) (X:Ws):Prop where
 w:PW g H t rr A P X
 eps:qE H.length g.is.length<=ps
 sn:X[ps]? = some ⟨bls g.is.length sn,4,0,true⟩
section
variable {g:Gm} {H X:Ws} {t:Tin} {rr:Int} {A P:Nat->List Int} {ps pn i p j:Nat} {sn:Nat->Bool} {V R O:List Int} {S:List (List Int)}
theorem PY.node (h:PY g H t rr A P ps sn X) (hi:i<g.ns.length):PX g H t rr A P ps sn X.length i (X++[⟨g.ns[i].cells,57,0,true⟩]):=by
 have hl:=Qd h.sn;refine⟨h.w.app _,h.eps,hl,by rw[Vd hl]; exact h.sn,λ_ => ?_⟩;rw[Vg (Vc _)]; simp
theorem PX.y (h:PX g H t rr A P ps sn pn i X):PY g H t rr A P ps sn X:=⟨h.w,h.eps,h.sn⟩
theorem PW.setN (h:PW g H t rr A P X) {q:Nat} (hq:qE H.length g.is.length<=q) (o:AO):PW g H t rr A P (X.set q o):=by
 have ne:∀ {i:Nat} {o':AO},X[i]? = some o'->i<qE H.length g.is.length->(X.set q o)[i]? = some o':=λh h2=>by rw[Ve (by omega)]; exact h
 have hl:=h.len;exact⟨ne h.b (by unfold qE; omega),ne h.tb (by unfold qE; omega),ne h.rb (by unfold qE; omega),ne h.nx (by unfold qE; omega),ne h.so (by unfold qE qSo; omega),ne h.po (by unfold qE qPo; omega),λi hi=>ne (h.s i hi) (by unfold qE qS; omega),λi hi=>ne (h.p i hi) (by unfold qE qP; omega),h.ls,h.lp,λi hi=>by rw[Ve (by unfold qE at hq; omega)]; exact h.low i hi,by simp; exact hl⟩
theorem PY.set (h:PY g H t rr A P ps sn X) (j:Nat):PY g H t rr A P ps (λk=>if k=j then true else sn k) (X.set ps ⟨bls g.is.length (λk=>if k=j then true else sn k),4,0,true⟩) :=
 ⟨h.w.setN h.eps _,h.eps,by rw[Vh (Qd h.sn)]⟩
end
section
variable {g:Gm} {H X:Ws} {t:Tin} {rr:Int} {A P:Nat->List Int} {ps pn i p j:Nat} {sn:Nat->Bool} {V R O M:List Int} {S:List (List Int)}
theorem PW.seen (h:PW g H t rr A P X):PY g H t rr A P X.length (λ_=>false) (X++[⟨bls g.is.length λ_=>false,4,0,true⟩]):=by
 refine⟨h.app _,h.len,?_⟩;rw[Vg (Vc _)]; simp
end
section
variable {g:Gm} {M:List Int} {S S':Nat->List Int}
theorem Qpz {V V' nx:List Int} {i q:Nat} (hS:∀ k,k<nx.length->brP g S i k=brP g S' i k) (hV:∀ k,k<nx.length->V.getD ((nx.getD k 0).toNat*4+q) 0=V'.getD ((nx.getD k 0).toNat*4+q) 0):∀ k,k<=nx.length->QR g S V nx i q k=QR g S' V' nx i q k
 |0,_=>rfl
 |k+1,hk=>by
  simp only[QR];rw[Qpz hS hV k (by omega),hS k (by omega),hV k (by omega)]
theorem Qnc (hW:Wg g) {i:Nat} (hi:i<g.ns.length) (hS:∀ j,j<g.is.length->S j=S' j) (k:Nat) (hk:k<g.ns[i].nx.length):brP g S i k=brP g S' i k:=by
 have hx:g.ns[i]? = some g.ns[i]:=Vb hi;simp only[brP,hx];rcases Qep hW hi with h|h|h
 . rw[Wb h,Wb h]
 . rw[Wa (by omega),Wa (by omega),hS _ (QcK hW hi h).1]
 . rw[(Qfd hW hi h).1]at hk; simp at hk
theorem QmB (hW:Wg g) {i q:Nat} (hi:i<g.ns.length) {V V':List Int} (hS:∀ j,j<g.is.length->S j=S' j) (hV:∀ c,i<c->c<g.ns.length->V.getD (c*4+q) 0=V'.getD (c*4+q) 0):QbB g M S V i q=QbB g M S' V' i q:=by
 have hx:g.ns[i]? = some g.ns[i]:=Vb hi;simp only[QbB,hx];rw[Qpz (S':=S') (V':=V') (λk hk=>Qnc hW hi hS k hk) (λk hk => ?_) _ (Vc _)];have hch:=(hW.wf.nf i hi).ch _ (Vf hk);have e:g.ns[i].nx.getD k 0=g.ns[i].nx[k]:=by simp[hk]
 rw[e];exact hV _ (by omega) (by omega)
theorem QkH (V:List Int) (hV:V.length=4*g.ns.length):∀ m,m<=g.ns.length->(Qcp g M S V m).length=4*g.ns.length
 |0,_=>hV
 |m+1,h=>Qbb (QkH V hV m (by omega)) (by omega) _
theorem Qmu (hW:Wg g) (V:List Int) (hV:V.length=4*g.ns.length):∀ m,m<=g.ns.length->∀ i q:Nat,g.ns.length-m<=i->i<g.ns.length->(q:Int)<g.pl->(Qcp g M S V m).getD (i*4+q) 0=QbB g M S (Qcp g M S V m) i q
 |0,_,i,q,h1,h2,_=>absurd h1 (by omega)
 |m+1,hm,i,q,h1,h2,hq=>by
  have hp4:=hW.gd.p4;have hl:=QkH (g:=g) (M:=M) (S:=S) V hV m (by omega);have ih:=Qmu hW V hV m (by omega);simp only[Qcp];generalize Qcp g M S V m=W at *;have hcg:∀ i,g.ns.length-1-m<=i->i<g.ns.length->QbB g M S (Qv W (g.ns.length-1-m) (plF g (QbB g M S W (g.ns.length-1-m)))) i q=QbB g M S W i q:=λi hi1 hi2 =>
   QmB hW hi2 (λ_ _=>rfl) λc hc1 hc2=>Qd5 hl (by omega) hc2 (by omega) (by omega) _
  rw[hcg i (by omega) h2];by_cases e:i=g.ns.length-1-m
  . subst e;rw[QjC hl (by omega) (by omega)];simp[plF,hq]
  . rw[Qd5 hl (by omega) h2 (by omega) e];exact ih i q (by omega) h2 hq
end
section
variable {g:Gm} {M:List Int} {S S':Nat->List Int} {own:Bool}
theorem Qrg {R R':List Int} {i k q:Nat} (h:R.getD (i*4+q) 0=R'.getD (i*4+q) 0):QN g own S M R i k q=QN g own S M R' i k q:=by
 unfold QN; rw[h]
theorem Qun (hW:Wg g) {R:List Int} {i k q:Nat} (hi:i<g.ns.length) (hk:k<g.ns[i].nx.length) (hS:∀ j,j<g.is.length->S j=S' j):QN g own S M R i k q=QN g own S' M R i k q:=by
 unfold QN; rw[Qnc hW hi hS k hk]
structure Qcs (g:Gm) (own:Bool) (M:List Int) (S:Nat->List Int) (i k:Nat) (R:List Int):Prop where
 len:R.length=4*g.ns.length
 z:∀ q:Nat,(q:Int)<g.pl->R.getD (0*4+q) 0=1073741824
 eq:∀ a t q:Nat,∀ h:a<g.ns.length,(ht:t<g.ns[a].nx.length)->(q:Int)<g.pl->(a<i\/a=i/\t<k)->R.getD (g.ns[a].nx[t].toNat*4+q) 0=QN g own S M R a t q
theorem Qcs.step (hW:Wg g) {i k:Nat} {R:List Int} (h:Qcs g own M S i k R) (hi:i<g.ns.length) (hk:k<g.ns[i].nx.length):Qcs g own M S i (k+1) (chR g own S M R i k):=by
 have hp4:=hW.gd.p4;have hx:g.ns[i]? = some g.ns[i]:=Vb hi;have hch:=(hW.wf.nf i hi).ch _ (Vf hk);have hinc:=(hW.wf.nf i hi).inc;have e:g.ns[i].nx.getD k 0=g.ns[i].nx[k]:=by simp[hk]
 have er:chR g own S M R i k=Qv R g.ns[i].nx[k].toNat (Qq g.pl.toNat (QN g own S M R i k) (QA R i)):=by
  simp only[chR,hx,e]
 rw[er];have hl:=h.len;have hcl:g.ns[i].nx[k].toNat<g.ns.length:=by omega
 refine⟨Qbb hl hcl _,λq hq => ?_,λa t q ha ht hq hat => ?_⟩
 . rw[Qd5 hl hcl (by omega) (by omega) (by omega)]; exact h.z q hq
 . have hca:=(hW.wf.nf a ha).ch _ (Vf ht);have hai:a<=i:=by omega
   have hR:(Qv R g.ns[i].nx[k].toNat (Qq g.pl.toNat (QN g own S M R i k) (QA R i))).getD (a*4+q) 0=R.getD (a*4+q) 0:=Qd5 hl hcl ha (by omega) (by omega) _;rw[Qrg hR];by_cases hs:a=i/\t=k
   . obtain⟨rfl,rfl⟩:=hs;rw[QjC hl hcl (by omega)];unfold Qq;rw[Wb (by omega)]
   . have hne:g.ns[a].nx[t].toNat≠g.ns[i].nx[k].toNat:=by
      intro hh;by_cases hai2:a=i
      . subst hai2;have htk:t<k:=by omega
        have:=Yy.1 hinc t k ht hk htk;omega
      . have h1:=hca.2.2.1;have h2:=hch.2.2.1;rw[hh]at h1;omega
     rw[Qd5 hl hcl (by omega) (by omega) hne];exact h.eq a t q ha ht hq (by omega)
theorem Qcs.chs (hW:Wg g) {i:Nat} {R:List Int} (h:Qcs g own M S i 0 R) (hi:i<g.ns.length):∀ k,k<=g.ns[i].nx.length->Qcs g own M S i k (Qax g own S M R i k)
 |0,_=>h
 |k+1,hk=>(Qcs.chs hW h hi k (by omega)).step hW hi (by omega)
theorem Qcs.des (hW:Wg g) {R:List Int} (h:Qcs g own M S 0 0 R):∀ i,i<=g.ns.length->Qcs g own M S i 0 (Qa6 g own S M R i)
 |0,_=>h
 |i+1,hi=>by
  have hii:i<g.ns.length:=by omega
  have hx:g.ns[i]? = some g.ns[i]:=Vb hii;have h1:=(Qcs.des hW h i (by omega)).chs hW hii g.ns[i].nx.length (Vc _);simp only[Qa6,hx];refine⟨h1.len,h1.z,λa t q ha ht hq hat=>h1.eq a t q ha ht hq ?_⟩;by_cases e:a=i
  . subst e; exact .inr ⟨rfl,ht⟩
  . omega
theorem Qfk (hW:Wg g) {R:List Int} (hl:R.length=4*g.ns.length) (hm:∀ i (h:i<g.ns.length),g.ns[i].k=1->M.getD i 0=Qby g.ns[i].ws/\0<M.getD i 0) (hS:∀ j,j<g.is.length->S j=S' j) :
 QcI g own M S' (Qa6 g own S M (Qv R 0 (Qq g.pl.toNat (λ_=>1073741824) (QA R 0))) g.ns.length):=by
 have hp4:=hW.gd.p4;have hn1:=hW.gd.n1;have h0:Qcs g own M S 0 0 (Qv R 0 (Qq g.pl.toNat (λ_=>1073741824) (QA R 0))):=by
  refine⟨Qbb hl (by omega) _,λq hq => ?_,λa t q ha ht hq hat=>absurd hat (by omega)⟩;rw[QjC hl (by omega) (by omega)];unfold Qq;rw[Wb (by omega)]
 have h1:=Qcs.des hW h0 g.ns.length (Vc _);refine⟨λq hq => ?_,λi k q hi hk hq => ?_,hm⟩
 . have:=h1.z q hq;simpa using this
 . have e:g.ns[i].nx.getD k 0=g.ns[i].nx[k]:=by simp[hk]
   rw[e,<- Qun hW hi hk hS];exact h1.eq i k q hi hk hq (.inl hi)
theorem Qlt (hW:Wg g) {V:List Int} (hl:V.length=4*g.ns.length) (hm:∀ i (h:i<g.ns.length),g.ns[i].k=1->M.getD i 0=Qby g.ns[i].ws/\0<M.getD i 0) (hS:∀ j,j<g.is.length->S j=S' j) :
 Qdq g M S' (Qcp g M S V g.ns.length):=by
 refine⟨λi q hi hq => ?_,hm⟩;rw[Qmu hW V hl g.ns.length (Vc _) i q (by omega) hi hq];exact QmB hW hi hS λ_ _ _=>rfl
theorem Qd3 (hW:Wg g):∀ i (h:i<g.ns.length),g.ns[i].k=1->(cTC g).M.getD i 0=Qby g.ns[i].ws/\0<(cTC g).M.getD i 0:=λi hi hk=>by
 have h1:=(Qmt hW).m i hi hk;have hx:g.ns[i]? = some g.ns[i]:=Vb hi;refine⟨?_,h1⟩;simp only[cTC];rw[Qdg hi];simp only[wtF,hx]
end
def Qds (g:Gm) (j:Nat):Int:=(g.is.getD j (0,0)).1
section
variable {g:Gm} {V R O:List Int} {A P:Nat->List Int} {S:List (List Int)} {p:Nat}
theorem Quw (hW:Wg g) {i:Nat} (hi:i<g.ns.length) (hk:g.ns[i].k=2):Qds g g.ns[i].i.toNat=g.ns[i].p:=by
 have:=hW.ty (Vf hi) hk;simp[Qds,this]
theorem Qn4 (hW:Wg g) (hA:∀ j,j<g.is.length->(A j).length=g.acts j):∀ i,i<=g.ns.length->∀ j,j<g.is.length->(Qa9 g V R A i j).length=g.acts j
 |0,_,j,hj=>hA j hj
 |i+1,hi,j,hj=>by
  have hii:i<g.ns.length:=by omega
  have hx:g.ns[i]? = some g.ns[i]:=Vb hii;have ih:=Qn4 hW hA i (by omega) j hj;simp only[Qa9,Qdd,hx];split
  . rename_i hk;unfold upA;split
    . rename_i e;rw[e];simp[(QcK hW hii hk).2.2.1]
    . exact ih
  . exact ih
end
def frs (g:Gm) (j:Nat):Nat:=((cTC g).F.getD j 0).toNat
section
variable {g:Gm} {V R O:List Int} {A P B:Nat->List Int} {S:List (List Int)} {p:Nat}
theorem Qiv (hW:Wg g) {j:Nat} (hj:j<g.is.length):∃ h:frs g j<g.ns.length,(cTC g).F.getD j 0=frs g j/\g.ns[frs g j].k=2/\g.ns[frs g j].i.toNat=j/\∀ u (hu:u<frs g j),¬ (g.ns[u].k=2/\g.ns[u].i.toNat=j):=by
 obtain⟨t,ht,_,h2,h3,h4⟩:=fn_of hW hj;have e:=QkQ hj ht h2 h3 h4 g.ns.length (Vc _) (by omega);have ef:frs g j=t:=by unfold frs cTC; rw[e]; omega
 subst ef;exact⟨ht,by unfold cTC; exact e,h2,h3,h4⟩
end
theorem Ql8:∀ (l:List Nat) (f:Nat->Int) (i:Nat),f i<=Qbw f l i/\Qbw f l i<=f i+l.length
 |[],f,i=>by simp[Qbw]
 |x::l,f,i=>by
  have h:=Ql8 l (put f x (f x+1)) i;simp only[Qbw,VT];unfold put at h ⊢;by_cases e:i=x
  . subst e;rw[Wb rfl]at h;omega
  . rw[Wa e]at h;omega
theorem Qlx {f:Nat->Int} (h:∀ i,0<=f i):∀ (n k:Nat),k<n->f k<=Qo f n/\0<=Qo f n
 |0,k,hk=>absurd hk (by omega)
 |n+1,k,hk=>by
  have h0:0<=Qo f n:=by
   cases n with
   |zero=>simp[Qo]
   |succ n=>exact(Qlx h (n+1) 0 (by omega)).2
  have hn:=h n;simp only[Qo];by_cases e:k=n
  . subst e; omega
  . have:=Qlx h n k (by omega);omega
theorem QkW {l:List Int} {k:Nat} (hk:k<l.length):0<=(Qab l).getD k 0/\(Qab l).getD k 0<=65536:=by
 have hl:=QiW (l:=l) (by omega);have e:(Qab l).getD k 0=Qbw (QL l (Qt l)) ((QQ l).take (Qad l).toNat) k:=by simp[Qab,hk]
 rw[e];have h1:=Ql8 ((QQ l).take (Qad l).toNat) (QL l (Qt l)) k;have h2:=Qlx (λi=>Qes l i) l.length k hk;have h3:((QQ l).take (Qad l).toNat).length<=(Qad l).toNat:=by simp; omega
 have h4:Qad l=65536-Qo (QL l (Qt l)) l.length:=rfl;have h5:=Qes l k;omega
theorem QqG {l:List Int} (h:∀ w∈l,1<=w/\w<=1000) (hl:l.length<=60) {k:Nat} (hk:k<l.length):l.getD k 0<=Qby l:=by
 have h1:=Qex h hl l.length (Vc _);have key:∀ n,n<=l.length->∀ k,k<n->l.getD k 0<=wsK l n:=by
  intro n
  induction n with
  |zero=>intro _ k hk; omega
  |succ n ih =>
   intro hn k hk;have hr:=Qex h hl n (by omega);have hw:=h _ (Vf (show n<l.length by omega));have e:wsK l (n+1)=wsK l n+l[n]:=by
    have:wsK l (n+1)=IntKind.i64.wrap (wsK l n+l[n]):=by simp[wsK,show n<l.length by omega]
    rw[this]; exact Qj (by omega) (by omega)
   rw[e];by_cases ek:k=n
   . subst ek;have:l.getD k 0=l[k]:=by simp[show k<l.length by omega]
     omega
   . have:=ih (by omega) k (by omega);omega
 exact key l.length (Vc _) k hk
section
variable {g:Gm} {M O:List Int} {S:Nat->List Int} {own:Bool}
theorem Qhs {a p w:Int} (ha:0<=a/\a<=1073741824) (hp:0<=p/\p<=w) (hw:0<w/\w<=65536):0<=qoF a p w/\qoF a p w<=1073741824:=by
 have h1:a*p<=1073741824*w:=Int.mul_le_mul ha.2 hp.2 hp.1 (by omega);have h0:0<=a*p:=Int.mul_nonneg ha.1 hp.1;have h2:IntKind.i64.wrap (a*p)=a*p:=Qj (by omega) (by omega);unfold qoF;rw[h2,ZZ h0];have h3:a*p / w<=1073741824:=by
  apply Int.ediv_le_of_le_mul hw.1;omega
 have h4:0<=a*p / w:=ZY h0 (by omega);rw[Qj (by omega) (by omega)];exact⟨h4,h3⟩
theorem QjV (hW:Wg g) (hR:QcI g own M S O) (hS:∀ j,j<g.is.length->∀ k,k<g.acts j->0<=(S j).getD k 0/\(S j).getD k 0<=65536):∀ (n i q:Nat),i<=n->i<g.ns.length->(q:Int)<g.pl->0<=O.getD (i*4+q) 0/\O.getD (i*4+q) 0<=1073741824:=by
 intro n
 induction n with
 |zero =>
  intro i q hi hl hq;have:i=0:=by omega
  subst this;have:=hR.z q hq;simp only[Yc,VX];omega
 |succ n ih =>
  intro i q hi hl hq;rcases Yu i with e0|e0
  . exact ih i q (by omega) hl hq
  . obtain⟨a,ha,h1,h2,h3⟩:=hW.wf.pf i e0 hl;obtain⟨k,hk,h4⟩:=VG h3;have he:=hR.eq a k q ha hk hq;have e1:(g.ns[a].nx.getD k 0).toNat=i:=by simp[hk,h4]
    rw[e1]at he;rw[he];have hx:g.ns[a]? = some g.ns[a]:=Vb ha;have iha:=ih a q (by omega) ha hq;unfold QN;split
    . rcases Qep hW ha with hk1|hk2|hk3
      . obtain⟨a1,a2,a3,a4⟩:=QeE hW ha hk1;obtain⟨m1,m2⟩:=hR.m a ha hk1;have hkw:k<g.ns[a].ws.length:=by omega
        have hwl:=QqG a4 (by omega) hkw;have hw1:=a4 _ (Vf hkw);have eg:g.ns[a].ws.getD k 0=g.ns[a].ws[k]:=by simp[hkw]
        have hws:=Qex a4 (by omega) g.ns[a].ws.length (Vc _);have eB:brW g M a=Qby g.ns[a].ws:=by simp only[brW,hx,hk1]; exact m1
        have eP:brP g S a k=g.ns[a].ws.getD k 0:=by simp only[brP,hx,hk1]; rfl
        rw[eB,eP];refine Qhs iha ⟨by omega,hwl⟩ ⟨by omega,?_⟩;unfold Qby;omega
      . obtain⟨b1,b2,b3,b4,b5⟩:=QcK hW ha hk2;have eP:brP g S a k=(S g.ns[a].i.toNat).getD k 0:=by simp[brP,hx,hk2]
        have eB:brW g M a=65536:=by simp[brW,hx,hk2]
        rw[eB,eP];exact Qhs iha (hS _ b1 k (by omega)) (by omega)
      . rw[(Qfd hW ha hk3).1]at hk; simp at hk
    . exact iha
end
section
variable {g:Gm} {s:TS}
structure SOk (g:Gm) (s:TS):Prop where
 A:∀ i,i<g.is.length->(s.A i).length=g.acts i
 P:∀ i,i<g.is.length->(s.P i).length=g.acts i
 V:s.V.length=4*g.ns.length
 R:s.R.length=4*g.ns.length
 O:s.O.length=4*g.ns.length
 r0:0<=s.rnd
 r1:s.rnd<=1000000
 sd:0<=s.seed/\s.seed<=2147483646
 ok:QaA g s
 pn:∀ i,i<g.is.length->∀ a,0<=(s.P i).getD a 0
theorem Qow {L:List (List Int)} {least:Int} (hW:Wg g) (h1:L.length=g.is.length) (h2:∀ i,i<g.is.length->Qac L i=g.acts i/\∀ x∈L.getD i [],least<=x/\x<=70368744177664):Qbk g L least=0:=by
 unfold Qbk;rw[Wa (by simpa using h1),QiD];intro i _ hi;have hii:i<g.is.length:=by omega
 obtain⟨a1,a2⟩:=h2 i hii;have hgi:g.is.getD i (0,0)=g.is[i]:=by simp[hii]
 have hac:=Qa5 hW hii;have ha:(g.acts i:Int)=g.is[i].2:=by unfold Gm.acts at hac ⊢; rw[hgi]at hac ⊢; omega
 unfold QcF;rw[hgi,Wa (by rw[a1,ha]; simp),Wa];simp only[Yh,not_exists,not_and,Yb,Wd];intro x hx;have:=a2 x hx;omega
theorem Qia {f:Nat->List Int} {n i:Nat} (h:i<n):((List.range n).map f).getD i []=f i:=by simp[h]
theorem QnQ {l:List Int} {x:Int} (h:x∈l):∃ a,a<l.length/\l.getD a 0=x:=by
 obtain⟨a,ha,e⟩:=VG h;exact⟨a,ha,by simp[ha,e]⟩
theorem QoH (hW:Wg g) (hA:∀ i,i<g.is.length->(s.A i).length=g.acts i) (hP:∀ i,i<g.is.length->(s.P i).length=g.acts i) (hr:0<=s.rnd/\s.rnd<=1000000) (hs:0<=s.seed/\s.seed<=2147483646) (hp:∀ i,i<g.is.length->∀ a,0<=(s.P i).getD a 0) :
 QcG g (QY g s)=0↔QaA g s:=by
 unfold QcG;rw[Wa (by simp only[QY]; omega)];constructor
 . intro h;split at h
   . rename_i h1; exact absurd h h1
   . rename_i h1;have h1:Qbk g (QY g s).A (-70368744177664)=0:=by simpa using h1
     obtain⟨_,a2⟩:=Qcg hW h1;obtain⟨_,p2⟩:=Qcg hW h;intro i hi a ha;have e1:=(a2 i hi).2 ((s.A i).getD a 0) (by
      simp only[QY]; rw[Qia hi];have:a<(s.A i).length:=by rw[hA i hi]; exact ha
      simp[this])
     have e2:=(p2 i hi).2 ((s.P i).getD a 0) (by
      simp only[QY]; rw[Qia hi];have:a<(s.P i).length:=by rw[hP i hi]; exact ha
      simp[this])
     unfold Qbx;omega
 . intro h;have h1:Qbk g (QY g s).A (-70368744177664)=0:=by
    refine Qow hW (by simp[QY]) λi hi => ?_;simp only[QY,Qac];rw[Qia hi];refine⟨hA i hi,λx hx => ?_⟩;obtain⟨a,ha,rfl⟩:=QnQ hx;have:=h i hi a (by rw[<-hA i hi]; exact ha);unfold Qbx at this;omega
   rw[Wa (by simpa using h1)];refine Qow hW (by simp[QY]) λi hi => ?_;simp only[QY,Qac];rw[Qia hi];refine⟨hP i hi,λx hx => ?_⟩;obtain⟨a,ha,rfl⟩:=QnQ hx;have:=h i hi a (by rw[<-hP i hi]; exact ha);have:=hp i hi a;unfold Qbx at *;omega
theorem QeN (s:TS):∀ (k j:Nat),j<k->(shL s k).S j=Qab (s.A j)
 |0,j,h=>absurd h (by omega)
 |k+1,j,h=>by
  simp only[shL,upA];by_cases e:j=k
  . rw[Wb e,e]
  . rw[Wa e]; exact QeN s k j (by omega)
def QfL (g:Gm) (s:TS):List Int:=Qcp g (cTC g).M (shL s g.is.length).S s.V g.ns.length
def QaJ (g:Gm) (own:Bool) (s:TS) (R:List Int):List Int:=Qa6 g own (shL s g.is.length).S (cTC g).M (Qv R 0 (Qq g.pl.toNat (λ_=>1073741824) (QA R 0))) g.ns.length
theorem Qg4:(Q7 g (cTC g) s).A=Qa9 g (QfL g s) (QaJ g false s s.R) s.A g.ns.length:=by
 obtain⟨h1,h2,h3,h4,h5,h6,h7⟩:=Qed s g.is.length;simp only[Q7,QfL,QaJ,h1,h3,h4]
theorem QfQ:(Q7 g (cTC g) s).P=Qbj g (cTC g).F (QaJ g true s s.O) (shL s g.is.length).S s.P g.is.length:=by
 obtain⟨h1,h2,h3,h4,h5,h6,h7⟩:=Qed s g.is.length;simp only[Q7,QaJ,h2,h5]
theorem Qe3:(Q7 g (cTC g) s).rnd=IntKind.i64.wrap (s.rnd+1)/\(Q7 g (cTC g) s).seed=s.seed:=by
 obtain⟨h1,h2,h3,h4,h5,h6,h7⟩:=Qed s g.is.length;simp only[Q7,h6,h7,and_self]
theorem QeH {F O:List Int} {S P:Nat->List Int}:∀ (n j:Nat),Qbj g F O S P n j=if j<n then Qh (g.acts j) (Qbf (Qbe g F O j) (P j) (S j))else P j
 |0,j=>by simp[Qbj]
 |n+1,j=>by
  simp only[Qbj,upA];by_cases e:j=n
  . rw[Wb e,Wb (by omega),e]
  . rw[Wa e,QeH n j];by_cases h:j<n
    . rw[Wb h,Wb (by omega)]
    . rw[Wa h,Wa (by omega)]
end
section
variable {g:Gm} {s:TS}
theorem QjU (hW:Wg g) {j:Nat} (hj:j<g.is.length):0<=Qds g j/\Qds g j<g.pl:=by
 obtain⟨h,_,h2,h3,_⟩:=Qiv hW hj;have h1:=Qe9 hW h h2;have h4:=Quw hW h h2;rw[h3]at h4;omega
theorem QnB (hW:Wg g) {V R:List Int} {A B:Nat->List Int} (h:∀ j,j<g.is.length->A j=B j):∀ i,i<=g.ns.length->∀ j,j<g.is.length->Qa9 g V R A i j=Qa9 g V R B i j
 |0,_,j,hj=>h j hj
 |i+1,hi,j,hj=>by
  have hii:i<g.ns.length:=by omega
  have hx:g.ns[i]? = some g.ns[i]:=Vb hii;have ih:=λj hj=>QnB (V:=V) (R:=R) hW h i (by omega) j hj;simp only[Qa9,Qdd,hx];by_cases hk:g.ns[i].k=2
  . obtain⟨b1,b2,b3,b4,b5⟩:=QcK hW hii hk;rw[Wb hk,Wb hk];unfold upA;by_cases e:j=g.ns[i].i.toNat
    . rw[Wb e,Wb e,ih _ b1]
    . rw[Wa e,Wa e]; exact ih j hj
  . rw[Wa hk,Wa hk]; exact ih j hj
theorem Qjp (hW:Wg g) {own:Bool} {R:List Int} (hl:R.length=4*g.ns.length):QcI g own (cTC g).M (shL s g.is.length).S (QaJ g own s R) :=
 Qfk hW hl (Qd3 hW) λ_ _=>rfl
theorem Qk1 {own:Bool} {S:Nat->List Int} {M:List Int} (hW:Wg g) {R:List Int} (hl:R.length=4*g.ns.length):∀ i,i<=g.ns.length->(Qa6 g own S M R i).length=4*g.ns.length
 |0,_=>hl
 |i+1,hi=>by
  have hii:i<g.ns.length:=by omega
  have hx:g.ns[i]? = some g.ns[i]:=Vb hii;have ih:=Qk1 (own:=own) (S:=S) (M:=M) hW hl i (by omega);simp only[Qa6,hx];generalize Qa6 g own S M R i=R1 at *;have key:∀ k,k<=g.ns[i].nx.length->(Qax g own S M R1 i k).length=4*g.ns.length:=by
   intro k
   induction k with
   |zero=>intro _; exact ih
   |succ k ihk =>
    intro hk;have hch:=(hW.wf.nf i hii).ch _ (Vf (show k<g.ns[i].nx.length by omega));have e:g.ns[i].nx.getD k 0=g.ns[i].nx[k]:=by simp[show k<g.ns[i].nx.length by omega]
    simp only[Qax,chR,hx,e];exact Qbb (ihk (by omega)) (by omega) _
  exact key _ (Vc _)
theorem Qr7 (hW:Wg g) (h:SOk g s):∀ j,j<g.is.length->∀ a,0<=((Q7 g (cTC g) s).P j).getD a 0:=by
 intro j hj a;have ho:=QjU hW hj;obtain⟨hf,hF,_⟩:=Qiv hW hj;rw[QfQ,QeH,Wb hj];by_cases ha:a<g.acts j
 . have hO:=QjV hW (Qjp (s:=s) (own:=true) hW h.O) (λj hj k hk=>by
    rw[QeN s _ j hj]; exact QkW (by rw[h.A j hj]; exact hk)) (frs g j) (frs g j) (Qds g j).toNat (Vc _) hf (by omega)
   have hs:=QkW (l:=s.A j) (k:=a) (by rw[h.A j hj]; exact ha);have hpn:=h.pn j hj a;have hok:=h.ok j hj a ha;unfold Qbx at hok;rw[Qdg ha];have eo:Qbe g (cTC g).F (QaJ g true s s.O) j=(QaJ g true s s.O).getD (frs g j*4+(Qds g j).toNat) 0:=rfl;have hq:=Qhs (a:=Qbe g (cTC g).F (QaJ g true s s.O) j) (p:=((shL s g.is.length).S j).getD a 0) (w:=65536) (by rw[eo]; exact hO) (by rw[QeN s _ j hj]; exact hs) (by omega);have e3:Qhb (Qbe g (cTC g).F (QaJ g true s s.O) j) (((shL s g.is.length).S j).getD a 0)=qoF (Qbe g (cTC g).F (QaJ g true s s.O) j) (((shL s g.is.length).S j).getD a 0) 65536:=rfl;unfold Qbf;rw[e3,Qj (by omega) (by omega)];omega
 . have:(Qh (g.acts j) (Qbf (Qbe g (cTC g).F (QaJ g true s s.O) j) (s.P j) ((shL s g.is.length).S j))).getD a 0=0:=by
    simp[Qh,ha]
   rw[this];exact V8 _
theorem Quv (hW:Wg g) (h:SOk g s):(∀ i,i<g.is.length->((Q7 g (cTC g) s).A i).length=g.acts i)/\(∀ i,i<g.is.length->((Q7 g (cTC g) s).P i).length=g.acts i):=by
 refine⟨λi hi => ?_,λi hi => ?_⟩
 . rw[Qg4]; exact Qn4 hW h.A _ (Vc _) i hi
 . rw[QfQ,QeH,Wb hi]; simp
theorem QiT (hW:Wg g) (h:SOk g s) (hr:s.rnd<1000000) (ho:QaA g (Q7 g (cTC g) s)):SOk g (Q7 g (cTC g) s):=by
 obtain⟨e1,e2⟩:=Qe3 (g:=g) (s:=s);have hr0:=h.r0;have w1:IntKind.i64.wrap (s.rnd+1)=s.rnd+1:=Qj (by omega) (by omega);obtain⟨l1,l2⟩:=Quv hW h;obtain⟨h1,h2,h3,h4,h5,h6,h7⟩:=Qed s g.is.length;refine⟨l1,l2,?_,?_,?_,by rw[e1,w1]; omega,by rw[e1,w1]; omega,by rw[e2]; exact h.sd,ho,Qr7 hW h⟩
 . simp only[Q7,h3];exact QkH _ h.V _ (Vc _)
 . simp only[Q7,h4];exact Qk1 hW (Qbb h.R (by have:=hW.gd.n1; omega) _) _ (Vc _)
 . simp only[Q7,h5];exact Qk1 hW (Qbb h.O (by have:=hW.gd.n1; omega) _) _ (Vc _)
theorem Qkn {t:Tin} (h:Qak g t=0):SOk g (s0T g t.rnd t.seed t.A t.P):=by
 obtain⟨hW,h1,h2,h3,h4⟩:=QdP h;obtain⟨a1,a2⟩:=Qcg hW h3;obtain⟨p1,p2⟩:=Qcg hW h4;have hs:0<=t.seed/\t.seed<=2147483646:=by
  unfold Qak at h;by_cases hp:g.prpE=0
  . rw[Wa (by simpa using hp)]at h;unfold QcG at h;by_cases hc:t.rnd<0\/1000000<t.rnd\/t.seed<0\/2147483646<t.seed
    . rw[Wb hc]at h; cases h
    . omega
  . rw[Wb hp]at h; exact absurd h hp
 refine⟨λi hi=>(a2 i hi).1,λi hi=>(p2 i hi).1,by simp[s0T,Qu],by simp[s0T,Qu],by simp[s0T,Qu],h1,h2,hs,QmY h,λi hi a => ?_⟩;simp only[s0T];by_cases ha:a<(t.P.getD i []).length
 . have e:(t.P.getD i []).getD a 0=(t.P.getD i [])[a]:=by rw[Vm,Vb ha]; rfl
   rw[e];exact((p2 i hi).2 _ (Vf ha)).1
 . have:(t.P.getD i []).getD a 0=0:=by rw[Vm,Vq (by omega)]; rfl
   rw[this]; exact V8 _
end
section
variable {g:Gm} {H X:Ws} {t:Tin} {s:TS}
def zO:AO:=⟨[i64 0,i64 0,nl,nl],30,0,true⟩
end
section
variable {g:Gm} {H X:Ws} {t:Tin} {rr:Int} {A P:Nat->List Int}
theorem PW.split (h:PW g H t rr A P X):X=(H++[Qk g,tB t,zO,nxO g H.length rr t.seed])++X.drop (H.length+4):=by
 have ht:=QeX (H:=H++[Qk g,tB t,zO,nxO g H.length rr t.seed]) (X:=X) λj hj=>by
  by_cases h1:j<H.length
  . rw[Vd h1]; exact h.low j h1
  . have h0:=h.b;have h1':=h.tb;have h2:=h.rb;have h3:=h.nx;rw[Vg (by omega)];have hj':j=H.length\/j=H.length+1\/j=H.length+2\/j=H.length+3:=by
     simp at hj; omega
    rcases hj' with rfl|rfl|rfl|rfl
    . rw[h0]; simp
    . rw[h1']; simp
    . rw[h2]; simp[zO]
    . rw[h3]; simp
 have e:(H++[Qk g,tB t,zO,nxO g H.length rr t.seed]).length=H.length+4:=by simp
 rw[e]at ht;exact ht
end
section
variable {g:Gm} {H X:Ws}
theorem Qse {t:Tin} (h:Qak g t=0):QjN g t:=by
 obtain⟨hW,h1,h2,h3,h4⟩:=QdP h;obtain⟨a1,a2⟩:=Qcg hW h3;obtain⟨p1,p2⟩:=Qcg hW h4;refine⟨a1,p1,λi hi => ?_,λi hi => ?_⟩
 . have:=(a2 i (by omega)).1; rw[Qez hi]at this; exact this
 . have:=(p2 i (by omega)).1; rw[Qez hi]at this; exact this
end
end Go.Proofs.YtogjmpkehjfecaaGreatDoor.Rc
namespace Go.Proofs.YtogjmpkehjfecaaGreatDoor.Rc
open Go.Ab
end Go.Proofs.YtogjmpkehjfecaaGreatDoor.Rc
namespace Go.Proofs.YtogjmpkehjfecaaGreatDoor.Rc
open Go.Ab Go.Ab.Shr
section
variable {H:Ws} {g:Gm}
set_option maxRecDepth 10000 in
theorem QrA {A:List (List Int)} (hA:A.length<=1000) (hAl:∀ l∈A,l.length<=100000) {N:Nat} {K:Wr} (hexit:∀ env,K (.exit 0) env H) :
 ∀ (n i:Nat) (env:Env),i+n=A.length->env.get 0=.slc (sls A) A.length->env.get 1=.slc (sls A) A.length->env.get 5=i64 i->LI Tryz.prog N Qb Qhd env H K:=by
 intro n
 induction n with
 |zero =>
  intro i env hi h0 h1 h5;refine Qc hm Qhd.eq_1 ?_;have e:i=A.length:=by omega
  subst e;simp -implicitDefEqProofs[h0,h1,h5];exact hexit _
 |succ n ih =>
  intro i env hi h0 h1 h5;refine Qc hm Qhd.eq_1 ?_;have hlt:i<A.length:=by omega
  have w1:=QO (show i<9223372036854775807 by omega);simp -implicitDefEqProofs[h0,h1,h5,hlt,QeS hlt];repeat (refine⟨by omega,?_⟩)
  refine Q3 (λ_=>Qur (isl H A[i]) (isl H A[i]) (by have:=hAl _ (Vf hlt); omega)) ?_;simp -implicitDefEqProofs[h5,w1];exact ih (i+1) _ (by omega) (by simp[h0]) (by simp[h1]) (by simp)
theorem QhE {A:List (List Int)} (hA:A.length<=1000) (hAl:∀ l∈A,l.length<=100000):Ok Tryz.prog 15 [.slc (sls A) A.length,.slc (sls A) A.length] H (.ret (bl true)) H:=by
 refine Ql hm Tryz.func15 c15 (by simp[Qcm]) λhcl => ?_;simp -implicitDefEqProofs[i15,r15];refine QrA (A:=A) hA hAl (λenv => ?_) A.length 0 _ (by omega) (by simp) (by simp) (by simp);simp -implicitDefEqProofs;exact Qn
def Tin.small (T:Tin):Prop:=(T.A.length<=1000/\∀ l∈T.A,l.length<=100000)/\(T.P.length<=1000/\∀ l∈T.P,l.length<=100000)
theorem ok16 {T:Tin} (hT:T.small):Ok Tryz.prog 16 [.agg T.cells,.agg T.cells] H (.ret (bl true)) H:=by
 obtain⟨⟨a1,a2⟩,p1,p2⟩:=hT;refine Ql hm Tryz.func16 c16 (by simp[Tin.cells,Qcm]) λhcl => ?_;simp -implicitDefEqProofs[i16,r16,Tin.cells];refine Qdc (λ_=>QhE a1 a2) ?_;simp -implicitDefEqProofs;refine Qdc (λ_=>QhE p1 p2) ?_;simp -implicitDefEqProofs;exact Qg 1 hcl rfl (by simp)
theorem Qo7 {s s':TS} (hW:Wg g):∀ (m:Nat) (s:TS),SOk g s->s.rnd+m<=1000000->Qaz g m s=some s'->SOk g s'
 |0,s,h,_,e=>by simp only[Qaz,Option.some.injEq]at e; rw[<-e]; exact h
 |m+1,s,h,hr,e=>by
  simp only[Qaz]at e;by_cases ho:okB g (Q7 g (cTC g) s)=true
  . rw[Wb ho]at e;have hr0:=h.r0;obtain⟨e1,e2⟩:=Qe3 (g:=g) (s:=s);have w1:IntKind.i64.wrap (s.rnd+1)=s.rnd+1:=Qj (by omega) (by omega);exact Qo7 (s:=s) hW m _ (QiT hW h (by omega) (Qde.1 ho)) (by rw[e1,w1]; omega) e
  . rw[Wa ho]at e; cases e
theorem Qki:Tin.zero.small:=by simp[Tin.small,Tin.zero]
theorem Qvo (t:Tin) (n:Int):(Qaq g t n).1.small:=by
 unfold Qaq;by_cases hc:Qak g t=0
 . obtain⟨hW,r1,r2,r3,r4⟩:=QdP hc;rw[Wa (by simpa using hc)];by_cases hb:n<0\/20000<n\/1000000<t.rnd+n
   . rw[Wb hb]; exact Qki
   . rw[Wa hb]
     cases hr:Qaz g n.toNat (s0T g t.rnd t.seed t.A t.P)with
     |none=>exact Qki
     |some s' =>
      have h:=Qo7 (s:=s') hW n.toNat _ (Qkn hc) (by show t.rnd+_<=_; omega) hr;have hil:=hW.gd.i;refine⟨⟨by simp[QY]; omega,λl hl => ?_⟩,by simp[QY]; omega,λl hl => ?_⟩
      . simp only[QY,Vl,VJ]at hl;obtain⟨j,hj,rfl⟩:=hl;have:=Qa5 hW hj;rw[h.A j hj]; omega
      . simp only[QY,Vl,VJ]at hl;obtain⟨j,hj,rfl⟩:=hl;have:=Qa5 hW hj;rw[h.P j hj]; omega
 . rw[Wb hc]; exact Qki
end
section
variable {H:Ws}
theorem Qkb (p i:Int) {k n v:Nat} (hk:k<H.length):Ok Tryz.prog 27 [i64 p,i64 i,.own k 0 n 1 v] H (.ret (.agg [i64 2,i64 p,i64 i,.own k 0 n 1 v,nl,nl])) H:=by
 refine Ql hm Tryz.func27 c27 (by simp[SV.under,hk]) λhcl => ?_;simp -implicitDefEqProofs[i27,r27];exact⟨rfl,Qg 2 hcl rfl (Qao (by simp[SV.under,hk]))⟩
theorem Qe2 (p:Int) (hp : -1000<=p/\p<=1000):Ok Tryz.prog 28 [i64 p] H (.ret (.agg [i64 3,i64 0,i64 0,nl,nl,.slc (Qa [p,-p]) 2])) H:=by
 refine Ql hm Tryz.func28 c28 (by simp) λhcl => ?_;have w1:IntKind.i64.wrap (-p) = -p:=Qj (by omega) (by omega);simp -implicitDefEqProofs[i28,r28,w1];exact⟨rfl,Qg 3 hcl rfl (by simp[Qa])⟩
def exG:Gm:=⟨2,[⟨2,0,0,[1,2],[],[]⟩,⟨3,0,0,[],[],[1,-1]⟩,⟨2,1,1,[3,4],[],[]⟩,⟨3,0,0,[],[],[0,0]⟩,⟨2,0,2,[5,6,7],[],[]⟩,⟨3,0,0,[],[],[2,-2]⟩,⟨3,0,0,[],[],[-1,1]⟩,⟨3,0,0,[],[],[3,-3]⟩],[(0,2),(1,2),(0,3)]⟩
set_option maxRecDepth 10000 in
theorem ok7:Ok Tryz.prog 7 [] H (.ret (.agg exG.cells)) H:=by
 refine Ql hm Tryz.func7 c7 (by simp) λhcl => ?_;have h47:=λH p hp=>Qe2 (H:=H) p hp;simp -implicitDefEqProofs[i7,r7];refine Qf (Qkb 0 0 (by simp)) ?_;simp -implicitDefEqProofs;refine Qf (Qe2 1 (by omega)) ?_;simp -implicitDefEqProofs;refine Qf (Qkb 1 1 (by simp)) ?_;simp -implicitDefEqProofs;refine Qf (Qe2 0 (by omega)) ?_;simp -implicitDefEqProofs;refine Qf (Qkb 0 2 (by simp)) ?_;simp -implicitDefEqProofs;refine Qf (Qe2 2 (by omega)) ?_;simp -implicitDefEqProofs;refine Qf (Qe2 (-1) (by omega)) ?_;simp -implicitDefEqProofs;refine Qf (Qe2 3 (by omega)) ?_;simp -implicitDefEqProofs;refine⟨rfl,Cv.le (Qg 5 hcl rfl rfl) ?_⟩;have e1:(1+1:Nat)=2:=rfl;simp[Qa,exG,Gm.cells,nds,Nd.cells,Qx,sl];refine Qff (leL.cons (SV.le.refl _) (leL.cons (QjI ?_ _) (leL.refl _)));repeat (first|exact leL.nil|refine leL.cons (SV.le.refl _) ?_|refine leL.cons QcV ?_)
end
def Qdx (g:Gm):Tin×Int:=if g.prpE≠0 then(.zero,g.prpE)else(⟨0,0,(List.range g.is.length).map (Qai g),(List.range g.is.length).map (Qai g)⟩,0)
section
variable {H:Ws} {g:Gm}
set_option maxRecDepth 10000 in
theorem ok8:Ok Tryz.prog 8 [.agg g.cells] H (.ret (.tup [.agg (Qdx g).1.cells,i64 (Qdx g).2])) H:=by
 refine Ql hm Tryz.func8 c8 (by simp[Gm.cells,QaP,QaS]) λhcl => ?_;have h36:=λH=>ok29 (H:=H) (g:=g);simp only[Gm.cells]at h36;simp -implicitDefEqProofs[i8,r8,Gm.cells];refine Qf (h36 _) ?_;by_cases hp:g.prpE=0
 . have hW:Wg g:=QkT hp;have e:Qdx g=(⟨0,0,(List.range g.is.length).map (Qai g),(List.range g.is.length).map (Qai g)⟩,0):=by unfold Qdx; rw[Wa (by simpa using hp)]
   have h37:=λH=>Qk7 (H:=H) hW;simp only[Gm.cells]at h37;simp -implicitDefEqProofs[hp];refine Qf (h37 _) ?_;simp -implicitDefEqProofs;refine Qf (h37 _) ?_;have hb:=Qeu g g.is.length;have hbr:=QhR g g.is.length;generalize QaG g g.is.length=M at *;simp -implicitDefEqProofs;rw[e];have hcv:=λ(L:Ws) (r:SV) (h:SV.fz H.length [] L 6 r=.tup [.agg (Tin.mk 0 0 ((List.range g.is.length).map (Qai g)) ((List.range g.is.length).map (Qai g))).cells,i64 0])=>Qg (n0:=H.length) (H:=H) (L:=L) 6 hcl rfl h;refine hcv _ _ ?_;have key:∀ (L:Ws) (a b:Nat) (qa qb:Nat->Nat),L[a]? = some ⟨QH g.is.length qa g.acts 0,45,0,true⟩->L[b]? = some ⟨QH g.is.length qb g.acts 0,45,0,true⟩->(∀ i,i<g.is.length->H.length<=qa i/\L[qa i-H.length]? = some (Qaj 0 (Qu (g.acts i))))->(∀ i,i<g.is.length->H.length<=qb i/\L[qb i-H.length]? = some (Qaj 0 (Qu (g.acts i)))) ->
    SV.fz H.length [] L 6 (.tup [.agg [i64 0,i64 0,.own (H.length+a) 0 g.is.length 1 0,.own (H.length+b) 0 g.is.length 1 0],i64 0])=.tup [.agg (Tin.mk 0 0 ((List.range g.is.length).map (Qai g)) ((List.range g.is.length).map (Qai g))).cells,i64 0]:=by
    intro L a b qa qb ha hb hqa hqb;have at':∀ k,H.length<=k->(H++L)[k]? = L[k-H.length]? := λk hk=>by rw[Vg hk]
    have fS:=Qh2 (H:=H) (G:=H++L) (p:=H.length+a) (A:=Qai g) (by omega) (by rw[at' _ (by omega),show H.length+a-H.length=a by omega]; exact ha) (λi hi=>⟨(hqa i hi).1,by rw[at' _ (hqa i hi).1]; exact(hqa i hi).2,by simp[Qai,Qu]⟩) 1;have fP:=Qh2 (H:=H) (G:=H++L) (p:=H.length+b) (A:=Qai g) (by omega) (by rw[at' _ (by omega),show H.length+b-H.length=b by omega]; exact hb) (λi hi=>⟨(hqb i hi).1,by rw[at' _ (hqb i hi).1]; exact(hqb i hi).2,by simp[Qai,Qu]⟩) 1;rw[List.drop_left]at fS fP;simp only[Qgo,Vs,V4,QkY,Qcd,Nat.reduceAdd,fS,fP];simp[Tin.cells]
   refine key _ 3 (M.length+5) (pB (H.length+2)) (pB (H.length+(M.length+4))) rfl ?_ (λi hi=>⟨by unfold pB; omega,?_⟩) (λi hi=>⟨by unfold pB; omega,?_⟩)
   . rw[show M.length+5=(M.length+1)+4 by omega];simp only[VW];rw[Vg (by omega),show M.length+1-M.length=1 by omega]; rfl
   . rw[show pB (H.length+2) i-H.length=(2*i+1)+4 by unfold pB; omega];simp only[VW];rw[Vd (by omega)]; exact hbr i hi
   . rw[show pB (H.length+(M.length+4)) i-H.length=(M.length+(2*i+1+2))+4 by unfold pB; omega];simp only[VW];rw[Vg (by omega),show M.length+(2*i+1+2)-M.length=2*i+1+2 by omega];simp only[VW];exact hbr i hi
 . have e:Qdx g=(.zero,g.prpE):=by unfold Qdx; rw[Wb hp]
   rw[e];simp -implicitDefEqProofs[hp];exact⟨rfl,Qkf hcl _ _⟩
end
section
variable {H:Ws} {g:Gm}
theorem ok10 (t:Tin):Ok Tryz.prog 10 [.agg g.cells,.agg t.cells] H (.ret (.tup [.agg (Qaq g t 1).1.cells,i64 (Qaq g t 1).2])) H:=by
 refine Ql hm Tryz.func10 c10 (by simp[Gm.cells,QaP,QaS,Tin.cells,Qcm]) λhcl => ?_;have h8:=λH=>Qh8 (H:=H) (g:=g) t 1 (by omega);simp only[Gm.cells,Tin.cells]at h8;simp -implicitDefEqProofs[i10,r10,Gm.cells,Tin.cells];refine Qf (h8 _) ?_;simp -implicitDefEqProofs;exact Qg 3 hcl rfl (Qao (by simp[SV.under,Qcm]))
end
structure ZW (g:Gm) (H:Ws) (t:Tin) (A:Nat->List Int) (q:List Int) (X:Ws):Prop where
 tb:X[H.length+1]? = some (tB t)
 oo:X[H.length+3]? = some ⟨QH g.is.length (pB (H.length+2)) g.acts 0,45,0,true⟩
 r:∀ i,i<g.is.length->X[pB (H.length+2) i]? = some ⟨Qa (A i),3,0,true⟩
 od:X[H.length+4+2*g.is.length]? = some ⟨Qa q,62,0,true⟩
 l:∀ i,i<g.is.length->(A i).length=g.acts i
 lq:q.length=10
 low:∀ j,j<H.length->X[j]? = H[j]?
section
variable {H X:Ws} {g:Gm} {t:Tin} {A:Nat->List Int} {q:List Int}
theorem ZW.sh (hW:Wg g) (h:ZW g H t A q X) {j:Nat} (hj:j<g.is.length) {l:List Int} (hl:ShO l) (hll:l.length=g.acts j) :
 ∃ X',Ok Tryz.prog 31 [sl l,.own (pB (H.length+2) j) 0 (g.acts j) 1 0,.own (H.length+4+2*g.is.length) 0 (g.acts j) 1 0] X (.ret (.tup [])) X'/\ZW g H t (upA A j (Qab l)) (((QQ l).map λ(n:Nat)=>(n:Int))++q.drop l.length) X':=by
 have hac:=Qa5 hW hj;have hlA:=h.l j hj;have hlq:=h.lq;have hne:pB (H.length+2) j≠H.length+4+2*g.is.length:=by unfold pB; omega
 have hP:P2 X (pB (H.length+2) j) (H.length+4+2*g.is.length):=⟨Qd (h.r j hj),Qd h.od,hne⟩;have hG:G2 X (pB (H.length+2) j) (H.length+4+2*g.is.length) ⟨Qa (A j),3,0,true⟩ (oI [] (q.take (g.acts j)) (Qa (q.drop (g.acts j))) 62 0)=X:=by
  refine Qpi (h.r j hj) ?_;rw[h.od];have e:Qa q=Qa (q.take (g.acts j))++Qa (q.drop (g.acts j)):=by
   simp only[Qa,<- YM,Yn]
  unfold oI;rw[V3,<- e]
 obtain⟨a1,a2,a3⟩:=hl;have key:=ok31 (H:=X) (a:=pB (H.length+2) j) (k:=H.length+4+2*g.is.length) (va:=0) (v:=0) (T:=62) (C:=[]) (D:=Qa (q.drop (g.acts j))) (x:=sl l) (l:=l) (o0:=A j) (p0:=q.take (g.acts j)) hP ⟨rfl,by simp⟩ (λo p L=>isl _ l) a1 a2 a3 (by rw[hlA,hll]) (by rw[YB,hll]; omega);rw[hG,hll]at key;refine⟨_,key,?_⟩;have e:oN [] (QQ l) (Qa (q.drop (g.acts j))) 62 0=⟨Qa (((QQ l).map λ(n:Nat)=>(n:Int))++q.drop l.length),62,0,true⟩:=by
  rw[hll];simp[oN,QaV,Qa]
 rw[e];have ne:∀ {k:Nat} {x:Option AO},pB (H.length+2) j≠k->H.length+4+2*g.is.length≠k->X[k]? = x->(G2 X (pB (H.length+2) j) (H.length+4+2*g.is.length) ⟨Qa (Qab l),3,0,true⟩ ⟨Qa (((QQ l).map λ(n:Nat)=>(n:Int))++q.drop l.length),62,0,true⟩)[k]? = x:=λhn hn2 hx=>by unfold G2; rw[Ve hn2,Ve hn]; exact hx
 refine⟨ne (by unfold pB; omega) (by omega) h.tb,ne (by unfold pB; omega) (by omega) h.oo,λi hi => ?_,?_,λi hi => ?_,?_,λi hi => ?_⟩
 . by_cases e2:i=j
   . subst e2;have:=QiK (L:=[]) (Qd (h.r i hi)) hne (o:=⟨Qa (Qab l),3,0,true⟩) (p:=⟨Qa (((QQ l).map λ(n:Nat)=>(n:Int))++q.drop l.length),62,0,true⟩);rw[VV]at this;rw[this]; simp[upA]
   . rw[ne (x:=X[pB (H.length+2) i]?) (by unfold pB; omega) (by unfold pB; omega) rfl,h.r i hi];simp[upA,e2]
 . have:=QiE (L:=[]) (a:=pB (H.length+2) j) (Qd h.od) (o:=⟨Qa (Qab l),3,0,true⟩) (p:=⟨Qa (((QQ l).map λ(n:Nat)=>(n:Int))++q.drop l.length),62,0,true⟩);rw[VV]at this;exact this
 . unfold upA; split
   . rename_i e2; rw[e2,QmQ]; exact hll
   . exact h.l i hi
 . simp[QjL]; omega
 . exact ne (by unfold pB; omega) (by omega) (h.low i hi)
def shA (g:Gm) (L:List (List Int)):Nat->Nat->List Int
 |0=>Qai g
 |i+1=>upA (shA g L i) i (Qab (L.getD i []))
def sqA (L:List (List Int)):Nat->List Int
 |0=>Qu 10
 |i+1=>((QQ (L.getD i [])).map λ(n:Nat)=>(n:Int))++(sqA L i).drop (L.getD i []).length
set_option maxRecDepth 10000 in
theorem QrJ (hW:Wg g) (hT:QjN g t) (hS:∀ l∈t.A,ShO l) {N:Nat} {K:Wr}
 (hexit:∀ env X,ZW g H t (shA g t.A g.is.length) (sqA t.A g.is.length) X->env.get 7=.own (H.length+3) 0 g.is.length 1 0->K (.exit 0) env X) :
 ∀ (m i:Nat) (X:Ws) (env:Env),i+m=g.is.length->ZW g H t (shA g t.A i) (sqA t.A i) X->env.get 3=.ptr (.own (H.length+1) 0 0 0 0) 0->env.get 7=.own (H.length+3) 0 g.is.length 1 0->env.get 8=.ptr (.own (H.length+4+2*g.is.length) 0 0 0 0) 0->env.get 19=.own (H.length+3) 0 g.is.length 1 0->env.get 20=i64 g.is.length->env.get 21=i64 i ->
  LI Tryz.prog N Qb QhC env X K:=by
 have hil:=hW.gd.i;intro m
 induction m with
 |zero =>
  intro i X env hi h h3 h7 h8 h19 h20 h21;refine Qc hm QhC.eq_1 ?_;have e:i=g.is.length:=by omega
  subst e;simp -implicitDefEqProofs[h20,h21];exact hexit _ X h (by simp[h7])
 |succ m ih =>
  intro i X env hi h h3 h7 h8 h19 h20 h21;refine Qc hm QhC.eq_1 ?_;have hii:i<g.is.length:=by omega
  obtain⟨n1,n2⟩:=Qa5 hW hii;have w1:=QO (show i<9223372036854775807 by omega);have hiA:i<t.A.length:=by rw[hT.la]; exact hii
  have lA:=hT.a i hiA;obtain⟨X',k1,k2⟩:=h.sh hW hii (hS _ (Vf hiA)) lA;have eA:upA (shA g t.A i) i (Qab t.A[i])=shA g t.A (i+1):=by simp[shA,hiA]
  have eQ:((QQ t.A[i]).map λ(n:Nat)=>(n:Int))++(sqA t.A i).drop t.A[i].length=sqA t.A (i+1):=by simp[sqA,hiA]
  rw[eA,eQ]at k2;have hTb:=Qcn h.tb [];have hOo:=Qcn h.oo [];have hOd:=Qcn h.od [];simp only[VV]at hTb hOo hOd;have hq:=h.lq;have hca:SV.cutA 1 0 (g.acts i) (.ptr (.own (H.length+4+2*g.is.length) 0 0 0 0) 0)=.own (H.length+4+2*g.is.length) 0 (g.acts i) 1 0:=by simp[SV.cutA]
  simp -implicitDefEqProofs[h3,h7,h8,h19,h20,h21,hTb,hOo,hOd,tB,Tin.cells,hii,hiA,QeS hiA,hca];refine⟨by omega,by omega,⟨by omega,by omega⟩,Qf k1 ?_⟩;simp -implicitDefEqProofs[h3,h7,h8,h19,h20,h21,w1];exact ih (i+1) _ _ (by omega) k2 (by simp[h3]) (by simp[h7]) (by simp[h8]) (by simp[h19]) (by simp[h20]) (by simp)
theorem QjW {L:List (List Int)}:∀ (n j:Nat),j<n->shA g L n j=Qab (L.getD j [])
 |0,j,h=>absurd h (by omega)
 |n+1,j,h=>by
  simp only[shA,upA];by_cases e:j=n
  . rw[Wb e,e]
  . rw[Wa e]; exact QjW n j (by omega)
theorem ok9 (hW:Wg g) (hc:Qak g t=0) (hT:QjN g t) (hS:∀ l∈t.A,ShO l):Ok Tryz.prog 9 [.agg g.cells,.agg t.cells] H (.ret (.tup [.slc (sls ((List.range g.is.length).map λj=>Qab (t.A.getD j []))) g.is.length,i64 0])) H:=by
 refine Ql hm Tryz.func9 c9 (by simp[Gm.cells,QaP,QaS,Tin.cells,Qcm]) λhcl => ?_;have h16:=λH=>Qjs (H:=H) (g:=g) (t:=t);have h37:=λH=>Qk7 (H:=H) hW;simp only[Gm.cells,Tin.cells]at h16 h37;simp -implicitDefEqProofs[i9,r9,Gm.cells,Tin.cells];refine Qf (h16 _) ?_;simp -implicitDefEqProofs[hc];refine Qf (h37 _) ?_;have hb:=Qeu g g.is.length;have hbr:=QhR g g.is.length;generalize QaG g g.is.length=M at *;have h0:ZW g H t (Qai g) (Qu 10) (H++Qk g::tB t::Qk g::⟨QH g.is.length (pB (H.length+2)) g.acts 0,45,0,true⟩::(M++[⟨Qa (Qu 10),62,0,true⟩])):=by
  refine⟨?_,?_,λi hi => ?_,?_,λi hi=>by simp[Qai,Qu],by simp[Qu],λj hj=>by rw[Vd hj]⟩
  . rw[Vg (by omega)]; simp
  . rw[Vg (by omega)]; simp
  . rw[Vg (by unfold pB; omega),show pB (H.length+2) i-H.length=(2*i+1)+4 by unfold pB; omega];simp only[VW];rw[Vd (by omega)]; exact hbr i hi
  . rw[Vg (by omega),show H.length+4+2*g.is.length-H.length=M.length+4 by omega];simp only[VW];rw[Vg (by omega)]; simp
 have ez:Qa (Qu 10)=[i64 0,i64 0,i64 0,i64 0,i64 0,i64 0,i64 0,i64 0,i64 0,i64 0]:=rfl;have ep:H.length+(M.length+4)=H.length+4+2*g.is.length:=by omega
 rw[ez]at h0;simp -implicitDefEqProofs;refine QrJ (H:=H) (t:=t) hW hT hS (λenv X h g7 => ?_) g.is.length 0 _ _ (by omega) h0 (by simp) (by simp) (by simp[ep]) (by simp) (by simp) (by simp);simp -implicitDefEqProofs[g7];have fS:=Qh2 (H:=H) (G:=X) (p:=H.length+3) (A:=λj=>Qab (t.A.getD j [])) (by omega) h.oo (λi hi=>⟨by unfold pB; omega,by rw[h.r i hi,QjW _ _ hi],by have:=h.l i hi; rw[QjW _ _ hi]at this; exact this⟩) 1;have hfz:SV.fz H.length [] (X.drop H.length) 5 (.tup [.own (H.length+3) 0 g.is.length 1 0,i64 0])=.tup [.slc (sls ((List.range g.is.length).map λj=>Qab (t.A.getD j []))) g.is.length,i64 0]:=by
  simp only[Qgo,Vs,V4,Qcd,Nat.reduceAdd,fS]
 have:=Qg (n0:=H.length) (H:=H) (L:=X.drop H.length) 5 hcl rfl hfz;rw[<-QeX h.low]at this;exact this
end
def Qj6:Tin:=⟨0,0,[[0,0],[0,0],[0,0,0]],[[0,0],[0,0],[0,0,0]]⟩
def QcO:Tin:=⟨1,0,[[171,-171],[341,-341],[341,-1194,853]],[[536870912,536870912],[536870912,536870912],[178962432,178954240,178954240]]⟩
theorem Qre:Qdx exG=(Qj6,0):=by kernel_rfl
theorem Qvs:Qaq exG Qj6 1=(QcO,0):=by kernel_rfl
theorem QjZ:Qak exG QcO=0:=by kernel_rfl
theorem QvK:(List.range exG.is.length).map (λj=>Qab (QcO.A.getD j []))=[[65536,0],[65536,0],[18717,0,46819]]:=by kernel_rfl
section
variable {H:Ws}
theorem Quj:∀ l∈QcO.A,ShO l:=by
 intro l hl;simp only[QcO,Vi,VP,Wi]at hl;rcases hl with rfl|rfl|rfl<;>refine⟨by decide,by decide,λv hv => ?_⟩<;>simp at hv<;>omega
theorem Ql7 {X:Ws} {p q0 q1 q2:Nat} {l0 l1 l2:List Int} (h:X[p]? = some ⟨[.own q0 0 l0.length 1 0,.own q1 0 l1.length 1 0,.own q2 0 l2.length 1 0],45,0,true⟩) (h0:X[q0]? = some ⟨Qa l0,3,0,true⟩) (h1:X[q1]? = some ⟨Qa l1,3,0,true⟩) (h2:X[q2]? = some ⟨Qa l2,3,0,true⟩) :
 SV.fz 0 [] X 4 (.own p 0 3 1 0)=.slc (sls [l0,l1,l2]) 3:=by
 have:=Qh2 (H:=[]) (G:=X) (I:=3) (p:=p) (q:=λi=>[q0,q1,q2].getD i 0) (n:=λi=>[l0.length,l1.length,l2.length].getD i 0) (A:=λi=>[l0,l1,l2].getD i []) (v:=0) (w:=0) (T:=45) (by simp) (by rw[h]; rfl) (λi hi=>by
  have hi3:i=0\/i=1\/i=2:=by omega
  rcases hi3 with rfl|rfl|rfl
  . exact⟨by simp,h0,rfl⟩
  . exact⟨by simp,h1,rfl⟩
  . exact⟨by simp,h2,rfl⟩) 1
 exact this
set_option maxRecDepth 10000 in
theorem ok6:Ok Tryz.prog 6 [] H (.ret (bl true)) H:=by
 refine Ql hm Tryz.func6 c6 (by simp) λhcl => ?_;have h13:=λH=>ok8 (H:=H) (g:=exG);have h15:=λH=>ok10 (H:=H) (g:=exG) Qj6;have h14:=λH=>ok9 (H:=H) (g:=exG) (t:=QcO) (QdP QjZ).1 QjZ (Qse QjZ) Quj;rw[Qre]at h13;rw[Qvs]at h15;rw[QvK]at h14;simp only[Tin.cells]at h13 h15 h14;simp -implicitDefEqProofs[i6,r6];refine Qf ok7 ?_;simp -implicitDefEqProofs;refine Qf (h13 _) ?_;simp -implicitDefEqProofs;refine Q3 (λ_=>ok7) ?_;simp -implicitDefEqProofs;refine Q3 (λ_=>h15 _) ?_;simp -implicitDefEqProofs;refine Q3 (λ_=>ok7) ?_;simp -implicitDefEqProofs;refine Q3 (λ_=>h14 _) ?_;simp -implicitDefEqProofs;have e1:∀ L:Ws,SV.fz 0 [] (H++L) 4 (.slc (sls QcO.A) QcO.A.length)=.slc (sls QcO.A) QcO.A.length:=λL=>Qao (by simp[Qcm]);have at':∀ (L:Ws) (k:Nat),(H++L)[H.length+k]? = L[k]? := λL k=>by rw[Vg (by omega)]; congr 1; omega
 refine Qdc (r:=bl true) (λ_=>Ok.fz 4 ?_) ?_
 . simp only[Vs,V4,SV.strip,e1];rw[Ql7 (l0:=[171,-171]) (l1:=[341,-341]) (l2:=[341,-1194,853]) (by rw[at' _ 4]; rfl) (by rw[at' _ 1]; rfl) (by rw[at' _ 2]; rfl) (by rw[at' _ 3]; rfl)];exact QhE (A:=QcO.A) (by decide) (by decide)
 simp -implicitDefEqProofs;have e2:∀ L:Ws,SV.fz 0 [] (H++L) 4 (.slc (sls [[65536,0],[65536,0],[18717,0,46819]]) exG.is.length)=.slc (sls [[65536,0],[65536,0],[18717,0,46819]]) exG.is.length:=λL=>Qao (by simp[Qcm]);refine Qdc (r:=bl true) (λ_=>Ok.fz 4 ?_) ?_
 . simp only[Vs,V4,SV.strip,e2];rw[Ql7 (l0:=[65536,0]) (l1:=[65536,0]) (l2:=[18717,0,46819]) (by rw[at' _ 8]; rfl) (by rw[at' _ 5]; rfl) (by rw[at' _ 6]; rfl) (by rw[at' _ 7]; rfl)];exact QhE (A:=[[65536,0],[65536,0],[18717,0,46819]]) (by decide) (by decide)
 simp -implicitDefEqProofs;exact Qg 1 hcl rfl (by simp)
end
end Go.Proofs.YtogjmpkehjfecaaGreatDoor.Rc
namespace Go.Proofs.YtogjmpkehjfecaaGreatDoor.Rc
open Go.Ab Go.Ab.Lm
def qC (q:Qr):Wt:=[bl q.neg,nS q.n,nS q.d]
theorem Qeb (q:Qr):(qC q).length=3:=rfl
def Qar (l:List Qr):SV:=.slc (rws qC l) l.length
def Qaf (L:List (List Qr)):SV:=.slc (L.map Qar) L.length
def QdO (x y:Int):Qr:=low (decide (x<0) != decide (y<0)) x.natAbs y.natAbs
theorem QpZ (x y:Int):Qkl x y=.agg (qC (QdO x y)):=rfl
def Qag:List Int->Int
 |[]=>0
 |x::r=>x+Qag r
def QD (l:List Int):List Qr:=l.map λx=>if Qag l=0 then QdO 1 l.length else QdO x (Qag l)
theorem Qop:∀ (a b:List Int),Qag (a++b)=Qag a+Qag b
 |[],b=>by simp[Qag]
 |x::a,b=>by simp only[VK,Qag,Qop a b]; omega
theorem QfU:∀ {l:List Int},(∀ x∈l,0<=x/\x<=70368744177664)->0<=Qag l/\Qag l<=70368744177664*l.length
 |[],_=>by simp[Qag]
 |x::r,h=>by
  have h1:=h x (by simp);have h2:=QfU (l:=r) λy hy=>h y (VI _ hy);simp only[Qag,VT];omega
section
variable {H X:Ws}
set_option maxRecDepth 10000 in
theorem Qte {l:List Int} (hl:l.length<=10) (hr:∀ x∈l,0<=x/\x<=70368744177664) {x7 x8 x9 x30 x31 x32:SV} {N:Nat} {K:Wr}
 (hexit:∀ env,env.get 7=x7->env.get 8=x8->env.get 9=x9->env.get 30=x30->env.get 31=x31->env.get 32=x32->env.get 10=i64 (Qag l)->K (.exit 2) env X) :
 ∀ (m i:Nat) (env:Env),i+m=l.length->env.get 7=x7->env.get 8=x8->env.get 9=x9->env.get 30=x30->env.get 31=x31->env.get 32=x32->env.get 10=i64 (Qag (l.take i))->env.get 37=sl l->env.get 38=i64 l.length->env.get 39=i64 i ->
  LI Tryz.prog N Qb QhU env X K:=by
 intro m
 induction m with
 |zero =>
  intro i env hi h7 h8 h9 h30 h31 h32 h10 h37 h38 h39;refine Qc hm' QhU.eq_1 ?_;have e:i=l.length:=by omega
  subst e;rw[YE]at h10;simp -implicitDefEqProofs[h38,h39];exact hexit _ (by simp[h7]) (by simp[h8]) (by simp[h9]) (by simp[h30]) (by simp[h31]) (by simp[h32]) (by simp[h10])
 |succ m ih =>
  intro i env hi h7 h8 h9 h30 h31 h32 h10 h37 h38 h39;refine Qc hm' QhU.eq_1 ?_;have hil:i<l.length:=by omega
  have h1:=hr _ (Vf hil);have h2:=QfU (l:=l.take i) λx hx=>hr x (V7 hx);have h3:(l.take i).length=i:=by simp; omega
  have hs:Qag (l.take (i+1))=Qag (l.take i)+l[i]:=by
   rw[Za hil,Qop];simp[Qag]
  have w1:=QO (show i<9223372036854775807 by omega);have ws:IntKind.i64.wrap (Qag (l.take i)+l[i])=Qag (l.take (i+1)):=by rw[hs]; exact Qj (by omega) (by omega)
  simp -implicitDefEqProofs[h7,h8,h9,h30,h31,h32,h10,h37,h38,h39,hil,sl,ws];repeat (refine⟨by omega,?_⟩)
  refine ih (i+1) _ (by omega) ?_ ?_ ?_ ?_ ?_ ?_ ?_ ?_ ?_ ?_
  . simp[h7]
  . simp[h8]
  . simp[h9]
  . simp[h30]
  . simp[h31]
  . simp[h32]
  . simp
  . simp[sl]
  . simp
  . simp[w1]
def zc3 (k:Nat):Wt:=rws (λ_:Nat=>[bl false,nl,nl]) (List.range k)
theorem Qk8 {α β:Type} (f:β->Wt) (k:α->β):∀ l:List α,rws f (l.map k)=rws (λx=>f (k x)) l
 |[]=>rfl
 |x::r=>by simp only[Vs,rws,Qk8 f k r]
set_option maxRecDepth 10000 in
theorem QqQ {l:List Int} (hl:l.length<=10) (h0:0<l.length) (hr:∀ x∈l,0<=x/\x<=70368744177664) {A C:Ws} {i0 p n:Nat} {cs:Wt} {x30 x31 x32:SV} (hi0:i0<cs.length) (hcs:cs[i0]? = some (.own p 0 l.length 3 0)) (hn:n=cs.length) (hp:p=A.length+(C.length+1)) {N:Nat} {K:Wr}
 (hexit:∀ env G,Cl 0 G->env.get 7=.own A.length 0 n 1 0->env.get 30=x30->env.get 31=x31->env.get 32=x32->K (.exit 4) env (A++⟨cs,74,0,true⟩::(C++⟨rws qC (QD l),78,0,true⟩::G))) :
 ∀ (m i:Nat) (env:Env) (G:Ws),i+m=l.length->Cl 0 G->env.get 7=.own A.length 0 n 1 0->env.get 8=i64 i0->env.get 9=sl l->env.get 10=i64 (Qag l)->env.get 30=x30->env.get 31=x31->env.get 32=x32->env.get 53=sl l->env.get 54=i64 l.length->env.get 55=i64 i ->
  LI Tryz.prog N Qb Qg1 env (A++⟨cs,74,0,true⟩::(C++⟨rws qC ((QD l).take i)++zc3 m,78,0,true⟩::G)) K:=by
 have hsr:=QfU hr;have hal:(QD l).length=l.length:=by simp[QD]
 intro m
 induction m with
 |zero =>
  intro i env G hi hG h7 h8 h9 h10 h30 h31 h32 h53 h54 h55;refine Qc hm' Qg1.eq_1 ?_;have e:i=l.length:=by omega
  subst e;have e2:rws qC ((QD l).take l.length)++zc3 0=rws qC (QD l):=by
   rw[<-hal,YE]; simp[zc3,rws]
  rw[e2];simp -implicitDefEqProofs[h54,h55];exact hexit _ G hG (by simp[h7]) (by simp[h30]) (by simp[h31]) (by simp[h32])
 |succ m ih =>
  intro i env G hi hG h7 h8 h9 h10 h30 h31 h32 h53 h54 h55;refine Qc hm' Qg1.eq_1 ?_;have hil:i<l.length:=by omega
  have h1:=hr _ (Vf hil);have w1:=QO (show i<9223372036854775807 by omega);have hav:(QD l)[i]'(by omega)=if Qag l=0 then QdO 1 l.length else QdO l[i] (Qag l):=by simp[QD]
  have hq:=λH (x y:Int) hy hx1 hy1=>ok36 (H:=H) (x:=x) (y:=y) hy hx1 hy1;simp only[QpZ]at hq;have hc0:cs[i0]?.getD .any=.own p 0 l.length 3 0:=by rw[hcs]; rfl
  have hc1:∀ h,cs[i0]'h=.own p 0 l.length 3 0:=λh=>by
   rw[Vb h]at hcs;simpa using hcs
  have hz3:(zc3 (m+1)).length=(m+1)*3:=by rw[zc3,QbJ (λ_=>rfl)]; simp
  have htl:(rws qC ((QD l).take i)).length=i*3:=by rw[QbJ Qeb]; simp; omega
  have hRl:(rws qC ((QD l).take i)++zc3 (m+1)).length=l.length*3:=by simp only[Vt,hz3,htl]; omega
  have hia:i<(QD l).length:=by omega
  have hset:List.take (i*3) (rws qC ((QD l).take i)++zc3 (m+1))++(qC (QD l)[i]++List.drop (i*3+3) (rws qC ((QD l).take i)++zc3 (m+1)))=rws qC ((QD l).take (i+1))++zc3 m:=by
   have e1:zc3 (m+1)=bl false::nl::nl::zc3 m:=by
    simp only[zc3];rw[show m+1=1+m by omega,List.range_add,Qc9];simp only[Qk8];rfl
   have e2:List.drop (i*3+3) (rws qC ((QD l).take i)++zc3 (m+1))=zc3 m:=by
    rw[<-List.drop_drop,<- htl,List.drop_left,e1]; rfl
   rw[e2,<- htl,List.take_left,Za hia,Qc9,VC];rfl
  have hih:=ih (i+1);rw[<-hset]at hih;generalize rws qC ((QD l).take i)++zc3 (m+1)=R at *;by_cases hz:Qag l=0
  . have h36:=λH=>hq H 1 l.length (by omega) (by decide) (by omega);rw[Wb hz]at hav;rw[<-hav]at h36;generalize (QD l)[i]=q at *;simp only[qC,VK,V3]at h36 hih;simp -implicitDefEqProofs[h7,h8,h9,h10,h30,h31,h32,h53,h54,h55,hil,sl,hz];repeat (refine⟨by omega,?_⟩)
    refine Qf (h36 _) ?_;subst hp;simp -implicitDefEqProofs[h7,h8,h9,h10,h30,h31,h32,h53,h54,h55,hil,sl,hz,hc0,hc1,hRl];refine⟨⟨rfl,rfl⟩,by omega,by omega,⟨rfl,rfl⟩,by omega,?_⟩;refine hih _ _ (by omega) (hG.app (Cl.cons (by simp[SV.underL,SV.under,QaK]) (Cl.nil _))) ?_ ?_ ?_ ?_ ?_ ?_ ?_ ?_ ?_ ?_
    . simp
    . simp
    . simp[sl]
    . simp[hz]
    . simp[h30]
    . simp[h31]
    . simp[h32]
    . simp[sl]
    . simp
    . simp[w1]
  . have h36:=λH=>hq H l[i] (Qag l) hz (by omega) (by omega);rw[Wa hz]at hav;rw[<-hav]at h36;generalize (QD l)[i]=q at *;simp only[qC,VK,V3]at h36 hih;simp -implicitDefEqProofs[h7,h8,h9,h10,h30,h31,h32,h53,h54,h55,hil,sl,hz];repeat (refine⟨by omega,?_⟩)
    refine Qf (h36 _) ?_;subst hp;simp -implicitDefEqProofs[h7,h8,h9,h10,h30,h31,h32,h53,h54,h55,hil,sl,hz,hc0,hc1,hRl];refine⟨⟨rfl,rfl⟩,by omega,by omega,⟨rfl,rfl⟩,by omega,?_⟩;refine hih _ _ (by omega) (hG.app (Cl.cons (by simp[SV.underL,SV.under,QaK]) (Cl.nil _))) ?_ ?_ ?_ ?_ ?_ ?_ ?_ ?_ ?_ ?_
    . simp
    . simp
    . simp[sl]
    . simp[hz]
    . simp[h30]
    . simp[h31]
    . simp[h32]
    . simp[sl]
    . simp
    . simp[w1]
end
theorem QoM (k:Nat) (q:Qr):SV.underL k (qC q)=true:=by simp[qC,SV.underL,QaK]
section
variable {H X:Ws}
def QaR (P:List (List Int)) (i:Nat):Wt:=(P.take i).map (λl=>Qar (QD l))++List.replicate (P.length-i) nl
theorem QlV {P:List (List Int)} {i:Nat} (h:i<=P.length):(QaR P i).length=P.length:=by simp[QaR]; omega
theorem Qs2 {P:List (List Int)} {i:Nat}:SV.underL 0 (QaR P i)=true:=by
 rw[SV.underL_iff];intro s hs;rcases Vj.1 hs with h|h
 . obtain⟨l,_,rfl⟩:=Vl.1 h;simp only[Qar,SV.under];exact QbX (QoM 0) _
 . rw[Y4]at h;rw[h.2]; rfl
theorem QrR {P:List (List Int)} {i:Nat} (h:i<P.length) (x:SV):List.take i (QaR P i)++x::List.drop (i+1) (QaR P i)=(QaR P i).set i x:=by
 rw[YF,Wb (by rw[QlV (by omega)]; exact h)]
theorem QqM {P:List (List Int)} {i:Nat} (h:i<P.length):(QaR P i).set i (Qar (QD P[i]))=QaR P (i+1):=by
 have hl:((P.take i).map (λl=>Qar (QD l))).length=i:=by simp; omega
 unfold QaR;rw[YG _ _ (by omega),hl,Ze,Za h,YM,VC];congr 1;rw[show P.length-i=(P.length-(i+1))+1 by omega,YT];rfl
theorem Qm9:∀ k:Nat,zc3 k=(List.replicate k [bl false,nl,nl]).flatten
 |0=>rfl
 |k+1=>by
  rw[YT,ZG,<- Qm9 k];simp only[zc3];rw[show k+1=1+k by omega,List.range_add,Qc9];simp only[Qk8];rfl
set_option maxRecDepth 10000 in
theorem Qty {A:Ws} {P:List (List Int)} (hcl:closed A) (hP:∀ l∈P,(1<=l.length/\l.length<=10)/\∀ x∈l,0<=x/\x<=70368744177664) (hPl:P.length<=100000) {N:Nat} {K:Wr}
 (hexit:∀ env Ld,env.get 7=.own A.length 0 P.length 1 0->K (.exit 0) env (A++⟨QaR P P.length,74,0,true⟩::Ld)) :
 ∀ (m i:Nat) (env:Env) (Ld:Ws),i+m=P.length->Cl 0 Ld->env.get 7=.own A.length 0 P.length 1 0->env.get 30=.slc (sls P) P.length->env.get 31=i64 P.length->env.get 32=i64 i ->
  LI Tryz.prog N Qb QiR env (A++⟨QaR P i,74,0,true⟩::Ld) K:=by
 intro m
 induction m with
 |zero =>
  intro i env Ld hi hL h7 h30 h31 h32;refine Qc hm' QiR.eq_1 ?_;have e:i=P.length:=by omega
  subst e;simp -implicitDefEqProofs[h31,h32];exact hexit _ Ld (by simp[h7])
 |succ m ih =>
  intro i env Ld hi hL h7 h30 h31 h32;refine Qc hm' QiR.eq_1 ?_;have hiP:i<P.length:=by omega
  obtain⟨⟨l1,l2⟩,l3⟩:=hP _ (Vf hiP);have w1:=QO (show i<9223372036854775807 by omega);have hol:(QaR P i).length=P.length:=QlV (by omega);have hsuc:=λx=>QrR hiP x;have hset:=QqM hiP;have hun:=Qs2 (P:=P) (i:=i);generalize hrow:P[i]=row at *;have hsr:(sls P)[i]?.getD .any=sl row:=by rw[<-hrow]; exact Qq6 hiP
  have hsr2:∀ h,(sls P)[i]'h=sl row:=λh=>by rw[<-hrow]; exact QeS hiP
  simp -implicitDefEqProofs[h7,h30,h31,h32,hiP,hsr,hsr2,sl];repeat (refine⟨by omega,?_⟩)
  refine Qte (x7:=.own A.length 0 P.length 1 0) (x8:=i64 i) (x9:=sl row) (x30:=.slc (sls P) P.length) (x31:=i64 P.length) (x32:=i64 i) l2 l3 ?_ row.length 0 _ (by simp) ?_ ?_ ?_ ?_ ?_ ?_ ?_ ?_ ?_ ?_
  rotate_left
  all_goals try simp[h7,h30,h31,h32,Qag,sl]
  intro env g7 g8 g9 g30 g31 g32 g10;simp -implicitDefEqProofs[g7,g8,g9,g10,g30,g31,g32,sl,hol,hsuc];repeat (refine⟨by omega,?_⟩)
  have hfl:(List.replicate row.length [bl false,SV.val (Value.slice none 0 0),SV.val (Value.slice none 0 0)]).flatten=rws qC ((QD row).take 0)++zc3 row.length:=by
   rw[Yl];exact(Qm9 row.length).symm
  rw[hfl];refine QqQ (l:=row) (cs:=(QaR P i).set i (.own (A.length+(Ld.length+1)) 0 row.length 3 0)) (i0:=i) (p:=A.length+(Ld.length+1)) (C:=Ld) (n:=P.length) (x30:=.slc (sls P) P.length) (x31:=i64 P.length) (x32:=i64 i) l2 l1 l3 (by simp; omega) (by simp[hol,hiP]) (by simp[hol]) rfl ?_ row.length 0 _ [] (by simp) (Cl.nil _) ?_ ?_ ?_ ?_ ?_ ?_ ?_ ?_ ?_ ?_
  rotate_left
  all_goals try simp[g7,g8,g9,g10,g30,g31,g32,sl]
  intro env G hG k7 k30 k31 k32;simp -implicitDefEqProofs[k30,k31,k32];refine LI.tell (Qbg.give hcl (Ld.length+1) 1 (o:=⟨rws qC (QD row),78,0,true⟩) (by simp) rfl) ?_;have hrl:(rws qC (QD row)).length=row.length*3:=by rw[QbJ Qeb]; simp[QD]
  have hgv:SV.gv (A.length+(Ld.length+1)) 0 (rws qC (QD row)) 1 (.own (A.length+(Ld.length+1)) 0 row.length 3 0)=Qar (QD row):=by
   have hav:(QD row).length=row.length:=by simp[QD]
   simp only[Qar,hav];generalize rws qC (QD row)=Q at *;simp[hrl,VB]
  have hgo:((QaR P i).set i (.own (A.length+(Ld.length+1)) 0 row.length 3 0)).map (SV.gv (A.length+(Ld.length+1)) 0 (rws qC (QD row)) 1)=QaR P (i+1):=by
   rw[List.map_set,hgv,<- hset];congr 1;conv=>rhs; rw[<-List.map_id (QaR P i)]
   exact VA λs hs=>Qkh (Yq _) _ s ((SV.underL_iff ..).1 hun s hs)
  refine LI.cong (H':=A++⟨QaR P (i+1),74,0,true⟩::(Ld++AO.dead ⟨rws qC (QD row),78,0,true⟩::G)) ?_ ?_
  . rw[Y9,YG _ _ (Vc _),Ze,Z0];rw[Vs,YM,Vs];have ea:=λk ver cs d=>AO.gv_cl (k:=k) (ver:=ver) (d:=d) (cs:=cs) (Yq k) hL;have eb:=λk ver cs d=>AO.gv_cl (k:=k) (ver:=ver) (d:=d) (cs:=cs) (Yq k) hG;rw[ea,eb];simp only[AO.gv,hgo,AO.dead,V4]
  . refine ih (i+1) _ _ (by omega) ?_ ?_ ?_ ?_ ?_
    . refine hL.app (Cl.cons (by simp[AO.dead,SV.underL]) hG)
    all_goals rw[Qly _ (SV.gv _ _ _ _) (Qll _ _ _ _)]
    all_goals simp[k7,k30,k31,w1]
end
end Go.Proofs.YtogjmpkehjfecaaGreatDoor.Rc
namespace Go.Proofs.YtogjmpkehjfecaaGreatDoor.Rc
open Go.Ab Go.Ab.Lm Go.Ab.Shr
section
variable {H:Ws} {g:Gm} {t:Tin}
theorem Qof (h:Qak g t=0):(t.A.length<=100000/\∀ l∈t.A,ShO l)/\t.P.length<=100000/\∀ l∈t.P,(1<=l.length/\l.length<=10)/\∀ x∈l,0<=x/\x<=70368744177664:=by
 obtain⟨hW,r0,r1,hA,hP⟩:=QdP h;obtain⟨a1,a2⟩:=Qcg hW hA;obtain⟨p1,p2⟩:=Qcg hW hP;have hi:=hW.gd.i;refine⟨⟨by omega,λl hl => ?_⟩,by omega,λl hl => ?_⟩
 . obtain⟨i,h1,rfl⟩:=VG hl;obtain⟨c1,c2⟩:=a2 i (by omega);have e:t.A.getD i []=t.A[i]:=by simp[Vm,h1]
   unfold Qac at c1;rw[e]at c1 c2;obtain⟨n1,n2⟩:=Qa5 hW (show i<g.is.length by omega);exact⟨by omega,by omega,c2⟩
 . obtain⟨i,h1,rfl⟩:=VG hl;obtain⟨c1,c2⟩:=p2 i (by omega);have e:t.P.getD i []=t.P[i]:=by simp[Vm,h1]
   unfold Qac at c1;rw[e]at c1 c2;obtain⟨n1,n2⟩:=Qa5 hW (show i<g.is.length by omega);exact⟨⟨by omega,by omega⟩,c2⟩
def QdV (g:Gm) (t:Tin):SV×Int:=if Qak g t≠0 then(nl,Qak g t)else(Qaf (t.P.map QD),0)
theorem QuV (P:List (List Int)):QaR P P.length=(P.map QD).map Qar:=by
 simp[QaR,Function.comp_def]
theorem QvV (P:List (List Int)):QaR P 0=List.replicate P.length nl:=by simp[QaR]
theorem QuH (hcl:closed H):closed (H++[Qk g,tB t]):=by
 rw[Qi8]at hcl ⊢;rw[Vt];refine Cl.app ?_ (Cl.cons ?_ (Cl.cons ?_ (Cl.nil _)))
 . intro o ho s hs;exact SV.under_mono (by omega) s (hcl o ho s hs)
 . simp[Qk,Gm.cells,QaP,QaS]
 . simp[tB,Tin.cells,Qcm]
set_option maxRecDepth 10000 in
theorem ok12:Ok Tryz.prog 12 [.agg g.cells,.agg t.cells] H (.ret (.tup [(QdV g t).1,i64 (QdV g t).2])) H:=by
 refine Ql hm' Tryz.func12 c12 (by simp[Gm.cells,QaP,QaS,Tin.cells,Qcm]) λhcl => ?_;have h14:=λH=>Qjs (H:=H) (g:=g) (t:=t);simp only[Gm.cells,Tin.cells]at h14;simp -implicitDefEqProofs[i12,r12,Gm.cells,Tin.cells];refine Qf (h14 _) ?_;by_cases hc:Qak g t=0
 . obtain⟨_,q1,q2⟩:=Qof hc;have e:QdV g t=(Qaf (t.P.map QD),0):=by unfold QdV; rw[Wa (by simpa using hc)]
   simp -implicitDefEqProofs[hc];repeat (refine⟨by omega,?_⟩)
   rw[<-QvV];have hcl2:closed (H++[Qk g,tB t]):=QuH hcl;have ha:H.length+2=(H++[Qk g,tB t]).length:=by simp
   refine LI.cong (H':=(H++[Qk g,tB t])++⟨QaR t.P 0,74,0,true⟩::[]) (by simp[Qk,tB,Gm.cells,Tin.cells]) ?_;refine Qty hcl2 q2 q1 (λenv Ld g7 => ?_) t.P.length 0 _ [] (by simp) (Cl.nil _) ?_ ?_ ?_ ?_
   rotate_left
   all_goals try simp
   rw[QuV,<- ha]at *;rw[e,g7];refine Qg 3 hcl rfl ?_;have hu:SV.underL H.length (List.map Qar (List.map QD t.P))=true:=by
    rw[SV.underL_iff];intro s hs;obtain⟨l,_,rfl⟩:=Vl.1 hs;simp only[Qar,SV.under];exact QbX (QoM _) _
   have hr:∀ L,(List.map Qar (List.map QD t.P)).map (SV.fz H.length [] L 1)=List.map Qar (List.map QD t.P):=λL=>QlP hu;have hrl:(List.map Qar (List.map QD t.P)).length=t.P.length:=by simp
   rw[show Qaf (List.map QD t.P)=.slc (List.map Qar (List.map QD t.P)) t.P.length by simp[Qaf]];generalize List.map Qar (List.map QD t.P)=Q at *;simp[hr,hrl,VB]
 . have e:QdV g t=(nl,Qak g t):=by unfold QdV; rw[Wb hc]
   rw[e];simp -implicitDefEqProofs[hc];exact Qg 2 hcl rfl (by simp)
end
end Go.Proofs.YtogjmpkehjfecaaGreatDoor.Rc
namespace Go.Proofs.YtogjmpkehjfecaaGreatDoor.Rc
open Go.Ab Go.Ab.Lm
section
variable {H:Ws}
def Qr.fit (q:Qr):Prop:=(lim q.n).length<4611686018427387904/\(lim q.d).length<4611686018427387904
theorem QnI {L:List (List Qr)} {i:Nat} (h:i<L.length):(L.map Qar)[i]?.getD .any=Qar L[i]:=by simp[h]
theorem Qmo {L:List (List Qr)} {i:Nat} (h:i<L.length) (h':i<(L.map Qar).length):(L.map Qar)[i]'h'=Qar L[i]:=by simp
theorem Qvf {l:List Qr} {k:Nat} (h:k<l.length):(rws qC l).drop (k*3)=bl l[k].neg::nS l[k].n::nS l[k].d::rws qC (l.drop (k+1)):=Qgb Qeb h
theorem QjT (n:Nat) (L:List (List Qr)):(Qaf L).under n=true:=by
 rw[Qaf,SV.under,SV.underL_iff];intro s hs;obtain⟨l,_,rfl⟩:=Vl.1 hs;simp only[Qar,SV.under];exact QbX (λq=>by simp[qC,SV.underL,QaK]) _
end
end Go.Proofs.YtogjmpkehjfecaaGreatDoor.Rc
namespace Go.Proofs.YtogjmpkehjfecaaGreatDoor.Rc
open Go.Ab Go.Ab.Lm Go.Ab.Shr
end Go.Proofs.YtogjmpkehjfecaaGreatDoor.Rc
namespace Go.Proofs.YtogjmpkehjfecaaGreatDoor.Rc
open Go.Ab Go.Ab.Lm
theorem Qts (neg:Bool) {n1 d1 n2 d2:Nat} (h1:0<d1) (h2:0<d2) (h:n1*d2=n2*d1):low neg n1 d1=low neg n2 d2:=by
 have hz:n1=0↔n2=0:=by
  constructor
  . intro e;rw[e,Yc]at h;rcases ZO.1 h.symm with h|h<;>omega
  . intro e;rw[e,Yc]at h;rcases ZO.1 h with h|h<;>omega
 have g1:0<Nat.gcd n1 d1:=Zx _ h1;have g2:0<Nat.gcd n2 d2:=Zx _ h2;obtain⟨x1,ex1⟩:=Z1 n1 d1;obtain⟨y1,ey1⟩:=Nat.gcd_dvd_right n1 d1;obtain⟨x2,ex2⟩:=Z1 n2 d2;obtain⟨y2,ey2⟩:=Nat.gcd_dvd_right n2 d2;have c1:Nat.Coprime x1 y1:=by
  have:=Zz (Nat.gcd n1 d1) x1 y1;rw[<-ex1,<- ey1]at this;exact ZA g1 (by rw[Ye]; exact this.symm)
 have c2:Nat.Coprime x2 y2:=by
  have:=Zz (Nat.gcd n2 d2) x2 y2;rw[<-ex2,<- ey2]at this;exact ZA g2 (by rw[Ye]; exact this.symm)
 have hx:x1*y2=x2*y1:=by
  have e:(Nat.gcd n1 d1*Nat.gcd n2 d2)*(x1*y2)=(Nat.gcd n1 d1*Nat.gcd n2 d2)*(x2*y1):=by
   calc (Nat.gcd n1 d1*Nat.gcd n2 d2)*(x1*y2)=(Nat.gcd n1 d1*x1)*(Nat.gcd n2 d2*y2):=by ac_rfl
    _=n1*d2:=by rw[<-ex1,<- ey2]
    _=n2*d1:=h
    _=(Nat.gcd n2 d2*x2)*(Nat.gcd n1 d1*y1):=by rw[<-ex2,<- ey1]
    _=_:=by ac_rfl
  exact ZA (Zd g1 g2) e
 have d12:x1 ∣ x2:=c1.dvd_of_dvd_mul_right (hx ▸ Nat.dvd_mul_right x1 y2);have d21:x2 ∣ x1:=c2.dvd_of_dvd_mul_right (hx.symm ▸ Nat.dvd_mul_right x2 y1);have exx:x1=x2:=Nat.dvd_antisymm d12 d21;have f12:y1 ∣ y2:=c1.symm.dvd_of_dvd_mul_left (hx.symm ▸ Nat.dvd_mul_left y1 x2);have f21:y2 ∣ y1:=c2.symm.dvd_of_dvd_mul_left (hx ▸ Nat.dvd_mul_left y2 x1);have eyy:y1=y2:=Nat.dvd_antisymm f12 f21;have q1:n1 / Nat.gcd n1 d1=x1:=Zf g1 ex1;have q2:d1 / Nat.gcd n1 d1=y1:=Zf g1 ey1;have q3:n2 / Nat.gcd n2 d2=x2:=Zf g2 ex2;have q4:d2 / Nat.gcd n2 d2=y2:=Zf g2 ey2;unfold low;rw[q1,q2,q3,q4,exx,eyy,show decide (n1≠0)=decide (n2≠0)from decide_eq_decide.2 (not_congr hz)]
theorem QfN (x:Nat) {S:Nat} (hS:0<S):∃ g,0<g/\x=g*(low false x S).n/\S=g*(low false x S).d/\0<(low false x S).d/\Nat.gcd (low false x S).n (low false x S).d=1:=by
 have g1:0<Nat.gcd x S:=Zx _ hS;obtain⟨x1,ex1⟩:=Z1 x S;obtain⟨y1,ey1⟩:=Nat.gcd_dvd_right x S;have q1:x / Nat.gcd x S=x1:=Zf g1 ex1;have q2:S / Nat.gcd x S=y1:=Zf g1 ey1;have c1:Nat.Coprime x1 y1:=by
  have:=Zz (Nat.gcd x S) x1 y1;rw[<-ex1,<- ey1]at this;exact ZA g1 (by rw[Ye]; exact this.symm)
 refine⟨Nat.gcd x S,g1,?_,?_,?_,?_⟩
 . simp only[low,q1]; exact ex1
 . simp only[low,q2]; exact ey1
 . simp only[low,q2];rcases Yu y1 with h|h
   . rw[h]at ey1; simp at ey1; omega
   . exact h
 . simp only[low,q1,q2]; exact c1
theorem QuS (a b:Nat) {S:Nat} (hS:0<S):(low false a S).plus (low false b S)=low false (a+b) S:=by
 obtain⟨g1,p1,ea,es1,d1,_⟩:=QfN a hS;obtain⟨g2,p2,eb,es2,d2,_⟩:=QfN b hS;have n1:(low false a S).neg=false:=rfl;have n2:(low false b S).neg=false:=rfl;unfold Qr.plus;rw[n1,n2,Wb rfl];generalize (low false a S).n=x1 at *;generalize (low false a S).d=y1 at *;generalize (low false b S).n=x2 at *;generalize (low false b S).d=y2 at *;refine Qts false (Zd d1 d2) hS ?_;have h1:x1*S=a*y1:=(Wj (λz=>x1*z) es1).trans ((show x1*(g1*y1)=(g1*x1)*y1 by ac_rfl).trans (Wj (λz=>z*y1) ea.symm));have h2:x2*S=b*y2:=(Wj (λz=>x2*z) es2).trans ((show x2*(g2*y2)=(g2*x2)*y2 by ac_rfl).trans (Wj (λz=>z*y2) eb.symm));calc (x1*y2+x2*y1)*S=(x1*S)*y2+(x2*S)*y1:=by rw[V0]; ac_rfl
  _=(a*y1)*y2+(b*y2)*y1:=by rw[h1,h2]
  _=(a+b)*(y1*y2):=by rw[V0]; ac_rfl
def QbZ:Qr:=⟨false,1,1⟩
theorem Qmq {x S:Nat} (hS:0<S) (hx:x<=S):((low false x S).ord QbZ<=0)/\(x=S->(low false x S).ord QbZ=0):=by
 obtain⟨g,p,ex,es,d,_⟩:=QfN x hS;have n1:(low false x S).neg=false:=rfl;have hle:(low false x S).n<=(low false x S).d:=Nat.le_of_mul_le_mul_left (c:=g) (by rw[<-ex,<- es]; exact hx) p;have heq:x=S->(low false x S).n=(low false x S).d:=λe=>ZA p (by rw[<-ex,<- es]; exact e);generalize hq:low false x S=q at *;have em:QbZ.mi=⟨true,1,1⟩:=rfl;have ep:q.plus QbZ.mi=if q.d<=q.n then low false (q.n-q.d) q.d else low true (q.d-q.n) q.d:=by
  rw[em];unfold Qr.plus;rw[n1,Wa (by simp)];simp only[Ye,Nat.one_mul]
 unfold Qr.ord;rw[ep];by_cases h:q.d<=q.n
 . rw[Wb h,show q.n-q.d=0 by omega];have:(low false 0 q.d).n=0:=by simp[low]
   rw[Wb this];exact⟨V8 _,λ_=>rfl⟩
 . rw[Wa h];have hg:Nat.gcd (q.d-q.n) q.d<=q.d-q.n:=Nat.le_of_dvd (by omega) (Z1 _ _);have hgp:0<Nat.gcd (q.d-q.n) q.d:=Zx _ d;have hn0:(low true (q.d-q.n) q.d).n≠0:=by
    have:0<(q.d-q.n) / Nat.gcd (q.d-q.n) q.d:=Nat.div_pos hg hgp;simp only[low];omega
   have hng:(low true (q.d-q.n) q.d).neg=true:=by
    simp only[low,Bool.true_and,Wd];omega
   rw[Wa hn0,Wb hng];exact⟨by decide,λe=>absurd (heq e) (by omega)⟩
theorem Qhx {n i:Nat} (h:i+1=(lim n).length) (hi:i<(lim n).length):(lim n)[i]≠0:=by
 intro h0;have e:lim n=(lim n).take i++[0]:=by
  have:=List.take_append_getElem hi;rw[h0,VB (show(lim n).length<=i+1 by omega)]at this;exact this.symm
 have h1:=Qva n;rw[e,QfV]at h1;have h2:=Qjf ((lim n).take i);rw[h1]at h2;simp at h2;omega
section
variable {H:Ws}
set_option maxRecDepth 10000 in
theorem Qu4 {l:List Nat} (hd:Dig l) (hl:l.length<=1024) {N:Nat} {K:Wr}
 (hexit:∀ env,env.get 0=.slc (us l) l.length->K (.exit 0) env H) :
 ∀ (m i:Nat) (env:Env),i+m=l.length->env.get 0=.slc (us l) l.length->env.get 3=i64 i ->
  LI Tryz.prog N Qb QgJ env H K:=by
 intro m
 induction m with
 |zero =>
  intro i env hi h0 h3;refine Qc hm' QgJ.eq_1 ?_;have e:i=l.length:=by omega
  subst e;simp -implicitDefEqProofs[h0,h3];exact hexit _ (by simp[h0])
 |succ m ih =>
  intro i env hi h0 h3;refine Qc hm' QgJ.eq_1 ?_;have hlt:i<l.length:=by omega
  have hb:=hd _ (Vf hlt);have hB:B=1000000000:=rfl;have g0:(us l)[i]?.getD .any=.val (.int .u32 l[i]):=QaX hlt;have g0':∀ h,(us l)[i]'h=.val (.int .u32 l[i]):=λh=>QbI hlt h;have hb2:¬ (1000000000:Int)<=(l[i]:Int):=by omega
  have hb3:¬ 1000000000<=l[i]:=by omega
  simp -implicitDefEqProofs[h0,h3,hlt,g0,g0',QP,hb2,hb3];repeat (refine⟨by omega,?_⟩)
  refine ih (i+1) _ (by omega) ?_ ?_
  . simp[h0]
  . simp[QO (show i<9223372036854775807 by omega)]
set_option maxRecDepth 10000 in
theorem QmE {n:Nat} (hn:(lim n).length<=1024):Ok Tryz.prog 131 [nS n] H (.ret (i64 0)) H:=by
 refine Ql hm' Tryz.func131 c131 (by simp[QaK]) λhcl => ?_;have hd:=QaO n;have ht:=λi h hi=>Qhx (n:=n) (i:=i) h hi;unfold nS;generalize lim n=l at *;simp -implicitDefEqProofs[i131,r131,show ¬ (1024:Int)<(l.length:Int)by omega];refine Qu4 hd hn (λenv g0 => ?_) l.length 0 _ (by omega) (by simp) (by simp);by_cases h0:0<l.length
 . obtain⟨i,hi⟩:∃ i,l.length=i+1:=⟨l.length-1,by omega⟩;have hlt:i<l.length:=by omega
   have htop:=ht i hi.symm hlt;have k0:(us l)[i]?.getD .any=.val (.int .u32 l[i]):=QaX hlt;have k0':∀ h,(us l)[i]'h=.val (.int .u32 l[i]):=λh=>QbI hlt h;have w1:IntKind.i64.wrap ((l.length:Int)-1)=i:=by rw[Qj (by omega) (by omega)]; omega
   simp -implicitDefEqProofs[g0,h0,w1,k0,k0',QP,htop,hlt];exact⟨by omega,Qn⟩
 . simp -implicitDefEqProofs[g0,h0];exact Qn
theorem Qtf {a b:Nat} (ha:(lim a).length<=1024) (hb:(lim b).length<=1024) (h0:0<b):Ok Tryz.prog 101 [nS a,nS b] H (.ret (i64 0)) H:=by
 refine Ql hm' Tryz.func101 c101 (by simp[QaK]) λhcl => ?_;have h1:=λH=>QmE (H:=H) ha;have h2:=λH=>QmE (H:=H) hb;have hne:¬ (lim b).length=0:=λh=>by rw[Qhf]at h; omega
 simp -implicitDefEqProofs[i101,r101];refine Qf (h1 _) ?_;simp -implicitDefEqProofs;refine Qf (h2 _) ?_;have hsl:(nS b).ug.slen=(lim b).length:=rfl;simp -implicitDefEqProofs;rw[hsl,Wa hne];exact⟨⟨rfl,rfl⟩,Qn⟩
theorem ok80 {q:Qr} (hn:(lim q.n).length<=1000) (hd:(lim q.d).length<=1000) (h0:0<q.d) (hg:Nat.gcd q.n q.d=1) (hneg:q.neg=false):Ok Tryz.prog 80 [.agg (qC q)] H (.ret (i64 0)) H:=by
 refine Ql hm' Tryz.func80 c80 (by simp[qC,QaK]) λhcl => ?_;have h1:=λH=>Qtf (H:=H) (a:=q.n) (b:=q.d) (by omega) (by omega) h0;have h2:=λH=>ok98 (H:=H) (a:=q.n) (b:=q.d) (by omega) (by omega);rw[hg]at h2;have e1:lim 1=[1]:=by rw[QaQ (by decide),show 1 % B=1 by decide,show 1 / B=0 by decide,Q8]
 have n1:nS 1=.slc [.val (.int .u32 1)] 1:=by rw[nS,e1]; rfl
 rw[n1]at h2;simp -implicitDefEqProofs[i80,r80,qC,hneg];refine⟨⟨rfl,rfl⟩,Qf (h1 _) ?_⟩;simp -implicitDefEqProofs;refine Qf (h2 _) ?_;simp -implicitDefEqProofs;refine Qdc (λ_=>h2 _) ?_;simp -implicitDefEqProofs;exact Qg 1 hcl rfl (by simp)
theorem ok78 {g:Gm} {L:List (List Qr)} (hl:L.length=g.is.length):Ok Tryz.prog 78 [.agg g.cells,Qaf L] H (.ret (i64 0)) H:=by
 refine Ql hm' Tryz.func78 c78 (by simp[Gm.cells,QaP,QaS,QjT]) λhcl => ?_;simp -implicitDefEqProofs[i78,r78,Gm.cells,Qaf,hl];exact Qg 1 hcl rfl (by simp)
end
def Qa1:List Nat->Nat
 |[]=>0
 |x::r=>x+Qa1 r
theorem Qlg:∀ a b:List Nat,Qa1 (a++b)=Qa1 a+Qa1 b
 |[],b=>by simp[Qa1]
 |x::a,b=>by simp only[VK,Qa1,Qlg a b]; omega
def QcE (w:List Nat) (S:Nat):List Qr:=w.map λx=>low false x S
structure QdN (w:List Nat) (S:Nat):Prop where
 s0:0<S
 sb:S<=1000000000000000
 sum:Qa1 w=S
 le:∀ x∈w,x<=S
 ln:w.length<=10
theorem QdN.take {w:List Nat} {S:Nat} (h:QdN w S) (k:Nat):Qa1 (w.take k)<=S:=by
 have e:=Qlg (w.take k) (w.drop k);rw[Yn]at e;have:=h.sum;omega
theorem Qt2 {x S:Nat} (hS:0<S):0<(low false x S).d:=by
 obtain⟨g,h1,h2,h3,h4,h5⟩:=QfN x hS;exact h4
theorem Qkv {x S:Nat} (hS:0<S) (hb:S<=1000000000000000) (hx:x<=S):(low false x S).few:=by
 have h1:(low false x S).n<=x:=YL _ _;have h2:(low false x S).d<=S:=YL _ _;have h3:=QfE (n:=(low false x S).n) (by omega);have h4:=QfE (n:=(low false x S).d) (by omega);exact⟨by omega,by omega,Qt2 hS⟩
theorem QoJ:QbZ.few:=by
 have h3:=QfE (n:=1) (by omega);exact⟨by show(lim 1).length<=1000; omega,by show(lim 1).length<=1000; omega,by show 0<1; omega⟩
theorem Qne {S:Nat} (hS:0<S):low false 0 S=⟨false,0,1⟩:=by
 have hd:S / S=1:=Nat.div_self hS;simp[low,hd]
def qO (q:Qr):AO:=⟨qC q,78,0,true⟩
section
variable {H:Ws} {g:Gm}
set_option maxRecDepth 10000 in
theorem QpV {L:List (List Qr)} {i0:Nat} {w:List Nat} {S:Nat} (hi0:i0<L.length) (hL:L.length<4611686018427387904) (hrow:L[i0]=QcE w S) (hw:QdN w S)
 {Ld:Ws} {N:Nat} {K:Wr}
 (hexit:∀ env,env.get 1=Qaf L->env.get 2=.ptr (.own H.length 0 0 0 0) 0->env.get 6=.ptr (.own (H.length+1) 0 0 0 0) 0->env.get 7=i64 i0->env.get 8=.ptr (.own (H.length+(Ld.length+2)) 0 0 0 0) 0->K (.exit 2) env (H++Qk g::qO QbZ::(Ld++[qO (low false S S)]))) :
 ∀ (m k:Nat) (env:Env),k+m=w.length->env.get 1=Qaf L->env.get 2=.ptr (.own H.length 0 0 0 0) 0->env.get 6=.ptr (.own (H.length+1) 0 0 0 0) 0->env.get 7=i64 i0->env.get 8=.ptr (.own (H.length+(Ld.length+2)) 0 0 0 0) 0->env.get 9=i64 k ->
  LI Tryz.prog N Qb QhH env (H++Qk g::qO QbZ::(Ld++[qO (low false (Qa1 (w.take k)) S)])) K:=by
 have e1:=QnI hi0;have e2:=Qmo hi0;have hln:=hw.ln;intro m
 induction m with
 |zero =>
  intro k env hi h1 h2 h6 h7 h8 h9;refine Qc hm' QhH.eq_1 ?_;have e:k=w.length:=by omega
  subst e;rw[YE,hw.sum];have hrl:L[i0].length=w.length:=by rw[hrow]; simp[QcE]
  generalize L[i0]=row at *;simp only[Qaf]at h1;simp -implicitDefEqProofs[h1,h2,h6,h7,h8,h9,hi0,e1,e2,Qar,hrl];refine⟨by omega,hexit _ ?_ ?_ ?_ ?_ ?_⟩<;>simp[Qaf,h2,h6,h7,h8]
 |succ m ih =>
  intro k env hi h1 h2 h6 h7 h8 h9;refine Qc hm' QhH.eq_1 ?_;have hkw:k<w.length:=by omega
  have hrl:L[i0].length=w.length:=by rw[hrow]; simp[QcE]
  have hlt:k<L[i0].length:=by omega
  have hq:L[i0][k]=low false w[k] S:=by simp[hrow,QcE]
  have hwk:=hw.le _ (Vf hkw);generalize L[i0]=row at *;have f1:=Qvf hlt;have f2:=QkR Qeb hlt;have f3:=Qd7 Qeb hlt;have f4:=QhB Qeb hlt;have f5:=QbJ Qeb row;rw[hq]at f1;have hps:Qa1 (w.take k)+w[k]=Qa1 (w.take (k+1)):=by
   rw[Za hkw,Qlg]; simp[Qa1]
  have hle:=hw.take k;have hfq:=Qkv hw.s0 hw.sb hwk;have hfs:=Qkv hw.s0 hw.sb hle;have hpl:=QuS (Qa1 (w.take k)) w[k] hw.s0;rw[hps]at hpl;have h80:=λH=>ok80 (H:=H) (q:=low false w[k] S) hfq.1 hfq.2.1 hfq.2.2 (by obtain⟨g,_,_,_,_,h5⟩:=QfN w[k] hw.s0; exact h5) rfl;have h81:=λH=>ok81 (H:=H) hfq QoJ;have hord:=(Qmq hw.s0 hwk).1;have h82:=λH=>ok82 (H:=H) hfs hfq;rw[hpl]at h82;have hih:=ih (k+1);have hneg:(low false w[k] S).neg=false:=rfl;generalize low false w[k] S=q at *;generalize low false (Qa1 (w.take k)) S=s at *;generalize low false (Qa1 (w.take (k+1))) S=s' at *;simp only[Qr.sv,qC,qO,hneg]at f1 h80 h81 h82 hih;generalize hod:q.ord QbZ=od at *;simp -implicitDefEqProofs[h1,h2,h6,h7,h8,h9,Qaf,hi0,e1,e2,Qar,hlt,f1,f2,f3,f5,qO,qC];refine⟨by omega,Qf (h80 _) ?_⟩;simp -implicitDefEqProofs[h1,h2,h6,h7,h8,h9,Qaf,hi0,e1,e2,Qar,hlt,f1,f2,f3,f5,qO,qC,hneg];refine⟨by omega,Qdc (r:=i64 od) (λ_=>by simp only[Vs,V4,SV.strip]; exact h81 _) ?_⟩;simp -implicitDefEqProofs[h1,h2,h6,h7,h8,h9,Qaf,hi0,e1,e2,Qar,hlt,f1,f2,f3,f5,qO,qC,hneg,show ¬ 0<od by omega];refine⟨by omega,Q3 (λ_=>h82 _) ?_⟩;simp -implicitDefEqProofs[h1,h2,h6,h7,h8,h9,Qaf,hi0,e1,e2,Qar,hlt,f1,f2,f3,f5,qO,qC,hneg];refine⟨⟨rfl,rfl⟩,hih _ (by omega) ?_ ?_ ?_ ?_ ?_ ?_⟩;all_goals simp[h1,h2,h6,h7,h8,Qaf,QO (show k<9223372036854775807 by omega)]
set_option maxRecDepth 10000 in
theorem QsI {L:List (List Qr)} (hLl:L.length=g.is.length) (hLb:L.length<=100000) (hW:∀ i (h:i<L.length),∃ w S,L[i]=QcE w S/\QdN w S/\(w.length:Int)=(g.is[i]'(by omega)).2) {N:Nat} {K:Wr}
 (hexit:∀ env Ld,K (.exit 0) env (H++Qk g::qO QbZ::Ld)) :
 ∀ (m i:Nat) (env:Env) (Ld:Ws),i+m=L.length->env.get 1=Qaf L->env.get 2=.ptr (.own H.length 0 0 0 0) 0->env.get 6=.ptr (.own (H.length+1) 0 0 0 0) 0->env.get 7=i64 i ->
  LI Tryz.prog N Qb Qiz env (H++Qk g::qO QbZ::Ld) K:=by
 intro m
 induction m with
 |zero =>
  intro i env Ld hi h1 h2 h6 h7;refine Qc hm' Qiz.eq_1 ?_;have e:i=L.length:=by omega
  subst e;simp only[Qaf]at h1;simp -implicitDefEqProofs[h1,h2,h6,h7];exact hexit _ _
 |succ m ih =>
  intro i env Ld hi h1 h2 h6 h7;refine Qc hm' Qiz.eq_1 ?_;have hiL:i<L.length:=by omega
  have hii:i<g.is.length:=by omega
  obtain⟨w,S,hrow,hw,hwl⟩:=hW i hiL;have e1:=QnI hiL;have e2:=Qmo hiL;have hrl:L[i].length=w.length:=by rw[hrow]; simp[QcE]
  have i2:(Qx g.is)[i*2+1]?.getD .any=i64 g.is[i].2:=by
   rw[<-Vr,Qbo hii]; rfl
  have i3:(Qx g.is).length=2*g.is.length:=Qb8 _;have key:=λN K hx=>QpV (H:=H) (g:=g) (N:=N) (K:=K) (Ld:=Ld) hiL (by omega) hrow hw hx w.length 0;have h79:=λH=>ok79 (H:=H) (x:=0) (by omega);have e0:Qcc (decide ((0:Int)<0)) (0:Int).natAbs 1=(⟨false,0,1⟩:Qr).sv:=by
   have:low false 0 1=⟨false,0,1⟩:=Qne (by omega);show(low false 0 1).sv=_;rw[this]
  rw[e0]at h79;have ez:low false (Qa1 (w.take 0)) S=⟨false,0,1⟩:=by rw[Yl]; exact Qne hw.s0
  have hos:(low false S S).ord QbZ=0:=(Qmq hw.s0 (Vc _)).2 rfl;have h81:=λH=>ok81 (H:=H) (Qkv hw.s0 hw.sb (Vc S)) QoJ;rw[hos]at h81;rw[ez]at key;generalize L[i]=row at *;have hs0:=hw.s0;generalize low false S S=sS at *;have h1':=h1;simp only[Qaf]at h1;simp only[Qr.sv,qC,qO]at h79 h81;simp -implicitDefEqProofs[h1,h2,h6,h7,hiL,e1,e2,Qar,hrl,Qk,Gm.cells,i2,i3,hwl];repeat (refine⟨by omega,?_⟩)
  refine Qf (h79 _) ?_;simp -implicitDefEqProofs[h1,h2,h6,h7];refine⟨⟨rfl,rfl⟩,key _ _ (λenv k1 k2 k6 k7 k8 => ?_) _ (by omega) ?_ ?_ ?_ ?_ ?_ ?_⟩
  rotate_left
  all_goals try simp[Qaf]
  simp only[qO,qC,Qk,Gm.cells];simp -implicitDefEqProofs[k1,k2,k6,k7,k8];refine Qf (h81 _) ?_;simp -implicitDefEqProofs[k1,k2,k6,k7,k8];refine ih (i+1) _ (Ld++[qO sS]) (by omega) ?_ ?_ ?_ ?_
  . simp[k1]
  . simp[k2]
  . simp[k6]
  . simp[QO (show i<9223372036854775807 by omega)]
set_option maxRecDepth 10000 in
theorem ok50 {L:List (List Qr)} (hLl:L.length=g.is.length) (hLb:L.length<=100000) (hW:∀ i (h:i<L.length),∃ w S,L[i]=QcE w S/\QdN w S/\(w.length:Int)=(g.is[i]'(by omega)).2):Ok Tryz.prog 50 [.agg g.cells,Qaf L] H (.ret (i64 0)) H:=by
 refine Ql hm' Tryz.func50 c50 (by simp[Gm.cells,QaP,QaS,QjT]) λhcl => ?_;have h78:=λH=>ok78 (H:=H) (g:=g) hLl;have h79:=λH=>ok79 (H:=H) (x:=1) (by omega);have e0:Qcc (decide ((1:Int)<0)) (1:Int).natAbs 1=QbZ.sv:=by
  have:low false 1 1=QbZ:=by simp[low,QbZ]
  show(low false 1 1).sv=_;rw[this]
 rw[e0]at h79;simp only[Gm.cells,Qaf]at h78;simp only[Qr.sv]at h79;simp -implicitDefEqProofs[i50,r50,Gm.cells,Qaf];refine Qf (h78 _) ?_;simp -implicitDefEqProofs;refine Qf (h79 _) ?_;simp -implicitDefEqProofs;refine⟨⟨rfl,rfl⟩,?_⟩;have key:=λN K hx=>QsI (H:=H) (g:=g) (N:=N) (K:=K) hLl hLb hW hx L.length 0;simp only[Qk,qO,qC,Gm.cells]at key;refine key _ _ (λenv Ld => ?_) _ _ (by omega) ?_ ?_ ?_ ?_
 . simp -implicitDefEqProofs;exact Qg 2 hcl rfl (by simp)
 all_goals simp[Qaf]
theorem ok26 {L:List (List Qr)} (hf:g.formR=0) (hLl:L.length=g.is.length) (hLb:L.length<=100000) (hW:∀ i (h:i<L.length),∃ w S,L[i]=QcE w S/\QdN w S/\(w.length:Int)=(g.is[i]'(by omega)).2):Ok Tryz.prog 26 [.agg g.cells,Qaf L] H (.ret (i64 0)) H:=by
 refine Ql hm' Tryz.func26 c26 (by simp[Gm.cells,QaP,QaS,QjT]) λhcl => ?_;have h37:=λH=>ok37 (H:=H) (g:=g);have h50:=λH=>ok50 (H:=H) hLl hLb hW;rw[hf]at h37;simp only[Gm.cells,Qaf]at h37 h50;simp -implicitDefEqProofs[i26,r26,Gm.cells,Qaf];refine Qf (h37 _) ?_;simp -implicitDefEqProofs;refine Qf (h50 _) ?_;simp -implicitDefEqProofs;exact Qg 2 hcl rfl (by simp)
end
end Go.Proofs.YtogjmpkehjfecaaGreatDoor.Rc
namespace Go.Proofs.YtogjmpkehjfecaaGreatDoor.Rc
open Go.Ab Go.Ab.Shr
theorem Qnw {f:Nat->Int} {x:Nat} {y:Int}:∀ n:Nat,Qo (put f x y) n=if x<n then Qo f n-f x+y else Qo f n
 |0=>by simp[Qo]
 |n+1=>by
  simp only[Qo,Qnw n];unfold put;by_cases h:x<n
  . rw[Wb h,Wa (show ¬ n=x by omega),Wb (show x<n+1 by omega)]; omega
  . rw[Wa h];by_cases e:n=x
    . subst e; rw[Wb rfl,Wb (show n<n+1 by omega)]; omega
    . rw[Wa e,Wa (show ¬ x<n+1 by omega)]
theorem Qnr {n:Nat}:∀ (l:List Nat) (f:Nat->Int),(∀ x∈l,x<n)->Qo (Qbw f l) n=Qo f n+l.length
 |[],f,_=>by simp[Qbw]
 |x::l,f,h=>by
  simp only[Qbw,VT];rw[Qnr l _ (λy hy=>h y (VI _ hy)),Qnw,Wb (h x (by simp))];omega
theorem Qnd {f g:Nat->Int}:∀ n:Nat,(∀ i,i<n->f i=g i)->Qo f n=Qo g n
 |0,_=>rfl
 |n+1,h=>by simp only[Qo]; rw[Qnd n (λi hi=>h i (by omega)),h n (by omega)]
theorem Qrh {l:List Int} (hl:0<l.length):Qo (λk=>(Qab l).getD k 0) l.length=65536:=by
 have h:=QiW hl;have e:Qo (λk=>(Qab l).getD k 0) l.length=Qo (Qbw (QL l (Qt l)) ((QQ l).take (Qad l).toNat)) l.length :=
  Qnd _ λk hk=>by simp[Qab,hk]
 rw[e,Qnr]
 . have h4:Qad l=65536-Qo (QL l (Qt l)) l.length:=rfl;have h5:((QQ l).take (Qad l).toNat).length=(Qad l).toNat:=by
    rw[YB,QjL]; omega
   rw[h5]; omega
 . intro x hx;have hx:=V7 hx;unfold QQ at hx;split at hx
   . exact Qf0.1 hx
   . exact VJ.1 hx
theorem Qpj {ws:List Int} (h:∀ w∈ws,1<=w/\w<=1000) (hl:ws.length<=60):∀ k,k<=ws.length->Qo (λk=>ws.getD k 0) k=wsK ws k
 |0,_=>rfl
 |k+1,hk=>by
  have h1:=Qex h hl k (by omega);have h2:=h _ (Vf (show k<ws.length by omega));have e:ws.getD k 0=ws[k]:=by simp[show k<ws.length by omega]
  simp only[Qo,wsK];rw[Qpj h hl k (by omega),e,Qj (by omega) (by omega)]
def Qe4 (g:Gm) (S:Nat->List Int):Prop:=∀ j,j<g.is.length->(∀ k,k<g.acts j->0<=(S j).getD k 0/\(S j).getD k 0<=65536)/\Qo (λk=>(S j).getD k 0) (g.acts j)=65536
section
variable {g:Gm} {M V R:List Int} {S A P:Nat->List Int}
theorem QqX (hW:Wg g) {A:Nat->List Int} (hA:∀ j,j<g.is.length->(A j).length=g.acts j) (hS:∀ j,j<g.is.length->S j=Qab (A j)):Qe4 g S:=by
 intro j hj;have ha:=Qa5 hW hj;have hl:=hA j hj;refine⟨λk hk=>by rw[hS j hj]; exact QkW (by omega),?_⟩;rw[hS j hj,<- hl];exact Qrh (by omega)
theorem QrB (hW:Wg g) (hS:Qe4 g S) (hm:∀ i (h:i<g.ns.length),g.ns[i].k=1->M.getD i 0=Qby g.ns[i].ws/\0<M.getD i 0) {i:Nat} (hi:i<g.ns.length) (h3:g.ns[i].k≠3) :
 (∀ k,k<g.ns[i].nx.length->0<=brP g S i k)/\Qo (brP g S i) g.ns[i].nx.length=brW g M i/\0<brW g M i/\brW g M i<=65536:=by
 have hx:g.ns[i]? = some g.ns[i]:=Vb hi;rcases Qep hW hi with h|h|h
 . obtain⟨a1,a2,a3,a4⟩:=QeE hW hi h;obtain⟨m1,m2⟩:=hm i hi h;have hws:=Qex a4 (by omega) g.ns[i].ws.length (Vc _);have eB:brW g M i=Qby g.ns[i].ws:=by simp only[brW,hx,h]; exact m1
   have eP:brP g S i=λk=>g.ns[i].ws.getD k 0:=by funext k; simp only[brP,hx,h]; rfl
   rw[eB,eP];refine⟨λk hk => ?_,?_,by rw[<-m1]; exact m2,by unfold Qby; omega⟩
   . have hw:=a4 _ (Vf (show k<g.ns[i].ws.length by omega));have e:g.ns[i].ws.getD k 0=g.ns[i].ws[k]:=by simp[show k<g.ns[i].ws.length by omega]
     simp only[e]; omega
   . rw[<-a1]; exact Qpj a4 (by omega) _ (Vc _)
 . obtain⟨b1,b2,b3,b4,b5⟩:=QcK hW hi h;have eB:brW g M i=65536:=by simp[brW,hx,h]
   have eP:brP g S i=λk=>(S g.ns[i].i.toNat).getD k 0:=by funext k; simp[brP,hx,h]
   obtain⟨s1,s2⟩:=hS _ b1;rw[eB,eP];refine⟨λk hk=>(s1 k (by omega)).1,by rw[<-b3]; exact s2,by omega,by omega⟩
 . exact absurd h h3
theorem QvO {f:Nat->Int} {n:Nat} (h:∀ k,k<n->0<=f k):∀ m,m<=n->0<=Qo f m/\∀ d,m+d<=n->Qo f m<=Qo f (m+d):=by
 have step:∀ d m,m+d<=n->Qo f m<=Qo f (m+d):=by
  intro d
  induction d with
  |zero=>intro m _; exact V8 _
  |succ d ih =>
   intro m hm;have h1:=ih m (by omega);have h2:=h (m+d) (by omega);have e:Qo f (m+(d+1))=Qo f (m+d)+f (m+d):=rfl;omega
 intro m hm;refine⟨?_,λd hd=>step d m hd⟩;have:=step m 0 (by omega);rw[VX]at this;exact this
theorem Ql4 {v w B:Int} (hv : -B<=v/\v<=B) (hw:0<=w) : -(B*w)<=v*w/\v*w<=B*w:=by
 have h1:=Int.mul_le_mul_of_nonneg_right hv.2 hw;have h2:=Int.mul_le_mul_of_nonneg_right hv.1 hw;rw[Int.neg_mul]at h2;exact⟨h2,h1⟩
theorem Qpw {a w B:Int} (hw:0<w) (h : -(B*w)<=a/\a<=B*w) : -B<=a.tdiv w/\a.tdiv w<=B:=by
 have key:∀ x:Int,0<=x->x<=B*w->0<=x.tdiv w/\x.tdiv w<=B:=λx hx hb=>by
  rw[ZZ hx];exact⟨ZY hx (by omega),Int.ediv_le_of_le_mul hw hb⟩
 rcases Int.le_total 0 a with h0|h0
 . have:=key a h0 h.2; omega
 . have:=key (-a) (by omega) (by omega);have e:(-a).tdiv w = -(a.tdiv w):=Int.neg_tdiv ..;omega
theorem QmS (hW:Wg g) (hS:Qe4 g S) (hV:Qdq g M S V):∀ (m i q:Nat),g.ns.length-m<=i->i<g.ns.length->(q:Int)<g.pl -> -1024000000<=V.getD (i*4+q) 0/\V.getD (i*4+q) 0<=1024000000:=by
 intro m
 induction m with
 |zero=>intro i q h1 h2; omega
 |succ m ih =>
  intro i q h1 hi hq;have hx:g.ns[i]? = some g.ns[i]:=Vb hi;rw[hV.eq i q hi hq];simp only[QbB,hx];by_cases h3:g.ns[i].k=3
  . rw[Wb h3];obtain⟨e1,e2,e3⟩:=Qfd hW hi h3;have hql:q<g.ns[i].ps.length:=by omega
    have:=e3 _ (Vf hql);have e:g.ns[i].ps.getD q 0=g.ns[i].ps[q]:=by simp[hql]
    rw[e,Qj (by omega) (by omega)];omega
  . rw[Wa h3];obtain⟨p1,p2,p3,p4⟩:=QrB hW hS hV.m hi h3;have hm:=QvO p1;have acc:∀ k,k<=g.ns[i].nx.length -> -(1024000000*Qo (brP g S i) k)<=QR g S V g.ns[i].nx i q k/\QR g S V g.ns[i].nx i q k<=1024000000*Qo (brP g S i) k:=by
     intro k
     induction k with
     |zero=>intro _; simp[QR,Qo]
     |succ k ihk =>
      intro hk;have h1:=ihk (by omega);have hkl:k<g.ns[i].nx.length:=by omega
      have hch:=(hW.wf.nf i hi).ch _ (Vf hkl);have e:g.ns[i].nx.getD k 0=g.ns[i].nx[k]:=by simp[hkl]
      have hv:=ih g.ns[i].nx[k].toNat q (by omega) (by omega) hq;have hw:=p1 k hkl;have hb:=Ql4 hv hw;have hs:=(hm (k+1) hk).2 (g.ns[i].nx.length-(k+1)) (by omega);rw[show k+1+(g.ns[i].nx.length-(k+1))=g.ns[i].nx.length by omega,p2]at hs;have hs0:=(hm k (by omega)).1;have es:Qo (brP g S i) (k+1)=Qo (brP g S i) k+brP g S i k:=rfl;simp only[QR];rw[e];generalize V.getD (g.ns[i].nx[k].toNat*4+q) 0*brP g S i k=x at *;generalize QR g S V g.ns[i].nx i q k=y at *;rw[es]at hs ⊢;generalize Qo (brP g S i) k=u at *;generalize brP g S i k=w at *;rw[show IntKind.i64.wrap x=x from Qj (by omega) (by omega),show IntKind.i64.wrap (y+x)=y+x from Qj (by omega) (by omega)];omega
    have ha:=acc g.ns[i].nx.length (Vc _);rw[p2]at ha;have ht:=Qpw p3 ha;rw[Qj (by omega) (by omega)];exact ht
theorem QqV (hW:Wg g) (hS:Qe4 g S) (hV:Qdq g M S V) (hR:QcI g false M S R) {i a:Nat} (hi:i<g.ns.length) (hk:g.ns[i].k=2) (ha:a<g.ns[i].nx.length) : -2048000000<=Qa2 g V R i a/\Qa2 g V R i a<=2048000000:=by
 have hx:g.ns[i]? = some g.ns[i]:=Vb hi;obtain⟨q0,q1⟩:=Qe9 hW hi hk;have hq:((g.ns[i].p.toNat:Nat):Int)<g.pl:=by omega
 have hch:=(hW.wf.nf i hi).ch _ (Vf ha);have e:g.ns[i].nx.getD a 0=g.ns[i].nx[a]:=by simp[ha]
 have v1:=QmS hW hS hV g.ns.length g.ns[i].nx[a].toNat g.ns[i].p.toNat (by omega) (by omega) hq;have v2:=QmS hW hS hV g.ns.length i g.ns[i].p.toNat (by omega) hi hq;have r:=QjV hW hR (λj hj=>(hS j hj).1) i i g.ns[i].p.toNat (Vc _) hi hq;simp only[Qa2,hx];rw[e];generalize V.getD (g.ns[i].nx[a].toNat*4+g.ns[i].p.toNat) 0=x at *;generalize V.getD (i*4+g.ns[i].p.toNat) 0=y at *;generalize R.getD (i*4+g.ns[i].p.toNat) 0=z at *;have w1:IntKind.i64.wrap (x-y)=x-y:=Qj (by omega) (by omega);have hb:=Ql4 (v:=x-y) (w:=z) (B:=2048000000) (by omega) r.1;rw[Zu (x-y) z]at hb;have hz:2048000000*z<=2048000000*1073741824:=by omega
 have w2:IntKind.i64.wrap (z*(x-y))=z*(x-y):=by
  generalize z*(x-y)=t at *;exact Qj (by omega) (by omega)
 rw[w1,w2];have ht:=Qpw (a:=z*(x-y)) (w:=1073741824) (B:=2048000000) (by omega) (by
  generalize z*(x-y)=t at *;omega)
 generalize (z*(x-y)).tdiv 1073741824=t at *;rw[Qj (by omega) (by omega)];exact ht
theorem QnS (hW:Wg g) (hS:Qe4 g S) (hV:Qdq g M S V) (hR:QcI g false M S R) {C:Int} (hC:0<=C) (hA:∀ j a,-C<=(A j).getD a 0/\(A j).getD a 0<=C) :
 ∀ i,i<=g.ns.length->C+2048000000*i<=4611686018427387904->∀ j a,-(C+2048000000*i)<=(Qa9 g V R A i j).getD a 0/\(Qa9 g V R A i j).getD a 0<=C+2048000000*i
 |0,_,_,j,a=>by have:=hA j a; simp only[Qa9]; omega
 |i+1,hi,hb,j,a=>by
  have ih:=QnS hW hS hV hR hC hA i (by omega) (by omega);have hii:i<g.ns.length:=by omega
  have hx:g.ns[i]? = some g.ns[i]:=Vb hii;simp only[Qa9,Qdd,hx];by_cases hk:g.ns[i].k=2
  . rw[Wb hk];unfold upA;by_cases e:j=g.ns[i].i.toNat
    . rw[Wb e];by_cases ha:a<g.ns[i].nx.length
      . rw[Qdg ha];have h1:=ih g.ns[i].i.toNat a;have h2:=QqV hW hS hV hR hii hk ha;rw[Qj (by omega) (by omega)];omega
      . have:(Qh g.ns[i].nx.length λa=>IntKind.i64.wrap ((Qa9 g V R A i g.ns[i].i.toNat).getD a 0+Qa2 g V R i a)).getD a 0=0:=by simp[Qh,ha]
        rw[this]; omega
    . rw[Wa e];have:=ih j a;omega
  . rw[Wa hk];have:=ih j a;omega
end
def SBd (s:TS) (C D:Int):Prop:=(∀ j a,-C<=(s.A j).getD a 0/\(s.A j).getD a 0<=C)/\∀ j a,(s.P j).getD a 0<=D
section
variable {g:Gm} {s:TS}
theorem Qkw (hW:Wg g) (h:SOk g s):Qe4 g (shL s g.is.length).S:=QqX hW h.A λj hj=>QeN s _ j hj
theorem QvP (hW:Wg g) (h:SOk g s):Qdq g (cTC g).M (shL s g.is.length).S (QfL g s):=Qlt hW h.V (Qd3 hW) λ_ _=>rfl
theorem Qt9 (hW:Wg g) (h:SOk g s) {C D:Int} (hC:0<=C) (hD:0<=D) (hb:SBd s C D) (hCb:C+2048000000*g.ns.length<=4611686018427387904) (hDb:D+1073741824<=4611686018427387904):SBd (Q7 g (cTC g) s) (C+2048000000*g.ns.length) (D+1073741824):=by
 refine⟨λj a => ?_,λj a => ?_⟩
 . rw[Qg4];exact QnS hW (Qkw hW h) (QvP hW h) (Qjp hW h.R) hC hb.1 g.ns.length (Vc _) hCb j a
 . rw[QfQ,QeH];by_cases hj:j<g.is.length
   . rw[Wb hj];by_cases ha:a<g.acts j
     . have ho:=QjU hW hj;obtain⟨hf,hF,_⟩:=Qiv hW hj;have hO:=QjV hW (Qjp (s:=s) (own:=true) hW h.O) (λj hj=>(Qkw hW h j hj).1) (frs g j) (frs g j) (Qds g j).toNat (Vc _) hf (by omega);have hs:=(Qkw hW h j hj).1 a ha;have hpn:=h.pn j hj a;have hp2:=hb.2 j a;rw[Qdg ha];have eo:Qbe g (cTC g).F (QaJ g true s s.O) j=(QaJ g true s s.O).getD (frs g j*4+(Qds g j).toNat) 0:=rfl;have hq:=Qhs (a:=Qbe g (cTC g).F (QaJ g true s s.O) j) (p:=((shL s g.is.length).S j).getD a 0) (w:=65536) (by rw[eo]; exact hO) hs (by omega);have e3:Qhb (Qbe g (cTC g).F (QaJ g true s s.O) j) (((shL s g.is.length).S j).getD a 0)=qoF (Qbe g (cTC g).F (QaJ g true s s.O) j) (((shL s g.is.length).S j).getD a 0) 65536:=rfl;unfold Qbf;rw[e3,Qj (by omega) (by omega)];omega
     . have:(Qh (g.acts j) (Qbf (Qbe g (cTC g).F (QaJ g true s s.O) j) (s.P j) ((shL s g.is.length).S j))).getD a 0=0:=by
        simp[Qh,ha]
       rw[this];omega
   . rw[Wa hj];have:=hb.2 j a;omega
theorem QnR (hW:Wg g) (hn:g.ns.length<=60):∀ (m:Nat) (s:TS) (k:Nat),SOk g s->SBd s (2048000000*60*k) (1073741824*k)->s.rnd+m<=1000000->k+m<=200 ->
 ∃ s',Qaz g m s=some s'/\SOk g s'/\SBd s' (2048000000*60*(k+m:Nat)) (1073741824*(k+m:Nat))/\s'.rnd=s.rnd+m/\s'.seed=s.seed
 |0,s,k,h,hb,_,_=>⟨s,rfl,h,by simpa using hb,by simp,rfl⟩
 |m+1,s,k,h,hb,hr,hk=>by
  have h1:=Qt9 hW h (by omega) (by omega) hb (by omega) (by omega);have h2:SBd (Q7 g (cTC g) s) (2048000000*60*(k+1:Nat)) (1073741824*(k+1:Nat)):=by
   refine⟨λj a => ?_,λj a => ?_⟩
   . have:=h1.1 j a; omega
   . have:=h1.2 j a; omega
  have ho:QaA g (Q7 g (cTC g) s):=by
   intro i _ a _;have e1:=h2.1 i a;have e2:=h2.2 i a;unfold Qbx;omega
  have h3:=QiT hW h (by omega) ho;obtain⟨r1,r2⟩:=Qe3 (g:=g) (s:=s);have hr0:=h.r0;rw[Qj (by omega) (by omega)]at r1;obtain⟨s',q1,q2,q3,q4,q5⟩:=QnR hW hn m _ (k+1) h3 h2 (by omega) (by omega);refine⟨s',?_,q2,by rw[show k+(m+1)=k+1+m by omega]; exact q3,by rw[q4,r1]; omega,by rw[q5,r2]⟩;simp only[Qaz];rw[Wb (Qde.2 ho)];exact q1
end
section
variable {g:Gm}
theorem Qpl (hW:Wg g) {pl:Int} {p i:Nat} (hp:p<g.ns.length) (hi:i<g.ns[p].nx.length) {c:Nat} (hc:g.ns[p].nx[i]=c) :
 g.way c pl=if g.ns[p].k=2/\g.ns[p].p=pl then g.way p pl++[(g.ns[p].i,(i:Int))]else g.way p pl:=by
 have hn:=hW.wf.nf p hp;have hmem:(c:Int)∈g.ns[p].nx:=by rw[<-hc]; exact Vf hi
 obtain⟨c1,c2,c3,c4⟩:=hn.ch _ hmem;obtain⟨k,hk,e1,e2,e3⟩:=Qsl hn.inc hmem;have ek:i=k:=e3 i hi hc;subst ek;have hcl:c<g.ns.length:=by omega
 have hP:gi g.wk.2.P c=p:=by simpa using c3
 obtain⟨n,hnn⟩:∃ n,g.ns.length=n+1:=⟨g.ns.length-1,by omega⟩;have h1:g.up c pl=upf g pl (n+1) c []:=by unfold Gm.up; rw[hnn]; rfl
 have h2:g.up p pl=upf g pl (n+1) p []:=by unfold Gm.up; rw[hnn]; rfl
 unfold Gm.way;rw[h1,h2];unfold upf;rw[Qfn hW hp hP];have h3:=Qom hW (pl:=pl) n (n+1) p [] (by omega) (by omega) hp;have h4:=λl=>Qn9 hW (pl:=pl) n p l (by omega) hp;unfold upf at h3 h4;by_cases hc2:g.ns[p].k=2/\g.ns[p].p=pl
 . rw[Wb hc2,Wb hc2,h4,e2,h3];simp
 . rw[Wa hc2,Wa hc2,h3]
end
theorem Qlj {s:Nat}:∀ {l:List Nd} {o:Nat} {a:Int},a∈occ s l o->∃ t,∃ ht:t<l.length,a=((o+t:Nat):Int)/\l[t].k=2/\l[t].i.toNat=s
 |[],o,a,h=>by simp[occ]at h
 |x::r,o,a,h=>by
  unfold occ at h;split at h
  . rename_i hc;rcases Vi.1 h with rfl|h
    . exact⟨0,by simp,by simp,hc.1,hc.2⟩
    . obtain⟨t,ht,e,h1,h2⟩:=Qlj h;exact⟨t+1,by simpa using ht,by rw[e]; congr 1; omega,by simpa using h1,by simpa using h2⟩
  . obtain⟨t,ht,e,h1,h2⟩:=Qlj h;exact⟨t+1,by simpa using ht,by rw[e]; congr 1; omega,by simpa using h1,by simpa using h2⟩
section
variable {g:Gm} {lvs:Nat->Int} {V:Nat->Option (Int×Int×List Int)} {gs:List Gh}
theorem Rcl.par (hW:Wg g) (h:Rcl g lvs V gs) {b:Nat} (hb:0<b) (hl:b<g.ns.length) {z:Gh} (hz:gs[b]? = some z) :
 ∃ (a:Nat) (ha:a<g.ns.length) (k:Nat) (hk:k<g.ns[a].nx.length) (y:Gh),g.ns[a].nx[k]=(b:Int)/\gs[a]? = some y/\QeJ y.sn z.sn g.ns[a].mvr k/\z.lv=y.lv+1:=by
 obtain⟨a,ha,h1,h2,h3⟩:=hW.wf.pf b hb hl;obtain⟨k,hk,h4⟩:=VG h3;have hal:a<gs.length:=by rw[h.len]; exact ha
 obtain⟨m,z',e1,e2,e3,e4⟩:=h.edge a g.ns[a] gs[a] (Vb ha) (Vb hal) k b (by rw[Vb hk,h4]);have:m=b:=by omega
 subst this;rw[hz]at e2
 cases e2
 exact⟨a,ha,k,hk,gs[a],h4,Vb hal,e3,e4⟩
theorem Rcl.ways (hW:Wg g) (h:Rcl g lvs V gs) {q:Nat}:∀ (n a b:Nat) (ya yb:Gh) (s:List Int),a<g.ns.length->b<g.ns.length->gs[a]? = some ya->gs[b]? = some yb->ya.lv=n->yb.lv=n->ya.sn[q]? = some s->yb.sn[q]? = some s->g.way a q=g.way b q:=by
 intro n;have h0:∀ (b:Nat) (y:Gh),b<g.ns.length->gs[b]? = some y->y.lv=0->b=0:=by
  intro b y hb hy hl;rcases Yu b with e|e
  . exact e
  . obtain⟨_,_,_,_,_,_,_,_,e4⟩:=h.par hW e hb hy;omega
 have h1:∀ (b:Nat) (y:Gh),gs[b]? = some y->0<y.lv->0<b:=by
  intro b y hy hl;rcases Yu b with e|e
  . subst e; rw[h.root]at hy; cases hy; simp at hl
  . exact e
 induction n with
 |zero =>
  intro a b ya yb s ha hb hya hyb la lb _ _;rw[h0 a ya ha hya la,h0 b yb hb hyb lb]
 |succ n ih =>
  intro a b ya yb s ha hb hya hyb la lb sa sb;obtain⟨pa,hpa,ka,hka,za,na,gza,ra,va⟩:=h.par hW (h1 a ya hya (by omega)) ha hya;obtain⟨pb,hpb,kb,hkb,zb,nb,gzb,rb,vb⟩:=h.par hW (h1 b yb hyb (by omega)) hb hyb;have qa:q<za.sn.length:=by rw[<-ra.1]; exact Qd sa
  have qb:q<zb.sn.length:=by rw[<-rb.1]; exact Qd sb
  obtain⟨ea,ea1,ea2⟩:=ra.2 q qa;obtain⟨eb,eb1,eb2⟩:=rb.2 q qb;rw[sa]at ea1;rw[sb]at eb1;simp only[Option.some.injEq]at ea1 eb1;have hc:=ea1.symm.trans eb1;obtain⟨c1,c2⟩:=List.append_inj' hc rfl;have c2:ea=eb:=by simpa using c2
  have hi:=ih pa pb za zb za.sn[q] hpa hpb gza gzb (by omega) (by omega) (Vb qa) (by rw[Vb qb,c1]);rw[Qpl hW hpa hka na,Qpl hW hpb hkb nb,hi];obtain⟨fa2,fa1⟩:=h.fit pa g.ns[pa] za (Vb hpa) gza;obtain⟨fb2,fb1⟩:=h.fit pb g.ns[pb] zb (Vb hpb) gzb;have hlv:za.lv=zb.lv:=by omega
  have key:∀ (p:Nat) (hp:p<g.ns.length) (k:Nat) (hk:k<g.ns[p].nx.length),(g.ns[p].k=2->lvs za.lv=g.ns[p].p)->(g.ns[p].k=1->lvs za.lv<0)->((g.ns[p].k=2/\g.ns[p].p=q)↔lvs za.lv=q):=by
   intro p hp k hk f2 f1;rcases Qep hW hp with k1|k2|k3
   . have:=f1 k1;constructor
     . rintro⟨e,_⟩; omega
     . intro e; omega
   . have:=f2 k2;constructor
     . rintro⟨_,e⟩; omega
     . intro e; exact⟨k2,by omega⟩
   . rw[(Qfd hW hp k3).1]at hk; simp at hk
  have Ka:=key pa hpa ka hka (λe=>(fa2 e).1) fa1;have Kb:=key pb hpb kb hkb (λe=>by rw[hlv]; exact(fb2 e).1) (λe=>by rw[hlv]; exact fb1 e);by_cases hq:lvs za.lv=q
  . have ha2:=Ka.2 hq;have hb2:=Kb.2 hq;rw[Wb ha2,Wb hb2];obtain⟨_,i0,p0,s1,s2,s3⟩:=fa2 ha2.1;obtain⟨_,j0,q0,t1,t2,t3⟩:=fb2 hb2.1;have e1:g.ns[pa].p.toNat=q:=by omega
    have e2:g.ns[pb].p.toNat=q:=by omega
    rw[e1,Vb qa]at s2;rw[e2,Vb qb]at t2;simp only[Option.some.injEq]at s2 t2;have ei:g.ns[pa].i.toNat=g.ns[pb].i.toNat:=by
     refine h.un _ _ _ s3 ?_;rw[t3,<- s2,<- t2,c1,hlv,ha2.2,hb2.2]
    have ek:(ka:Int)=kb:=by
     rw[<-ea2 (by unfold Nd.mvr; rw[Wb ha2.1]; exact ha2.2.symm),<- eb2 (by unfold Nd.mvr; rw[Wb hb2.1]; exact hb2.2.symm),c2]
    have ei2:g.ns[pa].i=g.ns[pb].i:=by omega
    rw[ei2,ek]
  . rw[Wa (λe=>hq (Ka.1 e)),Wa (λe=>hq (Kb.1 e))]
theorem Rcl.perf (hW:Wg g) (h:Rcl g lvs V gs) (hi:∀ x∈g.ns,x.k=2->∃ n,g.is[x.i.toNat]? = some (x.p,n)) {q:Nat}:g.perf q=true:=by
 unfold Gm.perf;rw[QmJ hW g.is.length 0 (by omega)];rintro t _ ht hp ⟨hs,ht',v,hv,hne⟩;apply hne;have hne0:g.sets[t]≠[]:=hW.ne t hs;have hh:g.sets[t].headD 0∈g.sets[t]:=by
  cases hc:g.sets[t]with
  |nil=>exact absurd hc hne0
  |cons u l=>simp
 have key:∀ w∈g.sets[t],∃ (y:Gh) (s:List Int),w.toNat<g.ns.length/\gs[w.toNat]? = some y/\y.sn[q]? = some s/\V t=some ((q:Int),(y.lv:Int),s):=by
  intro w hw;obtain⟨hr1,hr2⟩:=Qpm hs hw;rw[Qie hs]at hw;have hwn:w.toNat<g.ns.length:=by omega
  obtain⟨a1,a2⟩:g.ns[w.toNat].k=2/\g.ns[w.toNat].i.toNat=t:=by
   obtain⟨u,hu,e,b1,b2⟩:=Qlj hw;have:w.toNat=u:=by omega
   subst this;exact⟨b1,b2⟩
  have hgl:w.toNat<gs.length:=by rw[h.len]; exact hwn
  obtain⟨f2,_⟩:=h.fit _ _ _ (Vb hwn) (Vb hgl);obtain⟨_,i0,p0,s,s1,s2⟩:=f2 a1;obtain⟨n,hn⟩:=hi _ (Vf hwn) a1;rw[a2,Vb ht]at hn;have hn:g.is[t]=(g.ns[w.toNat].p,n):=by simpa using hn
  have e:g.ns[w.toNat].p=q:=by rw[hn]at hp; exact hp
  rw[a2,e]at s2;have e3:g.ns[w.toNat].p.toNat=q:=by omega
  rw[e3]at s1;exact⟨_,s,hwn,Vb hgl,s1,s2⟩
 obtain⟨y,s,k1,k2,k3,k4⟩:=key v hv;obtain⟨y',s',l1,l2,l3,l4⟩:=key _ hh;rw[k4]at l4;simp only[Option.some.injEq,Prod.mk.injEq,true_and]at l4;rw[hp];exact h.ways hW y.lv _ _ y y' s k1 l1 k2 l2 rfl (by omega) k3 (by rw[l4.2]; exact l3)
theorem Rcl.prp (hW:Wg g) (hf:g.formE=0) (h:Rcl g lvs V gs) (hi:∀ x∈g.ns,x.k=2->∃ n,g.is[x.i.toNat]? = some (x.p,n)):g.prpE=0:=by
 unfold Gm.prpE;rw[Wa (by simpa using hf),QiD];intro j _ _;unfold Qcv;rw[Wb (h.perf hW hi)]
end
end Go.Proofs.YtogjmpkehjfecaaGreatDoor.Rc
namespace Go.Proofs.YtogjmpkehjfecaaGreatDoor.Rc
open Go.Ab
theorem Qnh (w:Nat->Int->Option Nat×Int):∀ (a b:List Int) (r:Nat) (m:Int),QaI w (a++b) r m=(match QaI w a r m with|(none,m)=>(none,m)|(some r,m)=>QaI w b r m)
 |[],b,r,m=>by simp[QaI]
 |c::a,b,r,m=>by
  simp only[VK,QaI];by_cases hc:c=r
  . rw[Wb hc,Wb hc]
    cases hh:w r m with
    |mk o m1 =>
     cases o with
     |none=>rfl
     |some r1=>exact Qnh w a b r1 m1
  . rw[Wa hc,Wa hc]
def Wlk (b h:Nat) (sub:List Nd):Prop:=∀ (pre post:List Nd) (f:Nat) (dep m:Int),pre.length=b->sub.length<=f ->
 ∃ m',Qat (pre++(sub++post)) f dep b m=(some (b+sub.length),m')/\m'<=max m (dep+h)
def Kds (b h:Nat) (nx:List Int) (subs:List Nd):Prop:=∀ (pre post:List Nd) (f:Nat) (dep m:Int),pre.length=b->subs.length<=f ->
 ∃ m',QaI (Qat (pre++(subs++post)) f dep) nx b m=(some (b+subs.length),m')/\m'<=max m (dep+h)
theorem Kds.nil (b h:Nat):Kds b h [] []:=λpre post f dep m _ _=>⟨m,by simp[QaI],by omega⟩
theorem Kds.snoc {b h c:Nat} {nx:List Int} {subs sub:List Nd} (hk:Kds b h nx subs) (hw:Wlk c h sub) (hc:c=b+subs.length):Kds b h (nx++[(c:Int)]) (subs++sub):=by
 subst hc;intro pre post f dep m hb hf;obtain⟨m1,h1,h2⟩:=hk pre (sub++post) f dep m hb (by simp at hf; omega);obtain⟨m2,h3,h4⟩:=hw (pre++subs) post f dep m1 (by simp[hb]) (by simp at hf; omega);refine⟨m2,?_,by omega⟩;rw[Qnh];have e:pre++(subs++sub++post)=pre++(subs++(sub++post)):=by simp
 rw[e,h1];simp only[QaI];have e2:pre++(subs++(sub++post))=pre++subs++(sub++post):=by simp
 rw[Wb trivial,e2,h3];simp[Yd]
theorem Wlk.node {b h:Nat} {x:Nd} {subs:List Nd} (hk:Kds (b+1) h x.nx subs):Wlk b (h+1) (x::subs):=by
 intro pre post f dep m hb hf;obtain⟨f,rfl⟩:∃ g,f=g+1:=⟨f-1,by simp at hf; omega⟩;obtain⟨m1,h1,h2⟩:=hk (pre++[x]) post f (dep+1) (max m dep) (by simp[hb]) (by simp at hf; omega);refine⟨m1,?_,by omega⟩;have e:pre++(x::subs++post)=pre++[x]++(subs++post):=by simp
 have e1:(pre++[x]++(subs++post))[b]? = some x:=by
  subst hb; simp
 rw[e,Qat,e1];simp only;rw[h1];simp; omega
theorem Wlk.leaf (b h:Nat) {x:Nd} (hx:x.nx=[]):Wlk b h [x]:=by
 intro pre post f dep m hb hf;obtain⟨f,rfl⟩:∃ g,f=g+1:=⟨f-1,by simp at hf; omega⟩;refine⟨max m dep,?_,by omega⟩;have e1:(pre++([x]++post))[b]? = some x:=by
  subst hb; simp
 rw[Qat,e1];simp[hx,QaI]
theorem Wlk.mono {b h h':Nat} {sub:List Nd} (hw:Wlk b h sub) (hh:h<=h'):Wlk b h' sub:=by
 intro pre post f dep m hb hf;obtain⟨m1,h1,h2⟩:=hw pre post f dep m hb hf;exact⟨m1,h1,by omega⟩
def rg:List Nd->Nat->Option Nat
 |[],c=>some c
 |x::r,c=>if x.k=2 then(if x.i=c then rg r (c+1)else if 0<=x.i/\x.i<c then rg r c else none)else rg r c
theorem Qjb:∀ (a b:List Nd) (c:Nat),rg (a++b) c=(rg a c).bind (rg b)
 |[],b,c=>by simp[rg]
 |x::a,b,c=>by
  simp only[VK,rg];split
  . split
    . exact Qjb a b _
    . split
      . exact Qjb a b _
      . rfl
  . exact Qjb a b _
theorem Qi1:∀ {l:List Nd} {o c c':Nat},rg l c=some c'->(∀ s,c<=s->s<c'->occ s l o≠[])/\∀ s t,c<=s->s<t->t<c'->(occ s l o).headD 0<(occ t l o).headD 0
 |[],o,c,c',h=>by simp[rg]at h; subst h; exact⟨λs h1 h2=>by omega,λs t h1 h2 h3=>by omega⟩
 |x::r,o,c,c',h=>by
  simp only[rg]at h;by_cases hk:x.k=2
  . rw[Wb hk]at h;by_cases hi:x.i=c
    . rw[Wb hi]at h;obtain⟨h1,h2⟩:=Qi1 (o:=o+1) h;have e0:occ c (x::r) o=(o:Int)::occ c r (o+1):=by rw[occ]; rw[Wb ⟨hk,by omega⟩]
      have e1:∀ s,c<s->occ s (x::r) o=occ s r (o+1):=λs hs=>by rw[occ]; rw[Wa]; rintro⟨_,h⟩; omega
      refine⟨λs h3 h4 => ?_,λs t h3 h4 h5 => ?_⟩
      . by_cases hs:s=c
        . subst hs; rw[e0]; simp
        . rw[e1 s (by omega)]; exact h1 s (by omega) h4
      . by_cases hs:s=c
        . subst hs;rw[e0,e1 t h4];have hne:=h1 t (by omega) h5
          cases ho:occ t r (o+1)with
          |nil=>exact absurd ho hne
          |cons a q =>
           have:a∈occ t r (o+1):=by rw[ho]; simp
           have:=occ_lo this;simp only[List.headD_cons]; omega
        . rw[e1 s (by omega),e1 t (by omega)]; exact h2 s t (by omega) h4 h5
    . rw[Wa hi]at h;by_cases hj:0<=x.i/\x.i<c
      . rw[Wb hj]at h;obtain⟨h1,h2⟩:=Qi1 (o:=o+1) h;have e1:∀ s,c<=s->occ s (x::r) o=occ s r (o+1):=λs hs=>by rw[occ]; rw[Wa]; rintro⟨_,h⟩; omega
        exact⟨λs h3 h4=>by rw[e1 s h3]; exact h1 s h3 h4,λs t h3 h4 h5=>by rw[e1 s h3,e1 t (by omega)]; exact h2 s t h3 h4 h5⟩
      . rw[Wa hj]at h; cases h
  . rw[Wa hk]at h;obtain⟨h1,h2⟩:=Qi1 (o:=o+1) h;have e1:∀ s,occ s (x::r) o=occ s r (o+1):=λs=>by rw[occ]; rw[Wa]; rintro⟨h,_⟩; exact hk h
    exact⟨λs h3 h4=>by rw[e1 s]; exact h1 s h3 h4,λs t h3 h4 h5=>by rw[e1 s,e1 t]; exact h2 s t h3 h4 h5⟩
where
 occ_lo:∀ {s:Nat} {l:List Nd} {o:Nat} {a:Int},a∈occ s l o->(o:Int)<=a
  |s,[],o,a,h=>by simp[occ]at h
  |s,x::r,o,a,h=>by
   unfold occ at h;split at h
   . rcases Vi.1 h with rfl|h
     . omega
     . have:=occ_lo h; omega
   . have:=occ_lo h; omega
def Nd.good (x:Nd) (pl:Int) (is:List (Int×Int)):Prop :=
 (x.k=1/\x.p=0/\x.i=0/\x.ps=[]/\1<=x.nx.length/\x.nx.length<=60/\x.ws.length=x.nx.length/\∀ w∈x.ws,1<=w/\w<=1000) \/
 (x.k=2/\x.ws=[]/\x.ps=[]/\1<=x.nx.length/\x.nx.length<=10/\0<=x.p/\x.p<pl/\0<=x.i/\is[x.i.toNat]? = some (x.p,(x.nx.length:Int))) \/
 (x.k=3/\x.p=0/\x.i=0/\x.nx=[]/\x.ws=[]/\(x.ps.length:Int)=pl/\∀ w∈x.ps,-1000000<=w/\w<=1000000)
theorem Nd.good.app {x:Nd} {pl:Int} {is:List (Int×Int)} (h:x.good pl is) (l:List (Int×Int)):x.good pl (is++l):=by
 rcases h with h|⟨a1,a2,a3,a4,a5,a6,a7,a8,a9⟩|h
 . exact .inl h
 . exact .inr (.inl ⟨a1,a2,a3,a4,a5,a6,a7,a8,by rw[Vd (Qd a9)]; exact a9⟩)
 . exact .inr (.inr h)
theorem Qn0 {lo hi:Int} {l:List Int} (h:∀ w∈l,lo<=w/\w<=hi):Q5 lo hi l=0 :=
 QlH λj hj _=>by have:=h _ (Vf hj); simp only[Qas,Bool.or_eq_false_iff,Wo]; omega
theorem Nd.good.err {x:Nd} {g:Gm} (h:x.good g.pl g.is):x.err g=0:=by
 rcases h with ⟨a1,a2,a3,a4,a5,a6,a7,a8⟩|⟨a1,a2,a3,a4,a5,a6,a7,a8,a9⟩|⟨a1,a2,a3,a4,a5,a6,a7⟩
 . unfold Nd.err;rw[Wa (by omega),Wb a1];unfold Nd.chance;rw[Wa (by rw[a4]; simp only[Yx]; omega),Qn0 a8]
 . have:=Qd a9;unfold Nd.err;rw[Wa (by omega),Wa (by omega),Wb a1];unfold Nd.move;rw[Wa (by rw[a2,a3]; simp only[Yx]; omega),Qdv,Qdv,Wa (by omega),Wa (by omega)]
 . unfold Nd.err;rw[Wa (by omega),Wa (by omega),Wa (by omega)];unfold Nd.end;rw[Wa (by rw[a4,a5]; simp only[Yx]; omega),Qn0 a7]
theorem Qpk {g:Gm}:∀ {l:List Nd},(∀ x∈l,x.err g=0)->Qan g l=0
 |[],_=>rfl
 |x::r,h=>by
  unfold Qan;rw[Wb (h x (by simp))];exact Qpk λy hy=>h y (by simp[hy])
theorem QsF {g:Gm} {h:Nat} (p1:1<=g.pl) (p4:g.pl<=4) (n1:1<=g.ns.length) (n2:g.ns.length<=2000) (i2:g.is.length<=200) (hw:Wlk 0 h g.ns) (hh:h<=40)
 (hx:∀ x∈g.ns,x.good g.pl g.is) (hr:rg g.ns 0=some g.is.length):g.formE=0:=by
 rw[QmG];unfold Gm.formR;rw[Wa (by unfold Gm.rng; omega),Qpk λx h=>(hx x h).err];obtain⟨m,h1,h2⟩:=hw [] [] (g.ns.length+1) 0 0 rfl (by omega);simp only[V3,VV,VX]at h1;have e:g.wr=(some g.ns.length,m):=h1;rw[Wa (by simp),e,Wa (by simp),Wa (by simp only; omega)];unfold Gm.setsR;obtain⟨h3,h4⟩:=Qi1 (o:=0) hr;have hs:∀ k,k<g.sets.length->g.sets.getD k []=occ k g.ns 0:=λk hk=>Qf4 (by rw[<-QbT]; exact hk);rw[Wa,Wa,Wb]
 . intro k hk;have hl:k+1<g.sets.length:=by omega
   rw[hs k (by omega),hs (k+1) hl];have:=h4 k (k+1) (by omega) (by omega) (by rw[<-QbT]; exact hl);rw[<-QbT]at h3;have a:=h3 k (by omega) (by omega);have b:=h3 (k+1) (by omega) hl
   cases ha:occ k g.ns 0 with
   |nil=>exact absurd ha a
   |cons u l =>
    cases hb:occ (k+1) g.ns 0 with
    |nil=>exact absurd hb b
    |cons v l'=>rw[ha,hb]at this; simp at this ⊢; omega
 . intro hm;obtain⟨k,hk,e⟩:=VG hm;have:=hs k hk;rw[Vm,Vb hk,VQ,e]at this;exact h3 k (by omega) (by rw[<-QbT]; exact hk) this.symm
 . rintro⟨x,hxm,hk,hne⟩;rcases hx x hxm with h|h|h
   . omega
   . exact hne h.2.2.2.2.2.2.2.2
   . omega
theorem QpE {H:Ws} {j:Nat} (hj:j<H.length) (c:Wt) (T:Ww) (v:Nat):Qe (H.set j ⟨c,T,v,true⟩) j v=c:=by
 unfold Qe; rw[Vh hj]; simp
section
variable {H G:Ws}
theorem Qhj (x n:Int) (hn:0<n) (hn2:n<=9223372036854775807):Ok Tryz.prog 25 [i64 x,i64 n] H (.ret (i64 (x % n))) H:=by
 refine Ql hm Tryz.func25 c25 (by simp) λhcl => ?_;simp -implicitDefEqProofs[i25,r25];refine⟨by omega,?_⟩;have h1:=Int.tmod_lt_of_pos x hn;have h2:=Int.lt_tmod_of_pos x hn;have h3:=ZX x (show n≠0 by omega);have h4:=Zt x hn;have h5:=Int.tmod_eq_emod (a:=x) (b:=n);have h6:(n.natAbs:Int)=n:=by omega
 split
 . have:IntKind.i64.wrap (x.tmod n+n)=x % n:=by
    rw[Qj (by omega) (by omega)];split at h5<;>omega
   rw[this]; exact Qn
 . have:x.tmod n=x % n:=by split at h5<;>omega
   rw[this]; exact Qn
theorem ok48 {l:List Int} {at' n:Int} {jd:Nat} (h:G[jd]? = some ⟨[.slc (Qa l) l.length,i64 at'],90,0,true⟩) (hl:l.length<4611686018427387904) (h0:0<=at') (hn:n<=9223372036854775807) :
 OkP Tryz.prog 48 [.ptr (.own jd 0 0 0 0) 0,i64 n] G λo G'=>∃ v a:Int,o=.ret (i64 v)/\0<=a/\0<=v/\(1<=n->v<n)/\G'=G.set jd ⟨[.slc (Qa l) l.length,i64 a],90,0,true⟩:=by
 refine QaY hm Tryz.func48 c48 (by simp) λhcl => ?_;have e:=Qaw h rfl;have hj:=Qd h;simp only at e;simp -implicitDefEqProofs[i48,r48,e,QS h,QpE hj];split
 . refine⟨_,_,⟨0,rfl,at',h0,by omega,λ_=>by omega,?_⟩,Qn⟩;exact(Vz λi=>by
    rw[YY]; split
    . rename_i e; subst e; rw[h]
    . rfl).symm
 . rename_i hc;have w1:IntKind.i64.wrap (at'+1)=at'+1:=Qj (by omega) (by omega);have w2:IntKind.i64.wrap (at'+1-1)=at':=by rw[Qj (by omega) (by omega)]; omega
   have hlt:at'.toNat<l.length:=by omega
   rw[w1,w2];refine⟨by omega,by omega,?_⟩;simp -implicitDefEqProofs[Qub hlt];refine Q3 (λ_=>Qhj _ n (by omega) hn) ?_;simp -implicitDefEqProofs;refine⟨_,_,⟨_,rfl,at'+1,by omega,ZX _ (by omega),λ_=>Zt _ (by omega),rfl⟩,Qn⟩
end
structure Vw where
 pl:Int
 lv:Int
 sn:List Int
 inf:Int
def Vw.cells (v:Vw):Wt:=[i64 v.pl,i64 v.lv,.slc (Qa v.sn) v.sn.length,i64 v.inf]
def Nd.cN (x:Nd):Wt:=[i64 x.k,i64 x.p,i64 x.i,slN x.nx,slN x.ws,slN x.ps]
def icN (x:Int×Int):Wt:=[i64 x.1,i64 x.2]
def lcN (x:Int×Int×Int):Wt:=[i64 x.1,i64 x.2.1,i64 x.2.2]
theorem Vw.len (v:Vw):v.cells.length=4:=rfl
theorem Nd.lenN (v:Nd):v.cN.length=6:=rfl
theorem Qew (v:Int×Int):(icN v).length=2:=rfl
theorem Qio (v:Int×Int×Int):(lcN v).length=3:=rfl
structure Mc where
 l:List Int
 lv:List (Int×Int×Int)
 vl:Nat
 most:Int
 zero:Bool
 pl:Int
structure Ms where
 at':Int
 pend:Int
 vn:Nat
 vi:Nat
 vv:Nat
 ns:List Nd
 is:List (Int×Int)
 vs:List Vw
section
variable (a:Nat) (c:Mc) (s:Ms)
def Mc.D:AO:=⟨[.slc (Qa c.l) c.l.length,i64 s.at'],90,0,true⟩
def Mc.M:AO:=⟨[.ptr (.own a 0 0 0 0) 0,.own (a+2) 0 c.lv.length 3 c.vl,.own (a+3) 0 s.vs.length 4 s.vv,i64 c.most,i64 s.pend,bl c.zero,bl false,i64 c.pl,.own (a+4) 0 s.ns.length 6 s.vn,.own (a+5) 0 s.is.length 2 s.vi],94,0,true⟩
def Mc.L:AO:=⟨rws lcN c.lv,97,c.vl,true⟩
def Mc.V:AO:=⟨rws Vw.cells s.vs,160,s.vv,true⟩
def Mc.N:AO:=⟨rws Nd.cN s.ns,57,s.vn,true⟩
def Mc.I:AO:=⟨rws icN s.is,55,s.vi,true⟩
end
def Mc.hp (c:Mc) (A B:Ws) (s:Ms):Ws:=A++(c.D s::c.M A.length s::c.L::Mc.V s::Mc.N s::Mc.I s::B)
section
variable {A B:Ws} {c:Mc} {s:Ms}
def QvL (c:Mc) (A B:Ws) (s:Ms) (n:Int) (o:Out) (G':Ws):Prop:=∃ v a:Int,o=.ret (i64 v)/\0<=a/\0<=v/\(1<=n->v<n)/\G'=c.hp A B { s with at':=a }
theorem Qej {n:Int} (hl:c.l.length<4611686018427387904) (h0:0<=s.at') (hn:n<=9223372036854775807) :
 OkP Tryz.prog 48 [.ptr (.own A.length 0 0 0 0) 0,i64 n] (c.hp A B s) (QvL c A B s n):=by
 refine(ok48 (l:=c.l) (at':=s.at') (by simp[Mc.hp,Mc.D]) hl h0 hn).mono ?_;rintro o G' ⟨v,a,h1,h2,h3,h4,h5⟩;refine⟨v,a,h1,h2,h3,h4,?_⟩;rw[h5];simp[Mc.hp,Mc.D,Mc.M,Mc.V,Mc.N,Mc.I]
set_option maxRecDepth 10000 in
theorem Qr0 {pl lv:Int} {sn:List Int} {N:Nat} {K:Wr} (hv:s.vs.length<1000000) (hsl:∀ v∈s.vs,v.sn.length<=100)
 (hret:∀ i (h:i<s.vs.length),s.vs[i].pl=pl->s.vs[i].lv=lv->s.vs[i].sn=sn->∀ env B' L,B'=B++L->env.get 8=i64 s.vs[i].inf->K .ret env (c.hp A B' s))
 (hexit:(∀ v∈s.vs,¬ (v.pl=pl/\v.lv=lv/\v.sn=sn))->∀ env B' L,B'=B++L->env.get 0=.ptr (.own (A.length+1) 0 0 0 0) 0->env.get 1=i64 pl->env.get 2=i64 lv->env.get 3=.slc (Qa sn) sn.length->K (.exit 0) env (c.hp A B' s)) :
 ∀ (n i:Nat) (env:Env) (B' L:Ws),B'=B++L->i+n=s.vs.length->(∀ j (h:j<s.vs.length),j<i->¬ (s.vs[j].pl=pl/\s.vs[j].lv=lv/\s.vs[j].sn=sn))->env.get 0=.ptr (.own (A.length+1) 0 0 0 0) 0->env.get 1=i64 pl->env.get 2=i64 lv->env.get 3=.slc (Qa sn) sn.length->env.get 9=i64 i ->
  LI Tryz.prog N Qb Qfu env (c.hp A B' s) K:=by
 intro n
 induction n with
 |zero =>
  intro i env B' L hB hi hj h0 h1 h2 h3 h9;refine Qc hm Qfu.eq_1 ?_;have e:i=s.vs.length:=by omega
  subst e;simp -implicitDefEqProofs[h0,h1,h2,h3,h9,Mc.hp,Mc.M];exact hexit (λv hv'=>by obtain⟨j,hj',rfl⟩:=VG hv'; exact hj j hj' hj') _ B' L hB (by simp[h0]) (by simp[h1]) (by simp[h2]) (by simp[h3])
 |succ n ih =>
  intro i env B' L hB hi hj h0 h1 h2 h3 h9;refine Qc hm Qfu.eq_1 ?_;have hlt:i<s.vs.length:=by omega
  have d:=Qgb Vw.len hlt;have d1:=Qd7 Vw.len hlt;have d2:=QkR Vw.len hlt;rw[Vw.cells,VK,VK,VK,VK,V3]at d;have w1:IntKind.i64.wrap ((i:Int)+1)=((i+1:Nat):Int):=QaB (by omega);have hgo:∀ env' x,¬ (s.vs[i].pl=pl/\s.vs[i].lv=lv/\s.vs[i].sn=sn)->env'.get 0=.ptr (.own (A.length+1) 0 0 0 0) 0->env'.get 1=i64 pl->env'.get 2=i64 lv->env'.get 3=.slc (Qa sn) sn.length->env'.get 9=i64 ((i+1:Nat):Int) ->
   LI Tryz.prog N Qb Qfu env' (c.hp A (B'++[x]) s) K:=λenv' x hne g0 g1 g2 g3 g9=>ih (i+1) env' (B'++[x]) (L++[x]) (by simp[hB]) (by omega) (λj h h'=>by
   by_cases e:j=i
   . subst e; exact hne
   . exact hj j h (by omega)) g0 g1 g2 g3 g9
  have hsn:=hsl _ (Vf hlt);by_cases hp:s.vs[i].pl=pl
  . by_cases hq:s.vs[i].lv=lv
    . simp -implicitDefEqProofs[h0,h1,h2,h3,h9,hlt,Mc.hp,Mc.M,Mc.V,d,d1,d2,hp,hq];refine Qdc (λ_=>by simp only[Vs,V4,SV.strip]; exact ok40 (l:=s.vs[i].sn) (m:=sn) (isc _ _) (isc _ _) (by omega)) ?_;by_cases he:s.vs[i].sn=sn
      . simp -implicitDefEqProofs[hlt,d,d1,d2,hp,hq,he];have:=hret i hlt hp hq he;refine this _ (B'++[_]) (L++[_]) (by rw[hB,VC]) ?_; simp
      . simp -implicitDefEqProofs[hlt,d,d1,d2,hp,hq,he];refine hgo _ _ (λh=>he h.2.2) ?_ ?_ ?_ ?_ ?_<;>simp[h0,h1,h2,h3,w1]
    . simp -implicitDefEqProofs[h0,h1,h2,h3,h9,hlt,Mc.hp,Mc.M,Mc.V,d,d1,d2,hp,hq];refine Qgl _ _ _ _ ?_;simp -implicitDefEqProofs[hlt,d,d1,d2,hp,hq];refine hgo _ _ (λh=>hq h.2.1) ?_ ?_ ?_ ?_ ?_<;>simp[h0,h1,h2,h3,w1]
  . simp -implicitDefEqProofs[h0,h1,h2,h3,h9,hlt,Mc.hp,Mc.M,Mc.V,d,d1,d2,hp];refine Qgl _ _ _ _ ?_;simp -implicitDefEqProofs[hlt,d,d1,d2,hp];refine hgo _ _ (λh=>hp h.1) ?_ ?_ ?_ ?_ ?_<;>simp[h0,h1,h2,h3,w1]
def Ms.addV (s:Ms) (pl lv:Int) (sn:List Int) (k:Int) (a:Int):Ms :=
 { s with at':=a,vs:=s.vs++[⟨pl,lv,sn,s.is.length⟩],vv:=s.vv+1,is:=s.is++[(pl,k)],vi:=s.vi+1 }
theorem QoV (n:Nat) (l:List Int):(slN l).under n=true:=by unfold slN; split; rfl; simp only[sl,SV.under]; exact Qk4 n l
theorem Qco:(c.hp A B s).length=A.length+(B.length+6):=by simp[Mc.hp]
theorem Qlb {s':Ms} (h:closed (c.hp A B s)):closed (c.hp A B s'):=by
 intro i o ho x hx;have hl:(c.hp A B s').length=(c.hp A B s).length:=by rw[Qco,Qco]
 by_cases h1:i<A.length
 . have e:(c.hp A B s)[i]? = some o:=by
    unfold Mc.hp at ho ⊢; rw[Vd h1]at ho ⊢; exact ho
   rw[hl]; exact h i o e x hx
 . by_cases h2:A.length+6<=i
   . have e:(c.hp A B s)[i]? = some o:=by
      unfold Mc.hp at ho ⊢;obtain⟨k,rfl⟩:∃ k,i=A.length+(k+6):=⟨i-A.length-6,by omega⟩;rw[Vg (by omega)]at ho ⊢;simpa using ho
     rw[hl]; exact h i o e x hx
   . obtain⟨k,rfl⟩:∃ k,i=A.length+k:=⟨i-A.length,by omega⟩;unfold Mc.hp at ho;rw[Vg (by omega)]at ho;have hk:k<6:=by omega
     rw[Qco];have e:A.length+k-A.length=k:=by omega
     rw[e]at ho;have key:∀ l:Wt,SV.underL (A.length+(B.length+6)) l=true->x∈l->x.under (A.length+(B.length+6))=true:=λl h1 h2=>(SV.underL_iff _ _).1 h1 x h2
     match k,hk with
     |0,_=>simp at ho; subst ho; exact key _ (by simp[Mc.D,SV.underL,SV.under]) hx
     |1,_=>simp at ho; subst ho; exact key _ (by simp[Mc.M,SV.underL,SV.under]) hx
     |2,_=>simp at ho; subst ho; exact key _ (QbX (λx=>by simp[lcN,SV.underL,SV.under]) _) hx
     |3,_=>simp at ho; subst ho; exact key _ (QbX (λx=>by simp[Vw.cells,SV.underL,SV.under]) _) hx
     |4,_=>simp at ho; subst ho; exact key _ (QbX (λx=>by simp[Nd.cN,SV.underL,SV.under,QoV]) _) hx
     |5,_=>simp at ho; subst ho; exact key _ (QbX (λx=>by simp[icN,SV.underL,SV.under]) _) hx
theorem Qiw {s':Ms} (h:closed (c.hp A B s)) {B' L:Ws} (hB:B'=B++L) {r r':SV} (hr:r.fz (c.hp A B s').length [] L 2=r'):Cv (c.hp A B s).length r (c.hp A B' s') r' (c.hp A B s'):=by
 subst hB;have e:c.hp A (B++L) s'=c.hp A B s'++L:=by simp[Mc.hp]
 rw[e];exact Qg 2 (Qlb h) (by rw[Qco,Qco]) hr
def Qro (c:Mc) (A B:Ws) (s:Ms) (pl lv:Int) (sn:List Int) (o:Out) (G':Ws):Prop :=
 (∃ i,∃ h:i<s.vs.length,s.vs[i].pl=pl/\s.vs[i].lv=lv/\s.vs[i].sn=sn/\o=.ret (i64 s.vs[i].inf)/\G'=c.hp A B s) \/
 (∃ k a:Int,(∀ v∈s.vs,¬ (v.pl=pl/\v.lv=lv/\v.sn=sn))/\1<=k/\k<=3/\0<=a/\o=.ret (i64 s.is.length)/\G'=c.hp A B (s.addV pl lv sn k a))
set_option maxRecDepth 10000 in
theorem ok76 {pl lv:Int} {sn:List Int} (hl:c.l.length<4611686018427387904) (h0:0<=s.at') (hv:s.vs.length<1000000) (hi:s.is.length<1000000) (hsl:∀ v∈s.vs,v.sn.length<=100) :
 OkP Tryz.prog 76 [.ptr (.own (A.length+1) 0 0 0 0) 0,i64 pl,i64 lv,.slc (Qa sn) sn.length] (c.hp A B s) (Qro c A B s pl lv sn):=by
 refine QaY hm Tryz.func76 c76 (by simp) λhcl => ?_;simp -implicitDefEqProofs[i76,r76];refine Qr0 (B:=B) (pl:=pl) (lv:=lv) (sn:=sn) hv hsl (λi h e1 e2 e3 env B' L hB h8 => ?_) (λhno env B' L hB g0 g1 g2 g3 => ?_) s.vs.length 0 _ B [] (by simp) (by omega) (λj h h'=>by omega) (by simp) (by simp) (by simp) (by simp) (by simp)
 . simp -implicitDefEqProofs[h8];exact⟨_,_,.inl ⟨i,h,e1,e2,e3,rfl,rfl⟩,Qiw hcl hB (Qcd _ _ _ _ _)⟩
 . simp -implicitDefEqProofs[g0,g1,g2,g3,Mc.hp,Mc.D,Mc.L,Mc.M,Mc.V,Mc.N,Mc.I,QbJ Vw.len];refine⟨by omega,by omega,?_⟩;have h59:=Qej (A:=A) (c:=c) (B:=B'++[⟨[i64 pl,i64 lv,SV.slc (Qa sn) sn.length,i64 s.is.length],160,0,true⟩]) (n:=3) (s:={ s with vs:=s.vs++[⟨pl,lv,sn,s.is.length⟩],vv:=s.vv+1 }) hl h0 (by omega);refine Q4 (by simpa[Mc.hp,Mc.D,Mc.L,Mc.M,Mc.V,Mc.N,Mc.I,Qc9,rws,Vw.cells]using h59) ?_;rintro o G' ⟨v,a,rfl,h1,h2,h3,rfl⟩;have w1:IntKind.i64.wrap (1+v)=1+v:=Qj (by omega) (by omega);have w2:IntKind.i64.wrap (s.is.length:Int)=s.is.length:=Qck (by omega);simp -implicitDefEqProofs[g0,g1,g2,g3,Mc.hp,Mc.D,Mc.L,Mc.M,Mc.V,Mc.N,Mc.I,QbJ Qew,w1,w2];refine⟨by omega,by omega,_,_,.inr ⟨1+v,a,hno,by omega,by omega,h1,rfl,rfl⟩,?_⟩;have hf:=Qiw (s':=s.addV pl lv sn (1+v) a) hcl (B':=B'++[⟨[i64 pl,i64 lv,SV.slc (Qa sn) sn.length,i64 s.is.length],160,0,true⟩,⟨[i64 pl,i64 (1+v)],55,0,true⟩]) (L:=L++_) (by rw[hB,VC]) (r:=i64 s.is.length) (Qcd _ _ _ _ _);simpa[Ms.addV,Mc.hp,Mc.D,Mc.L,Mc.M,Mc.V,Mc.N,Mc.I,Qc9,rws,Vw.cells,icN]using hf
end
section
variable {A B:Ws} {c:Mc} {s:Ms}
set_option maxRecDepth 10000 in
theorem Qut {info:Int} {N:Nat} {K:Wr} (hn:s.ns.length<1000000)
 (hret:(∃ x∈s.ns,x.k=2/\x.i=info)->∀ env,K .ret env (c.hp A B s))
 (hexit:(∀ x∈s.ns,¬ (x.k=2/\x.i=info))->∀ env,env.get 0=.ptr (.own (A.length+1) 0 0 0 0) 0->env.get 1=i64 info->K (.exit 0) env (c.hp A B s)) :
 ∀ (n i:Nat) (env:Env),i+n=s.ns.length->(∀ j (h:j<s.ns.length),j<i->¬ (s.ns[j].k=2/\s.ns[j].i=info))->env.get 0=.ptr (.own (A.length+1) 0 0 0 0) 0->env.get 1=i64 info->env.get 6=i64 i ->
  LI Tryz.prog N Qb QgY env (c.hp A B s) K:=by
 intro n
 induction n with
 |zero =>
  intro i env hi hj h0 h1 h6;refine Qc hm QgY.eq_1 ?_;have e:i=s.ns.length:=by omega
  subst e;simp -implicitDefEqProofs[h0,h1,h6,Mc.hp,Mc.M];exact hexit (λx hx=>by obtain⟨j,hj',rfl⟩:=VG hx; exact hj j hj' hj') _ (by simp[h0]) (by simp[h1])
 |succ n ih =>
  intro i env hi hj h0 h1 h6;refine Qc hm QgY.eq_1 ?_;have hlt:i<s.ns.length:=by omega
  have d:=Qgb Nd.lenN hlt;have d1:=Qd7 Nd.lenN hlt;rw[Nd.cN]at d;simp only[VK,V3]at d;have d3:=Qij Nd.lenN (t:=0) hlt (by omega);have d4:=Qij Nd.lenN (t:=2) hlt (by omega);simp only[Nd.cN,Yp,VW,Yf]at d3 d4;have w1:IntKind.i64.wrap ((i:Int)+1)=((i+1:Nat):Int):=QaB (by omega);by_cases hp:s.ns[i].k=2
  . by_cases hq:s.ns[i].i=info
    . simp -implicitDefEqProofs[h0,h1,h6,hlt,Mc.hp,Mc.M,Mc.N,d,d1,d3,d4,hp,hq];refine⟨by omega,?_⟩;exact hret ⟨_,Vf hlt,hp,hq⟩ _
    . simp -implicitDefEqProofs[h0,h1,h6,hlt,Mc.hp,Mc.M,Mc.N,d,d1,d3,d4,hp,hq];refine⟨by omega,?_⟩;refine ih (i+1) _ (by omega) (λj h h' => ?_) ?_ ?_ ?_
      . by_cases e:j=i
        . subst e; simp[hq]
        . exact hj j h (by omega)
      all_goals simp[h0,h1,w1]
  . simp -implicitDefEqProofs[h0,h1,h6,hlt,Mc.hp,Mc.M,Mc.N,d,d1,d3,d4,hp];refine ih (i+1) _ (by omega) (λj h h' => ?_) ?_ ?_ ?_
    . by_cases e:j=i
      . subst e; simp[hp]
      . exact hj j h (by omega)
    all_goals simp[h0,h1,w1]
def Ms.cut (s:Ms):Ms:={ s with is:=s.is.take (s.is.length-1),vs:=s.vs.take (s.vs.length-1) }
def Qrb (c:Mc) (A B:Ws) (s:Ms) (info pl:Int) (o:Out) (G':Ws):Prop :=
 o=.ret (.tup [])/\(((pl<0\/info≠s.is.length-1\/∃ x∈s.ns,x.k=2/\x.i=info)/\G'=c.hp A B s) \/
  (0<=pl/\info=s.is.length-1/\(∀ x∈s.ns,¬ (x.k=2/\x.i=info))/\G'=c.hp A B s.cut))
set_option maxRecDepth 10000 in
theorem ok77 {info pl:Int} (hn:s.ns.length<1000000) (hi:s.is.length<1000000) (hi1:0<=pl->1<=s.is.length) (hv:s.vs.length=s.is.length) :
 OkP Tryz.prog 77 [.ptr (.own (A.length+1) 0 0 0 0) 0,i64 info,i64 pl] (c.hp A B s) (Qrb c A B s info pl):=by
 refine QaY hm Tryz.func77 c77 (by simp) λhcl => ?_;have w1:IntKind.i64.wrap ((s.is.length:Int)-1)=s.is.length-1:=Qj (by omega) (by omega);by_cases hp:pl<0
 . simp -implicitDefEqProofs[i77,r77,hp];exact⟨_,_,⟨rfl,.inl ⟨.inl hp,rfl⟩⟩,Qn⟩
 . by_cases hq:info=s.is.length-1
   . have ha:c.hp A B s=A++(c.D s::c.M A.length s::c.L::Mc.V s::Mc.N s::Mc.I s::B):=rfl;rw[ha];simp -implicitDefEqProofs[i77,r77,hp,Mc.M,w1,hq];rw[<-hq];refine Qut (A:=A) (B:=B) (c:=c) (s:=s) (info:=info) hn (λhx env => ?_) (λhx env g0 g1 => ?_) s.ns.length 0 _ (by omega) (λj h h'=>by omega) (by simp) (by simp) (by simp)
     . simp -implicitDefEqProofs;exact⟨_,_,⟨rfl,.inl ⟨.inr (.inr hx),rfl⟩⟩,Qn⟩
     . simp -implicitDefEqProofs[g0,g1,Mc.hp,Mc.M,hq,w1,hv,QbJ];refine⟨by omega,_,_,⟨rfl,.inr ⟨by omega,rfl,by rw[<-hq]; exact hx,rfl⟩⟩,?_⟩;have e1:=QoE (n0:=A.length+(B.length+6)) (r:=.tup []) (H:=A++(c.D s::c.M A.length s.cut::c.L::Mc.V s::Mc.N s::Mc.I s::B)) (j:=A.length+3) (o:=Mc.V s) (by simp) (by rw[Vg (by omega)]; simp) rfl ((s.vs.length-1)*4);have e2:=QoE (n0:=A.length+(B.length+6)) (r:=.tup []) (H:=A++(c.D s::c.M A.length s.cut::c.L::Mc.V s.cut::Mc.N s::Mc.I s::B)) (j:=A.length+5) (o:=Mc.I s) (by simp) (by rw[Vg (by omega)]; simp) rfl ((s.is.length-1)*2);have t1:=Qj2 Vw.len s.vs (s.vs.length-1) (by omega);have t2:=Qj2 Qew s.is (s.is.length-1) (by omega);have m1:min (s.vs.length-1) s.vs.length=s.vs.length-1:=by omega
       have m2:min (s.is.length-1) s.is.length=s.is.length-1:=by omega
       have e3:=Cv.trans (r2:=.tup []) (r3:=.tup []) (by simpa[Mc.hp,Mc.M,Mc.V,Mc.N,Mc.I,Mc.D,Ms.cut,t1,t2,m1,m2]using e1) (by simpa[Mc.hp,Mc.M,Mc.V,Mc.N,Mc.I,Mc.D,Ms.cut,t1,t2,m1,m2]using e2);simpa[Mc.hp,Mc.M,Mc.V,Mc.N,Mc.I,Mc.D,Ms.cut,t1,t2,m1,m2,hv]using e3
   . have ha:c.hp A B s=A++(c.D s::c.M A.length s::c.L::Mc.V s::Mc.N s::Mc.I s::B):=rfl;rw[ha];simp -implicitDefEqProofs[i77,r77,hp,Mc.M,w1,hq];exact⟨_,_,⟨rfl,.inl ⟨.inr (.inl hq),rfl⟩⟩,Qn⟩
end
section
variable {A B:Ws} {c:Mc} {s:Ms}
def QbO (A B:Ws) (ps:List Int):AO:=⟨[i64 3,i64 0,i64 0,.val (.slice none 0 0),.val (.slice none 0 0),.own (A.length+(B.length+7)) 0 ps.length 1 ps.length],57,0,true⟩
def QdH (ps:List Int):AO:=⟨Qa ps,3,ps.length,true⟩
set_option maxRecDepth 10000 in
theorem Qsk {np:Nat} {at':Int} {N:Nat} {K:Wr} (hl:c.l.length<4611686018427387904) (hp:c.pl=np) (hnp:np<=1000)
 (hexit:∀ env ps L a,ps.length=np->(∀ w∈ps,-3<=w/\w<=3)->0<=a->env.get 0=.ptr (.own (A.length+1) 0 0 0 0) 0->env.get 1=i64 at'->env.get 4=.ptr (.own (A.length+(B.length+6)) 0 0 0 0) 0 ->
  K (.exit 0) env (c.hp A (B++QbO A B ps::QdH ps::L) { s with at':=a })) :
 ∀ (n:Nat) (env:Env) (ps:List Int) (L:Ws) (a:Int),ps.length+n=np->(∀ w∈ps,-3<=w/\w<=3)->0<=a->env.get 0=.ptr (.own (A.length+1) 0 0 0 0) 0->env.get 1=i64 at'->env.get 4=.ptr (.own (A.length+(B.length+6)) 0 0 0 0) 0->env.get 5=i64 ps.length ->
  LI Tryz.prog N Qb QgN env (c.hp A (B++QbO A B ps::QdH ps::L) { s with at':=a }) K:=by
 intro n
 induction n with
 |zero =>
  intro env ps L a hn hw ha h0 h1 h4 h5;refine Qc hm QgN.eq_1 ?_;have e:ps.length=np:=by omega
  simp -implicitDefEqProofs[h0,h1,h4,h5,Mc.hp,Mc.M,show ¬ ((ps.length:Int)<c.pl)by omega];refine hexit _ ps L a e hw ha ?_ ?_ ?_<;>simp[h0,h1,h4]
 |succ n ih =>
  intro env ps L a hn hw ha h0 h1 h4 h5;refine Qc hm QgN.eq_1 ?_;have hlt:ps.length<np:=by omega
  simp -implicitDefEqProofs[h0,h1,h4,h5,Mc.hp,Mc.M,show(ps.length:Int)<c.pl by omega,QbO,QdH];have h59:=Qej (A:=A) (c:=c) (B:=B++QbO A B ps::QdH ps::L) (n:=7) (s:={ s with at':=a }) hl ha (by omega);refine Q4 (by simpa[Mc.hp,Mc.D,Mc.L,Mc.M,Mc.V,Mc.N,Mc.I,QbO,QdH]using h59) ?_;rintro o G' ⟨v,a',rfl,h1',h2,h3,rfl⟩;have w1:IntKind.i64.wrap (v-3)=v-3:=Qj (by omega) (by omega);have w2:IntKind.i64.wrap ((ps.length:Int)+1)=((ps.length+1:Nat):Int):=QaB (by omega);simp -implicitDefEqProofs[h0,h1,h4,h5,Mc.hp,Mc.D,Mc.L,Mc.M,Mc.V,Mc.N,Mc.I,QbO,QdH,w1];refine⟨by omega,by omega,?_⟩;refine LI.cong (H':=c.hp A (B++QbO A B (ps++[v-3])::QdH (ps++[v-3])::(L++[⟨[i64 (v-3)],3,0,true⟩])) { s with at':=a' }) (by simp[Mc.hp,Mc.D,Mc.L,Mc.M,Mc.V,Mc.N,Mc.I,QbO,QdH,show Qa (ps++[v-3])=Qa ps++[i64 (v-3)]by simp[Qa]]) (ih _ _ _ _ (by simp; omega) ?_ h1' ?_ ?_ ?_ ?_)
  . intro w hw';rcases Vj.1 hw' with h|h
    . exact hw w h
    . simp at h; omega
  all_goals simp[h0,h1,h4,w2]
theorem QlJ (n:AO):(c.hp A B s).set (A.length+4) n=A++(c.D s::c.M A.length s::c.L::Mc.V s::n::Mc.I s::B):=by
 unfold Mc.hp; rw[YG _ _ (by omega)]; simp
theorem QsH (x:Nd):Qy x.cN:=by
 intro y hy;have hs:∀ l:List Int,(slN l).isCell=true:=λl=>by unfold slN; split<;>rfl
 simp only[Nd.cN,Vi,VP,Wi]at hy;rcases hy with rfl|rfl|rfl|rfl|rfl|rfl
 . rfl
 . rfl
 . rfl
 . exact hs _
 . exact hs _
 . exact hs _
theorem QjM (n:Nat) (x:Nd):SV.underL n x.cN=true:=by simp[Nd.cN,SV.underL,SV.under,QoV]
theorem Qpr {n0 k:Nat} {L:Ws} {r:SV} {x:Nd} {cx:Wt} (hcl:closed (c.hp A B s)) (hn:n0<=A.length+(B.length+6)) (hk:k<s.ns.length) (hx:cx.map (SV.fz (A.length+(B.length+6)) [] L 2)=x.cN) :
 Cv n0 r (A++(c.D s::c.M A.length s::c.L::Mc.V s::⟨(rws Nd.cN s.ns).take (k*6)++(cx++(rws Nd.cN s.ns).drop (k*6+6)),57,s.vn,true⟩::Mc.I s::(B++L))) (r.fz (A.length+(B.length+6)) [] L 2) (c.hp A B { s with ns:=s.ns.set k x }):=by
 have hu0:=QbX (QjM (A.length+(B.length+6))) s.ns;have hm:∀ l:Wt,(∀ y∈l,y∈rws Nd.cN s.ns)->l.map (SV.fz (A.length+(B.length+6)) [] L 2)=l:=by
  intro l hl;exact Qc5 _ [] L 1 ((SV.underL_iff _ _).2 λy hy=>(SV.underL_iff _ _).1 hu0 y (hl y hy))
 have hc:((rws Nd.cN s.ns).take (k*6)++(cx++(rws Nd.cN s.ns).drop (k*6+6))).map (SV.fz (A.length+(B.length+6)) [] L 2)=rws Nd.cN (s.ns.set k x):=by
  rw[YM,YM,hx,hm _ (λy hy=>V7 hy),hm _ (λy hy=>YR hy),Qvc Nd.lenN hk]
 have hlen:((c.hp A B s).set (A.length+4) ⟨(rws Nd.cN s.ns).take (k*6)++(cx++(rws Nd.cN s.ns).drop (k*6+6)),57,s.vn,true⟩).length=A.length+(B.length+6):=by rw[VO,Qco]
 have hz:=QcC.one (L:=L) (ks:=[]) (d:=2) (j:=A.length+4) (H0:=(c.hp A B s).set (A.length+4) ⟨(rws Nd.cN s.ns).take (k*6)++(cx++(rws Nd.cN s.ns).drop (k*6+6)),57,s.vn,true⟩)
  (λi o hi ho y hy=>by rw[Ve (by omega)]at ho; rw[VO]; exact hcl i o ho y hy)
  (Vh (by rw[Qco]; omega)) rfl (by rw[hlen,hc]; exact QuT QsH _)
 rw[hlen,hc,Yi,QlJ,QlJ]at hz;have:=QvS (n0:=n0) (r:=r) (Hx:=A++(c.D s::c.M A.length s::c.L::Mc.V s::⟨(rws Nd.cN s.ns).take (k*6)++(cx++(rws Nd.cN s.ns).drop (k*6+6)),57,s.vn,true⟩::Mc.I s::(B++L))) 2 (by simp) (by simp; omega) hz;rw[QlJ]at hlen;rw[hlen]at this;have e:c.hp A B { s with ns:=s.ns.set k x }=A++(c.D s::c.M A.length s::c.L::Mc.V s::⟨rws Nd.cN (s.ns.set k x),57,s.vn,true⟩::Mc.I s::B):=by simp[Mc.hp,Mc.D,Mc.M,Mc.V,Mc.N,Mc.I]
 rw[e]; exact this
def Ms.endN (s:Ms) (k:Nat) (ps:List Int) (a:Int):Ms:={ s with at':=a,ns:=s.ns.set k ⟨3,0,0,[],[],ps⟩ }
def Qh1 (c:Mc) (A B:Ws) (s:Ms) (k:Nat) (o:Out) (G':Ws):Prop :=
 o=.ret (.tup [])/\∃ (ps:List Int) (a:Int),(ps.length:Int)=c.pl/\(∀ w∈ps,-3<=w/\w<=3)/\0<=a/\G'=c.hp A B (s.endN k ps a)
set_option maxRecDepth 10000 in
theorem ok75 {k:Nat} (hl:c.l.length<4611686018427387904) (h0:0<=s.at') (hp:1<=c.pl) (hp2:c.pl<=1000) (hk:k<s.ns.length) (hn:s.ns.length<1000000) :
 OkP Tryz.prog 75 [.ptr (.own (A.length+1) 0 0 0 0) 0,i64 k] (c.hp A B s) (Qh1 c A B s k):=by
 refine QaY hm Tryz.func75 c75 (by simp) λhcl => ?_;obtain⟨np,hnp⟩:∃ np:Nat,c.pl=np:=⟨c.pl.toNat,by omega⟩;have ha:c.hp A B s=A++(c.D s::c.M A.length s::c.L::Mc.V s::Mc.N s::Mc.I s::B):=rfl;rw[ha];simp -implicitDefEqProofs[i75,r75];refine⟨rfl,LI.tell (Qbg.own0 (j:=A.length+(B.length+6)) (p:=5) (o:=⟨[i64 3,i64 0,i64 0,.val (.slice none 0 0),.val (.slice none 0 0),.val (.slice none 0 0)],57,0,true⟩) ?_ rfl rfl 3 1) ?_⟩
 . rw[Vg (Nat.le_add_right _ _),Z9]; simp
 simp -implicitDefEqProofs;refine Qsk (A:=A) (B:=B) (c:=c) (s:=s) (np:=np) (at':=k) hl hnp (by omega) (λenv ps L a hps hw ha' g0 g1 g4 => ?_) np _ [] [] s.at' (by simp) (by simp) h0 (by simp) (by simp) (by simp) (by simp);have hle:=QhB Nd.lenN hk;have key:∀ ps':List Int,ps'.length=np->(∀ w∈ps',-3<=w/\w<=3)->Qbu (A.length+(B.length+6)) (Qh1 c A B s k) (.tup [])
  (A++(c.D { s with at':=a }::c.M A.length s::c.L::Mc.V s::⟨(rws Nd.cN s.ns).take (k*6)++([i64 3,i64 0,i64 0,.val (.slice none 0 0),.val (.slice none 0 0),.own (A.length+(B.length+7)) 0 ps.length 1 ps.length]++(rws Nd.cN s.ns).drop (k*6+6)),57,s.vn,true⟩::Mc.I s ::
   (B++QbO A B ps::⟨Qa ps',3,ps.length,true⟩::L))):=by
  intro ps' hps' hw';have hne:ps'≠[]:=by intro e; subst e; simp at hps'; omega
  refine⟨_,_,⟨rfl,ps',a,by omega,hw',ha',rfl⟩,?_⟩;have:=Qpr (A:=A) (B:=B) (c:=c) (s:={ s with at':=a }) (n0:=A.length+(B.length+6)) (k:=k) (L:=QbO A B ps::⟨Qa ps',3,ps.length,true⟩::L) (r:=.tup []) (x:=⟨3,0,0,[],[],ps'⟩)
   (cx:=[i64 3,i64 0,i64 0,.val (.slice none 0 0),.val (.slice none 0 0),.own (A.length+(B.length+7)) 0 ps.length 1 ps.length]) (Qlb hcl) (by omega) hk (by
    have e1:SV.fz (A.length+(B.length+6)) [] (QbO A B ps::⟨Qa ps',3,ps.length,true⟩::L) 2 (.own (A.length+(B.length+7)) 0 ps.length 1 ps.length)=.slc (Qa ps') ps'.length:=by
     have h:=QdR (n:=A.length+(B.length+6)) (ks:=[]) (L:=QbO A B ps::⟨Qa ps',3,ps.length,true⟩::L) (d:=1) 1 0 ps.length 1 ps.length;rw[show A.length+(B.length+7)=A.length+(B.length+6)+1 by omega,h];simp[QX,hps,hps',show(Qa ps').length=np by simp[Qa,hps'],VB]
    simp[Nd.cN,slN,hne,e1,sl,Qao,SV.under])
  simp[Mc.hp,Ms.endN,Mc.D,Mc.L,Mc.M,Mc.V,Mc.N,Mc.I]at this ⊢;exact this
 simp -implicitDefEqProofs[g0,g1,g4,Mc.hp,Mc.D,Mc.L,Mc.M,Mc.V,Mc.N,Mc.I,QbO,QdH];by_cases hz:c.zero=true/\c.pl=2
 . rw[Wb hz];have h2:np=2:=by omega
   match ps,hps,hw,key with
   |[x,y],hps,hw,key =>
    have hx:=hw x (by simp);have w1:IntKind.i64.wrap (-x) = -x:=Qj (by omega) (by omega);simp[Qa,w1];refine⟨hk,rfl,hle,?_⟩;have:=key [x,-x] (by simp[h2]) (by intro w h; simp at h; omega);simpa[Mc.D,Mc.L,Mc.M,Mc.V,Mc.N,Mc.I,QbO,Qa]using this
   |[],hps,_,_=>simp at hps; omega
   |[_],hps,_,_=>simp at hps; omega
   |_::_::_::_,hps,_,_=>simp at hps; omega
 . rw[Wa hz];refine⟨hk,rfl,hle,?_⟩;have:=key ps hps hw;simpa[Mc.D,Mc.L,Mc.M,Mc.V,Mc.N,Mc.I,QbO]using this
end
section
variable {A B:Ws} {c:Mc} {s:Ms}
def Qbd (l:List (List Int)):AO:=⟨l.map sl,45,l.length,true⟩
def Qba (l:List (List Int)):SV:=.slc (l.map sl) l.length
set_option maxRecDepth 10000 in
theorem Qs1 {seen:List (List Int)} {jp:Nat} {x0 x1 x2 i:Int} {N:Nat} {K:Wr} {y1 y7 y9:Int} {y11:Nat} {m:Nat} (hcl:closed (c.hp A B s)) (hs:seen.length<=1000) (hsl:∀ l∈seen,l.length<=m) (hm:m<=1000)
 (hpb:B[jp]? = some ⟨[i64 x0,i64 x1,i64 x2],97,0,true⟩)
 (hexit:∀ env L l,Cl 0 L->l.length=seen.length->(∀ x∈l,x.length<=m+1)->QcS seen l x0 i->env.get 0=.ptr (.own (A.length+1) 0 0 0 0) 0->env.get 1=i64 y1->env.get 2=Qba seen->env.get 7=i64 y7->env.get 8=.ptr (.own (A.length+(jp+6)) 0 0 0 0) 0->env.get 9=i64 y9->env.get 11=.ptr (.own y11 0 0 0 0) 0->env.get 12=i64 i ->
  env.get 13=.own (A.length+(B.length+6)) 0 seen.length 1 seen.length->K (.exit 2) env (c.hp A (B++Qbd l::L) s)) :
 ∀ (n:Nat) (env:Env) (l:List (List Int)) (L:Ws),l.length+n=seen.length->Cl 0 L->(∀ x∈l,x.length<=m+1)->QcS seen l x0 i->env.get 0=.ptr (.own (A.length+1) 0 0 0 0) 0->env.get 1=i64 y1->env.get 2=Qba seen->env.get 7=i64 y7->env.get 8=.ptr (.own (A.length+(jp+6)) 0 0 0 0) 0->env.get 9=i64 y9->env.get 11=.ptr (.own y11 0 0 0 0) 0->env.get 12=i64 i ->
  env.get 13=.own (A.length+(B.length+6)) 0 l.length 1 l.length->env.get 14=i64 l.length->LI Tryz.prog N Qb QeZ env (c.hp A (B++Qbd l::L) s) K:=by
 intro n
 induction n with
 |zero =>
  intro env l L hn hL hl hnq h0 h1 h2 h7 h8 h9 h11 h12 h13 h14;refine Qc hm' QeZ.eq_1 ?_;have e:l.length=seen.length:=by omega
  simp -implicitDefEqProofs[h0,h1,h2,h7,h8,h9,h11,h12,h13,h14,Qba,e];refine hexit _ L l hL e hl hnq ?_ ?_ ?_ ?_ ?_ ?_ ?_ ?_ ?_<;>simp[h0,h1,h2,h7,h8,h9,h11,h12,h13,e,Qba]
 |succ n ih =>
  intro env l L hn hL hl hnq h0 h1 h2 h7 h8 h9 h11 h12 h13 h14;refine Qc hm' QeZ.eq_1 ?_;have hlt:l.length<seen.length:=by omega
  have ep:∀ X,Qe (B++X) jp 0=[i64 x0,i64 x1,i64 x2]:=λX=>by rw[Qd1 X (Qd hpb)]; exact Qaw hpb rfl
  have hle:=hsl _ (Vf hlt);have w1:IntKind.i64.wrap ((l.length:Int)+1)=((l.length+1:Nat):Int):=QaB (by omega);have key:∀ (v:Int) (env:Env),((l.length:Int)=x0->v=i)->env.get 0=.ptr (.own (A.length+1) 0 0 0 0) 0->env.get 1=i64 y1->env.get 2=Qba seen->env.get 7=i64 y7->env.get 8=.ptr (.own (A.length+(jp+6)) 0 0 0 0) 0->env.get 9=i64 y9->env.get 11=.ptr (.own y11 0 0 0 0) 0->env.get 12=i64 i ->
   env.get 13=.own (A.length+(B.length+6)) 0 (l.length+1) 1 (l.length+1)->env.get 14=i64 ((l.length+1:Nat):Int) ->
   LI Tryz.prog N Qb QeZ env (A++(c.D s::c.M A.length s::c.L::Mc.V s::Mc.N s::Mc.I s::(B++⟨l.map sl++[.own (A.length+(B.length+(L.length+7))) 0 (seen[l.length].length+1) 1 2],45,l.length+1,true⟩ ::
    (L++[⟨Qa seen[l.length]++[i64 v],3,2,true⟩,⟨[i64 v],3,0,true⟩,⟨[.own (A.length+(B.length+(L.length+7))) 0 (seen[l.length].length+1) 1 2],45,0,true⟩])))) K:=by
   intro v env hvi g0 g1 g2 g7 g8 g9 g11 g12 g13 g14;have el:Qa seen[l.length]++[i64 v]=Qa (seen[l.length]++[v]):=by simp[Qa]
   rw[el];refine LI.cong (H':=c.hp A B s++(⟨l.map sl++[.own (A.length+(B.length+(L.length+7))) 0 (seen[l.length].length+1) 1 2],45,l.length+1,true⟩ ::
    (L++[⟨Qa (seen[l.length]++[v]),3,2,true⟩,⟨[i64 v],3,0,true⟩,⟨[.own (A.length+(B.length+(L.length+7))) 0 (seen[l.length].length+1) 1 2],45,0,true⟩]))) (by simp[Mc.hp]) ?_
   refine LI.tell (Qbg.give hcl (L.length+1) 1 (o:=⟨Qa (seen[l.length]++[v]),3,2,true⟩) (by simp) rfl) ?_;have hk:(c.hp A B s).length+(L.length+1)=A.length+(B.length+(L.length+7)):=by rw[Qco]; omega
   have hg:SV.gv (A.length+(B.length+(L.length+7))) 2 (Qa (seen[l.length]++[v])) 1 (.own (A.length+(B.length+(L.length+7))) 0 (seen[l.length].length+1) 1 2)=sl (seen[l.length]++[v]):=by
    simp[sl,show(Qa (seen[l.length]++[v])).length=seen[l.length].length+1 by simp[Qa],VB]
   have hgi:∀ k:Int,SV.gv (A.length+(B.length+(L.length+7))) 2 (Qa (seen[l.length]++[v])) 1 (i64 k)=i64 k:=λk=>rfl;have hgl:(l.map sl).map (SV.gv (A.length+(B.length+(L.length+7))) 2 (Qa (seen[l.length]++[v])) 1)=l.map sl:=by simp[Function.comp_def,sl]
   refine LI.cong (H':=c.hp A B s++(Qbd (l++[seen[l.length]++[v]])::(L++[⟨[],3,3,false⟩,⟨[i64 v],3,0,true⟩,⟨[sl (seen[l.length]++[v])],45,0,true⟩]))) ?_ ?_
   . rw[hk];simp[AO.gv_cl (Yq _) hL,hg,hgi,hgl,Qbd,AO.dead]
   . refine LI.cong (H':=c.hp A (B++(Qbd (l++[seen[l.length]++[v]])::(L++[⟨[],3,3,false⟩,⟨[i64 v],3,0,true⟩,⟨[sl (seen[l.length]++[v])],45,0,true⟩]))) s) (by simp[Mc.hp]) ?_;rw[hk];refine ih _ _ _ (by simp; omega) ?_ ?_ (hnq.snoc hlt hvi) ?_ ?_ ?_ ?_ ?_ ?_ ?_ ?_ ?_ ?_
     . exact hL.app (Cl.cons rfl (Cl.cons rfl (Cl.cons (by simp[SV.underL,sl,SV.under]) (Cl.nil _))))
     . intro x hx;rcases Vj.1 hx with h|h
       . exact hl x h
       . simp at h; subst h; simp; omega
     all_goals rw[Qly _ (SV.gv _ _ _ _) (Qll _ _ _ _)]; simp[g0,g1,g2,g7,g8,g9,g11,g12,g13,g14,Qba]
  simp -implicitDefEqProofs[h0,h1,h2,h7,h8,h9,h11,h12,h13,h14,Qba,hlt,Mc.hp,sl,ep,Qbd,Yd];refine⟨by omega,by omega,by omega,?_⟩;split
  . rename_i hcnd;refine⟨by omega,by omega,by omega,by omega,?_⟩;refine key i _ (λ_=>rfl) ?_ ?_ ?_ ?_ ?_ ?_ ?_ ?_ ?_ ?_<;>simp[h0,h1,h2,h7,h8,h9,h11,h12,h13,h14,w1,Qba]
  . rename_i hcnd;refine⟨by omega,by omega,by omega,by omega,?_⟩;refine key (-1) _ (λhq=>absurd (Or.inl hq) hcnd) ?_ ?_ ?_ ?_ ?_ ?_ ?_ ?_ ?_ ?_<;>simp[h0,h1,h2,h7,h8,h9,h11,h12,h13,h14,w1,Qba]
end
end Go.Proofs.YtogjmpkehjfecaaGreatDoor.Rc
