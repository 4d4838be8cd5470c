/- Steps of the proof. -/
import Derived.Test.YtmkdpmfhlfhjkaaGreatDoorPart4
import Derived.Test.YtmkdpmfhlfhjkaaGreatDoorPKb
set_option linter.all false
namespace Go.Proofs.YtmkdpmfhlfhjkaaGreatDoor
open Go.Ab
section
variable {c:Cx}
theorem Qlf {ops:List (ZE×Int)} {F:Rd->Ex×Rd} {r r':Rd} {e:Ex} {L:List TK} (h:F r=(e,r')) (hs:Sta c 40 r' L) (hn:Qb9 ops L):QS c ops F r=(e,r'):=by
 unfold QS;rw[h];exact Qd6 (hs.none hn) _
theorem QAE {r:Rd} {n:Nat} {L:List TK} (h:Sta c 40 r (.nm n::.sg [59]::L)):∃ e,orT c r=(e,Qa r):=by
 have h1:=h.next
 have hfac:∀ o f,QF c o f r=(.mk 1 (nmR c r).1 [] [] (Qk c r),Qa r):=by
  intro o f;have hw:QaN.find? (λw=>Qd c w.1 r)=none:=by
   rw[Y7];intro x _;rw[h.peek]; simp[pk]
  unfold QF;rw[Zn (by rw[h.e]; simp),Zn (by rw[h.free]; simp[Qem]),Zn (by rw[h.peek]; simp[pk]),Zn (by rw[h.peek]; simp[pk]),hw];simp only[];rw[h.numb.1]
 have no:∀ ops:List (ZE×Int),(ops.all λo=>decide (o.1≠[59]))=true->Qb9 ops (.sg [59]::L):=by
  intro ops ho o hm;have:=Vn.1 ho o hm;simp only[Zq]at this;simp only[pk,ZB];exact λe=>this e.symm
 refine⟨.mk 1 (nmR c r).1 [] [] (Qk c r),?_⟩;unfold orT Q6;refine Qlf (Qlf ?_ h1 (no _ (by decide))) h1 (no _ (by decide));have hnt:∀ o f nt,Qat c (Qgt c (QF c o f)) nt r=(.mk 1 (nmR c r).1 [] [] (Qk c r),Qa r):=by
  intro o f nt;unfold Qat;rw[Zn (by rw[h.peek]; simp[pk])];have hb:=Qlf (c:=c) (ops:=Qa6) (Qlf (ops:=QaV) (hfac o f) h1 (no _ (by decide))) h1 (no _ (by decide));unfold Qgt Qar;rw[hb];simp only[];rw[h1.none (no _ (by decide))]
 exact hnt _ _ _
def eTk:List TK:=[.wd [101,110,100],.sg [123],.wd [112,97,121],.nm 0,.sg [59],.sg [125]]
def nx:Nat->Rd->Rd
 |0,r=>r
 |n+1,r=>nx n (Qa r)
theorem QqZ {r:Rd} {L:List TK} (h:Sta c 40 r (eTk++L)):(Q8 c (orT c) r).2=nx 6 r/\Sta c 40 (nx 6 r) L:=by
 have h0:Sta c 40 r (.wd [101,110,100]::.sg [123]::.wd [112,97,121]::.nm 0::.sg [59]::.sg [125]::L):=h;have h1:=h0.next
 have h2:=h1.next
 have h3:=h2.next
 have h4:=h3.next
 have h5:=h4.next
 have h6:=h5.next
 refine⟨?_,h6⟩;have t1:Qh c [101,110,100] r=((Qh c [101,110,100] r).1,Qa r):=by rw[<-(h0.take (s:=[101,110,100]) rfl).1]
 have t2':t2 c [123] (Qa r)=Qa (Qa r):=(h1.take rfl).1;have t3:t2 c [112,97,121] (Qa (Qa r))=Qa (Qa (Qa r)):=(h2.take rfl).1;obtain⟨e,he⟩:=QAE h3;have hl:QaB c r=([],r):=by
  unfold QaB;rw[Zn (by rw[h0.free]; simp[Qem]; decide)]
 have hx:Qcr c (orT c) (Qa (Qa (Qa r)))=([e],Qa (Qa (Qa (Qa r)))):=by
  unfold Qcr;rw[he]
  cases c.ts.length with
  |zero=>rfl
  |succ n =>
   rw[Qao,Zn (by rw[h4.peek]; simp[pk])]
 have t5:t2 c [59] (Qa (Qa (Qa (Qa r))))=Qa (Qa (Qa (Qa (Qa r)))):=(h4.take rfl).1;have t6:t2 c [125] (Qa (Qa (Qa (Qa (Qa r)))))=nx 6 r:=(h5.take rfl).1;unfold Q8;rw[hl];simp only[];rw[Zn (by rw[h0.peek]; simp[pk]),Zn (by rw[h0.peek]; simp[pk]),t1];simp only[];rw[t2',t3,hx];simp only[];rw[t5,t6]
def QbA:Nat->List TK
 |0=>[]
 |n+1=>eTk++QbA n
theorem QtN:∀ (m n:Nat) (l:List Qb) (r:Rd),Sta c 40 r (QbA m)->l.length+m<=100->m<n->(l≠[]\/0<m)->(QL c (orT c) n l r).2.e=0
 |0,n+1,l,r,h,hl,hn,h0=>by
  have hend:=h.rem.end;have hne:l≠[]:=h0.resolve_right (by omega);rw[QL,Zn (by intro h2; rcases h2.2 with h3|h3; exact hne h3; omega)];exact h.e
 |m+1,n+1,l,r,h,hl,hn,h0=>by
  have hlt:r.a<c.ts.length:=by
   obtain⟨ha,_⟩:=(show Rem c r.a (.wd [101,110,100]::(eTk.tail++QbA m))from h.rem).lt;exact ha
  obtain⟨e1,e2⟩:=QqZ (show Sta c 40 r (eTk++QbA m)from h);rw[QL,Zo ⟨h.e,.inr hlt⟩];have hf:QaW c l r=r:=by unfold QaW; rw[Zn (by omega)]
  rw[hf,e1];exact QtN m n _ _ e2 (by simp; omega) (by omega) (.inl (by simp))
theorem Qny:∀ (n:Nat) (r:Rd),(nx n r).a=r.a+n
 |0,r=>rfl
 |n+1,r=>by rw[nx,Qny n]; simp[Qa]; omega
theorem Qp3:∀ (k m n:Nat) (l:List Qb) (r:Rd),Sta c 40 r (QbA (k+1+m))->l.length+k=100->k<n->(QL c (orT c) n l r).2.e=12 /\
 (QL c (orT c) n l r).2.p=Qk c ⟨r.a+6*k,0,0,0⟩
 |0,m,n+1,l,r,h,hl,hn=>by
  have h':Sta c 40 r (.wd [101,110,100]::(eTk.tail++QbA m)):=by
   have:QbA (0+1+m)=.wd [101,110,100]::(eTk.tail++QbA m):=by rw[show 0+1+m=m+1 by omega]; rfl
   rwa [this]at h
  obtain⟨hlt,_⟩:=h'.rem.lt;rw[QL,Zo ⟨h.e,.inr hlt⟩];have hf:QaW c l r=Qg c 12 r:=by
   unfold QaW;rw[Zo ⟨by omega,by rw[h'.peek [101,110,100]]; simp[pk]⟩]
  have hbad:(Qg c 12 r).e≠0:=by unfold Qg; rw[Zo h.e]; simp
  have hs:=QjP (c:=c) (QuJ (c:=c)) _ hbad;rw[QeX (by rw[hf,hs]; exact hbad),hf,hs];unfold Qg;rw[Zo h.e];exact⟨rfl,rfl⟩
 |k+1,m,n+1,l,r,h,hl,hn=>by
  have h':Sta c 40 r (eTk++QbA (k+1+m)):=by
   have:QbA (k+1+1+m)=eTk++QbA (k+1+m):=by rw[show k+1+1+m=(k+1+m)+1 by omega]; rfl
   rwa [this]at h
  have hlt:r.a<c.ts.length:=by
   obtain⟨ha,_⟩:=(show Rem c r.a (.wd [101,110,100]::(eTk.tail++QbA (k+1+m)))from h'.rem).lt;exact ha
  obtain⟨e1,e2⟩:=QqZ h';rw[QL,Zo ⟨h.e,.inr hlt⟩];have hf:QaW c l r=r:=by unfold QaW; rw[Zn (by omega)]
  rw[hf,e1];have:=Qp3 k m n (l++[(Q8 c (orT c) r).1]) (nx 6 r) e2 (by simp; omega) (by omega);rw[Qny]at this;rw[show r.a+6*(k+1)=r.a+6+6*k by omega];exact this
end
end Go.Proofs.YtmkdpmfhlfhjkaaGreatDoor
