/- Steps of the proof. -/
import Derived.Test.YtmkdpmfhlfhjkaaGreatDoorPart4
import Derived.Test.YtmkdpmfhlfhjkaaGreatDoorPKb
set_option linter.all false
namespace Go.Proofs.YtmkdpmfhlfhjkaaGreatDoor
open Go.Ab
section
variable {c:Cx}
theorem Qks {ops:List (ZE×Int)} {F:Rd->Ex×Rd} {r r':Rd} {e:Ex} {L:List TK} (h:F r=(e,r')) (hs:Sta c 40 r' L) (hn:Qb2 ops L):Q7 c ops F r=(e,r'):=by
 unfold Q7;rw[h];exact Qd8 (hs.none hn) _
theorem QyG {r:Rd} {n:Nat} {L:List TK} (h:Sta c 40 r (.nm n::.sg [59]::L)):∃ e,orT c r=(e,Qa r):=by
 have h1:=h.next
 have hfac:∀ o f,QL c o f r=(.mk 1 (nmR c r).1 [] [] (Qk c r),Qa r):=by
  intro o f;have hw:QaT.find? (λw=>Qd c w.1 r)=none:=by
   rw[Y3];intro x _;rw[h.peek]; simp[pk]
  unfold QL;rw[Zm (by rw[h.e]; simp),Zm (by rw[h.free]; simp[Qen]),Zm (by rw[h.peek]; simp[pk]),Zm (by rw[h.peek]; simp[pk]),hw];simp only[];rw[h.numb.1]
 have no:∀ ops:List (ZE×Int),(ops.all λo=>decide (o.1≠[59]))=true->Qb2 ops (.sg [59]::L):=by
  intro ops ho o hm;have:=Vm.1 ho o hm;simp only[Zq]at this;simp only[pk,ZB];exact λe=>this e.symm
 refine⟨.mk 1 (nmR c r).1 [] [] (Qk c r),?_⟩;unfold orT Qcd;refine Qks (Qks ?_ h1 (no _ (by decide))) h1 (no _ (by decide));have hnt:∀ o f nt,QaS c (Qh3 c (QL c o f)) nt r=(.mk 1 (nmR c r).1 [] [] (Qk c r),Qa r):=by
  intro o f nt;unfold QaS;rw[Zm (by rw[h.peek]; simp[pk])];have hb:=Qks (c:=c) (ops:=Qbe) (Qks (ops:=Qa6) (hfac o f) h1 (no _ (by decide))) h1 (no _ (by decide));unfold Qh3 QaP;rw[hb];simp only[];rw[h1.none (no _ (by decide))]
 exact hnt _ _ _
def eTk:List TK:=[.wd [101,110,100],.sg [123],.wd [112,97,121],.nm 0,.sg [59],.sg [125]]
def nx:Nat->Rd->Rd
 |0,r=>r
 |n+1,r=>nx n (Qa r)
theorem QqN {r:Rd} {L:List TK} (h:Sta c 40 r (eTk++L)):(Q0 c (orT c) r).2=nx 6 r/\Sta c 40 (nx 6 r) L:=by
 have h0:Sta c 40 r (.wd [101,110,100]::.sg [123]::.wd [112,97,121]::.nm 0::.sg [59]::.sg [125]::L):=h;have h1:=h0.next
 have h2:=h1.next
 have h3:=h2.next
 have h4:=h3.next
 have h5:=h4.next
 have h6:=h5.next
 refine⟨?_,h6⟩;have t1:Qh c [101,110,100] r=((Qh c [101,110,100] r).1,Qa r):=by rw[<-(h0.take (s:=[101,110,100]) rfl).1]
 have t2':t2 c [123] (Qa r)=Qa (Qa r):=(h1.take rfl).1;have t3:t2 c [112,97,121] (Qa (Qa r))=Qa (Qa (Qa r)):=(h2.take rfl).1;obtain⟨e,he⟩:=QyG h3;have hl:Qay c r=([],r):=by
  unfold Qay;rw[Zm (by rw[h0.free]; simp[Qen]; decide)]
 have hx:QcD c (orT c) (Qa (Qa (Qa r)))=([e],Qa (Qa (Qa (Qa r)))):=by
  unfold QcD;rw[he]
  cases c.ts.length with
  |zero=>rfl
  |succ n =>
   rw[Qak,Zm (by rw[h4.peek]; simp[pk])]
 have t5:t2 c [59] (Qa (Qa (Qa (Qa r))))=Qa (Qa (Qa (Qa (Qa r)))):=(h4.take rfl).1;have t6:t2 c [125] (Qa (Qa (Qa (Qa (Qa r)))))=nx 6 r:=(h5.take rfl).1;unfold Q0;rw[hl];simp only[];rw[Zm (by rw[h0.peek]; simp[pk]),Zm (by rw[h0.peek]; simp[pk]),t1];simp only[];rw[t2',t3,hx];simp only[];rw[t5,t6]
def Qbv:Nat->List TK
 |0=>[]
 |n+1=>eTk++Qbv n
theorem QpH:∀ (m n:Nat) (l:List Qb) (r:Rd),Sta c 40 r (Qbv m)->l.length+m<=100->m<n->(l≠[]\/0<m)->(QF c (orT c) n l r).2.e=0
 |0,n+1,l,r,h,hl,hn,h0=>by
  have hend:=h.rem.end;have hne:l≠[]:=h0.resolve_right (by omega);rw[QF,Zm (by intro h2; rcases h2.2 with h3|h3; exact hne h3; omega)];exact h.e
 |m+1,n+1,l,r,h,hl,hn,h0=>by
  have hlt:r.a<c.ts.length:=by
   obtain⟨ha,_⟩:=(show Rem c r.a (.wd [101,110,100]::(eTk.tail++Qbv m))from h.rem).lt;exact ha
  obtain⟨e1,e2⟩:=QqN (show Sta c 40 r (eTk++Qbv m)from h);rw[QF,Zn ⟨h.e,.inr hlt⟩];have hf:QaR c l r=r:=by unfold QaR; rw[Zm (by omega)]
  rw[hf,e1];exact QpH m n _ _ e2 (by simp; omega) (by omega) (.inl (by simp))
theorem Qmq:∀ (n:Nat) (r:Rd),(nx n r).a=r.a+n
 |0,r=>rfl
 |n+1,r=>by rw[nx,Qmq n]; simp[Qa]; omega
theorem Qo0:∀ (k m n:Nat) (l:List Qb) (r:Rd),Sta c 40 r (Qbv (k+1+m))->l.length+k=100->k<n->(QF c (orT c) n l r).2.e=12 /\
 (QF c (orT c) n l r).2.p=Qk c ⟨r.a+6*k,0,0,0⟩
 |0,m,n+1,l,r,h,hl,hn=>by
  have h':Sta c 40 r (.wd [101,110,100]::(eTk.tail++Qbv m)):=by
   have:Qbv (0+1+m)=.wd [101,110,100]::(eTk.tail++Qbv m):=by rw[show 0+1+m=m+1 by omega]; rfl
   rwa [this]at h
  obtain⟨hlt,_⟩:=h'.rem.lt;rw[QF,Zn ⟨h.e,.inr hlt⟩];have hf:QaR c l r=Qg c 12 r:=by
   unfold QaR;rw[Zn ⟨by omega,by rw[h'.peek [101,110,100]]; simp[pk]⟩]
  have hbad:(Qg c 12 r).e≠0:=by unfold Qg; rw[Zn h.e]; simp
  have hs:=Qk0 (c:=c) (QAj (c:=c)) _ hbad;rw[QeO (by rw[hf,hs]; exact hbad),hf,hs];unfold Qg;rw[Zn h.e];exact⟨rfl,rfl⟩
 |k+1,m,n+1,l,r,h,hl,hn=>by
  have h':Sta c 40 r (eTk++Qbv (k+1+m)):=by
   have:Qbv (k+1+1+m)=eTk++Qbv (k+1+m):=by rw[show k+1+1+m=(k+1+m)+1 by omega]; rfl
   rwa [this]at h
  have hlt:r.a<c.ts.length:=by
   obtain⟨ha,_⟩:=(show Rem c r.a (.wd [101,110,100]::(eTk.tail++Qbv (k+1+m)))from h'.rem).lt;exact ha
  obtain⟨e1,e2⟩:=QqN h';rw[QF,Zn ⟨h.e,.inr hlt⟩];have hf:QaR c l r=r:=by unfold QaR; rw[Zm (by omega)]
  rw[hf,e1];have:=Qo0 k m n (l++[(Q0 c (orT c) r).1]) (nx 6 r) e2 (by simp; omega) (by omega);rw[Qmq]at this;rw[show r.a+6*(k+1)=r.a+6+6*k by omega];exact this
end
end Go.Proofs.YtmkdpmfhlfhjkaaGreatDoor
