/- Steps of the proof. -/
import Derived.Test.YtmkdpmfhlfhjkaaGreatDoorPKs
import Derived.Test.YtmkdpmfhlfhjkaaGreatDoorPKf
set_option linter.all false
namespace Go.Proofs.YtmkdpmfhlfhjkaaGreatDoor
open Go.Ab
def cxE (n:Nat):Cx:=⟨QdI++(Qb3 n).map (Tok.mv · 19),(frQ++rep enQ n).length⟩
def rd0:Rd:=⟨0,0,0,0⟩
theorem sta0 (n:Nat):Sta (cxE n) 40 rd0 (fTk++Qbv n):=⟨rfl,QAG n,by decide,by decide⟩
theorem QrK (n:Nat):(cxE n).ts.length=6+6*n:=by
 show(QdI++(Qb3 n).map (Tok.mv · 19)).length=_;rw[Vj,Yf,Qnz]; simp[QdI]
theorem Qs9 {n:Nat} (hn:n<=800):Sta (cxE n) 40 (nx 6 rd0) (Qbv n) /\
 (QJ (frQ++rep enQ n)).2=if(QF (cxE n) (orT (cxE n)) (6+6*n+1) [] (nx 6 rd0)).2.e≠0 then((QF (cxE n) (orT (cxE n)) (6+6*n+1) [] (nx 6 rd0)).2.e,(QF (cxE n) (orT (cxE n)) (6+6*n+1) [] (nx 6 rd0)).2.p)else(0,0):=by
 have h0:Sta (cxE n) 40 rd0 (.wd [103,97,109,101]::.wd [103]::.sg [59]::.wd [112,108,97,121,101,114,115]::.nm 1::.sg [59]::Qbv n):=sta0 n;have h1:=h0.next
 have h2:=h1.next
 have h3:=h2.next
 have h4:=h3.next
 have h5:=h4.next
 have h6:=h5.next
 refine⟨h6,?_⟩;have hc:(⟨(Qv (frQ++rep enQ n)).1,(frQ++rep enQ n).length⟩:Cx)=cxE n:=by rw[QsB hn]; rfl
 have e0:¬ (Qv (frQ++rep enQ n)).2.1≠0:=by rw[QsB hn]; simp
 have hl:=QrK n;unfold QJ;rw[Zm e0,hc];generalize cxE n=c at *;have t1:t2 c [103,97,109,101] rd0=Qa rd0:=(h0.take rfl).1;have w1:QO c (Qa rd0)=([103],Qa (Qa rd0)):=(h1.word (by decide)).1;have t3:t2 c [59] (Qa (Qa rd0))=Qa (Qa (Qa rd0)):=(h2.take rfl).1;have t4:t2 c [112,108,97,121,101,114,115] (Qa (Qa (Qa rd0)))=Qa (Qa (Qa (Qa rd0))):=(h3.take rfl).1;have n5:nmR c (Qa (Qa (Qa (Qa rd0))))=(((1:Nat):Int),Qa (Qa (Qa (Qa (Qa rd0))))):=h4.numb.1;have t6:t2 c [59] (Qa (Qa (Qa (Qa (Qa rd0)))))=nx 6 rd0:=(h5.take rfl).1;have hv:∀ m,Q6 c m [] (nx 6 rd0)=([],nx 6 rd0):=by
  intro m
  cases m with
  |zero=>rfl
  |succ m =>
   rw[Q6,Zm];rw[show Qd c [118,97,114] (nx 6 rd0)=pk (Qbv n) [118,97,114]from h6.peek _]
   cases n with
   |zero=>simp[Qbv,pk]
   |succ n=>simp[Qbv,eTk,pk]
 unfold QbL;rw[show(⟨0,0,0,0⟩:Rd)=rd0 from rfl,t1,w1];simp only[];rw[t3,t4,n5];simp only[];rw[t6,hv,hl];simp only[];split<;>rfl
theorem pj:(QJ (fr++rep en 100)).2=(0,0):=by
 obtain⟨h,e⟩:=Qs9 (n:=100) (by decide);have h2:=QpH 100 (6+6*100+1) [] (nx 6 rd0) h (by simp) (by decide) (.inr (by decide));rw[Zm (by rw[h2]; simp)]at e;exact e
theorem pk':(QJ (fr++rep en 101)).2=(12,1519):=by
 obtain⟨h,e⟩:=Qs9 (n:=101) (by decide);obtain⟨h2,h3⟩:=Qo0 100 0 (6+6*101+1) [] (nx 6 rd0) h (by simp) (by decide);rw[Zn (by rw[h2]; simp),h2,h3]at e;have hp:Qk (cxE 101) ⟨(nx 6 rd0).a+6*100,0,0,0⟩=1519:=by
  have hx:=Qrq 101 100 (by decide);have ha:(nx 6 rd0).a=6:=by rw[Qmq]; rfl
  rw[ha];have hl:=QrK 101;unfold Qk;rw[Zy (by rw[hl]; simp)];have ht:(cxE 101).ts[6+6*100]? = ((Qb3 101)[6*100]?).map (Tok.mv · 19):=by
   show(QdI++(Qb3 101).map (Tok.mv · 19))[6+6*100]? = _;rw[Vk (by simp[QdI]),Vp];simp[QdI]
  cases hz:(Qb3 101)[6*100]? with
  |none=>rw[hz]at hx; cases hx
  |some t =>
   rw[hz]at hx ht;simp only[VF,Option.some.injEq]at hx;simp only[VF]at ht;have:=(List.getElem?_eq_some_iff.1 ht).2;simp only[this,Tok.mv,hx];rfl
 rw[hp]at e;exact e
theorem QtA {H:ZG}:Ok Tryz.prog 5 [] H (.ret (bl true)) H:=law5 pj pk'
end Go.Proofs.YtmkdpmfhlfhjkaaGreatDoor
