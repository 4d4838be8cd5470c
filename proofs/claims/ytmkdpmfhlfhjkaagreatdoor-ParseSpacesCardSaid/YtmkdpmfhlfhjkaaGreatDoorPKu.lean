/- Steps of the proof. -/
import Derived.Test.YtmkdpmfhlfhjkaaGreatDoorPKs
import Derived.Test.YtmkdpmfhlfhjkaaGreatDoorPKf
set_option linter.all false
namespace Go.Proofs.YtmkdpmfhlfhjkaaGreatDoor
open Go.Ab
def cxE (n:Nat):Cx:=⟨QdJ++(Qb6 n).map (Tok.mv · 19),(frQ++rep enQ n).length⟩
def rd0:Rd:=⟨0,0,0,0⟩
theorem sta0 (n:Nat):Sta (cxE n) 40 rd0 (fTk++QbA n):=⟨rfl,QxE n,by decide,by decide⟩
theorem QsQ (n:Nat):(cxE n).ts.length=6+6*n:=by
 show(QdJ++(Qb6 n).map (Tok.mv · 19)).length=_;rw[Vj,Yl,Qnn]; simp[QdJ]
theorem Qsn {n:Nat} (hn:n<=800):Sta (cxE n) 40 (nx 6 rd0) (QbA n) /\
 (QG (frQ++rep enQ n)).2=if(QL (cxE n) (orT (cxE n)) (6+6*n+1) [] (nx 6 rd0)).2.e≠0 then((QL (cxE n) (orT (cxE n)) (6+6*n+1) [] (nx 6 rd0)).2.e,(QL (cxE n) (orT (cxE n)) (6+6*n+1) [] (nx 6 rd0)).2.p)else(0,0):=by
 have h0:Sta (cxE n) 40 rd0 (.wd [103,97,109,101]::.wd [103]::.sg [59]::.wd [112,108,97,121,101,114,115]::.nm 1::.sg [59]::QbA n):=sta0 n;have h1:=h0.next
 have h2:=h1.next
 have h3:=h2.next
 have h4:=h3.next
 have h5:=h4.next
 have h6:=h5.next
 refine⟨h6,?_⟩;have hc:(⟨(Qi (frQ++rep enQ n)).1,(frQ++rep enQ n).length⟩:Cx)=cxE n:=by rw[Qq9 hn]; rfl
 have e0:¬ (Qi (frQ++rep enQ n)).2.1≠0:=by rw[Qq9 hn]; simp
 have hl:=QsQ n;unfold QG;rw[Zn e0,hc];generalize cxE n=c at *;have t1:t2 c [103,97,109,101] rd0=Qa rd0:=(h0.take rfl).1;have w1:QK c (Qa rd0)=([103],Qa (Qa rd0)):=(h1.word (by decide)).1;have t3:t2 c [59] (Qa (Qa rd0))=Qa (Qa (Qa rd0)):=(h2.take rfl).1;have t4:t2 c [112,108,97,121,101,114,115] (Qa (Qa (Qa rd0)))=Qa (Qa (Qa (Qa rd0))):=(h3.take rfl).1;have n5:nmR c (Qa (Qa (Qa (Qa rd0))))=(((1:Nat):Int),Qa (Qa (Qa (Qa (Qa rd0))))):=h4.numb.1;have t6:t2 c [59] (Qa (Qa (Qa (Qa (Qa rd0)))))=nx 6 rd0:=(h5.take rfl).1;have hv:∀ m,Qab c m [] (nx 6 rd0)=([],nx 6 rd0):=by
  intro m
  cases m with
  |zero=>rfl
  |succ m =>
   rw[Qab,Zn];rw[show Qd c [118,97,114] (nx 6 rd0)=pk (QbA n) [118,97,114]from h6.peek _]
   cases n with
   |zero=>simp[QbA,pk]
   |succ n=>simp[QbA,eTk,pk]
 unfold QbU;rw[show(⟨0,0,0,0⟩:Rd)=rd0 from rfl,t1,w1];simp only[];rw[t3,t4,n5];simp only[];rw[t6,hv,hl];simp only[];split<;>rfl
theorem pj:(QG (fr++rep en 100)).2=(0,0):=by
 obtain⟨h,e⟩:=Qsn (n:=100) (by decide);have h2:=QtN 100 (6+6*100+1) [] (nx 6 rd0) h (by simp) (by decide) (.inr (by decide));rw[Zn (by rw[h2]; simp)]at e;exact e
theorem pk':(QG (fr++rep en 101)).2=(12,1519):=by
 obtain⟨h,e⟩:=Qsn (n:=101) (by decide);obtain⟨h2,h3⟩:=Qp3 100 0 (6+6*101+1) [] (nx 6 rd0) h (by simp) (by decide);rw[Zo (by rw[h2]; simp),h2,h3]at e;have hp:Qk (cxE 101) ⟨(nx 6 rd0).a+6*100,0,0,0⟩=1519:=by
  have hx:=Qo5 101 100 (by decide);have ha:(nx 6 rd0).a=6:=by rw[Qny]; rfl
  rw[ha];have hl:=QsQ 101;unfold Qk;rw[Zx (by rw[hl]; simp)];have ht:(cxE 101).ts[6+6*100]? = ((Qb6 101)[6*100]?).map (Tok.mv · 19):=by
   show(QdJ++(Qb6 101).map (Tok.mv · 19))[6+6*100]? = _;rw[Vl (by simp[QdJ]),Vp];simp[QdJ]
  cases hz:(Qb6 101)[6*100]? with
  |none=>rw[hz]at hx; cases hx
  |some t =>
   rw[hz]at hx ht;simp only[VG,Option.some.injEq]at hx;simp only[VG]at ht;have:=(List.getElem?_eq_some_iff.1 ht).2;simp only[this,Tok.mv,hx];rfl
 rw[hp]at e;exact e
theorem Quy {H:ZG}:Ok Tryz.prog 5 [] H (.ret (bl true)) H:=law5 pj pk'
end Go.Proofs.YtmkdpmfhlfhjkaaGreatDoor
