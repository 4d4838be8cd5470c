/- Steps of the proof. -/
import Derived.Test.YtogjmpkehjfecaaGreatDoorCore5
import Derived.Test.YtogjmpkehjfecaaGreatDoorRows
set_option linter.all false
namespace Go.Ab.Lm
def B:Nat:=1000000000
def val:List Nat->Nat
 |[]=>0
 |x::r=>x+B*val r
def Dig (l:List Nat):Prop:=∀ x∈l,x<B
def Qz:List Nat->List Nat
 |[]=>[]
 |x::r=>if Qz r=[]/\x=0 then []else x::Qz r
theorem Qda:0<B:=by decide
def lim (n:Nat):List Nat:=if h:n=0 then []else(n % B)::lim (n / B)
termination_by n
decreasing_by exact YH (YW h) (by decide)
theorem Q8:lim 0=[]:=by unfold lim; rfl
theorem QaQ {n:Nat} (h:n≠0):lim n=(n % B)::lim (n / B):=by rw[lim,dif_neg h]
theorem Qcb:∀ n:Nat,val (lim n)=n:=by
 intro n
 induction n using Nat.strongRecOn with
 |ind n ih =>
  by_cases h:n=0
  . subst h; rw[Q8]; rfl
  . rw[QaQ h,val,ih _ (YH (YW h) (by decide))];exact Nat.mod_add_div n B
theorem QaO:∀ n:Nat,Dig (lim n):=by
 intro n
 induction n using Nat.strongRecOn with
 |ind n ih =>
  by_cases h:n=0
  . subst h; rw[Q8]; intro x hx; cases hx
  . rw[QaQ h];intro x hx;rcases Vi.1 hx with rfl|hx
    . exact Yr _ Qda
    . exact ih _ (YH (YW h) (by decide)) x hx
theorem Qdt {n:Nat}:lim n=[]↔n=0:=by
 by_cases h:n=0
 . subst h; simp[Q8]
 . rw[QaQ h]; simp[h]
theorem Dig.tail {x:Nat} {r:List Nat} (h:Dig (x::r)):Dig r:=λy hy=>h y (VI _ hy)
theorem Dig.app {a b:List Nat} (h:Dig a) (h':Dig b):Dig (a++b):=λx hx=>by
 rcases Vj.1 hx with h1|h1
 . exact h x h1
 . exact h' x h1
theorem QdX:∀ {l:List Nat},Dig l->Qz l=lim (val l)
 |[],_=>by rw[val,Q8]; rfl
 |x::r,h=>by
  have ih:=QdX h.tail;have hx:=h x (by simp);unfold Qz;simp only[ih,Qdt];by_cases hc:val r=0/\x=0
  . rw[Wb hc,val,hc.1,hc.2,ZN,Q8]
  . rw[Wa hc];have hne:x+B*val r≠0:=by
     intro e;apply hc;have h1:B*val r=0:=by omega
     rcases ZO.1 h1 with h2|h2
     . exact absurd h2 (by decide)
     . exact⟨h2,by omega⟩
    rw[val,QaQ hne];have e1:(x+B*val r) % B=x:=by rw[Nat.add_mul_mod_self_left]; exact YU hx
    have e2:(x+B*val r) / B=val r:=by rw[Nat.add_mul_div_left _ _ Qda,YI hx,VX]
    rw[e1,e2]
theorem Qjf:∀ l:List Nat,(Qz l).length<=l.length
 |[]=>Vc _
 |x::r=>by
  have:=Qjf r;unfold Qz;split
  . simp
  . simp; exact this
theorem QfV:∀ l:List Nat,Qz (l++[0])=Qz l
 |[]=>by simp[Qz]
 |x::r=>by simp only[VK,Qz,QfV r]
theorem Qg6 {y:Nat} (hy:y≠0):∀ l:List Nat,Qz (l++[y])=l++[y]
 |[]=>by simp[Qz,hy]
 |x::r=>by simp[Qz,Qg6 hy r]
theorem Qva (n:Nat):Qz (lim n)=lim n:=by rw[QdX (QaO n),Qcb]
theorem Qir:∀ (a b:List Nat),val (a++b)=val a+B ^ a.length*val b
 |[],b=>by simp[val]
 |x::a,b=>by
  simp only[VK,val,Qir a b,VT,V6];rw[Ys,<- Yj,VF B (B ^ a.length),Yd]
theorem Qi4:∀ {l:List Nat},Dig l->val l<B ^ l.length
 |[],_=>by simp[val]
 |x::r,h=>by
  have ih:=Qi4 h.tail;have hx:=h x (by simp);simp only[val,VT,V6];have:B*(val r+1)<=B*B ^ r.length:=YA _ ih;rw[Ys,Ye]at this;rw[VF (B ^ r.length) B];omega
theorem Qht (k:Nat):0<B ^ k:=YJ Qda
theorem Qkz:∀ {n:Nat},n≠0->B ^ ((lim n).length-1)<=n:=by
 intro n
 induction n using Nat.strongRecOn with
 |ind n ih =>
  intro h;rw[QaQ h];by_cases h1:n / B=0
  . rw[h1,Q8]; simp; omega
  . have hi:=ih _ (YH (YW h) (by decide)) h1;have hl:(lim (n / B)).length≠0:=by
     intro e;exact h1 (Qdt.1 (Vx e))
    simp only[VT,ZP];obtain⟨k,hk⟩:∃ k,(lim (n / B)).length=k+1:=⟨(lim (n / B)).length-1,by omega⟩;rw[hk]at hi ⊢;simp only[ZP]at hi;rw[V6];have h2:=YC B hi;have h3:=Nat.div_mul_le_self n B;omega
theorem Qb5 (n:Nat):n<B ^ (lim n).length:=by
 have:=Qi4 (QaO n)
 rwa [Qcb]at this
theorem Qb4 {n k:Nat} (h:n<B ^ k):(lim n).length<=k:=by
 by_cases h0:n=0
 . subst h0; rw[Q8]; simp
 . have h1:=Qkz h0;apply Nat.le_of_not_lt;intro hk;have:B ^ k<=B ^ ((lim n).length-1):=YK Qda (by omega);omega
theorem QcP {m n:Nat} (h:m<=n):(lim m).length<=(lim n).length:=Qb4 (Nat.lt_of_le_of_lt h (Qb5 n))
theorem Qnk {a b:List Nat} {k:Nat} (ha:a.length=k) (hb:b.length=k) (hda:Dig a) (hdb:Dig b) {x y:Nat} (h:x<y) (c:List Nat):val (a++x::c)<val (b++y::c):=by
 rw[Qir,Qir,ha,hb];have h1:=Qi4 hda;have h2:=Qi4 hdb;rw[ha]at h1;rw[hb]at h2;simp only[val];have h3:B ^ k*(x+1+B*val c)<=B ^ k*(y+B*val c):=YA _ (by omega);have h4:B ^ k*(x+1+B*val c)=B ^ k*(x+B*val c)+B ^ k:=by
  rw[show x+1+B*val c=(x+B*val c)+1 by omega,Ys,Ye]
 omega
end Go.Ab.Lm
namespace Go.Proofs.YtogjmpkehjfecaaGreatDoor
open Go.Ab
def QfK:List Int:=[0,1,56,2,57,49,28,3,61,58,42,50,38,29,17,4,62,47,59,36,45,43,51,22,53,39,33,30,24,18,12,5,63,55,48,27,60,41,37,16,46,35,44,21,52,32,23,11,54,26,40,15,34,20,31,10,25,14,19,9,13,8,7,6]
def gv0:Wt:=QfK.map λn=>.val (.int .u8 n)
instance glob:QK:=⟨λ
 |0=>some (QfK.map (Value.int .u8))
 |_=>none⟩
end Go.Proofs.YtogjmpkehjfecaaGreatDoor
