/- Steps of the proof. -/
import Derived.Test.YtogjmpkehjfecaaCore5
import Derived.Test.YtogjmpkehjfecaaRows
set_option linter.all false
namespace Go.Ab.Lm
def B:Nat:=1000000000
def val:List Nat->Nat
 |[]=>0
 |x::r=>x+B*val r
def Dig (l:List Nat):Prop:=∀ x∈l,x<B
def QA:List Nat->List Nat
 |[]=>[]
 |x::r=>if QA r=[]/\x=0 then []else x::QA r
theorem Qdr:0<B:=by decide
def lim (n:Nat):List Nat:=if h:n=0 then []else(n % B)::lim (n / B)
termination_by n
decreasing_by exact YB (YK h) (by decide)
theorem Qan:lim 0=[]:=by unfold lim; rfl
theorem Qa4 {n:Nat} (h:n≠0):lim n=(n % B)::lim (n / B):=by rw[lim,dif_neg h]
theorem Qcs:∀ n:Nat,val (lim n)=n:=by
 intro n
 induction n using Nat.strongRecOn with
 |ind n ih =>
  by_cases h:n=0
  . subst h; rw[Qan]; rfl
  . rw[Qa4 h,val,ih _ (YB (YK h) (by decide))];exact Nat.mod_add_div n B
theorem QaY:∀ n:Nat,Dig (lim n):=by
 intro n
 induction n using Nat.strongRecOn with
 |ind n ih =>
  by_cases h:n=0
  . subst h; rw[Qan]; intro x hx; cases hx
  . rw[Qa4 h];intro x hx;rcases Vi.1 hx with rfl|hx
    . exact Yr _ Qdr
    . exact ih _ (YB (YK h) (by decide)) x hx
theorem QdD {n:Nat}:lim n=[]↔n=0:=by
 by_cases h:n=0
 . subst h; simp[Qan]
 . rw[Qa4 h]; simp[h]
theorem Dig.tail {x:Nat} {r:List Nat} (h:Dig (x::r)):Dig r:=λy hy=>h y (VO _ hy)
theorem Dig.app {a b:List Nat} (h:Dig a) (h':Dig b):Dig (a++b):=λx hx=>by
 rcases Vj.1 hx with h1|h1
 . exact h x h1
 . exact h' x h1
theorem Qd4:∀ {l:List Nat},Dig l->QA l=lim (val l)
 |[],_=>by rw[val,Qan]; rfl
 |x::r,h=>by
  have ih:=Qd4 h.tail;have hx:=h x (by simp);unfold QA;simp only[ih,QdD];by_cases hc:val r=0/\x=0
  . rw[Wb hc,val,hc.1,hc.2,ZG,Qan]
  . rw[Wa hc];have hne:x+B*val r≠0:=by
     intro e;apply hc;have h1:B*val r=0:=by omega
     rcases Nat.mul_eq_zero.1 h1 with h2|h2
     . exact absurd h2 (by decide)
     . exact⟨h2,by omega⟩
    rw[val,Qa4 hne];have e1:(x+B*val r) % B=x:=by rw[Nat.add_mul_mod_self_left]; exact YU hx
    have e2:(x+B*val r) / B=val r:=by rw[Nat.add_mul_div_left _ _ Qdr,YL hx,VZ]
    rw[e1,e2]
theorem Qk5:∀ l:List Nat,(QA l).length<=l.length
 |[]=>Vc _
 |x::r=>by
  have:=Qk5 r;unfold QA;split
  . simp
  . simp; exact this
theorem QgY:∀ l:List Nat,QA (l++[0])=QA l
 |[]=>by simp[QA]
 |x::r=>by simp only[V0,QA,QgY r]
theorem Qhm {y:Nat} (hy:y≠0):∀ l:List Nat,QA (l++[y])=l++[y]
 |[]=>by simp[QA,hy]
 |x::r=>by simp[QA,Qhm hy r]
theorem Qie:∀ (a b:List Nat),val (a++b)=val a+B ^ a.length*val b
 |[],b=>by simp[val]
 |x::a,b=>by
  simp only[V0,val,Qie a b,VV,Ya];rw[Ym,<- Yn,VT B (B ^ a.length),Yf]
theorem Qit:∀ {l:List Nat},Dig l->val l<B ^ l.length
 |[],_=>by simp[val]
 |x::r,h=>by
  have ih:=Qit h.tail;have hx:=h x (by simp);simp only[val,VV,Ya];have:B*(val r+1)<=B*B ^ r.length:=YM _ ih;rw[Ym,Yc]at this;rw[VT (B ^ r.length) B];omega
theorem Qhn (k:Nat):0<B ^ k:=Nat.pow_pos Qdr
theorem Qjs:∀ {n:Nat},n≠0->B ^ ((lim n).length-1)<=n:=by
 intro n
 induction n using Nat.strongRecOn with
 |ind n ih =>
  intro h;rw[Qa4 h];by_cases h1:n / B=0
  . rw[h1,Qan]; simp; omega
  . have hi:=ih _ (YB (YK h) (by decide)) h1;have hl:(lim (n / B)).length≠0:=by
     intro e;exact h1 (QdD.1 (Vu e))
    simp only[VV,ZH];obtain⟨k,hk⟩:∃ k,(lim (n / B)).length=k+1:=⟨(lim (n / B)).length-1,by omega⟩;rw[hk]at hi ⊢;simp only[ZH]at hi;rw[Ya];have h2:=Yz B hi;have h3:=Nat.div_mul_le_self n B;omega
theorem Qcf (n:Nat):n<B ^ (lim n).length:=by
 have:=Qit (QaY n)
 rwa [Qcs]at this
theorem Qco {n k:Nat} (h:n<B ^ k):(lim n).length<=k:=by
 by_cases h0:n=0
 . subst h0; rw[Qan]; simp
 . have h1:=Qjs h0;apply Nat.le_of_not_lt;intro hk;have:B ^ k<=B ^ ((lim n).length-1):=Zk Qdr (by omega);omega
theorem QcN {m n:Nat} (h:m<=n):(lim m).length<=(lim n).length:=Qco (Nat.lt_of_le_of_lt h (Qcf n))
theorem Qnb {a b:List Nat} {k:Nat} (ha:a.length=k) (hb:b.length=k) (hda:Dig a) (hdb:Dig b) {x y:Nat} (h:x<y) (c:List Nat):val (a++x::c)<val (b++y::c):=by
 rw[Qie,Qie,ha,hb];have h1:=Qit hda;have h2:=Qit hdb;rw[ha]at h1;rw[hb]at h2;simp only[val];have h3:B ^ k*(x+1+B*val c)<=B ^ k*(y+B*val c):=YM _ (by omega);have h4:B ^ k*(x+1+B*val c)=B ^ k*(x+B*val c)+B ^ k:=by
  rw[show x+1+B*val c=(x+B*val c)+1 by omega,Ym,Yc]
 omega
end Go.Ab.Lm
namespace Go.Proofs.Ytogjmpkehjfecaa
open Go.Ab
instance glob:QK:=⟨λ_=>none⟩
end Go.Proofs.Ytogjmpkehjfecaa
