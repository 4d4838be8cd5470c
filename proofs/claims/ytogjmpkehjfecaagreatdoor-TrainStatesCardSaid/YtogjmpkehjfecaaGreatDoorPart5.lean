/- Steps of the proof. -/
import Derived.Test.YtogjmpkehjfecaaGreatDoorPart4
import Derived.Test.YtogjmpkehjfecaaGreatDoorPart2
import Derived.Test.YtogjmpkehjfecaaGreatDoorM0z
import Derived.LaidMore
import Derived.OpenShut
import Derived.Stop.Joined
import Derived.LaidHandle
import Derived.Test.YtogjmpkehjfecaaGreatDoorCore4
set_option linter.all false
namespace Go.Proofs.YtogjmpkehjfecaaGreatDoor.Rc
open Go.Ab Go.Ab.Shr
section
variable {g:Gm} {s:TS}
theorem QkV (hW:Wg g) {j:Nat} (hj:j<g.is.length):0<=Qan g j/\Qan g j<g.pl:=by
 obtain⟨h,_,h2,h3,_⟩:=QeM hW hj;have h1:=Qhv hW h h2;have h4:=QfG hW h h2;rw[h3]at h4;omega
theorem QjI {j:Nat} (hj:j<g.is.length):((QQ g s).A.map QG).getD j []=(shL s g.is.length).S j:=by
 rw[Qjw s _ j hj];simp[QQ,hj]
theorem QlS {L:List (List Int)}:∀ (n j:Nat),j<n->cpA g L n j=L.getD j []
 |0,j,h=>absurd h (by omega)
 |n+1,j,h=>by
  simp only[cpA,upA];by_cases e:j=n
  . rw[Wb e,e]
  . rw[Wa e]; exact QlS n j (by omega)
theorem Qmp (hW:Wg g) {V R:List Int} {A B:Nat->List Int} (h:∀ j,j<g.is.length->A j=B j):∀ i,i<=g.ns.length->∀ j,j<g.is.length->Qbt g V R A i j=Qbt g V R B i j
 |0,_,j,hj=>h j hj
 |i+1,hi,j,hj=>by
  have hii:i<g.ns.length:=by omega
  have hx:g.ns[i]? = some g.ns[i]:=Vb hii;have ih:=λj hj=>Qmp (V:=V) (R:=R) hW h i (by omega) j hj;simp only[Qbt,QcR,hx];by_cases hk:g.ns[i].k=2
  . obtain⟨b1,b2,b3,b4,b5⟩:=QbE hW hii hk;rw[Wb hk,Wb hk];unfold upA;by_cases e:j=g.ns[i].i.toNat
    . rw[Wb e,Wb e,ih _ b1]
    . rw[Wa e,Wa e]; exact ih j hj
  . rw[Wa hk,Wa hk]; exact ih j hj
theorem Qwh (hW:Wg g) (h:SOk g s) (hr:s.rnd<1000000):QcL g (QQ g s) (Qh4 g s) (Qb5 g false s s.R) (Qb5 g true s s.O)=QQ g (Q8 g (cTC g) s):=by
 obtain⟨e1,e2⟩:=Qh1 (g:=g) (s:=s);have hr0:=h.r0;have w1:IntKind.i64.wrap (s.rnd+1)=s.rnd+1:=Qp (by omega) (by omega);have hcA:∀ j,j<g.is.length->cpA g (QQ g s).A g.is.length j=s.A j:=λj hj=>by rw[QlS _ _ hj]; simp[QQ,hj]
 have hcP:∀ j,j<g.is.length->cpA g (QQ g s).P g.is.length j=s.P j:=λj hj=>by rw[QlS _ _ hj]; simp[QQ,hj]
 unfold QcL;show Tin.mk _ _ _ _=Tin.mk _ _ _ _;congr 1
 . show s.rnd+1=_;rw[e1,w1]
 . exact e2.symm
 . apply Vt;intro j hj;simp only[VE]at hj;have ho:=QkV hW hj;rw[Qmk hW (λj hj=>by rw[hcA j hj]; exact h.A j hj) _ j hj,Wb (by omega),Qm5];exact Qmp hW hcA _ (Vc _) j hj
 . apply Vt;intro j hj;simp only[VE]at hj;have ho:=QkV hW hj;obtain⟨hf,hF,_⟩:=QeM hW hj;rw[QoL hW (λj hj=>by rw[hcP j hj]; exact h.P j hj) _ j hj,Wb (by omega),Qkx,Qji,Wb hj,hcP j hj,QjI hj];rfl
theorem Qpd (hW:Wg g) (h:SOk g s):∀ l∈(QQ g s).A,ShO l:=by
 intro l hl;simp only[QQ,Vj,VE]at hl;obtain⟨j,hj,rfl⟩:=hl;obtain⟨n1,n2⟩:=QaV hW hj;have hlen:=h.A j hj;refine⟨by omega,by omega,λv hv => ?_⟩;obtain⟨a,ha,rfl⟩:=QlU hv;have:=h.ok j hj a (by omega);unfold Qcf at this;omega
theorem Qny (h:SOk g s):QeT g (QQ g s):=by
 refine⟨by simp[QQ],by simp[QQ],λi hi => ?_,λi hi => ?_⟩
 . have hii:i<g.is.length:=by simpa[QQ]using hi
   simpa[QQ]using h.A i hii
 . have hii:i<g.is.length:=by simpa[QQ]using hi
   simpa[QQ]using h.P i hii
theorem QnO (hW:Wg g) (h:SOk g s):Qfa g (cTC g).M (λj=>((QQ g s).A.map QG).getD j []) (Qh4 g s) :=
 Qva hW h.V (QjY hW) λj hj=>(QjI hj).symm
theorem QiM (hW:Wg g) {own:Bool} {R:List Int} (hl:R.length=4*g.ns.length):QcN g own (cTC g).M (λj=>((QQ g s).A.map QG).getD j []) (Qb5 g own s R) :=
 Qm9 hW hl (QjY hW) λj hj=>(QjI hj).symm
theorem Qsc (hW:Wg g) {own:Bool} {R:List Int} (hl:R.length=4*g.ns.length):QcN g own (cTC g).M (shL s g.is.length).S (Qb5 g own s R) :=
 Qm9 hW hl (QjY hW) λ_ _=>rfl
theorem QjP {own:Bool} {S:Nat->List Int} {M:List Int} (hW:Wg g) {R:List Int} (hl:R.length=4*g.ns.length):∀ i,i<=g.ns.length->(Qbf g own S M R i).length=4*g.ns.length
 |0,_=>hl
 |i+1,hi=>by
  have hii:i<g.ns.length:=by omega
  have hx:g.ns[i]? = some g.ns[i]:=Vb hii;have ih:=QjP (own:=own) (S:=S) (M:=M) hW hl i (by omega);simp only[Qbf,hx];generalize Qbf g own S M R i=R1 at *;have key:∀ k,k<=g.ns[i].nx.length->(Qax g own S M R1 i k).length=4*g.ns.length:=by
   intro k
   induction k with
   |zero=>intro _; exact ih
   |succ k ihk =>
    intro hk;have hch:=(hW.wf.nf i hii).ch _ (Vf (show k<g.ns[i].nx.length by omega));have e:g.ns[i].nx.getD k 0=g.ns[i].nx[k]:=by simp[show k<g.ns[i].nx.length by omega]
    simp only[Qax,chR,hx,e];exact Qbo (ihk (by omega)) (by omega) _
  exact key _ (Vc _)
theorem QoI (hW:Wg g) (h:SOk g s):∀ j,j<g.is.length->∀ a,0<=((Q8 g (cTC g) s).P j).getD a 0:=by
 intro j hj a;have ho:=QkV hW hj;obtain⟨hf,hF,_⟩:=QeM hW hj;rw[Qkx,Qji,Wb hj];by_cases ha:a<g.acts j
 . have hO:=Qq3 hW (Qsc (s:=s) (own:=true) hW h.O) (λj hj k hk=>by
    rw[Qjw s _ j hj]; exact Ql9 (by rw[h.A j hj]; exact hk)) (frs g j) (frs g j) (Qan g j).toNat (Vc _) hf (by omega)
   have hs:=Ql9 (l:=s.A j) (k:=a) (by rw[h.A j hj]; exact ha);have hpn:=h.pn j hj a;have hok:=h.ok j hj a ha;unfold Qcf at hok;rw[Qb9 ha];have eo:QcK g (cTC g).F (Qb5 g true s s.O) j=(Qb5 g true s s.O).getD (frs g j*4+(Qan g j).toNat) 0:=rfl;have hq:=Qk1 (a:=QcK g (cTC g).F (Qb5 g true s s.O) j) (p:=((shL s g.is.length).S j).getD a 0) (w:=65536) (by rw[eo]; exact hO) (by rw[Qjw s _ j hj]; exact hs) (by omega);have e3:Qgq (QcK g (cTC g).F (Qb5 g true s s.O) j) (((shL s g.is.length).S j).getD a 0)=qoF (QcK g (cTC g).F (Qb5 g true s s.O) j) (((shL s g.is.length).S j).getD a 0) 65536:=rfl;unfold QaQ;rw[e3,Qp (by omega) (by omega)];omega
 . have:(Qe (g.acts j) (QaQ (QcK g (cTC g).F (Qb5 g true s s.O) j) (s.P j) ((shL s g.is.length).S j))).getD a 0=0:=by
    simp[Qe,ha]
   rw[this];exact Ym _
theorem Qm0 (hW:Wg g) (h:SOk g s):(∀ i,i<g.is.length->((Q8 g (cTC g) s).A i).length=g.acts i)/\(∀ i,i<g.is.length->((Q8 g (cTC g) s).P i).length=g.acts i):=by
 refine⟨λi hi => ?_,λi hi => ?_⟩
 . rw[Qm5]; exact QkP hW h.A _ (Vc _) i hi
 . rw[Qkx,Qji,Wb hi]; simp
theorem Qp1 (hW:Wg g) (h:SOk g s) (hr:s.rnd<1000000) (ho:Qbc g (Q8 g (cTC g) s)):SOk g (Q8 g (cTC g) s):=by
 obtain⟨e1,e2⟩:=Qh1 (g:=g) (s:=s);have hr0:=h.r0;have w1:IntKind.i64.wrap (s.rnd+1)=s.rnd+1:=Qp (by omega) (by omega);obtain⟨l1,l2⟩:=Qm0 hW h;obtain⟨h1,h2,h3,h4,h5,h6,h7⟩:=Qec s g.is.length;refine⟨l1,l2,?_,?_,?_,by rw[e1,w1]; omega,by rw[e1,w1]; omega,by rw[e2]; exact h.sd,ho,QoI hW h⟩
 . simp only[Q8,h3];exact Qld _ h.V _ (Vc _)
 . simp only[Q8,h4];exact QjP hW (Qbo h.R (by have:=hW.gd.n1; omega) _) _ (Vc _)
 . simp only[Q8,h5];exact QjP hW (Qbo h.O (by have:=hW.gd.n1; omega) _) _ (Vc _)
theorem QpO {t:Tin} (h:QP g t=0):SOk g (s0T g t.rnd t.seed t.A t.P):=by
 obtain⟨hW,h1,h2,h3,h4⟩:=QcO h;obtain⟨a1,a2⟩:=QbI hW h3;obtain⟨p1,p2⟩:=QbI hW h4;have hs:0<=t.seed/\t.seed<=2147483646:=by
  unfold QP at h;by_cases hp:g.prpE=0
  . rw[Wa (by simpa using hp)]at h;unfold QaO at h;by_cases hc:t.rnd<0\/1000000<t.rnd\/t.seed<0\/2147483646<t.seed
    . rw[Wb hc]at h; cases h
    . omega
  . rw[Wb hp]at h; exact absurd h hp
 refine⟨λi hi=>(a2 i hi).1,λi hi=>(p2 i hi).1,by simp[s0T,Qv],by simp[s0T,Qv],by simp[s0T,Qv],h1,h2,hs,Qmf h,λi hi a => ?_⟩;simp only[s0T];by_cases ha:a<(t.P.getD i []).length
 . have e:(t.P.getD i []).getD a 0=(t.P.getD i [])[a]:=by rw[Vp,Vb ha]; rfl
   rw[e];exact((p2 i hi).2 _ (Vf ha)).1
 . have:(t.P.getD i []).getD a 0=0:=by rw[Vp,Vl (by omega)]; rfl
   rw[this]; exact Ym _
end
section
variable {g:Gm} {H X:Ws} {t:Tin} {s:TS}
theorem QtP (hW:Wg g) (h:SOk g s) (hr:s.rnd<1000000):Ok Tryz.prog 46 [.agg g.cells,.agg (QQ g s).cells] H (.ret (.tup [.agg (if okB g (Q8 g (cTC g) s)=true then QQ g (Q8 g (cTC g) s)else .zero).cells,i64 (if okB g (Q8 g (cTC g) s)=true then 0 else 5)])) H:=by
 have h1:=ok46 (H:=H) hW (Qny h) h.r0 (Qpd hW h) (QnO hW h) (QiM (own:=false) hW h.R) (QiM (own:=true) hW h.O);have e:=Qwh hW h hr;obtain⟨e1,e2⟩:=Qh1 (g:=g) (s:=s);have hr0:=h.r0;have w1:IntKind.i64.wrap (s.rnd+1)=s.rnd+1:=Qp (by omega) (by omega);obtain⟨l1,l2⟩:=Qm0 hW h;have hz:=QrJ (s:=Q8 g (cTC g) s) hW l1 l2 (by rw[e1,w1]; omega) (by rw[e2]; exact h.sd) (QoI hW h);have hrr:(QQ g s).rnd=s.rnd:=rfl;unfold Qc9 at h1;rw[e,hrr,Wa (by omega)]at h1;by_cases ho:okB g (Q8 g (cTC g) s)=true
 . rw[Wa (by rw[hz.2 (QfL.1 ho)]; simp)]at h1;rw[Wb ho,Wb ho];exact h1
 . rw[Wb (λhh=>ho (QfL.2 (hz.1 hh)))]at h1;rw[Wa ho,Wa ho];exact h1
def zO:AO:=⟨[i64 0,i64 0,nl,nl],30,0,true⟩
end
section
variable {g:Gm} {H X:Ws} {t:Tin} {rr:Int} {A P:Nat->List Int}
theorem PW.split (h:PW g H t rr A P X):X=(H++[Qd g,tB t,zO,nxO g H.length rr t.seed])++X.drop (H.length+4):=by
 have ht:=QdN (H:=H++[Qd g,tB t,zO,nxO g H.length rr t.seed]) (X:=X) λj hj=>by
  by_cases h1:j<H.length
  . rw[Ve h1]; exact h.low j h1
  . have h0:=h.b;have h1':=h.tb;have h2:=h.rb;have h3:=h.nx;rw[Vh (by omega)];have hj':j=H.length\/j=H.length+1\/j=H.length+2\/j=H.length+3:=by
     simp at hj; omega
    rcases hj' with rfl|rfl|rfl|rfl
    . rw[h0]; simp
    . rw[h1']; simp
    . rw[h2]; simp[zO]
    . rw[h3]; simp
 have e:(H++[Qd g,tB t,zO,nxO g H.length rr t.seed]).length=H.length+4:=by simp
 rw[e]at ht;exact ht
end
section
variable {g:Gm} {H X:Ws}
theorem Qnu {t:Tin} (h:QP g t=0):QeT g t:=by
 obtain⟨hW,h1,h2,h3,h4⟩:=QcO h;obtain⟨a1,a2⟩:=QbI hW h3;obtain⟨p1,p2⟩:=QbI hW h4;refine⟨a1,p1,λi hi => ?_,λi hi => ?_⟩
 . have:=(a2 i (by omega)).1; rw[Qd3 hi]at this; exact this
 . have:=(p2 i (by omega)).1; rw[Qd3 hi]at this; exact this
end
end Go.Proofs.YtogjmpkehjfecaaGreatDoor.Rc
namespace Go.Proofs.YtogjmpkehjfecaaGreatDoor.Rc
open Go.Ab
theorem QiB:(SV.val (Value.slice none 0 0)).isSl=true:=rfl
theorem Qit:(SV.val (Value.slice none 0 0)).slen=0:=rfl
section
variable {H:Ws} {g:Gm}
theorem Qqd:Ok Tryz.prog 15 [nl,nl] H (.ret (bl true)) H:=by
 refine Ql hm Tryz.func15 c15 (by simp) λhcl => ?_;simp -implicitDefEqProofs[i15,r15,QiB,Qit];refine Qc hm QfC.eq_1 ?_;simp -implicitDefEqProofs[QiB,Qit];exact Qo
end
end Go.Proofs.YtogjmpkehjfecaaGreatDoor.Rc
namespace Go.Proofs.YtogjmpkehjfecaaGreatDoor.Rc
open Go.Ab Go.Ab.Shr
section
variable {H:Ws} {g:Gm}
set_option maxRecDepth 10000 in
theorem Qu4 {A:List (List Int)} (hA:A.length<=1000) (hAl:∀ l∈A,l.length<=100000) {N:Nat} {K:Wr} (hexit:∀ env,K (.exit 0) env H) :
 ∀ (n i:Nat) (env:Env),i+n=A.length->env.get 0=.slc (sls A) A.length->env.get 1=.slc (sls A) A.length->env.get 5=i64 i->LI Tryz.prog N Qb QfC env H K:=by
 intro n
 induction n with
 |zero =>
  intro i env hi h0 h1 h5;refine Qc hm QfC.eq_1 ?_;have e:i=A.length:=by omega
  subst e;simp -implicitDefEqProofs[h0,h1,h5];exact hexit _
 |succ n ih =>
  intro i env hi h0 h1 h5;refine Qc hm QfC.eq_1 ?_;have hlt:i<A.length:=by omega
  have w1:=Qw (show i<9223372036854775807 by omega);simp -implicitDefEqProofs[h0,h1,h5,hlt,QaE hlt];repeat (refine⟨by omega,?_⟩)
  refine Qa9 (λ_=>Qvj (isl H A[i]) (isl H A[i]) (by have:=hAl _ (Vf hlt); omega)) ?_;simp -implicitDefEqProofs[h5,w1];exact ih (i+1) _ (by omega) (by simp[h0]) (by simp[h1]) (by simp)
theorem QfF {A:List (List Int)} (hA:A.length<=1000) (hAl:∀ l∈A,l.length<=100000):Ok Tryz.prog 15 [.slc (sls A) A.length,.slc (sls A) A.length] H (.ret (bl true)) H:=by
 refine Ql hm Tryz.func15 c15 (by simp[Q3]) λhcl => ?_;simp -implicitDefEqProofs[i15,r15];refine Qu4 (A:=A) hA hAl (λenv => ?_) A.length 0 _ (by omega) (by simp) (by simp) (by simp);simp -implicitDefEqProofs;exact Qo
def Tin.small (T:Tin):Prop:=(T.A.length<=1000/\∀ l∈T.A,l.length<=100000)/\(T.P.length<=1000/\∀ l∈T.P,l.length<=100000)
theorem Qko {T:Tin} (hT:T.small):Ok Tryz.prog 16 [.agg T.cells,.agg T.cells] H (.ret (bl true)) H:=by
 obtain⟨⟨a1,a2⟩,p1,p2⟩:=hT;refine Ql hm Tryz.func16 c16 (by simp[Tin.cells,Q3]) λhcl => ?_;simp -implicitDefEqProofs[i16,r16,Tin.cells];refine Qbv (λ_=>QfF a1 a2) ?_;simp -implicitDefEqProofs;refine Qbv (λ_=>QfF p1 p2) ?_;simp -implicitDefEqProofs;exact Qi 1 hcl rfl (by simp)
theorem Qmj {s s':TS} (hW:Wg g):∀ (m:Nat) (s:TS),SOk g s->s.rnd+m<=1000000->QbT g m s=some s'->SOk g s'
 |0,s,h,_,e=>by simp only[QbT,Option.some.injEq]at e; rw[<-e]; exact h
 |m+1,s,h,hr,e=>by
  simp only[QbT]at e;by_cases ho:okB g (Q8 g (cTC g) s)=true
  . rw[Wb ho]at e;have hr0:=h.r0;obtain⟨e1,e2⟩:=Qh1 (g:=g) (s:=s);have w1:IntKind.i64.wrap (s.rnd+1)=s.rnd+1:=Qp (by omega) (by omega);exact Qmj (s:=s) hW m _ (Qp1 hW h (by omega) (QfL.1 ho)) (by rw[e1,w1]; omega) e
  . rw[Wa ho]at e; cases e
theorem Qhi:Tin.zero.small:=by simp[Tin.small,Tin.zero]
theorem QuA (t:Tin) (n:Int):(Qai g t n).1.small:=by
 unfold Qai;by_cases hc:QP g t=0
 . obtain⟨hW,r1,r2,r3,r4⟩:=QcO hc;rw[Wa (by simpa using hc)];by_cases hb:n<0\/20000<n\/1000000<t.rnd+n
   . rw[Wb hb]; exact Qhi
   . rw[Wa hb]
     cases hr:QbT g n.toNat (s0T g t.rnd t.seed t.A t.P)with
     |none=>exact Qhi
     |some s' =>
      have h:=Qmj (s:=s') hW n.toNat _ (QpO hc) (by show t.rnd+_<=_; omega) hr;have hil:=hW.gd.i;refine⟨⟨by simp[QQ]; omega,λl hl => ?_⟩,by simp[QQ]; omega,λl hl => ?_⟩
      . simp only[QQ,Vj,VE]at hl;obtain⟨j,hj,rfl⟩:=hl;have:=QaV hW hj;rw[h.A j hj]; omega
      . simp only[QQ,Vj,VE]at hl;obtain⟨j,hj,rfl⟩:=hl;have:=QaV hW hj;rw[h.P j hj]; omega
 . rw[Wb hc]; exact Qhi
def Qc0 (L:List (List Int)):Bool:=L.any (λl=>decide (20<l.length))||decide (60<L.length)
set_option maxRecDepth 10000 in
theorem QvI {L:List (List Int)} (hL:L.length<=9223372036854775807) {N:Nat} {K:Wr} (hret:∀ env,L.any (λl=>decide (20<l.length))=true->env.get 2=bl true->K .ret env H) (hexit:L.any (λl=>decide (20<l.length))=false->∀ env,env.get 0=.slc (sls L) L.length->K (.exit 0) env H) :
 ∀ (n i:Nat) (env:Env),i+n=L.length->(∀ j (h:j<L.length),j<i->L[j].length<=20)->env.get 0=.slc (sls L) L.length->env.get 3=i64 i->LI Tryz.prog N Qb Qia env H K:=by
 intro n
 induction n with
 |zero =>
  intro i env hi hp h0 h3;refine Qc hm Qia.eq_1 ?_;have e:i=L.length:=by omega
  subst e;simp -implicitDefEqProofs[h0,h3];refine hexit ?_ _ (by simp[h0]);rw[Bool.eq_false_iff];intro h;simp only[V5,Wd]at h;obtain⟨l,hl,h2⟩:=h;obtain⟨j,hj,rfl⟩:=VH hl;have:=hp j hj hj;omega
 |succ n ih =>
  intro i env hi hp h0 h3;refine Qc hm Qia.eq_1 ?_;have hlt:i<L.length:=by omega
  have w1:=Qw (show i<9223372036854775807 by omega);by_cases hb:20<L[i].length
  . have hb2:(20:Int)<(L[i].length:Int):=by omega
    simp -implicitDefEqProofs[h0,h3,hlt,QaE hlt,sl,hb2];repeat (refine⟨by omega,?_⟩)
    refine hret _ ?_ ?_
    . simp only[V5,Wd];exact⟨_,Vf hlt,hb⟩
    . simp
  . have hb2:¬ (20:Int)<(L[i].length:Int):=by omega
    simp -implicitDefEqProofs[h0,h3,hlt,QaE hlt,sl,hb2,w1];repeat (refine⟨by omega,?_⟩)
    refine ih (i+1) _ (by omega) (λj hj hji => ?_) ?_ ?_
    . by_cases e:j=i
      . subst e; omega
      . exact hp j hj (by omega)
    . simp
    . simp
theorem ok18 {L:List (List Int)} (hL:L.length<=9223372036854775807):Ok Tryz.prog 18 [.slc (sls L) L.length] H (.ret (bl (Qc0 L))) H:=by
 refine Ql hm Tryz.func18 c18 (by simp[Q3]) λhcl => ?_;simp -implicitDefEqProofs[i18,r18];refine QvI hL (λenv h g2 => ?_) (λh env g0 => ?_) L.length 0 _ (by omega) (λj _ h=>absurd h (by omega)) (by simp) (by simp)
 . simp -implicitDefEqProofs[g2];simp only[Qc0,h,Bool.true_or];exact Qo
 . simp -implicitDefEqProofs[g0];have:Qc0 L=decide (60<L.length):=by simp only[Qc0,h,Zq]
   have e2:decide ((60:Int)<(L.length:Int))=decide (60<L.length):=decide_eq_decide.2 (by omega);rw[this,<- e2];exact Qo
end
section
variable {H:Ws}
theorem Qk9 (p i:Int) {k n v:Nat} (hk:k<H.length):Ok Tryz.prog 27 [i64 p,i64 i,.own k 0 n 1 v] H (.ret (.agg [i64 2,i64 p,i64 i,.own k 0 n 1 v,nl,nl])) H:=by
 refine Ql hm Tryz.func27 c27 (by simp[SV.under,hk]) λhcl => ?_;simp -implicitDefEqProofs[i27,r27];exact⟨rfl,Qi 2 hcl rfl (QaA (by simp[SV.under,hk]))⟩
theorem Qe5 (p:Int) (hp : -1000<=p/\p<=1000):Ok Tryz.prog 28 [i64 p] H (.ret (.agg [i64 3,i64 0,i64 0,nl,nl,.slc (Qa [p,-p]) 2])) H:=by
 refine Ql hm Tryz.func28 c28 (by simp) λhcl => ?_;have w1:IntKind.i64.wrap (-p) = -p:=Qp (by omega) (by omega);simp -implicitDefEqProofs[i28,r28,w1];exact⟨rfl,Qi 3 hcl rfl (by simp[Qa])⟩
def exG:Gm:=⟨2,[⟨2,0,0,[1,2],[],[]⟩,⟨3,0,0,[],[],[1,-1]⟩,⟨2,1,1,[3,4],[],[]⟩,⟨3,0,0,[],[],[0,0]⟩,⟨2,0,2,[5,6,7],[],[]⟩,⟨3,0,0,[],[],[2,-2]⟩,⟨3,0,0,[],[],[-1,1]⟩,⟨3,0,0,[],[],[3,-3]⟩],[(0,2),(1,2),(0,3)]⟩
set_option maxRecDepth 10000 in
theorem ok7:Ok Tryz.prog 7 [] H (.ret (.agg exG.cells)) H:=by
 refine Ql hm Tryz.func7 c7 (by simp) λhcl => ?_;have h47:=λH p hp=>Qe5 (H:=H) p hp;simp -implicitDefEqProofs[i7,r7];refine Qh (Qk9 0 0 (by simp)) ?_;simp -implicitDefEqProofs;refine Qh (Qe5 1 (by omega)) ?_;simp -implicitDefEqProofs;refine Qh (Qk9 1 1 (by simp)) ?_;simp -implicitDefEqProofs;refine Qh (Qe5 0 (by omega)) ?_;simp -implicitDefEqProofs;refine Qh (Qk9 0 2 (by simp)) ?_;simp -implicitDefEqProofs;refine Qh (Qe5 2 (by omega)) ?_;simp -implicitDefEqProofs;refine Qh (Qe5 (-1) (by omega)) ?_;simp -implicitDefEqProofs;refine Qh (Qe5 3 (by omega)) ?_;simp -implicitDefEqProofs;refine⟨rfl,Cv.le (Qi 5 hcl rfl rfl) ?_⟩;have e1:(1+1:Nat)=2:=rfl;simp[Qa,exG,Gm.cells,nds,Nd.cells,Qu,sl];refine Qgh (leL.cons (SV.le.refl _) (leL.cons (Qt7 ?_ _) (leL.refl _)));repeat (first|exact leL.nil|refine leL.cons (SV.le.refl _) ?_|refine leL.cons QdP ?_)
end
def QbF (g:Gm):Tin×Int:=if g.prpE≠0 then(.zero,g.prpE)else(⟨0,0,(List.range g.is.length).map (Qad g),(List.range g.is.length).map (Qad g)⟩,0)
section
variable {H:Ws} {g:Gm}
set_option maxRecDepth 10000 in
theorem ok8:Ok Tryz.prog 8 [.agg g.cells] H (.ret (.tup [.agg (QbF g).1.cells,i64 (QbF g).2])) H:=by
 refine Ql hm Tryz.func8 c8 (by simp[Gm.cells,Q5,Q6]) λhcl => ?_;have h36:=λH=>ok29 (H:=H) (g:=g);simp only[Gm.cells]at h36;simp -implicitDefEqProofs[i8,r8,Gm.cells];refine Qh (h36 _) ?_;by_cases hp:g.prpE=0
 . have hW:Wg g:=QeR hp;have e:QbF g=(⟨0,0,(List.range g.is.length).map (Qad g),(List.range g.is.length).map (Qad g)⟩,0):=by unfold QbF; rw[Wa (by simpa using hp)]
   have h37:=λH=>QjT (H:=H) hW;simp only[Gm.cells]at h37;simp -implicitDefEqProofs[hp];refine Qh (h37 _) ?_;simp -implicitDefEqProofs;refine Qh (h37 _) ?_;have hb:=Qes g g.is.length;have hbr:=Qht g g.is.length;generalize QaK g g.is.length=M at *;simp -implicitDefEqProofs;rw[e];have hcv:=λ(L:Ws) (r:SV) (h:SV.fz H.length [] L 6 r=.tup [.agg (Tin.mk 0 0 ((List.range g.is.length).map (Qad g)) ((List.range g.is.length).map (Qad g))).cells,i64 0])=>Qi (n0:=H.length) (H:=H) (L:=L) 6 hcl rfl h;refine hcv _ _ ?_;have key:∀ (L:Ws) (a b:Nat) (qa qb:Nat->Nat),L[a]? = some ⟨Qx g.is.length qa g.acts 0,45,0,true⟩->L[b]? = some ⟨Qx g.is.length qb g.acts 0,45,0,true⟩->(∀ i,i<g.is.length->H.length<=qa i/\L[qa i-H.length]? = some (Q0 0 (Qv (g.acts i))))->(∀ i,i<g.is.length->H.length<=qb i/\L[qb i-H.length]? = some (Q0 0 (Qv (g.acts i)))) ->
    SV.fz H.length [] L 6 (.tup [.agg [i64 0,i64 0,.own (H.length+a) 0 g.is.length 1 0,.own (H.length+b) 0 g.is.length 1 0],i64 0])=.tup [.agg (Tin.mk 0 0 ((List.range g.is.length).map (Qad g)) ((List.range g.is.length).map (Qad g))).cells,i64 0]:=by
    intro L a b qa qb ha hb hqa hqb;have at':∀ k,H.length<=k->(H++L)[k]? = L[k-H.length]? := λk hk=>by rw[Vh hk]
    have fS:=QcM (H:=H) (G:=H++L) (p:=H.length+a) (A:=Qad g) (by omega) (by rw[at' _ (by omega),show H.length+a-H.length=a by omega]; exact ha) (λi hi=>⟨(hqa i hi).1,by rw[at' _ (hqa i hi).1]; exact(hqa i hi).2,by simp[Qad,Qv]⟩) 1;have fP:=QcM (H:=H) (G:=H++L) (p:=H.length+b) (A:=Qad g) (by omega) (by rw[at' _ (by omega),show H.length+b-H.length=b by omega]; exact hb) (λi hi=>⟨(hqb i hi).1,by rw[at' _ (hqb i hi).1]; exact(hqb i hi).2,by simp[Qad,Qv]⟩) 1;rw[List.drop_left]at fS fP;simp only[Qd8,Vn,VF,Qe9,Qdd,Nat.reduceAdd,fS,fP];simp[Tin.cells]
   refine key _ 3 (M.length+5) (pB (H.length+2)) (pB (H.length+(M.length+4))) rfl ?_ (λi hi=>⟨by unfold pB; omega,?_⟩) (λi hi=>⟨by unfold pB; omega,?_⟩)
   . rw[show M.length+5=(M.length+1)+4 by omega];simp only[V7];rw[Vh (by omega),show M.length+1-M.length=1 by omega]; rfl
   . rw[show pB (H.length+2) i-H.length=(2*i+1)+4 by unfold pB; omega];simp only[V7];rw[Ve (by omega)]; exact hbr i hi
   . rw[show pB (H.length+(M.length+4)) i-H.length=(M.length+(2*i+1+2))+4 by unfold pB; omega];simp only[V7];rw[Vh (by omega),show M.length+(2*i+1+2)-M.length=2*i+1+2 by omega];simp only[V7];exact hbr i hi
 . have e:QbF g=(.zero,g.prpE):=by unfold QbF; rw[Wb hp]
   rw[e];simp -implicitDefEqProofs[hp];exact⟨rfl,Qek hcl _ _⟩
end
section
variable {H:Ws} {g:Gm}
theorem ok10 (t:Tin):Ok Tryz.prog 10 [.agg g.cells,.agg t.cells] H (.ret (.tup [.agg (Qai g t 1).1.cells,i64 (Qai g t 1).2])) H:=by
 refine Ql hm Tryz.func10 c10 (by simp[Gm.cells,Q5,Q6,Tin.cells,Q3]) λhcl => ?_;have h8:=λH=>ok11 (H:=H) (g:=g) t 1 (by omega);simp only[Gm.cells,Tin.cells]at h8;simp -implicitDefEqProofs[i10,r10,Gm.cells,Tin.cells];refine Qh (h8 _) ?_;simp -implicitDefEqProofs;exact Qi 3 hcl rfl (QaA (by simp[SV.under,Q3]))
end
structure ZW (g:Gm) (H:Ws) (t:Tin) (A:Nat->List Int) (q:List Int) (X:Ws):Prop where
 tb:X[H.length+1]? = some (tB t)
 oo:X[H.length+3]? = some ⟨Qx g.is.length (pB (H.length+2)) g.acts 0,45,0,true⟩
 r:∀ i,i<g.is.length->X[pB (H.length+2) i]? = some ⟨Qa (A i),3,0,true⟩
 od:X[H.length+4+2*g.is.length]? = some ⟨Qa q,62,0,true⟩
 l:∀ i,i<g.is.length->(A i).length=g.acts i
 lq:q.length=10
 low:∀ j,j<H.length->X[j]? = H[j]?
section
variable {H X:Ws} {g:Gm} {t:Tin} {A:Nat->List Int} {q:List Int}
theorem ZW.sh (hW:Wg g) (h:ZW g H t A q X) {j:Nat} (hj:j<g.is.length) {l:List Int} (hl:ShO l) (hll:l.length=g.acts j) :
 ∃ X',Ok Tryz.prog 31 [sl l,.own (pB (H.length+2) j) 0 (g.acts j) 1 0,.own (H.length+4+2*g.is.length) 0 (g.acts j) 1 0] X (.ret (.tup [])) X'/\ZW g H t (upA A j (QG l)) (((QZ l).map λ(n:Nat)=>(n:Int))++q.drop l.length) X':=by
 have hac:=QaV hW hj;have hlA:=h.l j hj;have hlq:=h.lq;have hne:pB (H.length+2) j≠H.length+4+2*g.is.length:=by unfold pB; omega
 have hP:P2 X (pB (H.length+2) j) (H.length+4+2*g.is.length):=⟨Qg (h.r j hj),Qg h.od,hne⟩;have hG:G2 X (pB (H.length+2) j) (H.length+4+2*g.is.length) ⟨Qa (A j),3,0,true⟩ (oI [] (q.take (g.acts j)) (Qa (q.drop (g.acts j))) 62 0)=X:=by
  refine Qmo (h.r j hj) ?_;rw[h.od];have e:Qa q=Qa (q.take (g.acts j))++Qa (q.drop (g.acts j)):=by
   simp only[Qa,<- V8,YF]
  unfold oI;rw[VW,<- e]
 obtain⟨a1,a2,a3⟩:=hl;have key:=ok31 (H:=X) (a:=pB (H.length+2) j) (k:=H.length+4+2*g.is.length) (va:=0) (v:=0) (T:=62) (C:=[]) (D:=Qa (q.drop (g.acts j))) (x:=sl l) (l:=l) (o0:=A j) (p0:=q.take (g.acts j)) hP ⟨rfl,by simp⟩ (λo p L=>isl _ l) a1 a2 a3 (by rw[hlA,hll]) (by rw[Zb,hll]; omega);rw[hG,hll]at key;refine⟨_,key,?_⟩;have e:oN [] (QZ l) (Qa (q.drop (g.acts j))) 62 0=⟨Qa (((QZ l).map λ(n:Nat)=>(n:Int))++q.drop l.length),62,0,true⟩:=by
  rw[hll];simp[oN,Qa4,Qa]
 rw[e];have ne:∀ {k:Nat} {x:Option AO},pB (H.length+2) j≠k->H.length+4+2*g.is.length≠k->X[k]? = x->(G2 X (pB (H.length+2) j) (H.length+4+2*g.is.length) ⟨Qa (QG l),3,0,true⟩ ⟨Qa (((QZ l).map λ(n:Nat)=>(n:Int))++q.drop l.length),62,0,true⟩)[k]? = x:=λhn hn2 hx=>by unfold G2; rw[Vd hn2,Vd hn]; exact hx
 refine⟨ne (by unfold pB; omega) (by omega) h.tb,ne (by unfold pB; omega) (by omega) h.oo,λi hi => ?_,?_,λi hi => ?_,?_,λi hi => ?_⟩
 . by_cases e2:i=j
   . subst e2;have:=Qgv (L:=[]) (Qg (h.r i hi)) hne (o:=⟨Qa (QG l),3,0,true⟩) (p:=⟨Qa (((QZ l).map λ(n:Nat)=>(n:Int))++q.drop l.length),62,0,true⟩);rw[Vr]at this;rw[this]; simp[upA]
   . rw[ne (x:=X[pB (H.length+2) i]?) (by unfold pB; omega) (by unfold pB; omega) rfl,h.r i hi];simp[upA,e2]
 . have:=Qg1 (L:=[]) (a:=pB (H.length+2) j) (Qg h.od) (o:=⟨Qa (QG l),3,0,true⟩) (p:=⟨Qa (((QZ l).map λ(n:Nat)=>(n:Int))++q.drop l.length),62,0,true⟩);rw[Vr]at this;exact this
 . unfold upA; split
   . rename_i e2; rw[e2,Qfy]; exact hll
   . exact h.l i hi
 . simp[QmP]; omega
 . exact ne (by unfold pB; omega) (by omega) (h.low i hi)
def shA (g:Gm) (L:List (List Int)):Nat->Nat->List Int
 |0=>Qad g
 |i+1=>upA (shA g L i) i (QG (L.getD i []))
def sqA (L:List (List Int)):Nat->List Int
 |0=>Qv 10
 |i+1=>((QZ (L.getD i [])).map λ(n:Nat)=>(n:Int))++(sqA L i).drop (L.getD i []).length
set_option maxRecDepth 10000 in
theorem QsH (hW:Wg g) (hT:QeT g t) (hS:∀ l∈t.A,ShO l) {N:Nat} {K:Wr}
 (hexit:∀ env X,ZW g H t (shA g t.A g.is.length) (sqA t.A g.is.length) X->env.get 7=.own (H.length+3) 0 g.is.length 1 0->K (.exit 0) env X) :
 ∀ (m i:Nat) (X:Ws) (env:Env),i+m=g.is.length->ZW g H t (shA g t.A i) (sqA t.A i) X->env.get 3=.ptr (.own (H.length+1) 0 0 0 0) 0->env.get 7=.own (H.length+3) 0 g.is.length 1 0->env.get 8=.ptr (.own (H.length+4+2*g.is.length) 0 0 0 0) 0->env.get 19=.own (H.length+3) 0 g.is.length 1 0->env.get 20=i64 g.is.length->env.get 21=i64 i ->
  LI Tryz.prog N Qb QiR env X K:=by
 have hil:=hW.gd.i;intro m
 induction m with
 |zero =>
  intro i X env hi h h3 h7 h8 h19 h20 h21;refine Qc hm QiR.eq_1 ?_;have e:i=g.is.length:=by omega
  subst e;simp -implicitDefEqProofs[h20,h21];exact hexit _ X h (by simp[h7])
 |succ m ih =>
  intro i X env hi h h3 h7 h8 h19 h20 h21;refine Qc hm QiR.eq_1 ?_;have hii:i<g.is.length:=by omega
  obtain⟨n1,n2⟩:=QaV hW hii;have w1:=Qw (show i<9223372036854775807 by omega);have hiA:i<t.A.length:=by rw[hT.la]; exact hii
  have lA:=hT.a i hiA;obtain⟨X',k1,k2⟩:=h.sh hW hii (hS _ (Vf hiA)) lA;have eA:upA (shA g t.A i) i (QG t.A[i])=shA g t.A (i+1):=by simp[shA,hiA]
  have eQ:((QZ t.A[i]).map λ(n:Nat)=>(n:Int))++(sqA t.A i).drop t.A[i].length=sqA t.A (i+1):=by simp[sqA,hiA]
  rw[eA,eQ]at k2;have hTb:=QC h.tb [];have hOo:=QC h.oo [];have hOd:=QC h.od [];simp only[Vr]at hTb hOo hOd;have hq:=h.lq;have hca:SV.cutA 1 0 (g.acts i) (.ptr (.own (H.length+4+2*g.is.length) 0 0 0 0) 0)=.own (H.length+4+2*g.is.length) 0 (g.acts i) 1 0:=by simp[SV.cutA]
  simp -implicitDefEqProofs[h3,h7,h8,h19,h20,h21,hTb,hOo,hOd,tB,Tin.cells,hii,hiA,QaE hiA,hca];refine⟨by omega,by omega,⟨by omega,by omega⟩,Qh k1 ?_⟩;simp -implicitDefEqProofs[h3,h7,h8,h19,h20,h21,w1];exact ih (i+1) _ _ (by omega) k2 (by simp[h3]) (by simp[h7]) (by simp[h8]) (by simp[h19]) (by simp[h20]) (by simp)
theorem QlV {L:List (List Int)}:∀ (n j:Nat),j<n->shA g L n j=QG (L.getD j [])
 |0,j,h=>absurd h (by omega)
 |n+1,j,h=>by
  simp only[shA,upA];by_cases e:j=n
  . rw[Wb e,e]
  . rw[Wa e]; exact QlV n j (by omega)
theorem ok9 (hW:Wg g) (hc:QP g t=0) (hT:QeT g t) (hS:∀ l∈t.A,ShO l):Ok Tryz.prog 9 [.agg g.cells,.agg t.cells] H (.ret (.tup [.slc (sls ((List.range g.is.length).map λj=>QG (t.A.getD j []))) g.is.length,i64 0])) H:=by
 refine Ql hm Tryz.func9 c9 (by simp[Gm.cells,Q5,Q6,Tin.cells,Q3]) λhcl => ?_;have h16:=λH=>Qfz (H:=H) (g:=g) (t:=t);have h37:=λH=>QjT (H:=H) hW;simp only[Gm.cells,Tin.cells]at h16 h37;simp -implicitDefEqProofs[i9,r9,Gm.cells,Tin.cells];refine Qh (h16 _) ?_;simp -implicitDefEqProofs[hc];refine Qh (h37 _) ?_;have hb:=Qes g g.is.length;have hbr:=Qht g g.is.length;generalize QaK g g.is.length=M at *;have h0:ZW g H t (Qad g) (Qv 10) (H++Qd g::tB t::Qd g::⟨Qx g.is.length (pB (H.length+2)) g.acts 0,45,0,true⟩::(M++[⟨Qa (Qv 10),62,0,true⟩])):=by
  refine⟨?_,?_,λi hi => ?_,?_,λi hi=>by simp[Qad,Qv],by simp[Qv],λj hj=>by rw[Ve hj]⟩
  . rw[Vh (by omega)]; simp
  . rw[Vh (by omega)]; simp
  . rw[Vh (by unfold pB; omega),show pB (H.length+2) i-H.length=(2*i+1)+4 by unfold pB; omega];simp only[V7];rw[Ve (by omega)]; exact hbr i hi
  . rw[Vh (by omega),show H.length+4+2*g.is.length-H.length=M.length+4 by omega];simp only[V7];rw[Vh (by omega)]; simp
 have ez:Qa (Qv 10)=[i64 0,i64 0,i64 0,i64 0,i64 0,i64 0,i64 0,i64 0,i64 0,i64 0]:=rfl;have ep:H.length+(M.length+4)=H.length+4+2*g.is.length:=by omega
 rw[ez]at h0;simp -implicitDefEqProofs;refine QsH (H:=H) (t:=t) hW hT hS (λenv X h g7 => ?_) g.is.length 0 _ _ (by omega) h0 (by simp) (by simp) (by simp[ep]) (by simp) (by simp) (by simp);simp -implicitDefEqProofs[g7];have fS:=QcM (H:=H) (G:=X) (p:=H.length+3) (A:=λj=>QG (t.A.getD j [])) (by omega) h.oo (λi hi=>⟨by unfold pB; omega,by rw[h.r i hi,QlV _ _ hi],by have:=h.l i hi; rw[QlV _ _ hi]at this; exact this⟩) 1;have hfz:SV.fz H.length [] (X.drop H.length) 5 (.tup [.own (H.length+3) 0 g.is.length 1 0,i64 0])=.tup [.slc (sls ((List.range g.is.length).map λj=>QG (t.A.getD j []))) g.is.length,i64 0]:=by
  simp only[Qd8,Vn,VF,Qdd,Nat.reduceAdd,fS]
 have:=Qi (n0:=H.length) (H:=H) (L:=X.drop H.length) 5 hcl rfl hfz;rw[<-QdN h.low]at this;exact this
end
def QkH:Tin:=⟨0,0,[[0,0],[0,0],[0,0,0]],[[0,0],[0,0],[0,0,0]]⟩
def QcP:Tin:=⟨1,0,[[171,-171],[341,-341],[341,-1194,853]],[[536870912,536870912],[536870912,536870912],[178962432,178954240,178954240]]⟩
theorem Qvk:QbF exG=(QkH,0):=by kernel_rfl
theorem Qrf:Qai exG QkH 1=(QcP,0):=by kernel_rfl
theorem QkM:QP exG QcP=0:=by kernel_rfl
theorem Qtd:(List.range exG.is.length).map (λj=>QG (QcP.A.getD j []))=[[65536,0],[65536,0],[18717,0,46819]]:=by kernel_rfl
section
variable {H:Ws}
theorem QvT:∀ l∈QcP.A,ShO l:=by
 intro l hl;simp only[QcP,Vi,VP,Wi]at hl;rcases hl with rfl|rfl|rfl<;>refine⟨by decide,by decide,λv hv => ?_⟩<;>simp at hv<;>omega
theorem Qpi {X:Ws} {p q0 q1 q2:Nat} {l0 l1 l2:List Int} (h:X[p]? = some ⟨[.own q0 0 l0.length 1 0,.own q1 0 l1.length 1 0,.own q2 0 l2.length 1 0],45,0,true⟩) (h0:X[q0]? = some ⟨Qa l0,3,0,true⟩) (h1:X[q1]? = some ⟨Qa l1,3,0,true⟩) (h2:X[q2]? = some ⟨Qa l2,3,0,true⟩) :
 SV.fz 0 [] X 4 (.own p 0 3 1 0)=.slc (sls [l0,l1,l2]) 3:=by
 have:=QcM (H:=[]) (G:=X) (I:=3) (p:=p) (q:=λi=>[q0,q1,q2].getD i 0) (n:=λi=>[l0.length,l1.length,l2.length].getD i 0) (A:=λi=>[l0,l1,l2].getD i []) (v:=0) (w:=0) (T:=45) (by simp) (by rw[h]; rfl) (λi hi=>by
  have hi3:i=0\/i=1\/i=2:=by omega
  rcases hi3 with rfl|rfl|rfl
  . exact⟨by simp,h0,rfl⟩
  . exact⟨by simp,h1,rfl⟩
  . exact⟨by simp,h2,rfl⟩) 1
 exact this
set_option maxRecDepth 10000 in
theorem ok6:Ok Tryz.prog 6 [] H (.ret (bl true)) H:=by
 refine Ql hm Tryz.func6 c6 (by simp) λhcl => ?_;have h13:=λH=>ok8 (H:=H) (g:=exG);have h15:=λH=>ok10 (H:=H) (g:=exG) QkH;have h14:=λH=>ok9 (H:=H) (g:=exG) (t:=QcP) (QcO QkM).1 QkM (Qnu QkM) QvT;rw[Qvk]at h13;rw[Qrf]at h15;rw[Qtd]at h14;simp only[Tin.cells]at h13 h15 h14;simp -implicitDefEqProofs[i6,r6];refine Qh ok7 ?_;simp -implicitDefEqProofs;refine Qh (h13 _) ?_;simp -implicitDefEqProofs;refine Qa9 (λ_=>ok7) ?_;simp -implicitDefEqProofs;refine Qa9 (λ_=>h15 _) ?_;simp -implicitDefEqProofs;refine Qa9 (λ_=>ok7) ?_;simp -implicitDefEqProofs;refine Qa9 (λ_=>h14 _) ?_;simp -implicitDefEqProofs;have e1:∀ L:Ws,SV.fz 0 [] (H++L) 4 (.slc (sls QcP.A) QcP.A.length)=.slc (sls QcP.A) QcP.A.length:=λL=>QaA (by simp[Q3]);have at':∀ (L:Ws) (k:Nat),(H++L)[H.length+k]? = L[k]? := λL k=>by rw[Vh (by omega)]; congr 1; omega
 refine Qbv (r:=bl true) (λ_=>Ok.fz 4 ?_) ?_
 . simp only[Vn,VF,SV.strip,e1];rw[Qpi (l0:=[171,-171]) (l1:=[341,-341]) (l2:=[341,-1194,853]) (by rw[at' _ 4]; rfl) (by rw[at' _ 1]; rfl) (by rw[at' _ 2]; rfl) (by rw[at' _ 3]; rfl)];exact QfF (A:=QcP.A) (by decide) (by decide)
 simp -implicitDefEqProofs;have e2:∀ L:Ws,SV.fz 0 [] (H++L) 4 (.slc (sls [[65536,0],[65536,0],[18717,0,46819]]) exG.is.length)=.slc (sls [[65536,0],[65536,0],[18717,0,46819]]) exG.is.length:=λL=>QaA (by simp[Q3]);refine Qbv (r:=bl true) (λ_=>Ok.fz 4 ?_) ?_
 . simp only[Vn,VF,SV.strip,e2];rw[Qpi (l0:=[65536,0]) (l1:=[65536,0]) (l2:=[18717,0,46819]) (by rw[at' _ 8]; rfl) (by rw[at' _ 5]; rfl) (by rw[at' _ 6]; rfl) (by rw[at' _ 7]; rfl)];exact QfF (A:=[[65536,0],[65536,0],[18717,0,46819]]) (by decide) (by decide)
 simp -implicitDefEqProofs;exact Qi 1 hcl rfl (by simp)
end
end Go.Proofs.YtogjmpkehjfecaaGreatDoor.Rc
namespace Go.Proofs.YtogjmpkehjfecaaGreatDoor.Rc
open Go.Ab Go.Ab.Lm
def qC (q:Qr):Wt:=[bl q.neg,nS q.n,nS q.d]
theorem Qdl (q:Qr):(qC q).length=3:=rfl
def QU (l:List Qr):SV:=.slc (rws qC l) l.length
def Qat (L:List (List Qr)):SV:=.slc (L.map QU) L.length
def Qc3 (x y:Int):Qr:=low (decide (x<0) != decide (y<0)) x.natAbs y.natAbs
theorem Ql4 (x y:Int):QeD x y=.agg (qC (Qc3 x y)):=rfl
def QV:List Int->Int
 |[]=>0
 |x::r=>x+QV r
def Qm (l:List Int):List Qr:=l.map λx=>if QV l=0 then Qc3 1 l.length else Qc3 x (QV l)
theorem Qkv:∀ (a b:List Int),QV (a++b)=QV a+QV b
 |[],b=>by simp[QV]
 |x::a,b=>by simp only[V6,QV,Qkv a b]; omega
theorem Qex:∀ {l:List Int},(∀ x∈l,0<=x/\x<=70368744177664)->0<=QV l/\QV l<=70368744177664*l.length
 |[],_=>by simp[QV]
 |x::r,h=>by
  have h1:=h x (by simp);have h2:=Qex (l:=r) λy hy=>h y (VJ _ hy);simp only[QV,VL];omega
section
variable {H X:Ws}
set_option maxRecDepth 10000 in
theorem Qqy {l:List Int} (hl:l.length<=10) (hr:∀ x∈l,0<=x/\x<=70368744177664) {x7 x8 x9 x30 x31 x32:SV} {N:Nat} {K:Wr}
 (hexit:∀ env,env.get 7=x7->env.get 8=x8->env.get 9=x9->env.get 30=x30->env.get 31=x31->env.get 32=x32->env.get 10=i64 (QV l)->K (.exit 2) env X) :
 ∀ (m i:Nat) (env:Env),i+m=l.length->env.get 7=x7->env.get 8=x8->env.get 9=x9->env.get 30=x30->env.get 31=x31->env.get 32=x32->env.get 10=i64 (QV (l.take i))->env.get 37=sl l->env.get 38=i64 l.length->env.get 39=i64 i ->
  LI Tryz.prog N Qb QjH env X K:=by
 intro m
 induction m with
 |zero =>
  intro i env hi h7 h8 h9 h30 h31 h32 h10 h37 h38 h39;refine Qc hm' QjH.eq_1 ?_;have e:i=l.length:=by omega
  subst e;rw[Yq]at h10;simp -implicitDefEqProofs[h38,h39];exact hexit _ (by simp[h7]) (by simp[h8]) (by simp[h9]) (by simp[h30]) (by simp[h31]) (by simp[h32]) (by simp[h10])
 |succ m ih =>
  intro i env hi h7 h8 h9 h30 h31 h32 h10 h37 h38 h39;refine Qc hm' QjH.eq_1 ?_;have hil:i<l.length:=by omega
  have h1:=hr _ (Vf hil);have h2:=Qex (l:=l.take i) λx hx=>hr x (Ya hx);have h3:(l.take i).length=i:=by simp; omega
  have hs:QV (l.take (i+1))=QV (l.take i)+l[i]:=by
   rw[YK hil,Qkv];simp[QV]
  have w1:=Qw (show i<9223372036854775807 by omega);have ws:IntKind.i64.wrap (QV (l.take i)+l[i])=QV (l.take (i+1)):=by rw[hs]; exact Qp (by omega) (by omega)
  simp -implicitDefEqProofs[h7,h8,h9,h30,h31,h32,h10,h37,h38,h39,hil,sl,ws];repeat (refine⟨by omega,?_⟩)
  refine ih (i+1) _ (by omega) ?_ ?_ ?_ ?_ ?_ ?_ ?_ ?_ ?_ ?_
  . simp[h7]
  . simp[h8]
  . simp[h9]
  . simp[h30]
  . simp[h31]
  . simp[h32]
  . simp
  . simp[sl]
  . simp
  . simp[w1]
def zc3 (k:Nat):Wt:=rws (λ_:Nat=>[bl false,nl,nl]) (List.range k)
theorem QkY {α β:Type} (f:β->Wt) (k:α->β):∀ l:List α,rws f (l.map k)=rws (λx=>f (k x)) l
 |[]=>rfl
 |x::r=>by simp only[Vn,rws,QkY f k r]
set_option maxRecDepth 10000 in
theorem Qq7 {l:List Int} (hl:l.length<=10) (h0:0<l.length) (hr:∀ x∈l,0<=x/\x<=70368744177664) {A C:Ws} {i0 p n:Nat} {cs:Wt} {x30 x31 x32:SV} (hi0:i0<cs.length) (hcs:cs[i0]? = some (.own p 0 l.length 3 0)) (hn:n=cs.length) (hp:p=A.length+(C.length+1)) {N:Nat} {K:Wr}
 (hexit:∀ env G,Cl 0 G->env.get 7=.own A.length 0 n 1 0->env.get 30=x30->env.get 31=x31->env.get 32=x32->K (.exit 4) env (A++⟨cs,74,0,true⟩::(C++⟨rws qC (Qm l),78,0,true⟩::G))) :
 ∀ (m i:Nat) (env:Env) (G:Ws),i+m=l.length->Cl 0 G->env.get 7=.own A.length 0 n 1 0->env.get 8=i64 i0->env.get 9=sl l->env.get 10=i64 (QV l)->env.get 30=x30->env.get 31=x31->env.get 32=x32->env.get 53=sl l->env.get 54=i64 l.length->env.get 55=i64 i ->
  LI Tryz.prog N Qb QgF env (A++⟨cs,74,0,true⟩::(C++⟨rws qC ((Qm l).take i)++zc3 m,78,0,true⟩::G)) K:=by
 have hsr:=Qex hr;have hal:(Qm l).length=l.length:=by simp[Qm]
 intro m
 induction m with
 |zero =>
  intro i env G hi hG h7 h8 h9 h10 h30 h31 h32 h53 h54 h55;refine Qc hm' QgF.eq_1 ?_;have e:i=l.length:=by omega
  subst e;have e2:rws qC ((Qm l).take l.length)++zc3 0=rws qC (Qm l):=by
   rw[<-hal,Yq]; simp[zc3,rws]
  rw[e2];simp -implicitDefEqProofs[h54,h55];exact hexit _ G hG (by simp[h7]) (by simp[h30]) (by simp[h31]) (by simp[h32])
 |succ m ih =>
  intro i env G hi hG h7 h8 h9 h10 h30 h31 h32 h53 h54 h55;refine Qc hm' QgF.eq_1 ?_;have hil:i<l.length:=by omega
  have h1:=hr _ (Vf hil);have w1:=Qw (show i<9223372036854775807 by omega);have hav:(Qm l)[i]'(by omega)=if QV l=0 then Qc3 1 l.length else Qc3 l[i] (QV l):=by simp[Qm]
  have hq:=λH (x y:Int) hy hx1 hy1=>ok36 (H:=H) (x:=x) (y:=y) hy hx1 hy1;simp only[Ql4]at hq;have hc0:cs[i0]?.getD .any=.own p 0 l.length 3 0:=by rw[hcs]; rfl
  have hc1:∀ h,cs[i0]'h=.own p 0 l.length 3 0:=λh=>by
   rw[Vb h]at hcs;simpa using hcs
  have hz3:(zc3 (m+1)).length=(m+1)*3:=by rw[zc3,QdM (λ_=>rfl)]; simp
  have htl:(rws qC ((Qm l).take i)).length=i*3:=by rw[QdM Qdl]; simp; omega
  have hRl:(rws qC ((Qm l).take i)++zc3 (m+1)).length=l.length*3:=by simp only[VG,hz3,htl]; omega
  have hia:i<(Qm l).length:=by omega
  have hset:List.take (i*3) (rws qC ((Qm l).take i)++zc3 (m+1))++(qC (Qm l)[i]++List.drop (i*3+3) (rws qC ((Qm l).take i)++zc3 (m+1)))=rws qC ((Qm l).take (i+1))++zc3 m:=by
   have e1:zc3 (m+1)=bl false::nl::nl::zc3 m:=by
    simp only[zc3];rw[show m+1=1+m by omega,List.range_add,Qgd];simp only[QkY];rfl
   have e2:List.drop (i*3+3) (rws qC ((Qm l).take i)++zc3 (m+1))=zc3 m:=by
    rw[<-List.drop_drop,<- htl,List.drop_left,e1]; rfl
   rw[e2,<- htl,List.take_left,YK hia,Qgd,VQ];rfl
  have hih:=ih (i+1);rw[<-hset]at hih;generalize rws qC ((Qm l).take i)++zc3 (m+1)=R at *;by_cases hz:QV l=0
  . have h36:=λH=>hq H 1 l.length (by omega) (by decide) (by omega);rw[Wb hz]at hav;rw[<-hav]at h36;generalize (Qm l)[i]=q at *;simp only[qC,V6,VW]at h36 hih;simp -implicitDefEqProofs[h7,h8,h9,h10,h30,h31,h32,h53,h54,h55,hil,sl,hz];repeat (refine⟨by omega,?_⟩)
    refine Qh (h36 _) ?_;subst hp;simp -implicitDefEqProofs[h7,h8,h9,h10,h30,h31,h32,h53,h54,h55,hil,sl,hz,hc0,hc1,hRl];refine⟨⟨rfl,rfl⟩,by omega,by omega,⟨rfl,rfl⟩,by omega,?_⟩;refine hih _ _ (by omega) (hG.app (Cl.cons (by simp[SV.underL,SV.under,QbX]) (Cl.nil _))) ?_ ?_ ?_ ?_ ?_ ?_ ?_ ?_ ?_ ?_
    . simp
    . simp
    . simp[sl]
    . simp[hz]
    . simp[h30]
    . simp[h31]
    . simp[h32]
    . simp[sl]
    . simp
    . simp[w1]
  . have h36:=λH=>hq H l[i] (QV l) hz (by omega) (by omega);rw[Wa hz]at hav;rw[<-hav]at h36;generalize (Qm l)[i]=q at *;simp only[qC,V6,VW]at h36 hih;simp -implicitDefEqProofs[h7,h8,h9,h10,h30,h31,h32,h53,h54,h55,hil,sl,hz];repeat (refine⟨by omega,?_⟩)
    refine Qh (h36 _) ?_;subst hp;simp -implicitDefEqProofs[h7,h8,h9,h10,h30,h31,h32,h53,h54,h55,hil,sl,hz,hc0,hc1,hRl];refine⟨⟨rfl,rfl⟩,by omega,by omega,⟨rfl,rfl⟩,by omega,?_⟩;refine hih _ _ (by omega) (hG.app (Cl.cons (by simp[SV.underL,SV.under,QbX]) (Cl.nil _))) ?_ ?_ ?_ ?_ ?_ ?_ ?_ ?_ ?_ ?_
    . simp
    . simp
    . simp[sl]
    . simp[hz]
    . simp[h30]
    . simp[h31]
    . simp[h32]
    . simp[sl]
    . simp
    . simp[w1]
end
theorem QfN (k:Nat) (q:Qr):SV.underL k (qC q)=true:=by simp[qC,SV.underL,QbX]
section
variable {H X:Ws}
def QaY (P:List (List Int)) (i:Nat):Wt:=(P.take i).map (λl=>QU (Qm l))++List.replicate (P.length-i) nl
theorem Qmc {P:List (List Int)} {i:Nat} (h:i<=P.length):(QaY P i).length=P.length:=by simp[QaY]; omega
theorem QrC {P:List (List Int)} {i:Nat}:SV.underL 0 (QaY P i)=true:=by
 rw[SV.underL_iff];intro s hs;rcases Vk.1 hs with h|h
 . obtain⟨l,_,rfl⟩:=Vj.1 h;simp only[QU,SV.under];exact Qe4 (QfN 0) _
 . rw[Zz]at h;rw[h.2]; rfl
theorem QsK {P:List (List Int)} {i:Nat} (h:i<P.length) (x:SV):List.take i (QaY P i)++x::List.drop (i+1) (QaY P i)=(QaY P i).set i x:=by
 rw[YA,Wb (by rw[Qmc (by omega)]; exact h)]
theorem Qvw {P:List (List Int)} {i:Nat} (h:i<P.length):(QaY P i).set i (QU (Qm P[i]))=QaY P (i+1):=by
 have hl:((P.take i).map (λl=>QU (Qm l))).length=i:=by simp; omega
 unfold QaY;rw[Yr _ _ (by omega),hl,YT,YK h,V8,VQ];congr 1;rw[show P.length-i=(P.length-(i+1))+1 by omega,YO];rfl
theorem QoZ:∀ k:Nat,zc3 k=(List.replicate k [bl false,nl,nl]).flatten
 |0=>rfl
 |k+1=>by
  rw[YO,Zx,<- QoZ k];simp only[zc3];rw[show k+1=1+k by omega,List.range_add,Qgd];simp only[QkY];rfl
set_option maxRecDepth 10000 in
theorem Qtw {A:Ws} {P:List (List Int)} (hcl:closed A) (hP:∀ l∈P,(1<=l.length/\l.length<=10)/\∀ x∈l,0<=x/\x<=70368744177664) (hPl:P.length<=100000) {N:Nat} {K:Wr}
 (hexit:∀ env Ld,env.get 7=.own A.length 0 P.length 1 0->K (.exit 0) env (A++⟨QaY P P.length,74,0,true⟩::Ld)) :
 ∀ (m i:Nat) (env:Env) (Ld:Ws),i+m=P.length->Cl 0 Ld->env.get 7=.own A.length 0 P.length 1 0->env.get 30=.slc (sls P) P.length->env.get 31=i64 P.length->env.get 32=i64 i ->
  LI Tryz.prog N Qb Qhx env (A++⟨QaY P i,74,0,true⟩::Ld) K:=by
 intro m
 induction m with
 |zero =>
  intro i env Ld hi hL h7 h30 h31 h32;refine Qc hm' Qhx.eq_1 ?_;have e:i=P.length:=by omega
  subst e;simp -implicitDefEqProofs[h31,h32];exact hexit _ Ld (by simp[h7])
 |succ m ih =>
  intro i env Ld hi hL h7 h30 h31 h32;refine Qc hm' Qhx.eq_1 ?_;have hiP:i<P.length:=by omega
  obtain⟨⟨l1,l2⟩,l3⟩:=hP _ (Vf hiP);have w1:=Qw (show i<9223372036854775807 by omega);have hol:(QaY P i).length=P.length:=Qmc (by omega);have hsuc:=λx=>QsK hiP x;have hset:=Qvw hiP;have hun:=QrC (P:=P) (i:=i);generalize hrow:P[i]=row at *;have hsr:(sls P)[i]?.getD .any=sl row:=by rw[<-hrow]; exact Qey hiP
  have hsr2:∀ h,(sls P)[i]'h=sl row:=λh=>by rw[<-hrow]; exact QaE hiP
  simp -implicitDefEqProofs[h7,h30,h31,h32,hiP,hsr,hsr2,sl];repeat (refine⟨by omega,?_⟩)
  refine Qqy (x7:=.own A.length 0 P.length 1 0) (x8:=i64 i) (x9:=sl row) (x30:=.slc (sls P) P.length) (x31:=i64 P.length) (x32:=i64 i) l2 l3 ?_ row.length 0 _ (by simp) ?_ ?_ ?_ ?_ ?_ ?_ ?_ ?_ ?_ ?_
  rotate_left
  all_goals try simp[h7,h30,h31,h32,QV,sl]
  intro env g7 g8 g9 g30 g31 g32 g10;simp -implicitDefEqProofs[g7,g8,g9,g10,g30,g31,g32,sl,hol,hsuc];repeat (refine⟨by omega,?_⟩)
  have hfl:(List.replicate row.length [bl false,SV.val (Value.slice none 0 0),SV.val (Value.slice none 0 0)]).flatten=rws qC ((Qm row).take 0)++zc3 row.length:=by
   rw[Yi];exact(QoZ row.length).symm
  rw[hfl];refine Qq7 (l:=row) (cs:=(QaY P i).set i (.own (A.length+(Ld.length+1)) 0 row.length 3 0)) (i0:=i) (p:=A.length+(Ld.length+1)) (C:=Ld) (n:=P.length) (x30:=.slc (sls P) P.length) (x31:=i64 P.length) (x32:=i64 i) l2 l1 l3 (by simp; omega) (by simp[hol,hiP]) (by simp[hol]) rfl ?_ row.length 0 _ [] (by simp) (Cl.nil _) ?_ ?_ ?_ ?_ ?_ ?_ ?_ ?_ ?_ ?_
  rotate_left
  all_goals try simp[g7,g8,g9,g10,g30,g31,g32,sl]
  intro env G hG k7 k30 k31 k32;simp -implicitDefEqProofs[k30,k31,k32];refine LI.tell (Qcg.give hcl (Ld.length+1) 1 (o:=⟨rws qC (Qm row),78,0,true⟩) (by simp) rfl) ?_;have hrl:(rws qC (Qm row)).length=row.length*3:=by rw[QdM Qdl]; simp[Qm]
  have hgv:SV.gv (A.length+(Ld.length+1)) 0 (rws qC (Qm row)) 1 (.own (A.length+(Ld.length+1)) 0 row.length 3 0)=QU (Qm row):=by
   have hav:(Qm row).length=row.length:=by simp[Qm]
   simp only[QU,hav];generalize rws qC (Qm row)=Q at *;simp[hrl,VA]
  have hgo:((QaY P i).set i (.own (A.length+(Ld.length+1)) 0 row.length 3 0)).map (SV.gv (A.length+(Ld.length+1)) 0 (rws qC (Qm row)) 1)=QaY P (i+1):=by
   rw[List.map_set,hgv,<- hset];congr 1;conv=>rhs; rw[<-YB (QaY P i)]
   exact Vt λs hs=>Qd5 (VS _) _ s ((SV.underL_iff ..).1 hun s hs)
  refine LI.cong (H':=A++⟨QaY P (i+1),74,0,true⟩::(Ld++AO.dead ⟨rws qC (Qm row),78,0,true⟩::G)) ?_ ?_
  . rw[Yt,Yr _ _ (Vc _),YT,ZX];rw[Vn,V8,Vn];have ea:=λk ver cs d=>AO.gv_cl (k:=k) (ver:=ver) (d:=d) (cs:=cs) (VS k) hL;have eb:=λk ver cs d=>AO.gv_cl (k:=k) (ver:=ver) (d:=d) (cs:=cs) (VS k) hG;rw[ea,eb];simp only[AO.gv,hgo,AO.dead,VF]
  . refine ih (i+1) _ _ (by omega) ?_ ?_ ?_ ?_ ?_
    . refine hL.app (Cl.cons (by simp[AO.dead,SV.underL]) hG)
    all_goals rw[QfU _ (SV.gv _ _ _ _) (Qgl _ _ _ _)]
    all_goals simp[k7,k30,k31,w1]
end
end Go.Proofs.YtogjmpkehjfecaaGreatDoor.Rc
namespace Go.Proofs.YtogjmpkehjfecaaGreatDoor.Rc
open Go.Ab Go.Ab.Lm Go.Ab.Shr
section
variable {H:Ws} {g:Gm} {t:Tin}
theorem Qfe (h:QP g t=0):(t.A.length<=100000/\∀ l∈t.A,ShO l)/\t.P.length<=100000/\∀ l∈t.P,(1<=l.length/\l.length<=10)/\∀ x∈l,0<=x/\x<=70368744177664:=by
 obtain⟨hW,r0,r1,hA,hP⟩:=QcO h;obtain⟨a1,a2⟩:=QbI hW hA;obtain⟨p1,p2⟩:=QbI hW hP;have hi:=hW.gd.i;refine⟨⟨by omega,λl hl => ?_⟩,by omega,λl hl => ?_⟩
 . obtain⟨i,h1,rfl⟩:=VH hl;obtain⟨c1,c2⟩:=a2 i (by omega);have e:t.A.getD i []=t.A[i]:=by simp[Vp,h1]
   unfold Qag at c1;rw[e]at c1 c2;obtain⟨n1,n2⟩:=QaV hW (show i<g.is.length by omega);exact⟨by omega,by omega,c2⟩
 . obtain⟨i,h1,rfl⟩:=VH hl;obtain⟨c1,c2⟩:=p2 i (by omega);have e:t.P.getD i []=t.P[i]:=by simp[Vp,h1]
   unfold Qag at c1;rw[e]at c1 c2;obtain⟨n1,n2⟩:=QaV hW (show i<g.is.length by omega);exact⟨⟨by omega,by omega⟩,c2⟩
def Qbk (g:Gm) (t:Tin):SV×Int:=if QP g t≠0 then(nl,QP g t)else(Qat (t.P.map Qm),0)
theorem Qqh (P:List (List Int)):QaY P P.length=(P.map Qm).map QU:=by
 simp[QaY,Function.comp_def]
theorem Qq6 (P:List (List Int)):QaY P 0=List.replicate P.length nl:=by simp[QaY]
theorem QlA (hcl:closed H):closed (H++[Qd g,tB t]):=by
 rw[Quz]at hcl ⊢;rw[VG];refine Cl.app ?_ (Cl.cons ?_ (Cl.cons ?_ (Cl.nil _)))
 . intro o ho s hs;exact SV.under_mono (by omega) s (hcl o ho s hs)
 . simp[Qd,Gm.cells,Q5,Q6]
 . simp[tB,Tin.cells,Q3]
set_option maxRecDepth 10000 in
theorem ok12:Ok Tryz.prog 12 [.agg g.cells,.agg t.cells] H (.ret (.tup [(Qbk g t).1,i64 (Qbk g t).2])) H:=by
 refine Ql hm' Tryz.func12 c12 (by simp[Gm.cells,Q5,Q6,Tin.cells,Q3]) λhcl => ?_;have h14:=λH=>Qfz (H:=H) (g:=g) (t:=t);simp only[Gm.cells,Tin.cells]at h14;simp -implicitDefEqProofs[i12,r12,Gm.cells,Tin.cells];refine Qh (h14 _) ?_;by_cases hc:QP g t=0
 . obtain⟨_,q1,q2⟩:=Qfe hc;have e:Qbk g t=(Qat (t.P.map Qm),0):=by unfold Qbk; rw[Wa (by simpa using hc)]
   simp -implicitDefEqProofs[hc];repeat (refine⟨by omega,?_⟩)
   rw[<-Qq6];have hcl2:closed (H++[Qd g,tB t]):=QlA hcl;have ha:H.length+2=(H++[Qd g,tB t]).length:=by simp
   refine LI.cong (H':=(H++[Qd g,tB t])++⟨QaY t.P 0,74,0,true⟩::[]) (by simp[Qd,tB,Gm.cells,Tin.cells]) ?_;refine Qtw hcl2 q2 q1 (λenv Ld g7 => ?_) t.P.length 0 _ [] (by simp) (Cl.nil _) ?_ ?_ ?_ ?_
   rotate_left
   all_goals try simp
   rw[Qqh,<- ha]at *;rw[e,g7];refine Qi 3 hcl rfl ?_;have hu:SV.underL H.length (List.map QU (List.map Qm t.P))=true:=by
    rw[SV.underL_iff];intro s hs;obtain⟨l,_,rfl⟩:=Vj.1 hs;simp only[QU,SV.under];exact Qe4 (QfN _) _
   have hr:∀ L,(List.map QU (List.map Qm t.P)).map (SV.fz H.length [] L 1)=List.map QU (List.map Qm t.P):=λL=>Qgp hu;have hrl:(List.map QU (List.map Qm t.P)).length=t.P.length:=by simp
   rw[show Qat (List.map Qm t.P)=.slc (List.map QU (List.map Qm t.P)) t.P.length by simp[Qat]];generalize List.map QU (List.map Qm t.P)=Q at *;simp[hr,hrl,VA]
 . have e:Qbk g t=(nl,QP g t):=by unfold Qbk; rw[Wb hc]
   rw[e];simp -implicitDefEqProofs[hc];exact Qi 2 hcl rfl (by simp)
end
section
variable {H:Ws} {g:Gm} {t:Tin}
set_option maxRecDepth 10000 in
theorem Qul {l:List Int} {i0:Nat} (hi0:i0<t.P.length) (hrow:t.P[i0]=l) (hl:l.length<=10) (hr:∀ x∈l,0<=x/\x<=70368744177664) {x7:SV} {R:Ws} {N:Nat} {K:Wr}
 (hexit:∀ env,env.get 3=.ptr (.own (H.length+1) 0 0 0 0) 0->env.get 7=x7->env.get 8=i64 i0->env.get 9=i64 l.length->env.get 10=i64 (QV l)->K (.exit 2) env (H++Qd g::tB t::R)) :
 ∀ (m i:Nat) (env:Env),i+m=l.length->env.get 3=.ptr (.own (H.length+1) 0 0 0 0) 0->env.get 7=x7->env.get 8=i64 i0->env.get 9=i64 l.length->env.get 10=i64 (QV (l.take i))->env.get 11=i64 i ->
  LI Tryz.prog N Qb QjB env (H++Qd g::tB t::R) K:=by
 intro m
 induction m with
 |zero =>
  intro i env hi h3 h7 h8 h9 h10 h11;refine Qc hm' QjB.eq_1 ?_;have e:i=l.length:=by omega
  subst e;rw[Yq]at h10;simp -implicitDefEqProofs[h9,h11];exact hexit _ (by simp[h3]) (by simp[h7]) (by simp[h8]) (by simp[h9]) (by simp[h10])
 |succ m ih =>
  intro i env hi h3 h7 h8 h9 h10 h11;refine Qc hm' QjB.eq_1 ?_;have hil:i<l.length:=by omega
  have h1:=hr _ (Vf hil);have h2:=Qex (l:=l.take i) λx hx=>hr x (Ya hx);have h3':(l.take i).length=i:=by simp; omega
  have hs:QV (l.take (i+1))=QV (l.take i)+l[i]:=by
   rw[YK hil,Qkv];simp[QV]
  have w1:=Qw (show i<9223372036854775807 by omega);have ws:IntKind.i64.wrap (QV (l.take i)+l[i])=QV (l.take (i+1)):=by rw[hs]; exact Qp (by omega) (by omega)
  have hsr:(sls t.P)[i0]?.getD .any=sl l:=by rw[<-hrow]; exact Qey hi0
  have hsr2:∀ h,(sls t.P)[i0]'h=sl l:=λh=>by rw[<-hrow]; exact QaE hi0
  simp -implicitDefEqProofs[h3,h7,h8,h9,h10,h11,hil,tB,Tin.cells,hi0,hsr,hsr2,sl,ws];repeat (refine⟨by omega,?_⟩)
  refine ih (i+1) _ (by omega) ?_ ?_ ?_ ?_ ?_ ?_
  . simp[h3]
  . simp[h7]
  . simp[h8]
  . simp[h9]
  . simp
  . simp[w1]
set_option maxRecDepth 10000 in
theorem Qp0 {l:List Int} {i0:Nat} (hi0:i0<t.P.length) (hrow:t.P[i0]=l) (hl:l.length<=10) (hr:∀ x∈l,0<=x/\x<=70368744177664) {x7:SV} {o:AO} {Ld:Ws} {N:Nat} {K:Wr}
 (hexit:∀ env G,Cl 0 G->env.get 3=.ptr (.own (H.length+1) 0 0 0 0) 0->env.get 7=x7->env.get 8=i64 i0->env.get 12=.own (H.length+(Ld.length+3)) 0 l.length 3 l.length->K (.exit 4) env (H++Qd g::tB t::o::(Ld++⟨rws qC (Qm l),78,l.length,true⟩::G))) :
 ∀ (m i:Nat) (env:Env) (G:Ws),i+m=l.length->Cl 0 G->env.get 3=.ptr (.own (H.length+1) 0 0 0 0) 0->env.get 7=x7->env.get 8=i64 i0->env.get 9=i64 l.length->env.get 10=i64 (QV l)->env.get 12=.own (H.length+(Ld.length+3)) 0 i 3 i->env.get 13=i64 i ->
  LI Tryz.prog N Qb Qho env (H++Qd g::tB t::o::(Ld++⟨rws qC ((Qm l).take i),78,i,true⟩::G)) K:=by
 have hsr:=Qex hr;have hal:(Qm l).length=l.length:=by simp[Qm]
 intro m
 induction m with
 |zero =>
  intro i env G hi hG h3 h7 h8 h9 h10 h12 h13;refine Qc hm' Qho.eq_1 ?_;have e:i=l.length:=by omega
  subst e;have e2:rws qC ((Qm l).take l.length)=rws qC (Qm l):=by
   rw[<-hal,Yq]
  rw[e2];simp -implicitDefEqProofs[h9,h13];exact hexit _ G hG (by simp[h3]) (by simp[h7]) (by simp[h8]) (by simp[h12])
 |succ m ih =>
  intro i env G hi hG h3 h7 h8 h9 h10 h12 h13;refine Qc hm' Qho.eq_1 ?_;have hil:i<l.length:=by omega
  have h1:=hr _ (Vf hil);have w1:=Qw (show i<9223372036854775807 by omega);have hav:(Qm l)[i]'(by omega)=if QV l=0 then Qc3 1 l.length else Qc3 l[i] (QV l):=by simp[Qm]
  have hq:=λH (x y:Int) hx hy h0=>ok45 (H:=H) (x:=x) (y:=y) hx hy h0;simp only[Ql4]at hq;have hia:i<(Qm l).length:=by omega
  have htl:(rws qC ((Qm l).take i)).length=i*3:=by rw[QdM Qdl]; simp; omega
  have hset:rws qC ((Qm l).take i)++qC (Qm l)[i]=rws qC ((Qm l).take (i+1)):=by
   rw[YK hia,Qgd];simp[rws]
  have hsr1:(sls t.P)[i0]?.getD .any=sl l:=by rw[<-hrow]; exact Qey hi0
  have hsr2:∀ h,(sls t.P)[i0]'h=sl l:=λh=>by rw[<-hrow]; exact QaE hi0
  have hih:=ih (i+1);rw[<-hset]at hih;generalize rws qC ((Qm l).take i)=R at *;by_cases hz:QV l=0
  . have h36:=λH=>hq H 1 l.length (by omega) (by omega) (by omega);rw[Wb hz]at hav;rw[<-hav]at h36;generalize (Qm l)[i]=q at *;simp only[qC,V6,VW]at h36 hih;simp -implicitDefEqProofs[h3,h7,h8,h9,h10,h12,h13,hil,hz];refine Qh (h36 _) ?_;simp -implicitDefEqProofs[h3,h7,h8,h9,h10,h12,h13,hil,hz,htl];refine⟨⟨rfl,rfl⟩,by omega,by omega,?_⟩;refine hih _ _ (by omega) (hG.app (Cl.cons (by simp[SV.underL,SV.under,QbX]) (Cl.nil _))) ?_ ?_ ?_ ?_ ?_ ?_ ?_
    . simp
    . simp
    . simp
    . simp
    . simp[hz]
    . simp
    . simp[w1]
  . have h36:=λH=>hq H l[i] (QV l) (by omega) (by omega) hz;rw[Wa hz]at hav;rw[<-hav]at h36;generalize (Qm l)[i]=q at *;simp only[qC,V6,VW]at h36 hih;simp -implicitDefEqProofs[h3,h7,h8,h9,h10,h12,h13,hil,hz,tB,Tin.cells,hi0,hsr1,hsr2,sl];repeat (refine⟨by omega,?_⟩)
    refine Qh (h36 _) ?_;simp -implicitDefEqProofs[h3,h7,h8,h9,h10,h12,h13,hil,hz,htl,tB,Tin.cells,hi0,hsr1,hsr2,sl];refine⟨⟨rfl,rfl⟩,by omega,by omega,?_⟩;refine hih _ _ (by omega) (hG.app (Cl.cons (by simp[SV.underL,SV.under,QbX]) (Cl.nil _))) ?_ ?_ ?_ ?_ ?_ ?_ ?_
    . simp
    . simp
    . simp
    . simp
    . simp[hz]
    . simp
    . simp[w1]
def QbH (P:List (List Int)) (i:Nat):Wt:=(P.take i).map λl=>QU (Qm l)
theorem QqY {P:List (List Int)} {i:Nat} (h:i<P.length):QbH P i++[QU (Qm P[i])]=QbH P (i+1):=by
 simp only[QbH];rw[YK h,V8];rfl
theorem Qr9 {P:List (List Int)} {i:Nat}:SV.underL 0 (QbH P i)=true:=by
 rw[SV.underL_iff];intro s hs;obtain⟨l,_,rfl⟩:=Vj.1 hs;simp only[QU,SV.under];exact Qe4 (QfN 0) _
theorem Qq0 (P:List (List Int)):QbH P P.length=(P.map Qm).map QU:=by simp[QbH,Function.comp_def]
set_option maxRecDepth 10000 in
theorem Qro (hcl:closed (H++[Qd g,tB t])) (hP:∀ l∈t.P,(1<=l.length/\l.length<=10)/\∀ x∈l,0<=x/\x<=70368744177664) (hPl:t.P.length<=100000) {N:Nat} {K:Wr}
 (hexit:∀ env Ld,env.get 7=.own (H.length+2) 0 t.P.length 1 t.P.length->K (.exit 0) env (H++Qd g::tB t::⟨QbH t.P t.P.length,74,t.P.length,true⟩::Ld)) :
 ∀ (m i:Nat) (env:Env) (Ld:Ws),i+m=t.P.length->Cl 0 Ld->env.get 3=.ptr (.own (H.length+1) 0 0 0 0) 0->env.get 7=.own (H.length+2) 0 i 1 i->env.get 8=i64 i ->
  LI Tryz.prog N Qb Qgz env (H++Qd g::tB t::⟨QbH t.P i,74,i,true⟩::Ld) K:=by
 intro m
 induction m with
 |zero =>
  intro i env Ld hi hL h3 h7 h8;refine Qc hm' Qgz.eq_1 ?_;have e:i=t.P.length:=by omega
  subst e;simp -implicitDefEqProofs[h3,h7,h8,tB,Tin.cells];exact hexit _ Ld (by simp[h7])
 |succ m ih =>
  intro i env Ld hi hL h3 h7 h8;refine Qc hm' Qgz.eq_1 ?_;have hiP:i<t.P.length:=by omega
  obtain⟨⟨l1,l2⟩,l3⟩:=hP _ (Vf hiP);have w1:=Qw (show i<9223372036854775807 by omega);have hol:(QbH t.P i).length=i:=by simp[QbH]; omega
  have hset:=QqY hiP;have hun:=Qr9 (P:=t.P) (i:=i);generalize hrow:t.P[i]=row at *;have hsr:(sls t.P)[i]?.getD .any=sl row:=by rw[<-hrow]; exact Qey hiP
  have hsr2:∀ h,(sls t.P)[i]'h=sl row:=λh=>by rw[<-hrow]; exact QaE hiP
  simp -implicitDefEqProofs[h3,h7,h8,tB,Tin.cells,hiP,hsr,hsr2,sl];repeat (refine⟨by omega,?_⟩)
  refine Qul (t:=t) (g:=g) (l:=row) (i0:=i) (x7:=.own (H.length+2) 0 i 1 i) hiP hrow l2 l3 ?_ row.length 0 _ (by simp) ?_ ?_ ?_ ?_ ?_ ?_
  rotate_left
  all_goals try simp[h3,h7,h8,QV]
  intro env k3 k7 k8 k9 k10;simp -implicitDefEqProofs[k3,k7,k8,k9,k10];refine Qp0 (t:=t) (g:=g) (l:=row) (i0:=i) (x7:=.own (H.length+2) 0 i 1 i) (o:=⟨QbH t.P i,74,i,true⟩) (Ld:=Ld) hiP hrow l2 l3 ?_ row.length 0 _ [] (by simp) (Cl.nil _) ?_ ?_ ?_ ?_ ?_ ?_ ?_
  rotate_left
  all_goals try simp[k3,k7,k8,k9,k10]
  intro env G hG k3 k7 k8 k12;simp -implicitDefEqProofs[k3,k7,k8,k12,hol,w1];repeat (refine⟨by omega,?_⟩)
  have hrl:(rws qC (Qm row)).length=row.length*3:=by rw[QdM Qdl]; simp[Qm]
  generalize hke:H.length+(Ld.length+3)=k at *;have hkk:(H++[Qd g,tB t]).length+(Ld.length+1)=k:=by simp; omega
  have hgv:SV.gv k row.length (rws qC (Qm row)) 1 (.own k 0 row.length 3 row.length)=QU (Qm row):=by
   have hav:(Qm row).length=row.length:=by simp[Qm]
   simp only[QU,hav];generalize rws qC (Qm row)=Q at *;simp[hrl,VA]
  have hgo:(QbH t.P i++[SV.own k 0 row.length 3 row.length]).map (SV.gv k row.length (rws qC (Qm row)) 1)=QbH t.P (i+1):=by
   rw[V8,Vn,VF,hgv,<- hset];congr 1;conv=>rhs; rw[<-YB (QbH t.P i)]
   exact Vt λs hs=>Qd5 (VS _) _ s ((SV.underL_iff ..).1 hun s hs)
  refine LI.cong (H':=(H++[Qd g,tB t])++(⟨QbH t.P i++[.own k 0 row.length 3 row.length],74,i+1,true⟩::(Ld++⟨rws qC (Qm row),78,row.length,true⟩::(G++[⟨[.own k 0 row.length 3 row.length],74,0,true⟩])))) (by simp) ?_;refine LI.tell (Qcg.give hcl (Ld.length+1) 1 (o:=⟨rws qC (Qm row),78,row.length,true⟩) (by simp) rfl) ?_;rw[hkk];refine LI.cong (H':=H++Qd g::tB t::⟨QbH t.P (i+1),74,i+1,true⟩::(Ld++AO.dead ⟨rws qC (Qm row),78,row.length,true⟩::(G++[⟨[QU (Qm row)],74,0,true⟩]))) ?_ ?_
  . rw[Yt,Yr _ _ (Vc _),YT,ZX];rw[Vn,V8,Vn,V8];have ea:=λk ver cs d=>AO.gv_cl (k:=k) (ver:=ver) (d:=d) (cs:=cs) (VS k) hL;have eb:=λk ver cs d=>AO.gv_cl (k:=k) (ver:=ver) (d:=d) (cs:=cs) (VS k) hG;rw[ea,eb];simp only[AO.gv,hgo,hgv,AO.dead,VF,Vn,VQ,V6,VW]
  . refine ih (i+1) _ _ (by omega) ?_ ?_ ?_ ?_
    . refine hL.app (Cl.cons (by simp[AO.dead,SV.underL]) (hG.app (Cl.cons ?_ (Cl.nil _))));simp only[SV.underL,QU,SV.under,Bool.and_true];exact Qe4 (QfN 0) _
    all_goals rw[QfU _ (SV.gv _ _ _ _) (Qgl _ _ _ _)]
    . simp[k3]
    . simp[show H.length+2≠k by omega]
    . simp[k3]
theorem ok21:Ok Tryz.prog 21 [.agg g.cells,.agg t.cells] H (.ret (.tup [(Qbk g t).1,i64 (Qbk g t).2])) H:=by
 refine Ql hm' Tryz.func21 c21 (by simp[Gm.cells,Q5,Q6,Tin.cells,Q3]) λhcl => ?_;have h14:=λH=>Qjf (H:=H) (g:=g) (t:=t);simp only[Gm.cells,Tin.cells]at h14;simp -implicitDefEqProofs[i21,r21,Gm.cells,Tin.cells];refine Qh (h14 _) ?_;by_cases hc:QP g t=0
 . obtain⟨_,q1,q2⟩:=Qfe hc;have e:Qbk g t=(Qat (t.P.map Qm),0):=by unfold Qbk; rw[Wa (by simpa using hc)]
   simp -implicitDefEqProofs[hc];have hcl2:closed (H++[Qd g,tB t]):=QlA hcl;refine Qro hcl2 q2 q1 (λenv Ld g7 => ?_) t.P.length 0 _ [] (by simp) (Cl.nil _) ?_ ?_ ?_
   rotate_left
   all_goals try simp
   rw[Qq0,e,g7];refine Qi 3 hcl rfl ?_;have hu:SV.underL H.length (List.map QU (List.map Qm t.P))=true:=by
    rw[SV.underL_iff];intro s hs;obtain⟨l,_,rfl⟩:=Vj.1 hs;simp only[QU,SV.under];exact Qe4 (QfN _) _
   have hr:∀ L,(List.map QU (List.map Qm t.P)).map (SV.fz H.length [] L 1)=List.map QU (List.map Qm t.P):=λL=>Qgp hu;have hrl:(List.map QU (List.map Qm t.P)).length=t.P.length:=by simp
   rw[show Qat (List.map Qm t.P)=.slc (List.map QU (List.map Qm t.P)) t.P.length by simp[Qat]];generalize List.map QU (List.map Qm t.P)=Q at *;simp[hr,hrl,VA]
 . have e:Qbk g t=(nl,QP g t):=by unfold Qbk; rw[Wb hc]
   rw[e];simp -implicitDefEqProofs[hc];exact Qi 2 hcl rfl (by simp)
end
end Go.Proofs.YtogjmpkehjfecaaGreatDoor.Rc
namespace Go.Proofs.YtogjmpkehjfecaaGreatDoor.Rc
open Go.Ab Go.Ab.Lm
section
variable {H:Ws}
set_option maxRecDepth 10000 in
theorem QrO {l:List Nat} (hl:l.length<4611686018427387904) {N:Nat} {K:Wr} (hexit:∀ env,K (.exit 0) env H) :
 ∀ (n i:Nat) (env:Env),i+n=l.length->env.get 0=.slc (us l) l.length->env.get 1=.slc (us l) l.length->env.get 5=i64 i ->
  LI Tryz.prog N Qb QhK env H K:=by
 intro n
 induction n with
 |zero =>
  intro i env hi h0 h1 h5;refine Qc hm' QhK.eq_1 ?_;have e:i=l.length:=by omega
  subst e;simp -implicitDefEqProofs[h0,h1,h5];exact hexit _
 |succ n ih =>
  intro i env hi h0 h1 h5;refine Qc hm' QhK.eq_1 ?_;have hlt:i<l.length:=by omega
  simp -implicitDefEqProofs[h0,h1,h5,hlt,Qcv hlt,QbM hlt,Qab];refine⟨by omega,rfl,?_⟩;refine ih (i+1) _ (by omega) ?_ ?_ ?_
  . simp[h0]
  . simp[h1]
  . simp[Qw (show i<9223372036854775807 by omega)]
theorem Qoc {l:List Nat} (hl:l.length<4611686018427387904):Ok Tryz.prog 67 [.slc (us l) l.length,.slc (us l) l.length] H (.ret (bl true)) H:=by
 refine Ql hm' Tryz.func67 c67 (by simp[QbW]) λhcl => ?_;simp -implicitDefEqProofs[i67,r67];refine QrO hl (λenv => ?_) l.length 0 _ (by omega) (by simp) (by simp) (by simp);simp -implicitDefEqProofs;exact Qo
def Qr.fit (q:Qr):Prop:=(lim q.n).length<4611686018427387904/\(lim q.d).length<4611686018427387904
theorem Qsj {q:Qr} (hq:q.fit):Ok Tryz.prog 41 [.agg (qC q),.agg (qC q)] H (.ret (bl true)) H:=by
 refine Ql hm' Tryz.func41 c41 (by simp[qC,QbX]) λhcl => ?_;have h1:=λH=>Qoc (H:=H) hq.1;have h2:=λH=>Qoc (H:=H) hq.2;simp -implicitDefEqProofs[i41,r41,qC,nS];refine Qbv (λ_=>h1 _) ?_;simp -implicitDefEqProofs;refine Qbv (λ_=>h2 _) ?_;simp -implicitDefEqProofs;exact Qi 2 hcl rfl (by simp)
theorem QjS {L:List (List Qr)} {i:Nat} (h:i<L.length):(L.map QU)[i]?.getD .any=QU L[i]:=by simp[h]
theorem QlQ {L:List (List Qr)} {i:Nat} (h:i<L.length) (h':i<(L.map QU).length):(L.map QU)[i]'h'=QU L[i]:=by simp
theorem Qqq {l:List Qr} {k:Nat} (h:k<l.length):(rws qC l).drop (k*3)=bl l[k].neg::nS l[k].n::nS l[k].d::rws qC (l.drop (k+1)):=QvG Qdl h
set_option maxRecDepth 10000 in
theorem QuB {L:List (List Qr)} {i0:Nat} (hi0:i0<L.length) (hL:L.length<4611686018427387904) (hl:L[i0].length<4611686018427387904) (hq:∀ q∈L[i0],q.fit) {N:Nat} {K:Wr}
 (hexit:∀ env,env.get 0=Qat L->env.get 1=Qat L->env.get 5=i64 i0->K (.exit 2) env H) :
 ∀ (n i:Nat) (env:Env),i+n=L[i0].length->env.get 0=Qat L->env.get 1=Qat L->env.get 5=i64 i0->env.get 6=i64 i ->
  LI Tryz.prog N Qb QiG env H K:=by
 intro n
 induction n with
 |zero =>
  intro i env hi h0 h1 h5 h6;refine Qc hm' QiG.eq_1 ?_;have e:i=L[i0].length:=by omega
  have e1:=QjS hi0;have e2:=QlQ hi0;generalize L[i0]=row at *;subst e;simp -implicitDefEqProofs[h0,h1,h5,h6,Qat,hi0,e1,e2,QU];refine⟨by omega,hexit _ ?_ ?_ ?_⟩<;>simp[Qat]
 |succ n ih =>
  intro i env hi h0 h1 h5 h6;refine Qc hm' QiG.eq_1 ?_;have hlt:i<L[i0].length:=by omega
  have hqi:=hq _ (Vf hlt);have e1:=QjS hi0;have e2:=QlQ hi0;generalize L[i0]=row at *;have f1:=Qqq hlt;have f2:=QtU Qdl hlt;have f3:=Qpj Qdl hlt;have f4:=QoN Qdl hlt;have f5:=QdM Qdl row;have h41:=λH=>Qsj (H:=H) hqi;simp only[qC]at h41;simp -implicitDefEqProofs[h0,h1,h5,h6,Qat,hi0,e1,e2,QU,hlt,f1,f2,f3,f5];refine⟨by omega,Qbv (λ_=>h41 _) ?_⟩;simp -implicitDefEqProofs[h0,h1,h5,h6,Qat];refine ih (i+1) _ (by omega) ?_ ?_ ?_ ?_
  . simp[Qat]
  . simp[Qat]
  . simp
  . simp[Qw (show i<9223372036854775807 by omega)]
set_option maxRecDepth 10000 in
theorem Quu {L:List (List Qr)} (hL:L.length<4611686018427387904) (hl:∀ l∈L,l.length<4611686018427387904/\∀ q∈l,q.fit) {N:Nat} {K:Wr}
 (hexit:∀ env,K (.exit 0) env H) :
 ∀ (n i:Nat) (env:Env),i+n=L.length->env.get 0=Qat L->env.get 1=Qat L->env.get 5=i64 i ->
  LI Tryz.prog N Qb Qf5 env H K:=by
 intro n
 induction n with
 |zero =>
  intro i env hi h0 h1 h5;refine Qc hm' Qf5.eq_1 ?_;have e:i=L.length:=by omega
  subst e;simp -implicitDefEqProofs[h0,h1,h5,Qat];exact hexit _
 |succ n ih =>
  intro i env hi h0 h1 h5;refine Qc hm' Qf5.eq_1 ?_;have hi0:i<L.length:=by omega
  obtain⟨hr1,hr2⟩:=hl _ (Vf hi0);have e1:=QjS hi0;have e2:=QlQ hi0;have h0':=h0;have h1':=h1;have key:=λN K hx=>QuB (H:=H) (N:=N) (K:=K) hi0 hL hr1 hr2 hx L[i].length 0;generalize L[i]=row at *;simp only[Qat]at h0 h1;simp -implicitDefEqProofs[h0,h1,h5,hi0,e1,e2,QU];repeat (refine⟨by omega,?_⟩)
  refine key _ _ (λenv k0 k1 k5 => ?_) _ (by omega) ?_ ?_ ?_ ?_
  rotate_left
  all_goals try simp[Qat]
  simp -implicitDefEqProofs[k0,k1,k5];refine ih (i+1) _ (by omega) ?_ ?_ ?_
  . simp[k0]
  . simp[k1]
  . simp[Qw (show i<9223372036854775807 by omega)]
theorem Qoq (n:Nat) (L:List (List Qr)):(Qat L).under n=true:=by
 rw[Qat,SV.under,SV.underL_iff];intro s hs;obtain⟨l,_,rfl⟩:=Vj.1 hs;simp only[QU,SV.under];exact Qe4 (λq=>by simp[qC,SV.underL,QbX]) _
theorem QsV {L:List (List Qr)} (hL:L.length<4611686018427387904) (hl:∀ l∈L,l.length<4611686018427387904/\∀ q∈l,q.fit):Ok Tryz.prog 17 [Qat L,Qat L] H (.ret (bl true)) H:=by
 refine Ql hm' Tryz.func17 c17 (by simp[Qoq]) λhcl => ?_;have e:Qat L=.slc (L.map QU) L.length:=rfl;rw[e];simp -implicitDefEqProofs[i17,r17];rw[<-e];refine Quu hL hl (λenv => ?_) L.length 0 _ (by omega) (by simp) (by simp) (by simp);simp -implicitDefEqProofs;exact Qo
theorem Qqj:Ok Tryz.prog 17 [nl,nl] H (.ret (bl true)) H:=by
 refine Ql hm' Tryz.func17 c17 (by simp) λhcl => ?_;simp -implicitDefEqProofs[i17,r17,QiB,Qit];refine Qc hm' Qf5.eq_1 ?_;simp -implicitDefEqProofs[QiB,Qit];exact Qo
end
end Go.Proofs.YtogjmpkehjfecaaGreatDoor.Rc
namespace Go.Proofs.YtogjmpkehjfecaaGreatDoor.Rc
open Go.Ab Go.Ab.Lm Go.Ab.Shr
section
variable {H:Ws} {g:Gm} {t:Tin}
def wO (n:Nat) (t:Tin) (i j:Nat):AO:=⟨[i64 t.rnd,i64 t.seed,.own (n+3) 0 i 1 i,.own (n+4) 0 j 1 j],30,0,true⟩
theorem QnC {M:List (List Int)} {i:Nat} (h:i<M.length):sls (M.take i)++[sl M[i]]=sls (M.take (i+1)):=Qot h rfl
set_option maxRecDepth 10000 in
theorem QtY (hcl:closed (H++[Qd g,tB t])) (hl:t.A.length<=1000000) (hr:∀ l∈t.A,l.length<=1000000) {j:Nat} {op:AO} (hop:op.own=true) (hopc:SV.underL 0 op.cells=true) {N:Nat} {K:Wr}
 (hexit:∀ env Ld,Cl 0 Ld->env.get 2=.ptr (.own H.length 0 0 0 0) 0->env.get 3=.ptr (.own (H.length+1) 0 0 0 0) 0->env.get 5=.ptr (.own (H.length+2) 0 0 0 0) 0->K (.exit 0) env (H++Qd g::tB t::wO H.length t t.A.length j::⟨sls t.A,45,t.A.length,true⟩::op::Ld)) :
 ∀ (m i:Nat) (env:Env) (Ld:Ws),i+m=t.A.length->Cl 0 Ld->env.get 2=.ptr (.own H.length 0 0 0 0) 0->env.get 3=.ptr (.own (H.length+1) 0 0 0 0) 0->env.get 5=.ptr (.own (H.length+2) 0 0 0 0) 0->env.get 6=i64 i ->
  LI Tryz.prog N Qb Qiq env (H++Qd g::tB t::wO H.length t i j::⟨sls (t.A.take i),45,i,true⟩::op::Ld) K:=by
 intro m
 induction m with
 |zero =>
  intro i env Ld hi hL h2 h3 h5 h6;refine Qc hm' Qiq.eq_1 ?_;have e:i=t.A.length:=by omega
  subst e;rw[Yq];simp -implicitDefEqProofs[h3,h6,tB,Tin.cells];exact hexit _ Ld hL (by simp[h2]) (by simp[h3]) (by simp[h5])
 |succ m ih =>
  intro i env Ld hi hL h2 h3 h5 h6;refine Qc hm' Qiq.eq_1 ?_;have hiP:i<t.A.length:=by omega
  have l1:=hr _ (Vf hiP);have w1:=Qw (show i<9223372036854775807 by omega);have hol:(sls (t.A.take i)).length=i:=by simp; omega
  have hset:=QnC hiP;have hun:=Q3 0 (t.A.take i);have hsr1:=Qey hiP;have hsr2:=QaE hiP;generalize t.A[i]=row at *;simp -implicitDefEqProofs[h2,h3,h5,h6,tB,Tin.cells,hiP,hsr1,hsr2,sl,wO,w1];repeat (refine⟨by omega,?_⟩)
  generalize hke:H.length+(Ld.length+5)=k at *;have hkk:(H++[Qd g,tB t]).length+(Ld.length+3)=k:=by simp; omega
  have hgv:SV.gv k 1 (Qa row) 1 (.own k 0 row.length 1 1)=sl row:=by
   simp[sl,show(Qa row).length=row.length by simp,VA]
  have hgo:(sls (t.A.take i)++[SV.own k 0 row.length 1 1]).map (SV.gv k 1 (Qa row) 1)=sls (t.A.take (i+1)):=by
   rw[V8,Vn,VF,hgv,<- hset];congr 1;conv=>rhs; rw[<-YB (sls (t.A.take i))]
   exact Vt λs hs=>Qd5 (VS _) _ s ((SV.underL_iff ..).1 hun s hs)
  have hgw:AO.gv k 1 (Qa row) 1 (wO H.length t (i+1) j)=wO H.length t (i+1) j:=by
   simp[AO.gv,wO,show ¬ (H.length+3=k)by omega,show ¬ (H.length+4=k)by omega]
  have hgp:AO.gv k 1 (Qa row) 1 op=op:=by
   have:=AO.gv_cl (k:=k) (ver:=1) (d:=1) (cs:=Qa row) (VS k) (Cl.cons hopc (Cl.nil _));simpa using this
  refine LI.cong (H':=(H++[Qd g,tB t])++(wO H.length t (i+1) j::⟨sls (t.A.take i)++[.own k 0 row.length 1 1],45,i+1,true⟩::op::(Ld++[⟨Qa row,3,1,true⟩,⟨[.own k 0 row.length 1 1],45,0,true⟩]))) (by simp[wO,tB,Tin.cells]) ?_;refine LI.tell (Qcg.give hcl (Ld.length+3) 1 (o:=⟨Qa row,3,1,true⟩) (by simp) rfl) ?_;rw[hkk];refine LI.cong (H':=H++Qd g::tB t::wO H.length t (i+1) j::⟨sls (t.A.take (i+1)),45,i+1,true⟩::op::(Ld++[AO.dead ⟨Qa row,3,1,true⟩,⟨[sl row],45,0,true⟩])) ?_ ?_
  . rw[show Ld.length+3=Ld.length+1+1+1 from rfl,Yt,Yt,Yt,Yr _ _ (Vc _),YT,ZX];have ea:=λk ver cs d=>AO.gv_cl (k:=k) (ver:=ver) (d:=d) (cs:=cs) (VS k) hL;simp only[Vn,V8,VF,ea,hgw,hgp];simp only[AO.gv,hgo,hgv,AO.dead,VF,Vn,VQ,V6,VW]
  . refine ih (i+1) _ _ (by omega) ?_ ?_ ?_ ?_ ?_
    . exact hL.app (Cl.cons (by simp[AO.dead,SV.underL]) (Cl.cons (by simp[SV.underL,sl,SV.under]) (Cl.nil _)))
    all_goals rw[QfU _ (SV.gv _ _ _ _) (Qgl _ _ _ _)]
    . simp
    . simp
    . simp
    . simp
set_option maxRecDepth 10000 in
theorem QsB (hcl:closed (H++[Qd g,tB t])) (hl:t.P.length<=1000000) (hr:∀ l∈t.P,l.length<=1000000) {j:Nat} {op:AO} (hop:op.own=true) (hopc:SV.underL 0 op.cells=true) {N:Nat} {K:Wr}
 (hexit:∀ env Ld,Cl 0 Ld->env.get 2=.ptr (.own H.length 0 0 0 0) 0->env.get 3=.ptr (.own (H.length+1) 0 0 0 0) 0->env.get 5=.ptr (.own (H.length+2) 0 0 0 0) 0->K (.exit 2) env (H++Qd g::tB t::wO H.length t j t.P.length::op::⟨sls t.P,45,t.P.length,true⟩::Ld)) :
 ∀ (m i:Nat) (env:Env) (Ld:Ws),i+m=t.P.length->Cl 0 Ld->env.get 2=.ptr (.own H.length 0 0 0 0) 0->env.get 3=.ptr (.own (H.length+1) 0 0 0 0) 0->env.get 5=.ptr (.own (H.length+2) 0 0 0 0) 0->env.get 7=i64 i ->
  LI Tryz.prog N Qb QhF env (H++Qd g::tB t::wO H.length t j i::op::⟨sls (t.P.take i),45,i,true⟩::Ld) K:=by
 intro m
 induction m with
 |zero =>
  intro i env Ld hi hL h2 h3 h5 h6;refine Qc hm' QhF.eq_1 ?_;have e:i=t.P.length:=by omega
  subst e;rw[Yq];simp -implicitDefEqProofs[h3,h6,tB,Tin.cells];exact hexit _ Ld hL (by simp[h2]) (by simp[h3]) (by simp[h5])
 |succ m ih =>
  intro i env Ld hi hL h2 h3 h5 h6;refine Qc hm' QhF.eq_1 ?_;have hiP:i<t.P.length:=by omega
  have l1:=hr _ (Vf hiP);have w1:=Qw (show i<9223372036854775807 by omega);have hol:(sls (t.P.take i)).length=i:=by simp; omega
  have hset:=QnC hiP;have hun:=Q3 0 (t.P.take i);have hsr1:=Qey hiP;have hsr2:=QaE hiP;generalize t.P[i]=row at *;simp -implicitDefEqProofs[h2,h3,h5,h6,tB,Tin.cells,hiP,hsr1,hsr2,sl,wO,w1];repeat (refine⟨by omega,?_⟩)
  generalize hke:H.length+(Ld.length+5)=k at *;have hkk:(H++[Qd g,tB t]).length+(Ld.length+3)=k:=by simp; omega
  have hgv:SV.gv k 1 (Qa row) 1 (.own k 0 row.length 1 1)=sl row:=by
   simp[sl,show(Qa row).length=row.length by simp,VA]
  have hgo:(sls (t.P.take i)++[SV.own k 0 row.length 1 1]).map (SV.gv k 1 (Qa row) 1)=sls (t.P.take (i+1)):=by
   rw[V8,Vn,VF,hgv,<- hset];congr 1;conv=>rhs; rw[<-YB (sls (t.P.take i))]
   exact Vt λs hs=>Qd5 (VS _) _ s ((SV.underL_iff ..).1 hun s hs)
  have hgw:AO.gv k 1 (Qa row) 1 (wO H.length t j (i+1))=wO H.length t j (i+1):=by
   simp[AO.gv,wO,show ¬ (H.length+3=k)by omega,show ¬ (H.length+4=k)by omega]
  have hgp:AO.gv k 1 (Qa row) 1 op=op:=by
   have:=AO.gv_cl (k:=k) (ver:=1) (d:=1) (cs:=Qa row) (VS k) (Cl.cons hopc (Cl.nil _));simpa using this
  refine LI.cong (H':=(H++[Qd g,tB t])++(wO H.length t j (i+1)::op::⟨sls (t.P.take i)++[.own k 0 row.length 1 1],45,i+1,true⟩::(Ld++[⟨Qa row,3,1,true⟩,⟨[.own k 0 row.length 1 1],45,0,true⟩]))) (by simp[wO,tB,Tin.cells]) ?_;refine LI.tell (Qcg.give hcl (Ld.length+3) 1 (o:=⟨Qa row,3,1,true⟩) (by simp) rfl) ?_;rw[hkk];refine LI.cong (H':=H++Qd g::tB t::wO H.length t j (i+1)::op::⟨sls (t.P.take (i+1)),45,i+1,true⟩::(Ld++[AO.dead ⟨Qa row,3,1,true⟩,⟨[sl row],45,0,true⟩])) ?_ ?_
  . rw[show Ld.length+3=Ld.length+1+1+1 from rfl,Yt,Yt,Yt,Yr _ _ (Vc _),YT,ZX];have ea:=λk ver cs d=>AO.gv_cl (k:=k) (ver:=ver) (d:=d) (cs:=cs) (VS k) hL;simp only[Vn,V8,VF,ea,hgw,hgp];simp only[AO.gv,hgo,hgv,AO.dead,VF,Vn,VQ,V6,VW]
  . refine ih (i+1) _ _ (by omega) ?_ ?_ ?_ ?_ ?_
    . exact hL.app (Cl.cons (by simp[AO.dead,SV.underL]) (Cl.cons (by simp[SV.underL,sl,SV.under]) (Cl.nil _)))
    all_goals rw[QfU _ (SV.gv _ _ _ _) (Qgl _ _ _ _)]
    . simp
    . simp
    . simp
    . simp
end
section
variable {H:Ws} {g:Gm} {t:Tin}
theorem QuV (hA:t.A.length=g.is.length) (hP:t.P.length=g.is.length):QQ g (s0T g t.rnd t.seed t.A t.P)=t:=by
 have e:∀ L:List (List Int),L.length=g.is.length->(List.range g.is.length).map (λi=>L.getD i [])=L:=λL hL=>by
  apply Vv;intro i;by_cases hi:i<g.is.length
  . simp[hi,show i<L.length by omega]
  . simp[hi,show L.length<=i by omega]
 simp only[QQ,s0T,e _ hA,e _ hP]
theorem Qsu (h:QP g t=0):Qai g t 1=if 1000000<=t.rnd then(.zero,2)else if okB g (Q8 g (cTC g) (s0T g t.rnd t.seed t.A t.P))=true then(QQ g (Q8 g (cTC g) (s0T g t.rnd t.seed t.A t.P)),0)else(.zero,5):=by
 obtain⟨hW,r0,r1,hA,hP⟩:=QcO h;unfold Qai;rw[Wa (by simpa using h)];by_cases hr:1000000<=t.rnd
 . rw[Wb hr,Wb (by omega)]
 . rw[Wa hr,Wa (by omega)];by_cases ho:okB g (Q8 g (cTC g) (s0T g t.rnd t.seed t.A t.P))=true
   . simp[QbT,ho]
   . simp[QbT,ho]
theorem Qs7 (h:QP g t=0):Ok Tryz.prog 46 [.agg g.cells,.agg t.cells] H (.ret (.tup [.agg (Qai g t 1).1.cells,i64 (Qai g t 1).2])) H:=by
 obtain⟨hW,r0,r1,hA,hP⟩:=QcO h;have hs:=QpO h;have e:=QuV (g:=g) (t:=t) (QbI hW hA).1 (QbI hW hP).1;rw[Qsu h];by_cases hr:1000000<=t.rnd
 . rw[Wb hr];have h1:=ok46 (H:=H) hW (Qny hs) hs.r0 (Qpd hW hs) (QnO hW hs) (QiM (own:=false) hW hs.R) (QiM (own:=true) hW hs.O);rw[e]at h1;unfold Qc9 at h1;rw[Wb hr]at h1;exact h1
 . rw[Wa hr];have h1:=QtP (H:=H) hW hs (show(s0T g t.rnd t.seed t.A t.P).rnd<1000000 by show t.rnd<_; omega);rw[e]at h1;by_cases ho:okB g (Q8 g (cTC g) (s0T g t.rnd t.seed t.A t.P))=true
   . rw[Wb ho,Wb ho]at h1; rw[Wb ho]; exact h1
   . rw[Wa ho,Wa ho]at h1; rw[Wa ho]; exact h1
theorem ok22:Ok Tryz.prog 22 [.agg g.cells,.agg t.cells] H (.ret (.tup [.agg (Qai g t 1).1.cells,i64 (Qai g t 1).2])) H:=by
 refine Ql hm' Tryz.func22 c22 (by simp[Gm.cells,Q5,Q6,Tin.cells,Q3]) λhcl => ?_;have h14:=λH=>Qjf (H:=H) (g:=g) (t:=t);simp only[Gm.cells,Tin.cells]at h14;simp -implicitDefEqProofs[i22,r22,Gm.cells,Tin.cells];refine Qh (h14 _) ?_;by_cases hc:QP g t=0
 . have h46:=λH=>Qs7 (H:=H) hc;simp only[Gm.cells,Tin.cells]at h46;simp -implicitDefEqProofs[hc];refine Qh (h46 _) ?_;simp -implicitDefEqProofs;exact Qi 3 hcl rfl (QaA (by simp[SV.under,SV.underL,Q3]))
 . have e:Qai g t 1=(.zero,QP g t):=by unfold Qai; rw[Wb hc]
   rw[e];simp -implicitDefEqProofs[hc];exact⟨rfl,Qek hcl _ _⟩
def Qbj (g:Gm) (t:Tin):SV×Int:=if QP g t≠0 then(nl,QP g t)else(.slc (sls (t.A.map QG)) t.A.length,0)
theorem ok20:Ok Tryz.prog 20 [.agg g.cells,.agg t.cells] H (.ret (.tup [(Qbj g t).1,i64 (Qbj g t).2])) H:=by
 refine Ql hm' Tryz.func20 c20 (by simp[Gm.cells,Q5,Q6,Tin.cells,Q3]) λhcl => ?_;have h14:=λH=>Qjf (H:=H) (g:=g) (t:=t);simp only[Gm.cells,Tin.cells]at h14;simp -implicitDefEqProofs[i20,r20,Gm.cells,Tin.cells];refine Qh (h14 _) ?_;by_cases hc:QP g t=0
 . have e:Qbj g t=(.slc (sls (t.A.map QG)) t.A.length,0):=by unfold Qbj; rw[Wa (by simpa using hc)]
   obtain⟨⟨a1,a2⟩,_⟩:=Qfe hc;have h46:=λH=>ok44 (H:=H) (t:=t) a2 (by omega);simp only[Tin.cells]at h46;rw[e];simp -implicitDefEqProofs[hc];refine Qh (h46 _) ?_;simp -implicitDefEqProofs;exact Qi 3 hcl rfl (QaA (by simp[SV.under,SV.underL,Q3]))
 . have e:Qbj g t=(nl,QP g t):=by unfold Qbj; rw[Wb hc]
   rw[e];simp -implicitDefEqProofs[hc];exact Qi 2 hcl rfl (by simp)
theorem ok9':Ok Tryz.prog 9 [.agg g.cells,.agg t.cells] H (.ret (.tup [(Qbj g t).1,i64 (Qbj g t).2])) H:=by
 by_cases hc:QP g t=0
 . obtain⟨hW,r0,r1,hA,hP⟩:=QcO hc;obtain⟨⟨a1,a2⟩,_⟩:=Qfe hc;have la:=(QbI hW hA).1;have h:=ok9 (H:=H) hW hc (Qnu hc) a2;have e:Qbj g t=(.slc (sls (t.A.map QG)) t.A.length,0):=by unfold Qbj; rw[Wa (by simpa using hc)]
   have e2:((List.range g.is.length).map λj=>QG (t.A.getD j []))=t.A.map QG:=by
    apply Y4 (by simp[la]);intro i h1 h2;simp at h1 h2;simp[h2]
   rw[e2]at h;rw[e,la];exact h
 . have e:Qbj g t=(nl,QP g t):=by unfold Qbj; rw[Wb hc]
   rw[e];refine Ql hm' Tryz.func9 c9 (by simp[Gm.cells,Q5,Q6,Tin.cells,Q3]) λhcl => ?_;have h14:=λH=>Qfz (H:=H) (g:=g) (t:=t);simp only[Gm.cells,Tin.cells]at h14;simp -implicitDefEqProofs[i9,r9,Gm.cells,Tin.cells];refine Qh (h14 _) ?_;simp -implicitDefEqProofs[hc];exact Qi 2 hcl rfl (by simp)
set_option maxRecDepth 10000 in
theorem ok19:Ok Tryz.prog 19 [.agg g.cells] H (.ret (.tup [.agg (QbF g).1.cells,i64 (QbF g).2])) H:=by
 refine Ql hm' Tryz.func19 c19 (by simp[Gm.cells,Q5,Q6]) λhcl => ?_;have h36:=λH=>ok42 (H:=H) (g:=g);simp only[Gm.cells]at h36;simp -implicitDefEqProofs[i19,r19,Gm.cells];refine Qh (h36 _) ?_;by_cases hp:g.prpE=0
 . have hW:Wg g:=QeR hp;have e:QbF g=(⟨0,0,(List.range g.is.length).map (Qad g),(List.range g.is.length).map (Qad g)⟩,0):=by unfold QbF; rw[Wa (by simpa using hp)]
   have h37:=λH=>ok43 (H:=H) hW;simp only[Gm.cells]at h37;simp -implicitDefEqProofs[hp];refine Qh (h37 _) ?_;simp -implicitDefEqProofs;refine Qh (h37 _) ?_;have hb1:=QdO (H.length+2) g g.is.length;have hr1:=λi hi=>QfI (H.length+2) g g.is.length i hi;have hb2:=λh=>QdO h g g.is.length;have hr2:=λh i hi=>QfI h g g.is.length i hi;generalize QaS (H.length+2) g g.is.length=M at *;have hb3:=hb2 (H.length+(M.length+4));have hr3:=hr2 (H.length+(M.length+4));simp -implicitDefEqProofs[Yn];rw[e];generalize QaS (H.length+(M.length+4)) g g.is.length=M2 at *;have hcv:=λ(L:Ws) (r:SV) (h:SV.fz H.length [] L 6 r=.tup [.agg (Tin.mk 0 0 ((List.range g.is.length).map (Qad g)) ((List.range g.is.length).map (Qad g))).cells,i64 0])=>Qi (n0:=H.length) (H:=H) (L:=L) 6 hcl rfl h;refine hcv _ _ ?_;have key:∀ (L:Ws) (a b:Nat) (qa qb:Nat->Nat),L[a]? = some ⟨Qx g.is.length qa g.acts 0,45,g.is.length,true⟩->L[b]? = some ⟨Qx g.is.length qb g.acts 0,45,g.is.length,true⟩->(∀ i,i<g.is.length->H.length<=qa i/\L[qa i-H.length]? = some (Q0 0 (Qv (g.acts i))))->(∀ i,i<g.is.length->H.length<=qb i/\L[qb i-H.length]? = some (Q0 0 (Qv (g.acts i)))) ->
    SV.fz H.length [] L 6 (.tup [.agg [i64 0,i64 0,.own (H.length+a) 0 g.is.length 1 g.is.length,.own (H.length+b) 0 g.is.length 1 g.is.length],i64 0])=.tup [.agg (Tin.mk 0 0 ((List.range g.is.length).map (Qad g)) ((List.range g.is.length).map (Qad g))).cells,i64 0]:=by
    intro L a b qa qb ha hb hqa hqb;have at':∀ k,H.length<=k->(H++L)[k]? = L[k-H.length]? := λk hk=>by rw[Vh hk]
    have fS:=QcM (H:=H) (G:=H++L) (p:=H.length+a) (A:=Qad g) (by omega) (by rw[at' _ (by omega),show H.length+a-H.length=a by omega]; exact ha) (λi hi=>⟨(hqa i hi).1,by rw[at' _ (hqa i hi).1]; exact(hqa i hi).2,by simp[Qad,Qv]⟩) 1;have fP:=QcM (H:=H) (G:=H++L) (p:=H.length+b) (A:=Qad g) (by omega) (by rw[at' _ (by omega),show H.length+b-H.length=b by omega]; exact hb) (λi hi=>⟨(hqb i hi).1,by rw[at' _ (hqb i hi).1]; exact(hqb i hi).2,by simp[Qad,Qv]⟩) 1;rw[List.drop_left]at fS fP;simp only[Qd8,Vn,VF,Qe9,Qdd,Nat.reduceAdd,fS,fP];simp[Tin.cells]
   refine key _ 3 (M.length+5) (pZ (H.length+2)) (pZ (H.length+(M.length+4))) rfl ?_ (λi hi=>⟨by unfold pZ; omega,?_⟩) (λi hi=>⟨by unfold pZ; omega,?_⟩)
   . rw[show M.length+5=(M.length+1)+4 by omega];simp only[V7];rw[Vh (by omega),show M.length+1-M.length=1 by omega]; rfl
   . rw[show pZ (H.length+2) i-H.length=(2*i)+4 by unfold pZ; omega];simp only[V7];rw[Ve (by omega)]; exact hr1 i hi
   . rw[show pZ (H.length+(M.length+4)) i-H.length=(M.length+(2*i+2))+4 by unfold pZ; omega];simp only[V7];rw[Vh (by omega),show M.length+(2*i+2)-M.length=2*i+2 by omega];simp only[V7];exact hr3 i hi
 . have e:QbF g=(.zero,g.prpE):=by unfold QbF; rw[Wb hp]
   rw[e];simp -implicitDefEqProofs[hp];exact⟨rfl,Qek hcl _ _⟩
end
section
variable {H:Ws} {g:Gm} {t:Tin}
theorem Qso:(QbF g).1.small:=by
 unfold QbF;by_cases hp:g.prpE=0
 . have hW:=QeR hp;rw[Wa (by simpa using hp)];have hil:=hW.gd.i;refine⟨⟨by simp; omega,λl hl => ?_⟩,by simp; omega,λl hl => ?_⟩;all_goals
    simp only[Vj,VE]at hl;obtain⟨j,hj,rfl⟩:=hl;have:=QaV hW hj;simp[Qad,Qv];omega
 . rw[Wb hp]; exact Qhi
theorem QvO (h:Qc0 t.A=false) (h':Qc0 t.P=false):t.small:=by
 have key:∀ L,Qc0 L=false->L.length<=1000/\∀ l∈L,l.length<=100000:=by
  intro L hL;simp only[Qc0,Bool.or_eq_false_iff,Wp,ZK,Wd]at hL;exact⟨by omega,λl hl=>by have:=hL.1 l hl; omega⟩
 exact⟨key _ h,key _ h'⟩
theorem Qo9 {x y:Int} (hx : -9223372036854775808<=x/\x<=9223372036854775807) (hy : -9223372036854775808<=y/\y<=9223372036854775807):(Qc3 x y).fit:=by
 have key:∀ n:Nat,n<=9223372036854775808->(lim n).length<4611686018427387904:=λn hn=>by
  have:=Qcr (n:=n) (k:=3) (by
   have:B ^ 3=1000000000000000000000000000:=by decide
   omega)
  omega
 have h1:∀ a b:Nat,a / b<=a:=λa b=>YS _ _;refine⟨key _ ?_,key _ ?_⟩
 . simp only[Qc3,low];have:=h1 x.natAbs (Nat.gcd x.natAbs y.natAbs);omega
 . simp only[Qc3,low];have:=h1 y.natAbs (Nat.gcd x.natAbs y.natAbs);omega
theorem QvR (h:QP g t=0):(t.P.map Qm).length<4611686018427387904/\∀ l∈t.P.map Qm,l.length<4611686018427387904/\∀ q∈l,q.fit:=by
 obtain⟨_,q1,q2⟩:=Qfe h;refine⟨by simp; omega,λl hl => ?_⟩;obtain⟨r,hr,rfl⟩:=Vj.1 hl;obtain⟨⟨l1,l2⟩,l3⟩:=q2 r hr;have hs:=Qex l3;refine⟨by simp[Qm]; omega,λq hq => ?_⟩;simp only[Qm,Vj]at hq;obtain⟨x,hx,rfl⟩:=hq;have:=l3 x hx;by_cases hz:QV r=0
 . rw[Wb hz]; exact Qo9 (by omega) (by omega)
 . rw[Wa hz]; exact Qo9 (by omega) (by omega)
theorem Qv2:Ok Tryz.prog 17 [(Qbk g t).1,(Qbk g t).1] H (.ret (bl true)) H:=by
 unfold Qbk;by_cases hc:QP g t=0
 . rw[Wa (by simpa using hc)];obtain⟨h1,h2⟩:=QvR hc;exact QsV h1 h2
 . rw[Wb hc]; exact Qqj
theorem Qtn:Ok Tryz.prog 15 [(Qbj g t).1,(Qbj g t).1] H (.ret (bl true)) H:=by
 unfold Qbj;by_cases hc:QP g t=0
 . rw[Wa (by simpa using hc)];obtain⟨⟨a1,a2⟩,_⟩:=Qfe hc;obtain⟨hW,r0,r1,hA,hP⟩:=QcO hc;have la:=(QbI hW hA).1;have hil:=hW.gd.i;have:=QfF (H:=H) (A:=t.A.map QG) (by simp; omega) (λl hl=>by
    obtain⟨r,hr,rfl⟩:=Vj.1 hl;have:=(a2 r hr).1;rw[Qfy]; omega)
   simpa using this
 . rw[Wb hc]; exact Qqd
theorem Qur (n:Nat):(Qbk g t).1.under n=true:=by
 unfold Qbk;by_cases hc:QP g t=0
 . rw[Wa (by simpa using hc)]; exact Qoq n _
 . rw[Wb hc]; rfl
theorem QtO (n:Nat):(Qbj g t).1.under n=true:=by
 unfold Qbj;by_cases hc:QP g t=0
 . rw[Wa (by simpa using hc)]; simp[SV.under,Q3]
 . rw[Wb hc]; rfl
end
section
variable {H:Ws} {g:Gm} {t:Tin}
set_option maxRecDepth 10000 in
theorem Qq1 (hcl:closed H) (ht:t.small) {D:Ws} {env:Env} (h2:env.get 2=.ptr (.own H.length 0 0 0 0) 0) (h3:env.get 3=.ptr (.own (H.length+1) 0 0 0 0) 0) (h5:env.get 5=.ptr (.own (H.length+2) 0 0 0 0) 0) :
 X Tryz.prog Tryz.f4.ntmps Qb (IC.tl 6 i4) env (H++Qd g::tB t::tB t::D) (Ab.Fin H.length r4 (.ret (bl true)) H):=by
 have h8:=λH=>ok8 (H:=H) (g:=g);have h19:=λH=>ok19 (H:=H) (g:=g);have h9:=λH=>ok9' (H:=H) (g:=g) (t:=t);have h20:=λH=>ok20 (H:=H) (g:=g) (t:=t);have h12:=λH=>ok12 (H:=H) (g:=g) (t:=t);have h21:=λH=>ok21 (H:=H) (g:=g) (t:=t);have h10:=λH=>ok10 (H:=H) (g:=g) t;have h22:=λH=>ok22 (H:=H) (g:=g) (t:=t);have h14:=λH=>Qfz (H:=H) (g:=g) (t:=t);have h23:=λH=>Qjf (H:=H) (g:=g) (t:=t);have h16n:=λH=>Qko (H:=H) (Qso (g:=g));have h16r:=λH=>Qko (H:=H) (QuA (g:=g) t 1);have h16t:=λH=>Qko (H:=H) ht;have h15:=λH=>Qtn (H:=H) (g:=g) (t:=t);have h17:=λH=>Qv2 (H:=H) (g:=g) (t:=t);obtain⟨s,hs⟩:∃ s,(Qbj g t)=s:=⟨_,rfl⟩;obtain⟨a,ha⟩:∃ s,(Qbk g t)=s:=⟨_,rfl⟩;obtain⟨nw,hnw⟩:∃ s,(QbF g)=s:=⟨_,rfl⟩;obtain⟨rn,hrn⟩:∃ s,(Qai g t 1)=s:=⟨_,rfl⟩;have us:∀ n,s.1.under n=true:=λn=>by rw[<-hs]; exact QtO n
 have ua:∀ n,a.1.under n=true:=λn=>by rw[<-ha]; exact Qur n
 have ts:s.1.strip=s.1:=by
  rw[<-hs]; unfold Qbj;by_cases hc:QP g t=0
  . rw[Wa (by simpa using hc)]; rfl
  . rw[Wb hc]; rfl
 have ta:a.1.strip=a.1:=by
  rw[<-ha]; unfold Qbk;by_cases hc:QP g t=0
  . rw[Wa (by simpa using hc)]; rfl
  . rw[Wb hc]; rfl
 rw[hs]at h9 h20 h15;rw[ha]at h12 h21 h17;rw[hnw]at h8 h19 h16n;rw[hrn]at h10 h22 h16r;simp only[Gm.cells,Tin.cells]at h8 h19 h9 h20 h12 h21 h10 h22 h14 h23 h16n h16r h16t;obtain⟨s1,s2⟩:=s;obtain⟨a1,a2⟩:=a;simp -implicitDefEqProofs[i4,IC.tl,h2,h3,h5,Qd,tB,Gm.cells,Tin.cells];refine Qh (h8 _) ?_;simp -implicitDefEqProofs[h2,h3,h5];refine Qh (h19 _) ?_;simp -implicitDefEqProofs[h2,h3,h5];refine Qh (h9 _) ?_;simp -implicitDefEqProofs[h2,h3,h5];refine Qh (h20 _) ?_;simp -implicitDefEqProofs[h2,h3,h5];refine Qh (h12 _) ?_;simp -implicitDefEqProofs[h2,h3,h5];refine Qh (h21 _) ?_;simp -implicitDefEqProofs[h2,h3,h5];refine Qh (h10 _) ?_;simp -implicitDefEqProofs[h2,h3,h5];refine Qh (h22 _) ?_;simp -implicitDefEqProofs[h2,h3,h5];refine Qbv (λ_=>h16n _) ?_;simp -implicitDefEqProofs[h2,h3,h5];refine Qbv (λ_=>h14 _) ?_;simp -implicitDefEqProofs[h2,h3,h5];refine Qbv (λ_=>h23 _) ?_;simp -implicitDefEqProofs[h2,h3,h5];refine Qbv (r:=bl true) (λ_=>by simpa[SV.strip,ts]using h15 _) ?_;simp -implicitDefEqProofs[h2,h3,h5];refine Qbv (r:=bl true) (λ_=>by simpa[SV.strip,ta]using h17 _) ?_;simp -implicitDefEqProofs[h2,h3,h5];refine Qbv (λ_=>h16r _) ?_;simp -implicitDefEqProofs[h2,h3,h5];refine Qbv (λ_=>h16t _) ?_;simp -implicitDefEqProofs[h2,h3,h5,r4];exact Qi 1 hcl rfl (by simp)
end
section
variable {H:Ws} {g:Gm} {t:Tin}
set_option maxRecDepth 10000 in
theorem mid4 (hcl:closed H) (ht:t.small) {env:Env} (h2:env.get 2=.ptr (.own H.length 0 0 0 0) 0) (h3:env.get 3=.ptr (.own (H.length+1) 0 0 0 0) 0) :
 WI Tryz.prog Tryz.f4.ntmps Qb (IC.tl 3 i4) env (H++[Qd g,tB t]) (Ab.Fin H.length r4 (.ret (bl true)) H):=by
 have hcl2:closed (H++[Qd g,tB t]):=QlA hcl;rw[show IC.tl 3 i4=.seq (IC.nth 3 i4) (.seq (IC.nth 4 i4) (.seq (IC.nth 5 i4) (IC.tl 6 i4)))from rfl];have fin:=λD env=>Qq1 (g:=g) (t:=t) hcl ht (D:=D) (env:=env);obtain⟨t6,ht6⟩:∃ t,IC.tl 6 i4=t:=⟨_,rfl⟩;rw[ht6]at fin ⊢;refine WI.seq (Qcs hm') ?_;simp -implicitDefEqProofs[IC.nth,i4,h2,h3,Qd,tB,Gm.cells,Tin.cells];refine⟨rfl,WI.keep [2,3,5] ?_⟩;simp -implicitDefEqProofs[h2,h3];refine WI.tell (Qcg.own0 (j:=H.length+2) (p:=2) (o:=⟨[i64 t.rnd,i64 t.seed,nl,nl],30,0,true⟩) ?_ rfl rfl 45 1) ?_
 . simp[Qkp]
 refine WI.tell (Qcg.own0 (j:=H.length+2) (p:=3) (o:=⟨[i64 t.rnd,i64 t.seed,.own (H.length+3) 0 0 1 0,nl],30,0,true⟩) ?_ rfl rfl 45 1) ?_
 . simp[Qkp,Go.Ab.set_app]
 refine WI.cong (H':=H++Qd g::tB t::wO H.length t 0 0::⟨sls (t.A.take 0),45,0,true⟩::⟨sls (t.P.take 0),45,0,true⟩::[]) ?_ ?_
 . simp[Go.Ab.set_app,wO,Qd,tB,Gm.cells,Tin.cells,sls]
 obtain⟨⟨a1,a2⟩,p1,p2⟩:=ht;refine WI.seq (Qcs hm') ?_;simp -implicitDefEqProofs;refine QtY (j:=0) (op:=⟨sls (t.P.take 0),45,0,true⟩) hcl2 (by omega) (λl hl=>by have:=a2 l hl; omega) rfl (by simp[Q3]) (λenv Ld hL k2 k3 k5 => ?_) t.A.length 0 _ [] (by omega) (Cl.nil _) (by simp) (by simp) (by simp) (by simp);simp -implicitDefEqProofs;refine WI.seq (Qcs hm') ?_;simp -implicitDefEqProofs;refine QsB (j:=t.A.length) (op:=⟨sls t.A,45,t.A.length,true⟩) hcl2 (by omega) (λl hl=>by have:=p2 l hl; omega) rfl (by simp[Q3]) (λenv Ld hL k2 k3 k5 => ?_) t.P.length 0 _ _ (by omega) hL (by simp[k2]) (by simp[k3]) (by simp[k5]) (by simp);simp -implicitDefEqProofs;refine WI.keep [2,3,5] ?_;simp -implicitDefEqProofs[k2,k3,k5];have ea:=λk ver cs d=>AO.gv_cl (k:=k) (ver:=ver) (d:=d) (cs:=cs) (VS k) hL;have hl2:(H++[Qd g,tB t]).length=H.length+2:=by simp
 have gA:(sls t.A).take t.A.length=sls t.A:=by rw[VA]; simp
 have gP:(sls t.P).take t.P.length=sls t.P:=by rw[VA]; simp
 have mA:∀ k v cs d,(sls t.A).map (SV.gv k v cs d)=sls t.A:=λk v cs d=>by
  conv=>rhs; rw[<-YB (sls t.A)]
  exact Vt λs hs=>Qd5 (VS _) _ s ((SV.underL_iff ..).1 (Q3 0 t.A) s hs)
 have mP:∀ k v cs d,(sls t.P).map (SV.gv k v cs d)=sls t.P:=λk v cs d=>by
  conv=>rhs; rw[<-YB (sls t.P)]
  exact Vt λs hs=>Qd5 (VS _) _ s ((SV.underL_iff ..).1 (Q3 0 t.P) s hs)
 refine WI.cong (H':=(H++[Qd g,tB t])++(wO H.length t t.A.length t.P.length::⟨sls t.A,45,t.A.length,true⟩::⟨sls t.P,45,t.P.length,true⟩::Ld)) (by simp) ?_;refine WI.tell (Qcg.give hcl2 1 1 (o:=⟨sls t.A,45,t.A.length,true⟩) (by simp) rfl) ?_;rw[hl2];refine WI.cong (H':=(H++[Qd g,tB t])++(⟨[i64 t.rnd,i64 t.seed,.slc (sls t.A) t.A.length,.own (H.length+4) 0 t.P.length 1 t.P.length],30,0,true⟩::AO.dead ⟨sls t.A,45,t.A.length,true⟩::⟨sls t.P,45,t.P.length,true⟩::Ld)) ?_ ?_
 . simp[AO.gv,wO,AO.dead,ea,gA,mP]
 refine WI.tell (Qcg.give hcl2 2 1 (o:=⟨sls t.P,45,t.P.length,true⟩) (by simp) rfl) ?_;rw[hl2];refine WI.cong (H':=H++Qd g::tB t::tB t::(AO.dead ⟨sls t.A,45,t.A.length,true⟩::AO.dead ⟨sls t.P,45,t.P.length,true⟩::Ld)) ?_ ?_
 . simp[AO.gv,tB,Tin.cells,AO.dead,ea,gP]
 refine WI.of_X (Qcs hm') (fin _ _ ?_ ?_ ?_);all_goals simp
theorem ok4 (hA:t.A.length<=9223372036854775807) (hP:t.P.length<=9223372036854775807):Ok Tryz.prog 4 [.agg g.cells,.agg t.cells] H (.ret (bl true)) H:=by
 refine Qrn hm' Tryz.func4 c4 (by simp) λhcl => ?_;rw[show i4=.seq (IC.nth 0 i4) (.seq (IC.nth 1 i4) (.seq (IC.nth 2 i4) (IC.tl 3 i4)))from rfl];have fin:=λhs env=>mid4 (g:=g) (t:=t) hcl hs (env:=env);obtain⟨t3,ht3⟩:∃ t,IC.tl 3 i4=t:=⟨_,rfl⟩;rw[ht3]at fin ⊢;refine WI.seq (Qcs hm') ?_;simp -implicitDefEqProofs[IC.nth,i4,Gm.cells,Tin.cells];refine WI.seq (Qcs hm') ?_;simp -implicitDefEqProofs;refine Qh ok6 ?_;simp -implicitDefEqProofs;refine WI.seq (Qcs hm') ?_;simp only[Qd,tB,Gm.cells,Tin.cells]at fin;simp -implicitDefEqProofs;by_cases c1:(60:Int)<(g.ns.length:Int)
 . simp -implicitDefEqProofs[c1];refine QeY _ _ _ _ ?_;simp -implicitDefEqProofs[c1];refine QeY _ _ _ _ ?_;simp -implicitDefEqProofs[c1,r4];exact Qi 1 hcl rfl (by simp)
 . simp -implicitDefEqProofs[c1];refine Qbv (λ_=>ok18 hA) ?_;by_cases lA:Qc0 t.A=true
   . simp -implicitDefEqProofs[c1,lA];refine QeY _ _ _ _ ?_;simp -implicitDefEqProofs[c1,lA,r4];exact Qi 1 hcl rfl (by simp)
   . rw[Bool.not_eq_true]at lA;simp -implicitDefEqProofs[c1,lA];refine Qbv (λ_=>ok18 hP) ?_;by_cases lP:Qc0 t.P=true
     . simp -implicitDefEqProofs[c1,lA,lP,r4];exact Qi 1 hcl rfl (by simp)
     . rw[Bool.not_eq_true]at lP;simp -implicitDefEqProofs[c1,lA,lP];exact fin (QvO lA lP) _ (by simp) (by simp)
end
end Go.Proofs.YtogjmpkehjfecaaGreatDoor.Rc
namespace Go.Proofs.YtogjmpkehjfecaaGreatDoor
open Go.Ab Go.ChangeShapes Go.WideShapes Go.ChangeAt Go.RowKit
def laid3 : List (String × DataW Unit) := [("math/bits.deBruijn64tab", Rows.laid_math_bits_deBruijn64tab)]
theorem own:ownKnob Tryz.prog.godebug=none:=by kernel_rfl
theorem laidOut:laidOutB Tryz.prog=true:=by kernel_rfl
theorem gB : Tryz.prog.globalNamed "math/bits.deBruijn64tab" = some 0 := by kernel_rfl
theorem tB:(Tryz.prog.globals[0]?).map (·.type)=some 203:=by kernel_rfl
theorem uB:Tryz.prog.underlying 203=some (.array 64 5):=by kernel_rfl
theorem u5:Tryz.prog.underlying 5=some (.int .u8):=by kernel_rfl
theorem door_met (os:Os) (args:Array Value):laidMetH Tryz.prog laid3 ((World.doorLaid Tryz.prog 400 os).forCall (λ_ _=>0) ⟨#[],args,[]⟩).memory :=
 laidMet_of_run' 8 (by kernel_rfl) (by kernel_rfl)
theorem QvU {P:Wx} {W:Wy} {base:Nat} {sp:Nat->Bool} {held:Bool} {fuel n:Nat} {t e:Ww} {cs:Wu} {bs:List Int} {p:List MemPlace} {enc:Ww×Value->Unit} (ht:P.underlying t=some (.array n e)) (he:P.underlying e=some (.int .u8)) (hc:P.cellsOf e=1) (hct:P.cellsOf t=n)
 (h:DataW.trod enc P W base sp held fuel t cs=some (.agg (bs.map λb=>.lit (.int .u8 b)),p)):cs=bs.map (Value.int .u8):=by
 obtain⟨xs,m,rfl,hx,hlen,hn,hel⟩:=DataW.trod_array ht h;simp only[Prod.mk.injEq,DataW.agg.injEq]at hx;have hbl:bs.length=n:=by have:=Wn List.length hx.1; simp at this; omega
 rw[hct]at hlen;refine Y4 (by simp; omega) λi h1 h2 => ?_;have hi:i<n:=by omega
 have h3:=hel i hi;have hxi:i<xs.length:=by omega
 rw[Vb hxi,hc,Yw]at h3;obtain⟨b,e1,e2,_⟩:=DataW.trod_int he h3;have e3:cs[i]=.int .u8 b:=by
  rw[Vy h1,List.take_succ_cons,Yi]at e1;exact(List.cons.inj e1).1
 have hbi:i<bs.length:=by omega
 have e4:(bs.map λb=>(DataW.lit (.int .u8 b):DataW Unit))[i]'(by simpa using hbi)=(xs.map (·.1))[i]'(by simpa using hxi):=by
  simp only[hx.1]
 simp only[List.getElem_map,e2]at e4;have:bs[i]=b:=by simpa using e4
 rw[e3,List.getElem_map,this]
theorem gl_of {W:Wy} (h:laidMetH Tryz.prog laid3 W):(st0 W).GL:=by
 have h' : laidMet Tryz.prog [("math/bits.deBruijn64tab", Rows.laid_math_bits_deBruijn64tab)] W := h
 obtain⟨ps,⟨g0,t0,cs0,f0,p0,q0,hg0,ht0,hv0,hd0,_,_⟩,_⟩:=h';obtain rfl:=Option.some.inj (gB.symm.trans hg0);obtain rfl:=Option.some.inj (tB.symm.trans ht0);have b0:cs0.toList=Qgf.map (Value.int .u8):=QvU (bs:=Qgf) uB u5 (by kernel_rfl) (by kernel_rfl) hd0;have shp:∀ (g:Nat) (nm:String) (cs:Array Value) (us:Wu),Tryz.prog.globalNamed nm=some g->W.var? Tryz.prog nm=some cs->cs.toList=us->∃ T,(st0 W).w.shape? g=some (T,us.length):=by
  intro g nm cs us h1 h2 h3;simp only[World.var?,h1,Option.bind_some]at h2;split at h2
  . rename_i cs' T f hh
    cases h2
    refine⟨T,?_⟩;show W.shape? g=_;unfold World.shape?;rw[hh,<- h3];simp
  . cases h2
 have key:∀ (g:Nat) (nm:String) (cs:Array Value) (us:Wu),Tryz.prog.globalNamed nm=some g->W.var? Tryz.prog nm=some cs->cs.toList=us->us.all Qim=true->(st0 W).Imm ⟨g,0,none⟩ us:=by
  intro g nm cs us h1 h2 h3 h4;refine⟨λj u hj => ?_,λ_=>rw0 W _,λ_ _=>.inr h4⟩;have:=World.var?_cell h1 h2 j;have e:((⟨g,0,none⟩:Addr).add j)=⟨g,j,none⟩:=by unfold Addr.add; split<;>simp_all
  rw[e];show W.cell? _=_;rw[this,<- ZB,h3]; exact hj
 intro g us hg
 match g,hg with
 |0,hg=>cases hg; exact⟨key 0 _ _ _ gB hv0 b0 (by decide),shp 0 _ _ _ gB hv0 b0⟩
end Go.Proofs.YtogjmpkehjfecaaGreatDoor
