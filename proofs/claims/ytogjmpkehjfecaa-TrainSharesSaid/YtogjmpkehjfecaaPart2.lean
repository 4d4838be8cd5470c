/- Steps of the proof. -/
import Derived.Test.YtogjmpkehjfecaaIr29
import Derived.Test.YtogjmpkehjfecaaCore4
import Derived.Test.YtogjmpkehjfecaaCore5
import Derived.Test.YtogjmpkehjfecaaPart1
set_option linter.all false
namespace Go.Proofs.Ytogjmpkehjfecaa.Rc
open Go.Ab
theorem hm:Try.prog.follows .mixedOrders=true:=Try.checked.mixed
section
variable {x:SV} {H:Wu} {l:List Int}
def bx (H:Wu) (a:Nat) (n:Int):Prop:=Qd H a 0=[i64 n]/\a<H.length
def QaO (lo hi n:Int):Bool:=decide (n<lo)||decide (hi<n)
theorem ok93 {a b:Nat} {lo hi:Int} (ha:bx H a lo) (hb:bx H b hi) (n:Int) :
 Ok Try.prog 93 [i64 n,.ptr (.own a 0 0 0 0) 0,.ptr (.own b 0 0 0 0) 0] H (.ret (bl (QaO lo hi n))) H:=by
 refine Qq hm Try.func93 c93 (by simp[ha.2,hb.2]) λhcl => ?_;by_cases h1:n<lo
 . simp -implicitDefEqProofs[i93,r93,ha.1,hb.1,h1,QaO];exact Qn
 . simp -implicitDefEqProofs[i93,r93,ha.1,hb.1,h1,QaO];exact Qn
def QeD (lo hi:Int) (l:List Int):Int:=match l.findIdx? (QaO lo hi)with|some i=>i|none => -1
theorem QuC {lo hi:Int} {l:List Int}:(0<=QeD lo hi l)=(l.any (QaO lo hi)=true):=by
 unfold QeD
 cases h:l.findIdx? (QaO lo hi)with
 |some i =>
  simp only[Int.natCast_nonneg];refine(eq_true ?_).symm;obtain⟨hi,h1,h2⟩:=Zl.1 h;exact Yi.2 ⟨_,Vg hi,h1⟩
 |none =>
  rw[ZI]at h;have:l.any (QaO lo hi)=false:=by
   rw[List.any_eq_false]; intro x hx; simpa using h x hx
  simp[this]
theorem Qpz (hx:IsI H x l) (hl:l.length<4611686018427387904) {a b:Nat} {lo up:Int} (ha:bx H a lo) (hb:bx H b up) {N:Nat} {K:Wt}
 (hret:∀ env (i:Nat),l.findIdx? (QaO lo up)=some i->env.get 4=i64 i->K .ret env H) (hexit:l.findIdx? (QaO lo up)=none->∀ env,K (.exit 0) env H) :
 ∀ (n i:Nat) (env:Env),i+n=l.length->(∀ j (h:j<l.length),j<i->QaO lo up l[j]=false)->env.get 0=x->env.get 1=.fn (.func 93) [] [.ptr (.own a 0 0 0 0) 0,.ptr (.own b 0 0 0 0) 0]->env.get 7=i64 l.length->env.get 8=i64 i ->
  LI Try.prog N Qh QhV env H K:=by
 intro n
 induction n with
 |zero =>
  intro i env hi hp h0 h1 h7 h8;refine Qc hm QhV.eq_1 ?_;have e:i=l.length:=by omega
  simp -implicitDefEqProofs[h7,h8,e];refine hexit ?_ _;rw[ZI];intro y hy;obtain⟨j,hj,rfl⟩:=VX hy;exact hp j hj (by omega)
 |succ n ih =>
  intro i env hi hp h0 h1 h7 h8;refine Qc hm QhV.eq_1 ?_;have hlt:i<l.length:=by omega
  simp -implicitDefEqProofs[h0,h1,h7,h8,hlt,hx.vd,hx.ug,hx.sl,hx.len,hx.v hlt,hx.ok hlt];refine Qj (ok93 ha hb _) ?_
  cases ho:QaO lo up l[i]with
  |true =>
   simp -implicitDefEqProofs;refine hret _ i ?_ (by simp);rw[Zl];exact⟨hlt,ho,λj hj=>by simp[hp j (by omega) hj]⟩
  |false =>
   simp -implicitDefEqProofs[h8];refine ih (i+1) _ (by omega) ?_ ?_ ?_ ?_ ?_
   rotate_left
   . simp[h0]
   . simp[h1]
   . simp[h7]
   . simp[h8,QR (show i<9223372036854775807 by omega)]
   intro j hj hji;by_cases e:j=i
   . subst e; exact ho
   . exact hp j hj (by omega)
theorem Qqs (hx:IsI H x l) (hl:l.length<4611686018427387904) {a b:Nat} {lo up:Int} (ha:bx H a lo) (hb:bx H b up) :
 Ok Try.prog 107 [x,.fn (.func 93) [] [.ptr (.own a 0 0 0 0) 0,.ptr (.own b 0 0 0 0) 0]] H (.ret (i64 (QeD lo up l))) H:=by
 refine Qq hm Try.func107 c107 (by simp[ha.2,hb.2,hx.und]) λhcl => ?_;simp -implicitDefEqProofs[i107,r107,hx.vd,hx.ug,hx.sl,hx.len];refine Qpz hx hl ha hb (λenv i h1 h2 => ?_) (λh1 env => ?_) l.length 0 _ (by omega) (by omega) (by simp) (by simp) (by simp) (by simp)
 . simp[h2,QeD,h1];exact Qn
 . simp[QeD,h1];exact Qn
theorem ok92 (hx:IsI H x l) (hl:l.length<4611686018427387904) {a b:Nat} {lo up:Int} (ha:bx H a lo) (hb:bx H b up) :
 Ok Try.prog 92 [x,.fn (.func 93) [] [.ptr (.own a 0 0 0 0) 0,.ptr (.own b 0 0 0 0) 0]] H (.ret (bl (l.any (QaO lo up)))) H:=by
 refine Qq hm Try.func92 c92 (by simp[ha.2,hb.2,hx.und]) λhcl => ?_;simp -implicitDefEqProofs[i92,r92,hx.vd,hx.ug,hx.sl,hx.len];refine Qj (Qqs hx hl ha hb) ?_;have e:decide (0<=QeD lo up l)=l.any (QaO lo up):=by
  rw[Bool.eq_iff_iff,Wq,QuC]
 simp -implicitDefEqProofs;rw[e];exact Qn
def QaC (lo hi:Int) (l:List Int):Int:=if l.any (QaO lo hi)then 2 else 0
theorem QfZ (hx:IsI H x l) (hl:l.length<4611686018427387904) (lo hi:Int) :
 Ok Try.prog 77 [i64 lo,i64 hi,x] H (.ret (i64 (QaC lo hi l))) H:=by
 refine Qq hm Try.func77 c77 (by simp[hx.und]) λhcl => ?_;simp -implicitDefEqProofs[i77,r77,hx.vd,hx.ug,hx.sl,hx.len];refine Qj (ok92 (hx.app _) hl (a:=H.length) (b:=H.length+1) (lo:=lo) (up:=hi) ⟨by simp,by simp⟩ ⟨by simp,by simp⟩) ?_;by_cases h:l.any (QaO lo hi)=true
 . simp -implicitDefEqProofs[h,QaC];exact Ql 1 hcl rfl (by simp)
 . simp -implicitDefEqProofs[h,QaC];exact Ql 1 hcl rfl (by simp)
end
structure Nd where
 k:Int
 p:Int
 i:Int
 nx:List Int
 ws:List Int
 ps:List Int
def sl (l:List Int):SV:=.slc (Qa l) l.length
def Nd.cells (x:Nd):Wv:=[i64 x.k,i64 x.p,i64 x.i,sl x.nx,sl x.ws,sl x.ps]
def nds:List Nd->Wv
 |[]=>[]
 |x::r=>x.cells++nds r
def Qy:List (Int×Int)->Wv
 |[]=>[]
 |x::r=>i64 x.1::i64 x.2::Qy r
structure Gm where
 pl:Int
 ns:List Nd
 is:List (Int×Int)
def Gm.cells (g:Gm):Wv:=[i64 g.pl,.slc (nds g.ns) g.ns.length,.slc (Qy g.is) g.is.length]
structure Wk (H:Wu) (j:Nat) (g:Gm) (a b c:SV):Prop where
 o:Qd H j 0=[i64 g.pl,.slc (nds g.ns) g.ns.length,.slc (Qy g.is) g.is.length,a,b,c]
 lt:j<H.length
theorem Wk.app {H:Wu} {j:Nat} {g:Gm} {a b c:SV} (h:Wk H j g a b c) (L:Wu):Wk (H++L) j g a b c:=⟨by rw[Qd2 L h.lt]; exact h.o,by have:=h.lt; simp; omega⟩
def Nd.chance (x:Nd):Int:=if x.p≠0\/x.i≠0\/0<x.ps.length\/x.nx.length<1\/60<x.nx.length\/x.ws.length≠x.nx.length then 3 else QaC 1 1000 x.ws
def Nd.move (g:Gm) (x:Nd):Int:=if 0<x.ws.length\/0<x.ps.length\/x.nx.length<1\/10<x.nx.length then 3 else
 if QaC 0 (g.pl-1) [x.p]≠0 then QaC 0 (g.pl-1) [x.p]else QaC 0 (g.is.length-1) [x.i]
def Nd.end (g:Gm) (x:Nd):Int:=if x.p≠0\/x.i≠0\/0<x.nx.length\/0<x.ws.length\/(x.ps.length:Int)≠g.pl then 3 else QaC (-1000000) 1000000 x.ps
def Nd.err (g:Gm) (x:Nd):Int:=if x.k<1\/3<x.k then 3 else if x.k=1 then x.chance else if x.k=2 then x.move g else x.end g
section
variable {x:Nd} {H:Wu} {j:Nat} {g:Gm} {a b c:SV}
theorem isl (H:Wu) (l:List Int):IsI H (sl l) l:=IsI.slc H l
theorem Qp8 (h:j<H.length):Ok Try.prog 102 [.ptr (.own j 0 0 0 0) 0,.agg x.cells] H (.ret (i64 x.chance)) H:=by
 refine Qq hm Try.func102 c102 (by simp[Nd.cells,sl,h]) λhcl => ?_;simp -implicitDefEqProofs[i102,r102,Nd.cells,sl];have e:x.chance=if(((((¬x.p=0\/¬x.i=0)\/0<x.ps.length)\/(x.nx.length:Int)<1)\/60<(x.nx.length:Int))\/¬(x.ws.length:Int)=x.nx.length)then 3 else QaC 1 1000 x.ws:=by
  unfold Nd.chance;congr 1;simp only[eq_iff_iff]; omega
 rw[e];split
 . exact Ql 1 hcl rfl (by simp)
 . rename_i hc;refine Qj (QfZ (IsI.slc _ _) (by omega) 1 1000) ?_;simp -implicitDefEqProofs;exact Ql 1 hcl rfl (by simp)
theorem QqC (h:Wk H j g a b c) (h4:g.pl<=4):Ok Try.prog 104 [.ptr (.own j 0 0 0 0) 0,.agg x.cells] H (.ret (i64 (x.end g))) H:=by
 have ho:=h.o;refine Qq hm Try.func104 c104 (by simp[Nd.cells,sl,h.lt]) λhcl => ?_;simp -implicitDefEqProofs[i104,r104,Nd.cells,sl,(h.app _).o];have e:x.end g=if((((¬x.p=0\/¬x.i=0)\/0<x.nx.length)\/0<x.ws.length)\/¬(x.ps.length:Int)=g.pl)then 3 else QaC (-1000000) 1000000 x.ps:=by
  unfold Nd.end;congr 1;simp only[eq_iff_iff]; omega
 rw[e];split
 . exact Ql 1 hcl rfl (by simp)
 . rename_i hc;refine Qj (QfZ (IsI.slc _ _) (by omega) (-1000000) 1000000) ?_;simp -implicitDefEqProofs;exact Ql 1 hcl rfl (by simp)
theorem Qpb (h:Wk H j g a b c) (h1:1<=g.pl) (h4:g.pl<=4) (h5:g.is.length<=200):Ok Try.prog 103 [.ptr (.own j 0 0 0 0) 0,.agg x.cells] H (.ret (i64 (x.move g))) H:=by
 refine Qq hm Try.func103 c103 (by simp[Nd.cells,sl,h.lt]) λhcl => ?_;have w1:IntKind.i64.wrap (g.pl-1)=g.pl-1:=Qi (by omega) (by omega);have w2:IntKind.i64.wrap ((g.is.length:Int)-1)=(g.is.length:Int)-1:=Qi (by omega) (by omega);simp -implicitDefEqProofs[i103,r103,Nd.cells,sl,(h.app _).o,w1,w2];have e:x.move g=if((0<x.ws.length\/0<x.ps.length)\/(x.nx.length:Int)<1)\/10<(x.nx.length:Int)then 3 else
  if QaC 0 (g.pl-1) [x.p]≠0 then QaC 0 (g.pl-1) [x.p]else QaC 0 (g.is.length-1) [x.i]:=by
  unfold Nd.move;congr 1;simp only[eq_iff_iff]; omega
 rw[e];split
 . exact Ql 1 hcl rfl (by simp)
 . rename_i hc;refine QN (λ_=>QfZ (IsI.own0 H _ 1 0 [x.p] [] 3 rfl) (by simp) 0 (g.pl-1)) ?_;by_cases hw:QaC 0 (g.pl-1) [x.p]=0
   . simp -implicitDefEqProofs[hw,(h.app _).o,w2];refine QN (λ_=>QfZ (IsI.own0 H _ 2 0 [x.i] [] 3 rfl) (by simp) 0 (g.is.length-1)) ?_;simp -implicitDefEqProofs;exact Ql 1 hcl rfl (by simp[hw])
   . simp -implicitDefEqProofs[hw];exact Ql 1 hcl rfl (by simp[hw])
theorem ok88 (h:Wk H j g a b c) (h1:1<=g.pl) (h4:g.pl<=4) (h5:g.is.length<=200):Ok Try.prog 88 [.ptr (.own j 0 0 0 0) 0,.agg x.cells] H (.ret (i64 (x.err g))) H:=by
 refine Qq hm Try.func88 c88 (by simp[Nd.cells,sl,h.lt]) λhcl => ?_;simp -implicitDefEqProofs[i88,r88,Nd.cells,sl,(h.app _).o];unfold Nd.err;split
 . exact⟨rfl,Ql 1 hcl rfl (by rfl)⟩
 . rename_i hc;have hk:x.k=1\/x.k=2\/x.k=3:=by omega
   rcases hk with hk|hk|hk
   . simp -implicitDefEqProofs[hk];refine⟨rfl,Qj (by rw[<-hk]; exact Qp8 (x:=x) (by simp; have:=h.lt; omega)) ?_⟩;simp -implicitDefEqProofs;exact Ql 1 hcl rfl (by simp[hk])
   . simp -implicitDefEqProofs[hk];refine⟨rfl,Qj (by rw[<-hk]; exact Qpb (x:=x) (h.app _) h1 h4 h5) ?_⟩;simp -implicitDefEqProofs;exact Ql 1 hcl rfl (by simp[hk])
   . simp -implicitDefEqProofs[hk];refine⟨rfl,Qj (by rw[<-hk]; exact QqC (x:=x) (h.app _) h4) ?_⟩;simp -implicitDefEqProofs;exact Ql 1 hcl rfl (by simp[hk])
end
theorem QsA {lo hi:Int} {l:List Int} (h:∀ j (h:j<l.length),j<l.length->QaO lo hi l[j]=false):QaC lo hi l=0:=by
 unfold QaC; rw[Wa];rw[Yi];rintro⟨y,hy,h1⟩;obtain⟨j,hj,rfl⟩:=VX hy;rw[h j hj hj]at h1; cases h1
theorem Qea {lo hi n:Int}:QaC lo hi [n]=if n<lo\/hi<n then 2 else 0:=by
 unfold QaC; congr 1; simp[QaO]
structure W3 where
 P:List Int
 D:List Int
 L:List Int
def Qas (w:Nat->W3->Option Nat×W3):List Int->Nat->W3->Option Nat×W3
 |[],r,s=>(some r,s)
 |c::cs,r,s=>if c=r then(match w r s with|(none,s)=>(none,s)|(some r,s)=>Qas w cs r s)else(none,s)
def QX (ns:List Nd):Nat->Int->Int->Nat->W3->Option Nat×W3
 |0,_,_,_,s=>(none,s)
 |f+1,par,dep,k,s =>
  match ns[k]? with
  |none=>(none,s)
  |some x =>
   match Qas (QX ns f k (dep+1)) x.nx (k+1) ⟨s.P.set k par,s.D.set k dep,s.L⟩with
   | (none,s)=>(none,s)
   | (some r,s)=>(some r,⟨s.P,s.D,s.L.set k (r-1)⟩)
def rr (l:List Int):AO:=⟨Qa l,3,1,true⟩
def upd (H:Wu) (a b c:Nat) (s:W3):Wu:=((H.set a (rr s.P)).set b (rr s.D)).set c (rr s.L)
section
variable {H:Wu} {a b c j:Nat} {s t:W3} {g:Gm}
theorem QhP:(upd H a b c s).length=H.length:=by simp[upd]
theorem QfP {H H':Wu} {j:Nat} (h:H'[j]? = H[j]?) (v:Nat):Qd H' j v=Qd H j v:=by unfold Qd; rw[h]
structure P3 (H:Wu) (a b c:Nat):Prop where
 ab:a<b
 bc:b<c
 lt:c<H.length
theorem QrF (h:P3 H a b c):Qd (upd H a b c s) a 1=Qa s.P:=by
 have:=h.ab; have:=h.bc; have:=h.lt;refine Qau (o:=rr s.P) ?_ rfl;unfold upd;rw[Ve (by omega),Ve (by omega),Vh (by omega)]
theorem Qpv (h:P3 H a b c):Qd (upd H a b c s) b 1=Qa s.D:=by
 have:=h.ab; have:=h.bc; have:=h.lt;refine Qau (o:=rr s.D) ?_ rfl;unfold upd;rw[Ve (by omega),Vh (by simp; omega)]
theorem Qn2 (h:P3 H a b c):Qd (upd H a b c s) c 1=Qa s.L:=by
 have:=h.ab; have:=h.bc; have:=h.lt;refine Qau (o:=rr s.L) ?_ rfl;unfold upd;rw[Vh (by simp; omega)]
theorem Qux (h1:j≠a) (h2:j≠b) (h3:j≠c):Qd (upd H a b c s) j 0=Qd H j 0:=by
 refine QfP ?_ 0;unfold upd;rw[Ve (by omega),Ve (by omega),Ve (by omega)]
theorem QrT (h:P3 H a b c) (f:AO->AO) (l:List Int) (hf:f (rr s.P)=rr l):Ab.setObj (upd H a b c s) a f=upd H a b c ⟨l,s.D,s.L⟩:=by
 have:=h.ab; have:=h.bc; have:=h.lt;rw[QU (o:=rr s.P),hf]
 . unfold upd;rw[Zm _ _ (show c≠a by omega),Zm _ _ (show b≠a by omega),Yl]
 . unfold upd;rw[Ve (by omega),Ve (by omega),Vh (by omega)]
theorem Qp0 (h:P3 H a b c) (f:AO->AO) (l:List Int) (hf:f (rr s.D)=rr l):Ab.setObj (upd H a b c s) b f=upd H a b c ⟨s.P,l,s.L⟩:=by
 have:=h.ab; have:=h.bc; have:=h.lt;rw[QU (o:=rr s.D),hf]
 . unfold upd;rw[Zm _ _ (show c≠b by omega),Yl]
 . unfold upd;rw[Ve (by omega),Vh (by simp; omega)]
theorem Qrz (h:P3 H a b c) (f:AO->AO) (l:List Int) (hf:f (rr s.L)=rr l):Ab.setObj (upd H a b c s) c f=upd H a b c ⟨s.P,s.D,l⟩:=by
 have:=h.ab; have:=h.bc; have:=h.lt;rw[QU (o:=rr s.L),hf]
 . unfold upd;rw[Yl]
 . unfold upd;rw[Vh (by simp; omega)]
theorem QpF {ns:List Nd} {k:Nat} (h:k<ns.length):nds (ns.drop k)=ns[k].cells++nds (ns.drop (k+1)):=by
 rw[Vz h]; rfl
theorem QaK:∀ ns:List Nd,(nds ns).length=6*ns.length
 |[]=>rfl
 |x::r=>by simp[nds,QaK r,Nd.cells]; omega
end
def Qdx (ns:List Nd):Option Nat->SV
 |none=>.tup [.val (.slice none 0 0),bl false]
 |some r=>.tup [.slc (nds (ns.drop r)) (ns.length-r),bl true]
def W3.ok (s:W3) (n:Nat):Prop:=s.P.length=n/\s.D.length=n/\s.L.length=n
theorem Qfj {n:Nat} {w:Nat->W3->Option Nat×W3} {m:Nat} (hw:∀ r s,m<=r->s.ok n->(w r s).2.ok n/\∀ r',(w r s).1=some r'->r<r'/\r'<=n) :
 ∀ (l:List Int) (r:Nat) (s:W3),m<=r->r<=n->s.ok n->(Qas w l r s).2.ok n/\∀ r',(Qas w l r s).1=some r'->r<=r'/\r'<=n
 |[],r,s,hr,hn,hs=>⟨hs,λr' h=>by simp[Qas]at h; omega⟩
 |c::cs,r,s,hr,hn,hs=>by
  unfold Qas;by_cases hc:c=r
  . rw[Wb hc];have h:=hw r s hr hs
    cases hh:w r s with
    |mk o s1 =>
     rw[hh]at h
     cases o with
     |none=>exact⟨h.1,λr' h'=>by simp at h'⟩
     |some r1 =>
      have h1:=h.2 r1 rfl;have h2:=Qfj hw cs r1 s1 (by omega) h1.2 h.1;exact⟨h2.1,λr' h'=>by have:=h2.2 r' h'; omega⟩
  . rw[Wa hc];exact⟨hs,λr' h=>by simp at h⟩
theorem Qc9 {ns:List Nd}:∀ (f:Nat) (par dep:Int) (k:Nat) (s:W3),s.ok ns.length ->
 (QX ns f par dep k s).2.ok ns.length/\∀ r,(QX ns f par dep k s).1=some r->k<r/\r<=ns.length
 |0,par,dep,k,s,hs=>⟨hs,λr h=>by simp[QX]at h⟩
 |f+1,par,dep,k,s,hs=>by
  unfold QX
  cases hk:ns[k]? with
  |none=>exact⟨hs,λr h=>by simp at h⟩
  |some x =>
   have hlt:=Qb hk;have h:=Qfj (n:=ns.length) (w:=QX ns f k (dep+1)) (m:=0) (λr s _ hs=>Qc9 f k (dep+1) r s hs) x.nx (k+1) ⟨s.P.set k par,s.D.set k dep,s.L⟩ (by omega) (by omega)
    ⟨by simpa using hs.1,by simpa using hs.2.1,hs.2.2⟩
   simp only
   cases hh:Qas (QX ns f k (dep+1)) x.nx (k+1) ⟨s.P.set k par,s.D.set k dep,s.L⟩with
   |mk o s1 =>
    rw[hh]at h
    cases o with
    |none=>exact⟨h.1,λr' h'=>by simp at h'⟩
    |some r1 =>
     refine⟨⟨h.1.1,h.1.2.1,by simpa using h.1.2.2⟩,λr' h' => ?_⟩;have:=h.2 r1 rfl;simp at h'; omega
section
variable {H:Wu} {a b c j:Nat} {g:Gm}
structure Wh (H:Wu) (j:Nat) (g:Gm) (a b c:Nat):Prop where
 w:Wk H j g (.own a 0 g.ns.length 1 1) (.own b 0 g.ns.length 1 1) (.own c 0 g.ns.length 1 1)
 p:P3 H a b c
 ja:j≠a
 jb:j≠b
 jc:j≠c
 n:g.ns.length<=2000
 nx:∀ x∈g.ns,x.nx.length<4611686018427387904
theorem Wh.cells (h:Wh H j g a b c) (s:W3):Qd (upd H a b c s) j 0=[i64 g.pl,.slc (nds g.ns) g.ns.length,.slc (Qy g.is) g.is.length,.own a 0 g.ns.length 1 1,.own b 0 g.ns.length 1 1,.own c 0 g.ns.length 1 1]:=by
 rw[Qux h.ja h.jb h.jc]; exact h.w.o
set_option maxRecDepth 10000 in
theorem Qrb (h:Wh H j g a b c) {x:Nd} {dep:Int} {k:Nat} {w:Nat->W3->Option Nat×W3} {R:Option Nat×W3} (hd0:0<=dep) (hd1:dep<=k) (hk:k<g.ns.length) (hnx:x.nx.length<4611686018427387904)
 (hok:∀ r s,k+1<=r->r<=g.ns.length->s.ok g.ns.length->Ok Try.prog 89 [.ptr (.own j 0 0 0 0) 0,i64 k,i64 (dep+1),.slc (nds (g.ns.drop r)) (g.ns.length-r)] (upd H a b c s) (.ret (Qdx g.ns (w r s).1)) (upd H a b c (w r s).2))
 (hw:∀ r s,k+1<=r->s.ok g.ns.length->(w r s).2.ok g.ns.length/\∀ r',(w r s).1=some r'->r<r'/\r'<=g.ns.length)
 {N:Nat} {K:Wt}
 (hret:R.1=none->∀ env,env.get 8=.val (.slice none 0 0)->env.get 9=bl false->K .ret env (upd H a b c R.2))
 (hexit:∀ r',R.1=some r'->r'<=g.ns.length->R.2.ok g.ns.length->∀ env,env.get 0=.ptr (.own j 0 0 0 0) 0->env.get 10=i64 k->env.get 11=.slc (nds (g.ns.drop r')) (g.ns.length-r')->K (.exit 0) env (upd H a b c R.2)) :
 ∀ (m i r:Nat) (s:W3) (env:Env),i+m=x.nx.length->k+1<=r->r<=g.ns.length->s.ok g.ns.length->Qas w (x.nx.drop i) r s=R ->
  env.get 0=.ptr (.own j 0 0 0 0) 0->env.get 2=i64 dep->env.get 10=i64 k->env.get 11=.slc (nds (g.ns.drop r)) (g.ns.length-r)->env.get 46=.slc (Qa x.nx) x.nx.length->env.get 47=i64 x.nx.length->env.get 48=i64 i ->
  LI Try.prog N Qh Qhd env (upd H a b c s) K:=by
 have hn:=h.n;intro m
 induction m with
 |zero =>
  intro i r s env hi hr hrn hs hR h0 h2 h10 h11 h46 h47 h48;refine Qc hm Qhd.eq_1 ?_;have e:i=x.nx.length:=by omega
  subst e;simp -implicitDefEqProofs[h47,h48];rw[YN]at hR;subst hR;exact hexit r rfl hrn hs _ (by simp[h0]) (by simp[h10]) (by simp[h11])
 |succ m ih =>
  intro i r s env hi hr hrn hs hR h0 h2 h10 h11 h46 h47 h48;refine Qc hm Qhd.eq_1 ?_;have hlt:i<x.nx.length:=by omega
  have w1:IntKind.i64.wrap ((g.ns.length:Int)-((g.ns.length-r:Nat):Int))=r:=by rw[Qi (by omega) (by omega)]; omega
  have w2:IntKind.i64.wrap (dep+1)=dep+1:=Qi (by omega) (by omega);rw[Vz hlt]at hR;unfold Qas at hR;by_cases hc:x.nx[i]=r
  . rw[Wb hc]at hR;simp -implicitDefEqProofs[h0,h2,h10,h11,h46,h47,h48,hlt,h.cells,w1,hc,w2];refine⟨by omega,Qj (hok r s hr hrn hs) ?_⟩;have hw1:=hw r s hr hs
    cases hh:w r s with
    |mk o s1 =>
     rw[hh]at hw1 hR
     cases o with
     |none =>
      subst hR;simp -implicitDefEqProofs[Qdx];exact hret rfl _ (by simp) (by simp)
     |some r1 =>
      have h1:=hw1.2 r1 rfl;simp -implicitDefEqProofs[Qdx,h48];refine ih (i+1) r1 s1 _ (by omega) (by omega) h1.2 hw1.1 hR ?_ ?_ ?_ ?_ ?_ ?_ ?_
      . simp[h0]
      . simp[h2]
      . simp[h10]
      . simp
      . simp[h46]
      . simp[h47]
      . simp[QR (show i<9223372036854775807 by omega)]
  . rw[Wa hc]at hR;subst hR;simp -implicitDefEqProofs[h0,h2,h10,h11,h46,h47,h48,hlt,h.cells,w1,hc];refine⟨by omega,?_⟩;exact hret rfl _ (by simp) (by simp)
set_option maxRecDepth 10000 in
theorem ok89 (h:Wh H j g a b c):∀ (f:Nat) (par dep:Int) (k:Nat) (s:W3),k<=g.ns.length->g.ns.length+1<=k+f->0<=dep->dep<=k->s.ok g.ns.length ->
 Ok Try.prog 89 [.ptr (.own j 0 0 0 0) 0,i64 par,i64 dep,.slc (nds (g.ns.drop k)) (g.ns.length-k)] (upd H a b c s)
  (.ret (Qdx g.ns (QX g.ns f par dep k s).1)) (upd H a b c (QX g.ns f par dep k s).2):=by
 have ab:=h.p.ab; have bc:=h.p.bc; have lt:=h.p.lt;have hj:=h.w.lt;have hn:=h.n;intro f
 induction f with
 |zero=>intro par dep k s h1 h2; omega
 |succ f ih =>
  intro par dep k s hk hf hd0 hd1 hs;refine Qq hm Try.func89 c89 (by simp[QhP,hj]) λhcl => ?_;by_cases hk':k=g.ns.length
  . subst hk';simp -implicitDefEqProofs[i89,r89,QX,Qdx];exact Qn
  . have hlt:k<g.ns.length:=by omega
    have w1:IntKind.i64.wrap ((g.ns.length:Int)-((g.ns.length-k:Nat):Int))=k:=by rw[Qi (by omega) (by omega)]; omega
    have e1:∀ (s:W3) (v:Int),k<s.P.length->Ab.setObj (upd H a b c s) a (λo=>{ cells:=List.take k o.cells++i64 v::List.drop (k+1) o.cells,ty:=o.ty,ver:=o.ver,live:=o.live })=upd H a b c ⟨s.P.set k v,s.D,s.L⟩ :=
     λs v hv=>QrT h.p _ _ (by simp[rr,Qa1 hv])
    have e2:∀ (s:W3) (v:Int),k<s.D.length->Ab.setObj (upd H a b c s) b (λo=>{ cells:=List.take k o.cells++i64 v::List.drop (k+1) o.cells,ty:=o.ty,ver:=o.ver,live:=o.live })=upd H a b c ⟨s.P,s.D.set k v,s.L⟩ :=
     λs v hv=>Qp0 h.p _ _ (by simp[rr,Qa1 hv])
    have e3:∀ (s:W3) (v:Int),k<s.L.length->Ab.setObj (upd H a b c s) c (λo=>{ cells:=List.take k o.cells++i64 v::List.drop (k+1) o.cells,ty:=o.ty,ver:=o.ver,live:=o.live })=upd H a b c ⟨s.P,s.D,s.L.set k v⟩ :=
     λs v hv=>Qrz h.p _ _ (by simp[rr,Qa1 hv])
    have e4:List.take ((g.ns.length-k-1)*6) (nds (g.ns.drop (k+1)))=nds (g.ns.drop (k+1)):=VE (by rw[QaK]; simp; omega);have k1:=hs.1; have k2:=hs.2.1; have k3:=hs.2.2;rw[QpF hlt];simp -implicitDefEqProofs[i89,r89,h.cells,QhP,show ¬ g.ns.length-k=0 by omega,show((g.ns.length-k:Nat):Int)≠0 by omega,w1,QrF h.p,Qpv h.p,Qn2 h.p,e1,e2,k1,k2,k3,hlt,Nd.cells,sl,e4];refine⟨by omega,by omega,by omega,?_⟩;have hget:g.ns[k]? = some g.ns[k]:=Vb hlt;have hs':W3.ok ⟨s.P.set k par,s.D.set k dep,s.L⟩ g.ns.length:=⟨by simpa using k1,by simpa using k2,k3⟩;refine Qrb h (x:=g.ns[k]) (dep:=dep) (k:=k) (w:=QX g.ns f k (dep+1)) (R:=Qas (QX g.ns f k (dep+1)) g.ns[k].nx (k+1) ⟨s.P.set k par,s.D.set k dep,s.L⟩) hd0 hd1 hlt (h.nx _ (Vg hlt))
     (λr s hr hrn hs=>ih k (dep+1) r s hrn (by omega) (by omega) (by omega) hs) (λr s _ hs=>Qc9 f k (dep+1) r s hs) (λhR env h8 h9 => ?_) (λr' hR hr' hs1 env h0 h10 h11 => ?_)
     g.ns[k].nx.length 0 (k+1) _ _ (by omega) (by omega) (by omega) hs' (by simp) (by simp) (by simp) (by simp) (by simp; omega) (by simp) (by simp) (by simp)
    . simp -implicitDefEqProofs[h8,h9];unfold QX;rw[hget]
      revert hR
      simp only;generalize Qas (QX g.ns f k (dep+1)) g.ns[k].nx (k+1) ⟨s.P.set k par,s.D.set k dep,s.L⟩=R;obtain⟨o,s2⟩:=R;rintro rfl;simp[Qdx];exact Qn
    . have w2:IntKind.i64.wrap ((g.ns.length:Int)-((g.ns.length-r':Nat):Int))=r':=by rw[Qi (by omega) (by omega)]; omega
      have w3:IntKind.i64.wrap ((r':Int)-1)=(r':Int)-1:=Qi (by omega) (by omega);unfold QX;rw[hget]
      revert hR hs1
      simp only;generalize Qas (QX g.ns f k (dep+1)) g.ns[k].nx (k+1) ⟨s.P.set k par,s.D.set k dep,s.L⟩=R;obtain⟨o,s2⟩:=R;rintro hR hs1
      cases hR
      have k4:=hs1.2.2;simp only at k4;simp -implicitDefEqProofs[h0,h10,h11,h.cells,QhP,w2,w3,Qn2 h.p,e3,k4,hlt];refine⟨by omega,?_⟩;exact Qn
end
def QbU (l:List Int):Int:=l.tail.foldl max (l.headD 0)
section
variable {x:SV} {H:Wu} {l:List Int}
theorem Qsy (hx:IsI H x l) (hl:l.length<4611686018427387904) {N:Nat} {K:Wt}
 (hexit:∀ env,env.get 3=i64 (QbU l)->K (.exit 0) env H) :
 ∀ (n i:Nat) (acc:Int) (env:Env),i+n=l.length->(l.drop i).foldl max acc=QbU l->env.get 0=x->env.get 3=i64 acc->env.get 4=i64 i->LI Try.prog N Qh QgC env H K:=by
 intro n
 induction n with
 |zero =>
  intro i acc env hi ha h0 h3 h4;refine Qc hm QgC.eq_1 ?_;have e:i=l.length:=by omega
  subst e;simp -implicitDefEqProofs[h0,h3,h4,hx.vd,hx.ug,hx.sl,hx.len];rw[YN]at ha;exact hexit _ (by simp[h3]; exact Wn i64 ha)
 |succ n ih =>
  intro i acc env hi ha h0 h3 h4;refine Qc hm QgC.eq_1 ?_;have hlt:i<l.length:=by omega
  rw[Vz hlt,Zy]at ha;simp -implicitDefEqProofs[h0,h3,h4,hlt,hx.vd,hx.ug,hx.sl,hx.len,hx.v hlt,hx.ok hlt];refine ih (i+1) (max acc l[i]) _ (by omega) ha ?_ ?_ ?_
  . simp[h0]
  . simp
  . simp[QR (show i<9223372036854775807 by omega)]
theorem ok90 (hx:IsI H x l) (hl:l.length<4611686018427387904) (hne:0<l.length):Ok Try.prog 90 [x] H (.ret (i64 (QbU l))) H:=by
 refine Qq hm Try.func90 c90 (by simp[hx.und]) λhcl => ?_;simp -implicitDefEqProofs[i90,r90,hx.vd,hx.ug,hx.sl,hx.len,show ¬ (l.length:Int)<1 by omega,hx.v hne,hx.ok hne];refine⟨by omega,?_⟩;refine Qsy hx hl (λenv h3 => ?_) (l.length-1) 1 l[0] _ (by omega) ?_ (by simp) (by simp) (by simp)
 . simp -implicitDefEqProofs[h3];exact Qn
 . cases l with
   |nil=>simp at hne
   |cons y r=>rfl
def Qb8 (v:Int) (l:List Int):Int:=match l.findIdx? (· == v)with|some i=>i|none => -1
theorem Qup (hx:IsI H x l) (hl:l.length<4611686018427387904) {v:Int} {N:Nat} {K:Wt}
 (hret:∀ env (i:Nat),l.findIdx? (· == v)=some i->env.get 4=i64 i->K .ret env H) (hexit:l.findIdx? (· == v)=none->∀ env,K (.exit 0) env H) :
 ∀ (n i:Nat) (env:Env),i+n=l.length->(∀ j (h:j<l.length),j<i->¬ l[j]=v)->env.get 0=x->env.get 1=i64 v->env.get 7=i64 l.length->env.get 8=i64 i ->
  LI Try.prog N Qh QiS env H K:=by
 intro n
 induction n with
 |zero =>
  intro i env hi hp h0 h1 h7 h8;refine Qc hm QiS.eq_1 ?_;have e:i=l.length:=by omega
  simp -implicitDefEqProofs[h7,h8,e];refine hexit ?_ _;rw[ZI];intro y hy;obtain⟨j,hj,rfl⟩:=VX hy;simpa using hp j hj (by omega)
 |succ n ih =>
  intro i env hi hp h0 h1 h7 h8;refine Qc hm QiS.eq_1 ?_;have hlt:i<l.length:=by omega
  by_cases ho:l[i]=v
  . simp -implicitDefEqProofs[h0,h1,h7,h8,hlt,hx.vd,hx.ug,hx.sl,hx.len,hx.v hlt,hx.ok hlt,ho];refine hret _ i ?_ (by simp);rw[Zl];exact⟨hlt,by simpa using ho,λj hj=>by simpa using hp j (by omega) hj⟩
  . simp -implicitDefEqProofs[h0,h1,h7,h8,hlt,hx.vd,hx.ug,hx.sl,hx.len,hx.v hlt,hx.ok hlt,show ¬ v=l[i]from λe=>ho e.symm];refine ih (i+1) _ (by omega) ?_ ?_ ?_ ?_ ?_
    rotate_left
    . simp[h0]
    . simp[h1]
    . simp[h7]
    . simp[h8,QR (show i<9223372036854775807 by omega)]
    intro j hj hji;by_cases e:j=i
    . subst e; exact ho
    . exact hp j hj (by omega)
theorem Qlm (hx:IsI H x l) (hl:l.length<4611686018427387904) (v:Int):Ok Try.prog 110 [x,i64 v] H (.ret (i64 (Qb8 v l))) H:=by
 refine Qq hm Try.func110 c110 (by simp[hx.und]) λhcl => ?_;simp -implicitDefEqProofs[i110,r110,hx.vd,hx.ug,hx.sl,hx.len];refine Qup hx hl (v:=v) (λenv i h1 h2 => ?_) (λh1 env => ?_) l.length 0 _ (by omega) (by omega) (by simp) (by simp) (by simp) (by simp)
 . simp[h2,Qb8,h1];exact Qn
 . simp[Qb8,h1];exact Qn
theorem Qpj {v:Int} {l:List Int}:decide (0<=Qb8 v l)=decide (v∈l):=by
 rw[Bool.eq_iff_iff,Wq,Wq];unfold Qb8
 cases h:l.findIdx? (· == v)with
 |some i =>
  simp only[Int.natCast_nonneg,true_iff];obtain⟨hi,h1,h2⟩:=Zl.1 h;rw[<-eq_of_beq h1]; exact Vg hi
 |none =>
  rw[ZI]at h;have:v∉l:=λhv=>by simpa using h v hv
  simp[this]
theorem QqO (hx:IsI H x l) (hl:l.length<4611686018427387904) (v:Int):Ok Try.prog 105 [x,i64 v] H (.ret (bl (decide (v∈l)))) H:=by
 refine Qq hm Try.func105 c105 (by simp[hx.und]) λhcl => ?_;simp -implicitDefEqProofs[i105,r105,hx.vd,hx.ug,hx.sl,hx.len];refine Qj (Qlm hx hl v) ?_;simp -implicitDefEqProofs;rw[Qpj];exact Qn
theorem QtV (n:Int):Ok Try.prog 116 [i64 n] H (.ret (bl false)) H:=by
 refine Qq hm Try.func116 c116 (by simp) λhcl => ?_;simp -implicitDefEqProofs[i116,r116];exact Qn
theorem QqE (m n:Int):Ok Try.prog 114 [i64 m,i64 n] H (.ret (bl (decide (m<n)))) H:=by
 refine Qq hm Try.func114 c114 (by simp) λhcl => ?_;simp -implicitDefEqProofs[i114,r114];refine Qj (QtV m) ?_;simp -implicitDefEqProofs;refine Qf5 _ _ _ _ ?_;simp -implicitDefEqProofs;exact Qn
def Srt (l:List Int):Prop:=∀ k,k<l.length-1->¬ l.getD (k+1) 0<l.getD k 0
instance (l:List Int):Decidable (Srt l):=by unfold Srt; infer_instance
theorem Qke {l:List Int}:Srt l↔∀ k (h:k+1<l.length),¬ l[k+1]<l[k]:=by
 constructor
 . intro h k hk;have:=h k (by omega);simpa only[Vr,Vb hk,Vb (show k<l.length by omega),V6]using this
 . intro h k hk;simp only[Vr,Vb (show k+1<l.length by omega),Vb (show k<l.length by omega),V6];exact h k (by omega)
theorem Qqu (hx:IsI H x l) (hl:l.length<4611686018427387904) {N:Nat} {K:Wt}
 (hret:¬ Srt l->∀ env,env.get 2=bl false->K .ret env H) (hexit:Srt l->∀ env,K (.exit 0) env H) :
 ∀ (n:Nat) (env:Env),n<l.length->(∀ k (h:k+1<l.length),n<=k->¬ l[k+1]<l[k])->env.get 0=x->env.get 3=i64 n->LI Try.prog N Qh Qfr env H K:=by
 intro n
 induction n with
 |zero =>
  intro env hi hp h0 h3;refine Qc hm Qfr.eq_1 ?_;simp -implicitDefEqProofs[h0,h3];exact hexit (Qke.2 λk hk=>hp k hk (by omega)) _
 |succ n ih =>
  intro env hi hp h0 h3;refine Qc hm Qfr.eq_1 ?_;have w1:IntKind.i64.wrap (n:Int)=n:=QcJ (by omega);have hlt:n<l.length:=by omega
  simp -implicitDefEqProofs[h0,h3,hi,hlt,w1,hx.vd,hx.ug,hx.sl,hx.len,hx.v hlt,hx.ok hlt,hx.v hi,hx.ok hi];refine⟨by omega,?_⟩;refine QN (λ_=>QqE _ _) ?_;by_cases hc:l[n+1]<l[n]
  . simp -implicitDefEqProofs[hc];exact hret (λh=>Qke.1 h n hi hc) _ (by simp)
  . simp -implicitDefEqProofs[hc,h3,w1];refine ih _ (by omega) ?_ ?_ ?_
    rotate_left
    . simp[h0]
    . simp
    intro k hk hnk;by_cases e:k=n
    . subst e; exact hc
    . exact hp k hk (by omega)
theorem Qsp (hx:IsI H x l) (hl:l.length<4611686018427387904):Ok Try.prog 106 [x] H (.ret (bl (decide (Srt l)))) H:=by
 refine Qq hm Try.func106 c106 (by simp[hx.und]) λhcl => ?_;by_cases h0:l.length=0
 . have:l=[]:=Vu h0;subst this;simp -implicitDefEqProofs[QjG,Qk8,hx.vd,hx.ug,hx.sl,hx.len,show IntKind.i64.wrap (-1) = -1 by rfl];refine Qc hm Qfr.eq_1 ?_;simp -implicitDefEqProofs[show Srt []from Qke.2 (λk h=>by simp at h)];exact Qn
 . have w1:IntKind.i64.wrap ((l.length:Int)-1)=((l.length-1:Nat):Int):=by rw[Qi (by omega) (by omega)]; omega
   simp -implicitDefEqProofs[QjG,Qk8,hx.vd,hx.ug,hx.sl,hx.len,w1];refine Qqu hx hl (λh1 env h2 => ?_) (λh1 env => ?_) (l.length-1) _ (by omega) (by omega) (by simp) (by simp)
   . simp -implicitDefEqProofs[h2,h1];exact Qn
   . simp -implicitDefEqProofs[h1];exact Qn
end
def Qbc:List Nd->Nat->List Int->List Int
 |[],_,z=>z
 |x::r,o,z=>if x.k=2 then(Qbc r (o+1) z).set x.i.toNat (o+1)else Qbc r (o+1) z
@[simp] theorem Qur (z:List Int):∀ (l:List Nd) (o:Nat),(Qbc l o z).length=z.length
 |[],o=>rfl
 |x::r,o=>by unfold Qbc; split<;>simp[Qur z r (o+1)]
def ro (l:List Int):AO:=⟨Qa l,3,0,true⟩
def Nd.tyBad (g:Gm) (x:Nd):Prop:=x.k=2/\g.is[x.i.toNat]? ≠ some (x.p,(x.nx.length:Int))
instance (g:Gm) (x:Nd):Decidable (x.tyBad g):=by unfold Nd.tyBad; infer_instance
def Gm.firsts (g:Gm):List Int:=Qbc g.ns 0 (List.replicate g.is.length 0)
def Gm.setsE (g:Gm):Int:=if ∃ x∈g.ns,x.tyBad g then 10 else if 0∈g.firsts then 18 else if Srt g.firsts then 0 else 9
structure Gd (g:Gm):Prop where
 p1:1<=g.pl
 p4:g.pl<=4
 n1:1<=g.ns.length
 n:g.ns.length<=2000
 i:g.is.length<=200
 e:∀ x∈g.ns,x.err g=0
theorem Gd.inf {g:Gm} (h:Gd g) {x:Nd} (hx:x∈g.ns) (hk:x.k=2):0<=x.i/\x.i<g.is.length:=by
 have:=h.e x hx;unfold Nd.err Nd.move at this;rw[Wa (by omega),Wa (by omega),Wb hk]at this;split at this
 . omega
 . rw[Qea,Qea]at this;split at this
   . split at this<;>omega
   . split at this<;>omega
theorem Qn9:∀ {l:List (Int×Int)} {k:Nat} (h:k<l.length),(Qy l).drop (2*k)=i64 l[k].1::i64 l[k].2::Qy (l.drop (k+1))
 |[],k,h=>by simp at h
 |x::r,0,h=>rfl
 |x::r,k+1,h=>by
  rw[show 2*(k+1)=2*k+2 by omega];simp only[Qy,Zn];rw[Qn9 (l:=r) (k:=k) (by simpa using h)];simp
theorem Qki:∀ {l:List Nd} {k:Nat} (h:k<l.length),(nds l).drop (6*k)=l[k].cells++nds (l.drop (k+1))
 |[],k,h=>by simp at h
 |x::r,0,h=>rfl
 |x::r,k+1,h=>by
  rw[show 6*(k+1)=6*k+6 by omega];simp only[nds,Nd.cells,Zn,V0,Ye];rw[Qki (l:=r) (k:=k) (by simpa using h)];simp[Nd.cells]
theorem Qch:∀ l:List (Int×Int),(Qy l).length=2*l.length
 |[]=>rfl
 |x::r=>by simp[Qy,Qch r]; omega
theorem QcH {l:List Nd} {k:Nat} (h:k<l.length):(nds l).drop (k*6)=i64 l[k].k::i64 l[k].p::i64 l[k].i::sl l[k].nx::sl l[k].ws::sl l[k].ps::nds (l.drop (k+1)):=by
 rw[VT,Qki h]; rfl
theorem QcE {l:List Nd} {k:Nat} (h:k<l.length):min 6 ((nds l).length-k*6)=6:=by rw[QaK]; omega
theorem QcI {l:List Nd} {k:Nat} (h:k<l.length):6<=(nds l).length-k*6:=by rw[QaK]; omega
theorem QbH {l:List (Int×Int)} {k:Nat} (h:k<l.length):(Qy l).drop (k*2)=i64 l[k].1::i64 l[k].2::Qy (l.drop (k+1)):=by
 rw[VT,Qn9 h]
theorem Qge {l:List (Int×Int)} {k:Nat} (h:k<l.length):min 2 ((Qy l).length-k*2)=2:=by rw[Qch]; omega
theorem Qfq {l:List (Int×Int)} {k:Nat} (h:k<l.length):2<=(Qy l).length-k*2:=by rw[Qch]; omega
section
variable {H:Wu} {j:Nat} {g:Gm} {a b c:SV}
set_option maxRecDepth 10000 in
theorem QuA (h:Wk H j g a b c) (hg:Gd g) {N:Nat} {K:Wt}
 (hexit:∀ env M,env.get 0=.ptr (.own j 0 0 0 0) 0->env.get 3=.own H.length 0 g.is.length 1 0->K (.exit 0) env (H++ro g.firsts::M)) :
 ∀ (n:Nat) (env:Env) (M:Wu),n<=g.ns.length->env.get 0=.ptr (.own j 0 0 0 0) 0->env.get 3=.own H.length 0 g.is.length 1 0->env.get 4=i64 ((n:Int)-1) ->
  LI Try.prog N Qh QgN env (H++ro (Qbc (g.ns.drop n) n (List.replicate g.is.length 0))::M) K:=by
 intro n
 induction n with
 |zero =>
  intro env M hi h0 h3 h4;refine Qc hm QgN.eq_1 ?_;simp -implicitDefEqProofs[h0,h3,h4];exact hexit _ _ (by simp[h0]) (by simp[h3])
 |succ n ih =>
  intro env M hi h0 h3 h4;refine Qc hm QgN.eq_1 ?_;have hn:=hg.n;have hx:g.ns[n]∈g.ns:=Vg hi;have w1:IntKind.i64.wrap (n:Int)=n:=QcJ (by omega);have e:((n+1:Nat):Int)-1=n:=by omega
  rw[e]at h4;have w2:IntKind.i64.wrap ((n:Int)+1)=((n+1:Nat):Int):=QaQ (by omega);have w3:IntKind.i64.wrap ((n:Int)-1)=(n:Int)-1:=Qi (by omega) (by omega);by_cases hk:g.ns[n].k=2
  . have hb:=hg.inf hx hk;have e7:Qbc (g.ns.drop n) n (List.replicate g.is.length 0)=(Qbc (g.ns.drop (n+1)) (n+1) (List.replicate g.is.length 0)).set g.ns[n].i.toNat ((n+1:Nat):Int):=by
     rw[Vz hi,Qbc,Wb hk]; rfl
    rw[e7]at ih;simp -implicitDefEqProofs[h0,h3,h4,(h.app _).o,hi,QcH hi,QcE hi,QcI hi,hk,sl,ro];refine⟨by omega,by omega,by omega,?_⟩;rw[w2,Qa1 (by simp; omega),w3];refine ih _ _ (by omega) ?_ ?_ ?_
    . simp
    . simp
    . simp
  . have e7:Qbc (g.ns.drop n) n (List.replicate g.is.length 0)=Qbc (g.ns.drop (n+1)) (n+1) (List.replicate g.is.length 0):=by
     rw[Vz hi,Qbc,Wa hk]
    rw[e7]at ih;simp -implicitDefEqProofs[h0,h3,h4,(h.app _).o,hi,QcH hi,QcE hi,QcI hi,hk,sl];refine⟨by omega,?_⟩;rw[w3];refine ih _ _ (by omega) ?_ ?_ ?_
    . simp
    . simp
    . simp
set_option maxRecDepth 10000 in
theorem Qqb (h:Wk H j g a b c) (hg:Gd g) {N:Nat} {K:Wt} {r:AO}
 (hret:(∃ x∈g.ns,x.tyBad g)->∀ env M,env.get 2=i64 10->K .ret env (H++r::M))
 (hexit:(¬ ∃ x∈g.ns,x.tyBad g)->∀ env M,env.get 3=.own H.length 0 g.is.length 1 0->K (.exit 2) env (H++r::M)) :
 ∀ (n i:Nat) (env:Env) (M:Wu),i+n=g.ns.length->(∀ k (h:k<g.ns.length),k<i->¬ g.ns[k].tyBad g)->env.get 0=.ptr (.own j 0 0 0 0) 0->env.get 3=.own H.length 0 g.is.length 1 0 ->
  env.get 47=.slc (nds g.ns) g.ns.length->env.get 48=i64 g.ns.length->env.get 49=i64 i->LI Try.prog N Qh QiT env (H++r::M) K:=by
 have hn:=hg.n;intro n
 induction n with
 |zero =>
  intro i env M hi hp h0 h3 h47 h48 h49;refine Qc hm QiT.eq_1 ?_;have e:i=g.ns.length:=by omega
  subst e;simp -implicitDefEqProofs[h0,h3,h48,h49];refine hexit ?_ _ _ (by simp[h3]);rintro⟨x,hx,hb⟩;obtain⟨k,hk,rfl⟩:=VX hx;exact hp k hk hk hb
 |succ n ih =>
  intro i env M hi hp h0 h3 h47 h48 h49;refine Qc hm QiT.eq_1 ?_;have hlt:i<g.ns.length:=by omega
  have hx:g.ns[i]∈g.ns:=Vg hlt;have w1:IntKind.i64.wrap ((i:Int)+1)=((i+1:Nat):Int):=QaQ (by omega);by_cases hk:g.ns[i].k=2
  . have hb:=hg.inf hx hk;have hb':g.ns[i].i.toNat<g.is.length:=by omega
    simp -implicitDefEqProofs[h0,h3,h47,h48,h49,(h.app _).o,hlt,QcH hlt,QcE hlt,QcI hlt,QbH hb',Qge hb',Qfq hb',hk,sl];refine⟨by omega,?_⟩;have hbad:(¬g.is[g.ns[i].i.toNat].fst=g.ns[i].p\/¬g.is[g.ns[i].i.toNat].snd=(g.ns[i].nx.length:Int))↔g.ns[i].tyBad g:=by
     unfold Nd.tyBad;rw[Vb hb'];simp only[hk,true_and,ne_eq,Option.some.injEq];rw[<-Prod.eta g.is[g.ns[i].i.toNat],Prod.mk.injEq];constructor
     . rintro(h|h) ⟨h1,h2⟩
       . exact h h1
       . exact h h2
     . intro h;by_cases h1:g.is[g.ns[i].i.toNat].fst=g.ns[i].p
       . exact .inr λh2=>h ⟨h1,h2⟩
       . exact .inl h1
    split
    . rename_i hc;exact hret ⟨_,hx,hbad.1 hc⟩ _ _ (by simp)
    . rename_i hc;rw[w1];refine ih (i+1) _ _ (by omega) ?_ ?_ ?_ ?_ ?_ ?_
      rotate_left
      . simp
      . simp
      . simp
      . simp
      . simp
      intro k hk hki;by_cases e:k=i
      . subst e; exact λhb=>hc (hbad.2 hb)
      . exact hp k hk (by omega)
  . simp -implicitDefEqProofs[h0,h3,h47,h48,h49,(h.app _).o,hlt,QcH hlt,QcE hlt,QcI hlt,hk,sl];rw[w1];refine ih (i+1) _ _ (by omega) ?_ ?_ ?_ ?_ ?_ ?_
    rotate_left
    . simp
    . simp
    . simp
    . simp
    . simp
    intro k hk' hki;by_cases e:k=i
    . subst e; exact λhb=>hk hb.1
    . exact hp k hk' (by omega)
set_option maxRecDepth 10000 in
theorem ok91 (h:Wk H j g a b c) (hg:Gd g):Ok Try.prog 91 [.ptr (.own j 0 0 0 0) 0] H (.ret (i64 g.setsE)) H:=by
 have hn:=hg.n;have hi:=hg.i;have w1:IntKind.i64.wrap ((g.ns.length:Int)-1)=(g.ns.length:Int)-1:=Qi (by omega) (by omega);refine Qq hm Try.func91 c91 (by simp[h.lt]) λhcl => ?_;simp -implicitDefEqProofs[i91,r91,h.o,(h.app _).o,w1];refine⟨by omega,by omega,?_⟩;have e0:[(⟨List.replicate g.is.length (i64 0),3,0,true⟩:AO)]=ro (Qbc (g.ns.drop g.ns.length) g.ns.length (List.replicate g.is.length 0))::[]:=by
  simp[ro,Qbc,Qa]
 rw[e0];refine QuA h hg (λenv M h0 h3 => ?_) g.ns.length _ _ (Vc _) (by simp) (by simp) (by simp);simp -implicitDefEqProofs[h0,h3,(h.app _).o];have hF:g.firsts.length=g.is.length:=by simp[Gm.firsts]
 refine Qqb h hg (λhb env M h2 => ?_) (λhb env M h3 => ?_) g.ns.length 0 _ _ (by omega) (by omega) (by simp[h0]) (by simp[h3]) (by simp) (by simp) (by simp)
 . simp -implicitDefEqProofs[h2];refine Ql 1 hcl rfl ?_;simp[Gm.setsE,Wb hb]
 . have hI:∀ M,IsI (H++ro g.firsts::M) (.own H.length 0 g.is.length 1 0) g.firsts:=λM=>by
    have:=IsI.own0 H (ro g.firsts::M) 0 0 g.firsts [] 3 (by simp[ro])
    rwa [hF]at this
   simp -implicitDefEqProofs[h3];refine Qj (QqO (hI M) (by omega) 0) ?_;by_cases h0:0∈g.firsts
   . simp -implicitDefEqProofs[h0];refine Ql 1 hcl rfl ?_;simp[Gm.setsE,Wa hb,h0]
   . simp -implicitDefEqProofs[h0,h3];refine Qj (Qsp (hI M) (by omega)) ?_;by_cases h1:Srt g.firsts
     . simp -implicitDefEqProofs[h1];refine Ql 1 hcl rfl ?_;simp[Gm.setsE,Wa hb,h0,h1]
     . simp -implicitDefEqProofs[h1];refine Ql 1 hcl rfl ?_;simp[Gm.setsE,Wa hb,h0,h1]
end
def Gm.rng (g:Gm):Prop:=((((g.pl<1\/4<g.pl)\/(g.ns.length:Int)<1)\/2000<(g.ns.length:Int))\/200<(g.is.length:Int))
instance (g:Gm):Decidable g.rng:=by unfold Gm.rng; infer_instance
def QaI (g:Gm):List Nd->Int
 |[]=>0
 |x::r=>if x.err g=0 then QaI g r else x.err g
def Gm.w0 (g:Gm):W3:=⟨List.replicate g.ns.length 0,List.replicate g.ns.length 0,List.replicate g.ns.length 0⟩
def Gm.wk (g:Gm):Option Nat×W3:=QX g.ns (g.ns.length+1) (-1) 0 0 g.w0
def Gm.err0 (g:Gm):Int:=if g.rng then 2 else if QaI g g.ns≠0 then QaI g g.ns else if g.wk.1≠some g.ns.length then 9 else if 40<QbU g.wk.2.D then 5 else 0
def Gm.wp (g:Gm):SV:=.ptr (.slc [i64 g.pl,.slc (nds g.ns) g.ns.length,.slc (Qy g.is) g.is.length,sl g.wk.2.P,sl g.wk.2.D,sl g.wk.2.L] 0) 0
def Gm.walked (g:Gm):SV:=if g.err0≠0 then .tup [.val (.pointer none),i64 g.err0]else .tup [g.wp,i64 g.setsE]
def QG (g:Gm):AO:=⟨[i64 g.pl,.slc (nds g.ns) g.ns.length,.slc (Qy g.is) g.is.length],25,0,true⟩
def Qdl (g:Gm) (a b c:SV):AO:=⟨[i64 g.pl,.slc (nds g.ns) g.ns.length,.slc (Qy g.is) g.is.length,a,b,c],134,0,true⟩
abbrev nl:SV:=.val (.slice none 0 0)
theorem Qbe (n:Nat):∀ l:List Nd,SV.underL n (nds l)=true
 |[]=>rfl
 |x::r=>by rw[nds,SV.underL_append,Qbe n r]; simp[Nd.cells,sl]
theorem Qbj (n:Nat):∀ l:List (Int×Int),SV.underL n (Qy l)=true
 |[]=>rfl
 |x::r=>by simp[Qy,Qbj n r]
theorem Qm3 {n:Nat} {ks:List Nat} {L:Wu} {d:Nat} {l:Wv} (h:SV.underL n l=true):l.map (SV.fz n ks L (d+1))=l:=by
 rw[SV.underL_iff]at h;conv=>rhs; rw[<-List.map_id l]
 exact VA λx hx=>Qap (h x hx)
@[simp] theorem fz_nds (n:Nat) (ks:List Nat) (L:Wu) (d:Nat) (l:List Nd):(nds l).map (SV.fz n ks L (d+1))=nds l:=Qm3 (Qbe n l)
@[simp] theorem Qwc (n:Nat) (ks:List Nat) (L:Wu) (d:Nat) (l:List (Int×Int)):(Qy l).map (SV.fz n ks L (d+1))=Qy l:=Qm3 (Qbj n l)
section
variable {H:Wu} {g:Gm}
theorem QqF {M:Wu} {a b c:SV}:Wk (H++QG g::Qdl g a b c::M) (H.length+1) g a b c:=⟨by simp[Qdl],by simp⟩
set_option maxRecDepth 10000 in
theorem Qpw (h1:1<=g.pl) (h4:g.pl<=4) (h5:g.is.length<=200) (hn:g.ns.length<=2000) {N:Nat} {K:Wt}
 (hret:QaI g g.ns≠0->∀ env M,env.get 2=.val (.pointer none)->env.get 3=i64 (QaI g g.ns)->K .ret env (H++QG g::Qdl g nl nl nl::M))
 (hexit:(∀ x∈g.ns,x.err g=0)->QaI g g.ns=0->∀ env M,env.get 1=.ptr (.own H.length 0 0 0 0) 0->env.get 4=.ptr (.own (H.length+1) 0 0 0 0) 0->K (.exit 0) env (H++QG g::Qdl g nl nl nl::M)) :
 ∀ (n i:Nat) (env:Env) (M:Wu),i+n=g.ns.length->(∀ k (h:k<g.ns.length),k<i->g.ns[k].err g=0)->QaI g (g.ns.drop i)=QaI g g.ns ->
  env.get 1=.ptr (.own H.length 0 0 0 0) 0->env.get 4=.ptr (.own (H.length+1) 0 0 0 0) 0->env.get 40=.slc (nds g.ns) g.ns.length->env.get 41=i64 g.ns.length->env.get 42=i64 i ->
  LI Try.prog N Qh Qgf env (H++QG g::Qdl g nl nl nl::M) K:=by
 intro n
 induction n with
 |zero =>
  intro i env M hi hp hE h1 h4 h40 h41 h42;refine Qc hm Qgf.eq_1 ?_;have e:i=g.ns.length:=by omega
  subst e;simp -implicitDefEqProofs[h41,h42];rw[YN]at hE;refine hexit ?_ hE.symm _ _ (by simp[h1]) (by simp[h4]);intro x hx;obtain⟨k,hk,rfl⟩:=VX hx;exact hp k hk hk
 |succ n ih =>
  intro i env M hi hp hE e1 e4 h40 h41 h42;refine Qc hm Qgf.eq_1 ?_;have hlt:i<g.ns.length:=by omega
  have w1:IntKind.i64.wrap ((i:Int)+1)=((i+1:Nat):Int):=QaQ (by omega);rw[Vz hlt,QaI]at hE;simp -implicitDefEqProofs[e1,e4,h40,h41,h42,hlt,QcH hlt,QcE hlt,QcI hlt,sl];refine Qj (ok88 (x:=g.ns[i]) (QqF (g:=g) (a:=nl) (b:=nl) (c:=nl)) h1 h4 h5) ?_;by_cases hc:g.ns[i].err g=0
  . rw[Wb hc]at hE;simp -implicitDefEqProofs[hc,h42];rw[w1];refine ih (i+1) _ _ (by omega) ?_ hE ?_ ?_ ?_ ?_ ?_
    rotate_left
    . simp[e1]
    . simp[e4]
    . simp[h40]
    . simp[h41]
    . simp
    intro k hk hki;by_cases e:k=i
    . subst e; exact hc
    . exact hp k hk (by omega)
  . rw[Wa hc]at hE;simp -implicitDefEqProofs[hc];refine hret ?_ _ _ (by simp) (by simp[hE]);rw[<-hE]; exact hc
theorem QiI {x:Nd} (h:x.err g=0):x.nx.length<=60:=by
 unfold Nd.err at h;split at h
 . omega
 . split at h
   . unfold Nd.chance at h;split at h<;>omega
   . split at h
     . unfold Nd.move at h;split at h<;>omega
     . unfold Nd.end at h;split at h<;>omega
theorem QqI {M:Wu} {A B x y z:AO} {s:W3} :
 upd (H++A::B::(M++[x,y,z])) (H.length+(M.length+1+1)) (H.length+(M.length+1+1+1)) (H.length+(M.length+1+1+1+1)) s=H++A::B::(M++[rr s.P,rr s.D,rr s.L]):=by
 simp[upd]
set_option maxRecDepth 10000 in
theorem ok76:Ok Try.prog 76 [.agg g.cells] H (.ret g.walked) H:=by
 refine Qq hm Try.func76 c76 (by simp[Gm.cells]) λhcl => ?_;simp -implicitDefEqProofs[i76,r76,Gm.cells];have hR:g.rng=(((((g.pl<1\/4<g.pl)\/(g.ns.length:Int)<1)\/2000<(g.ns.length:Int))\/200<(g.is.length:Int))):=rfl;split
 . rename_i hc;refine Ql 2 hcl rfl ?_;simp[Gm.walked,Gm.err0,hR,hc]
 . rename_i hc;refine⟨rfl,?_⟩;have g1:1<=g.pl:=by omega
   have g4:g.pl<=4:=by omega
   have gi:g.is.length<=200:=by omega
   have gn:g.ns.length<=2000:=by omega
   have gn1:1<=g.ns.length:=by omega
   refine Qpw (g:=g) g1 g4 gi gn (λhE env M e2 e3 => ?_) (λhE hE' env M e1 e4 => ?_) g.ns.length 0 _ [] (by omega) (by omega) (by simp) (by simp) (by simp) (by simp) (by simp) (by simp)
   . simp -implicitDefEqProofs[e2,e3];refine Ql 2 hcl rfl ?_;simp[Gm.walked,Gm.err0,hR,hc,hE]
   . have hG:Gd g:=⟨g1,g4,gn1,gn,gi,hE⟩;simp -implicitDefEqProofs[e1,e4,QG,Qdl];refine⟨by omega,by omega,by omega,by omega,by omega,by omega,?_⟩;have ez:(⟨List.replicate g.ns.length (i64 0),3,1,true⟩:AO)=rr (List.replicate g.ns.length 0):=by simp[rr,Qa]
     rw[ez];generalize hHx:H++(⟨[i64 g.pl,SV.slc (nds g.ns) g.ns.length,SV.slc (Qy g.is) g.is.length],25,0,true⟩:AO)::(⟨[i64 g.pl,SV.slc (nds g.ns) g.ns.length,SV.slc (Qy g.is) g.is.length,
      SV.own (H.length+(M.length+1+1)) 0 g.ns.length 1 1,SV.own (H.length+(M.length+1+1+1)) 0 g.ns.length 1 1,SV.own (H.length+(M.length+1+1+1+1)) 0 g.ns.length 1 1],134,0,true⟩:AO) ::
       (M++[rr (List.replicate g.ns.length 0),rr (List.replicate g.ns.length 0),rr (List.replicate g.ns.length 0)])=Hx
     have hup:∀ s,upd Hx (H.length+(M.length+1+1)) (H.length+(M.length+1+1+1)) (H.length+(M.length+1+1+1+1)) s =
      H++QG g::Qdl g (.own (H.length+(M.length+1+1)) 0 g.ns.length 1 1) (.own (H.length+(M.length+1+1+1)) 0 g.ns.length 1 1) (.own (H.length+(M.length+1+1+1+1)) 0 g.ns.length 1 1)::(M++[rr s.P,rr s.D,rr s.L]) :=
      λs=>by rw[<-hHx]; exact QqI
     have h0:upd Hx (H.length+(M.length+1+1)) (H.length+(M.length+1+1+1)) (H.length+(M.length+1+1+1+1)) g.w0=Hx:=by rw[hup,<- hHx]; rfl
     have hWh:Wh Hx (H.length+1) g (H.length+(M.length+1+1)) (H.length+(M.length+1+1+1)) (H.length+(M.length+1+1+1+1)):=by
      refine⟨⟨by rw[<-hHx]; simp,by rw[<-hHx]; simp⟩,⟨by omega,by omega,by rw[<-hHx]; simp⟩,by omega,by omega,by omega,gn,λx hx => ?_⟩;have:=QiI (hE x hx); omega
     have ok:=ok89 hWh (g.ns.length+1) (-1) 0 0 g.w0 (by omega) (by omega) (by omega) (by omega) ⟨by simp[Gm.w0],by simp[Gm.w0],by simp[Gm.w0]⟩;have hwok:=Qc9 (ns:=g.ns) (g.ns.length+1) (-1) 0 0 g.w0 ⟨by simp[Gm.w0],by simp[Gm.w0],by simp[Gm.w0]⟩;rw[h0]at ok;refine Qj ok ?_;have hW:QX g.ns (g.ns.length+1) (-1) 0 0 g.w0=g.wk:=rfl;rw[hW]at hwok ⊢;have hwp:g.walked=if(if g.wk.1≠some g.ns.length then(9:Int)else if 40<QbU g.wk.2.D then 5 else 0)≠0 then .tup [.val (.pointer none),i64 (if g.wk.1≠some g.ns.length then(9:Int)else if 40<QbU g.wk.2.D then 5 else 0)]else .tup [g.wp,i64 g.setsE]:=by
      unfold Gm.walked Gm.err0;rw[Wa (show ¬ g.rng by rw[hR]; exact hc),Wa (show ¬ QaI g g.ns≠0 by simpa using hE')]
     cases hk:g.wk.1 with
     |none =>
      rw[hk]at hwp;simp -implicitDefEqProofs[Qdx];rw[hup];refine Ql 2 hcl rfl ?_;rw[hwp]; simp
     |some r =>
      rw[hk]at hwp hwok;have hr:=hwok.2 r rfl;by_cases hrn:r=g.ns.length
      . subst hrn;simp -implicitDefEqProofs[Qdx,nds,e1,e4,hWh.cells];have hI:IsI (upd Hx (H.length+(M.length+1+1)) (H.length+(M.length+1+1+1)) (H.length+(M.length+1+1+1+1)) g.wk.2) (.own (H.length+(M.length+1+1+1)) 0 g.ns.length 1 1) g.wk.2.D:=by
         rw[hup];have:=IsI.own0 H (QG g::Qdl g (.own (H.length+(M.length+1+1)) 0 g.ns.length 1 1) (.own (H.length+(M.length+1+1+1)) 0 g.ns.length 1 1) (.own (H.length+(M.length+1+1+1+1)) 0 g.ns.length 1 1)::(M++[rr g.wk.2.P,rr g.wk.2.D,rr g.wk.2.L])) (M.length+1+1+1) 1 g.wk.2.D [] 3 (by simp[rr])
         rwa [hwok.1.2.1]at this
        refine Qj (ok90 hI (by rw[hwok.1.2.1]; omega) (by rw[hwok.1.2.1]; omega)) ?_;by_cases hm40:40<QbU g.wk.2.D
        . simp -implicitDefEqProofs[hm40];rw[hup];refine Ql 2 hcl rfl ?_;rw[hwp]; simp[hm40]
        . simp -implicitDefEqProofs[hm40,e1,e4];have hWk:Wk (upd Hx (H.length+(M.length+1+1)) (H.length+(M.length+1+1+1)) (H.length+(M.length+1+1+1+1)) g.wk.2) (H.length+1) g _ _ _:=⟨hWh.cells _,by rw[QhP]; exact hWh.w.lt⟩;refine Qj (ok91 hWk hG) ?_;simp -implicitDefEqProofs;rw[hup];refine Ql 4 hcl rfl ?_;rw[hwp];have k1:=hwok.1.1;have k2:=hwok.1.2.1;have k3:=hwok.1.2.2;simp[hm40,QG,Qdl,rr,Gm.wp,sl,k1,k2,k3]
      . simp -implicitDefEqProofs[Qdx,show ¬ g.ns.length-r=0 by omega,show 0<g.ns.length-r by omega];rw[hup];refine Ql 2 hcl rfl ?_;rw[hwp]; simp[hrn]
end
def QbB (w:Nat->Int->Option Nat×Int):List Int->Nat->Int->Option Nat×Int
 |[],r,m=>(some r,m)
 |c::cs,r,m=>if c=r then(match w r m with|(none,m)=>(none,m)|(some r,m)=>QbB w cs r m)else(none,m)
def Qcg (ns:List Nd):Nat->Int->Nat->Int->Option Nat×Int
 |0,_,_,m=>(none,m)
 |f+1,dep,k,m =>
  match ns[k]? with
  |none=>(none,m)
  |some x=>QbB (Qcg ns f (dep+1)) x.nx (k+1) (max m dep)
section
variable {H L:Wu} {g:Gm} {q j:Nat} {m m':Int}
theorem Qd1 {l:List Nd} {k t:Nat} (h:k<l.length) (ht:t<6):(nds l)[k*6+t]? = l[k].cells[t]? := by
 rw[<-Vq,VT,Qki h,Vd (by simpa[Nd.cells]using ht)]
end
def slN (l:List Int):SV:=if l=[]then nl else sl l
structure Fam (b:Nat) (L:Wu) (A:List (List Int)) (cs:Wv):Prop where
 len:cs.length=A.length
 at':∀ s (h:s<A.length),(A[s]=[]/\cs[s]? = some nl)\/(A[s]≠[]/\∃ p,cs[s]? = some (.own (b+p) 0 A[s].length 1 A[s].length)/\L[p]? = some ⟨Qa A[s],3,A[s].length,true⟩)
 inj:∀ (s t p m n v w:Nat),s≠t->cs[s]? = some (.own (b+p) 0 m 1 v)->cs[t]? = some (.own (b+p) 0 n 1 w)->False
section
variable {b:Nat} {L L':Wu} {A:List (List Int)} {cs:Wv} {s:Nat} {i:Int}
theorem Fam.zero (b:Nat) (L:Wu) (n:Nat):Fam b L (List.replicate n []) (List.replicate n nl):=by
 refine⟨by simp,λs h=>.inl ?_,λs t p m n v w hst h1 h2 => ?_⟩
 . simp at h; simp[h]
 . rw[ZJ]at h1;split at h1<;>cases h1
theorem Fam.mono (h:Fam b L A cs) (L':Wu):Fam b (L++L') A cs:=by
 refine⟨h.len,λs hs => ?_,h.inj⟩;rcases h.at' s hs with h1|⟨h1,p,h2,h3⟩
 . exact .inl h1
 . exact .inr ⟨h1,p,h2,by rw[Vd (Qb h3)]; exact h3⟩
theorem Fam.new (h:Fam b L A cs) (hs:s<A.length) (he:A[s]=[]):Fam b (L++[⟨Qa [i],3,1,true⟩]) (A.set s [i]) (cs.set s (.own (b+L.length) 0 1 1 1)):=by
 have hl:=h.len;have hnew:∀ t (n w:Nat),t<A.length->cs[t]? = some (.own (b+L.length) 0 n 1 w)->False:=by
  intro t n w ht hc;rcases h.at' t ht with ⟨_,h1⟩|⟨_,p,h2,h3⟩
  . rw[h1]at hc; cases hc
  . rw[h2]at hc;have hp:=Qb h3;simp only[Option.some.injEq,SV.own.injEq]at hc;omega
 refine⟨by simp[hl],λt ht => ?_,λt u p m n v w htu h1 h2 => ?_⟩
 . by_cases e:s=t
   . subst e;refine .inr ⟨by simp,L.length,?_,by simp⟩;rw[Vh (by omega)]; simp
   . have ht':t<A.length:=by simpa using ht
     rw[Ve e];simp only[Z7 e];rcases h.at' t ht' with h1|⟨h1,p,h2,h3⟩
     . exact .inl h1
     . exact .inr ⟨h1,p,h2,by rw[Vd (Qb h3)]; exact h3⟩
 . by_cases e:s=t
   . subst e;rw[Vh (by omega)]at h1;rw[Ve htu]at h2;have hu:u<A.length:=by have:=Qb h2; omega
     simp only[Option.some.injEq,SV.own.injEq]at h1;have:p=L.length:=by omega
     subst this;exact hnew u _ _ hu h2
   . rw[Ve e]at h1;by_cases e':s=u
     . subst e';rw[Vh (by omega)]at h2;have ht:t<A.length:=by have:=Qb h1; omega
       simp only[Option.some.injEq,SV.own.injEq]at h2;have:p=L.length:=by omega
       subst this;exact hnew t _ _ ht h1
     . rw[Ve e']at h2;exact h.inj t u p m n v w htu h1 h2
theorem Fam.grow (h:Fam b L A cs) (hs:s<A.length) {p:Nat} (hc:cs[s]? = some (.own (b+p) 0 A[s].length 1 A[s].length)) (hp:L[p]? = some ⟨Qa A[s],3,A[s].length,true⟩) :
 Fam b (L.set p ⟨Qa (A[s]++[i]),3,A[s].length+1,true⟩) (A.set s (A[s]++[i])) (cs.set s (.own (b+p) 0 (A[s].length+1) 1 (A[s].length+1))):=by
 have hl:=h.len;have hpl:=Qb hp;refine⟨by simp[hl],λt ht => ?_,λt u q m n v w htu h1 h2 => ?_⟩
 . by_cases e:s=t
   . subst e;refine .inr ⟨by simp,p,?_,?_⟩
     . rw[Vh (by omega)]; simp
     . rw[Vh hpl]; simp
   . have ht':t<A.length:=by simpa using ht
     rw[Ve e];simp only[Z7 e];rcases h.at' t ht' with h1|⟨h1,q,h2,h3⟩
     . exact .inl h1
     . refine .inr ⟨h1,q,h2,?_⟩;rw[Ve (λhqp => ?_)]; exact h3;subst hqp;exact h.inj s t p _ _ _ _ e hc h2
 . by_cases e:s=t
   . subst e;rw[Vh (by omega)]at h1;rw[Ve htu]at h2;simp only[Option.some.injEq,SV.own.injEq]at h1;have:q=p:=by omega
     subst this;exact h.inj s u q _ _ _ _ htu hc h2
   . rw[Ve e]at h1;by_cases e':s=u
     . subst e';rw[Vh (by omega)]at h2;simp only[Option.some.injEq,SV.own.injEq]at h2;have:q=p:=by omega
       subst this;exact h.inj s t q _ _ _ _ (λh=>e h) hc h1
     . rw[Ve e']at h2;exact h.inj t u q m n v w htu h1 h2
theorem Fam.fz (h:Fam b L A cs) {n k d:Nat} {F:Wu} (hb:b=n+k) (hF:∀ p,F[k+p]? = L[p]?):cs.map (SV.fz n [] F (d+2))=A.map slN:=by
 apply Vx;intro s;rw[Vl,Vl];by_cases hs:s<A.length
 . rw[Vb hs];rcases h.at' s hs with ⟨h1,h2⟩|⟨h1,p,h2,h3⟩
   . rw[h2]; simp[slN,h1,nl]
   . rw[h2];have e:b+p=n+(k+p):=by omega
     simp only[VP,slN,Wa h1,sl,e,QdF,hF,h3,QY];simp
 . have h1:=h.len;rw[Vp (by omega),Vp (by omega)];rfl
end
def Qdo:List Nd->Nat->List (List Int)->List (List Int)
 |[],_,A=>A
 |x::r,o,A=>Qdo r (o+1) (if x.k=2 then A.set x.i.toNat (A.getD x.i.toNat []++[(o:Int)])else A)
def Gm.sets (g:Gm):List (List Int):=Qdo g.ns 0 (List.replicate g.is.length [])
section
variable {H:Wu} {g:Gm}
theorem QoS:∀ (l:List Nd) (o:Nat) (A:List (List Int)),(Qdo l o A).length=A.length
 |[],o,A=>rfl
 |x::r,o,A=>by rw[Qdo,QoS r]; split<;>simp
theorem Qcu:g.sets.length=g.is.length:=by simp[Gm.sets,QoS]
end
def Gm.wr (g:Gm):Option Nat×Int:=Qcg g.ns (g.ns.length+1) 0 0 0
def QeN (A:List (List Int)):Prop:=∀ k,k<A.length-1->¬ (A.getD (k+1) []).getD 0 0<(A.getD k []).getD 0 0
instance (A:List (List Int)):Decidable (QeN A):=by unfold QeN; infer_instance
def Gm.setsR (g:Gm):Int:=if ∃ x∈g.ns,x.tyBad g then 10 else if []∈g.sets then 18 else if QeN g.sets then 0 else 9
def Gm.formR (g:Gm):Int:=if g.rng then 2 else if QaI g g.ns≠0 then QaI g g.ns else if g.wr.1≠some g.ns.length then 9 else if 40<g.wr.2 then 5 else g.setsR
theorem QjR {l:List (Int×Int)} {k:Nat} (h:k<l.length):(Qy l)[k*2]? = some (i64 l[k].1):=by
 rw[show k*2=k*2+0 by omega,<- Vq,QbH h]; rfl
section
variable {H:Wu} {g:Gm}
theorem Qmh {l:List Int} (h:l≠[]):slN l=.slc (Qa l) l.length:=by unfold slN; rw[Wa h]; rfl
theorem Qok {A:List (List Int)} {k:Nat} (h:k<A.length):(A.map slN).drop k=slN A[k]::(A.drop (k+1)).map slN:=by
 rw[Vz (by simpa using h)]; simp
end
theorem Qsu {l:List Int} (h:0<l.length) {x:Int}:QbU l<=x↔∀ i,i<l.length->l.getD i 0<=x:=by
 have hf:∀ (r:List Int) (a:Int),r.foldl max a<=x↔a<=x/\∀ y∈r,y<=x:=by
  intro r
  induction r with
  |nil=>intro a; simp
  |cons y r ih =>
   intro a;rw[Zy,ih];simp only[Vi,Wl];constructor
   . rintro⟨h1,h2⟩; exact⟨by omega,by omega,h2⟩
   . rintro⟨h1,h2,h3⟩; exact⟨by omega,h3⟩
 cases l with
 |nil=>simp at h
 |cons y r =>
  rw[QbU,List.tail_cons,List.headD_cons,hf];constructor
  . rintro⟨h1,h2⟩ i hi
    cases i with
    |zero=>simpa using h1
    |succ i =>
     have hi':i<r.length:=by simpa using hi
     have:=h2 _ (Vg hi');simpa[Vr,hi']using this
  . intro h1;refine⟨by simpa using h1 0 (by simp),λy hy => ?_⟩;obtain⟨k,hk,rfl⟩:=VX hy;have:=h1 (k+1) (by simpa using hk);simpa[Vr,hk]using this
def MxR (D:List Int) (a b:Nat) (m m':Int):Prop:=∀ x,m'<=x↔(m<=x/\∀ i,a<=i->i<b->D.getD i 0<=x)
theorem QnD {n:Nat} {w:Nat->W3->Option Nat×W3} {v:Nat->Int->Option Nat×Int} (hok:∀ r s,s.ok n->(w r s).2.ok n/\∀ r',(w r s).1=some r'->r<r'/\r'<=n)
 (h:∀ r s m,s.ok n->(w r s).1=(v r m).1/\∀ r',(w r s).1=some r'->(∀ i,i<r->(w r s).2.D.getD i 0=s.D.getD i 0)/\MxR (w r s).2.D r r' m (v r m).2) :
 ∀ (l:List Int) (r:Nat) (s:W3) (m:Int),s.ok n->(Qas w l r s).1=(QbB v l r m).1/\∀ r',(Qas w l r s).1=some r'->(∀ i,i<r->(Qas w l r s).2.D.getD i 0=s.D.getD i 0)/\MxR (Qas w l r s).2.D r r' m (QbB v l r m).2
 |[],r,s,m,hs=>by
  refine⟨rfl,λr' h'=>⟨λ_ _=>rfl,λx => ?_⟩⟩;simp only[Qas,Option.some.injEq]at h';subst h';simp only[QbB];exact⟨λh=>⟨h,λi h1 h2=>by omega⟩,λh=>h.1⟩
 |c::cs,r,s,m,hs=>by
  unfold Qas QbB;by_cases hc:c=r
  . rw[Wb hc,Wb hc];obtain⟨h1,h2⟩:=h r s m hs;have h3:=hok r s hs
    cases hw:w r s with
    |mk o s1 =>
     cases hv:v r m with
     |mk o' m1 =>
      rw[hw,hv]at h1;rw[hw]at h2 h3;rw[hv]at h2;simp only at h1;subst h1
      cases o with
      |none=>exact⟨rfl,λr' h'=>by simp at h'⟩
      |some r1 =>
       obtain⟨h4,h5⟩:=h2 r1 rfl;have h6:=h3.2 r1 rfl;obtain⟨h7,h8⟩:=QnD hok h cs r1 s1 m1 h3.1;refine⟨h7,λr' h' => ?_⟩;obtain⟨h9,h10⟩:=h8 r' h';refine⟨λi hi => ?_,λx => ?_⟩
       . simp only;rw[h9 i (by omega)]; exact h4 i hi
       . simp only;rw[h10 x,h5 x];constructor
         . rintro⟨⟨k1,k2⟩,k3⟩;refine⟨k1,λi h1 h2 => ?_⟩;by_cases hi:i<r1
           . rw[h9 i hi]; exact k2 i h1 hi
           . exact k3 i (by omega) h2
         . rintro⟨k1,k2⟩;have hr':r1<=r':=(Qfj (m:=0) (λr s _ hs=>hok r s hs) cs r1 s1 (by omega) h6.2 h3.1).2 r' h' |>.1;refine⟨⟨k1,λi h1 h2 => ?_⟩,λi h1 h2=>k2 i (by omega) h2⟩;have:=k2 i h1 (by omega)
           rwa [h9 i h2]at this
  . rw[Wa hc,Wa hc];exact⟨rfl,λr' h'=>by simp at h'⟩
theorem Qj7 {l:List Int} {i k:Nat} {v:Int} (h:i≠k):(l.set k v).getD i 0=l.getD i 0:=by
 rw[Vr,Vr,Ve (λe=>h e.symm)]
theorem Qjh {l:List Int} {k:Nat} {v:Int} (h:k<l.length):(l.set k v).getD k 0=v:=by
 rw[Vr,Vh h]; rfl
theorem Qio {ns:List Nd}:∀ (f:Nat) (par dep:Int) (k:Nat) (s:W3) (m:Int),s.ok ns.length ->
 (QX ns f par dep k s).1=(Qcg ns f dep k m).1/\∀ r,(QX ns f par dep k s).1=some r ->
  ((∀ i,i<k->(QX ns f par dep k s).2.D.getD i 0=s.D.getD i 0)/\MxR (QX ns f par dep k s).2.D k r m (Qcg ns f dep k m).2)/\(QX ns f par dep k s).2.D.getD k 0=dep
 |0,par,dep,k,s,m,hs=>⟨rfl,λr h=>by simp[QX]at h⟩
 |f+1,par,dep,k,s,m,hs=>by
  unfold QX Qcg
  cases hk:ns[k]? with
  |none=>exact⟨rfl,λr h=>by simp at h⟩
  |some x =>
   have hlt:=Qb hk;have hs':W3.ok ⟨s.P.set k par,s.D.set k dep,s.L⟩ ns.length:=⟨by simpa using hs.1,by simpa using hs.2.1,hs.2.2⟩;have hr:=QnD (n:=ns.length) (w:=QX ns f k (dep+1)) (v:=Qcg ns f (dep+1)) (λr s hs=>Qc9 f k (dep+1) r s hs)
    (λr s m hs=>⟨(Qio f k (dep+1) r s m hs).1,λr' h=>((Qio f k (dep+1) r s m hs).2 r' h).1⟩) x.nx (k+1) ⟨s.P.set k par,s.D.set k dep,s.L⟩ (max m dep) hs'
   have hk2:=Qfj (n:=ns.length) (w:=QX ns f k (dep+1)) (m:=0) (λr s _ hs=>Qc9 f k (dep+1) r s hs) x.nx (k+1) ⟨s.P.set k par,s.D.set k dep,s.L⟩ (by omega) (by omega) hs';simp only
   cases hh:Qas (QX ns f k (dep+1)) x.nx (k+1) ⟨s.P.set k par,s.D.set k dep,s.L⟩with
   |mk o s1 =>
    cases hv:QbB (Qcg ns f (dep+1)) x.nx (k+1) (max m dep)with
    |mk o' m1 =>
     rw[hh,hv]at hr;rw[hh]at hk2;obtain⟨h1,h2⟩:=hr;simp only at h1;subst h1
     cases o with
     |none=>exact⟨rfl,λr' h'=>by simp at h'⟩
     |some r1 =>
      obtain⟨h3,h4⟩:=h2 r1 rfl;have hr1:=hk2.2 r1 rfl;have hD:s.D.length=ns.length:=hs.2.1;have hk0:s1.D.getD k 0=dep:=by rw[h3 k (by omega)]; exact Qjh (by omega)
      refine⟨rfl,λr h' => ?_⟩;simp only[Option.some.injEq]at h';subst h';refine⟨⟨λi hi => ?_,λx => ?_⟩,hk0⟩
      . show s1.D.getD i 0=_;rw[h3 i (by omega)]; exact Qj7 (by omega)
      . show m1<=x↔_;rw[h4 x];constructor
        . rintro⟨k1,k2⟩;refine⟨by omega,λi h1 h2 => ?_⟩;by_cases e:i=k
          . subst e; show s1.D.getD i 0<=x; rw[hk0]; omega
          . exact k2 i (by omega) h2
        . rintro⟨k1,k2⟩;have:=k2 k (by omega) (by omega);have this:s1.D.getD k 0<=x:=this;rw[hk0]at this;exact⟨by omega,λi h1 h2=>k2 i (by omega) h2⟩
def occ (s:Nat):List Nd->Nat->List Int
 |[],_=>[]
 |x::r,o=>if x.k=2/\x.i.toNat=s then(o:Int)::occ s r (o+1)else occ s r (o+1)
theorem Qii {s:Nat}:∀ {l:List Nd} {o:Nat} {a:Int},a∈occ s l o->0<=a
 |[],o,a,h=>by simp[occ]at h
 |x::r,o,a,h=>by
  unfold occ at h;split at h
  . rcases Vi.1 h with rfl|h
    . omega
    . exact Qii h
  . exact Qii h
theorem QkD {s:Nat}:∀ (l:List Nd) (o:Nat) (A:List (List Int)),s<A.length->(Qdo l o A).getD s []=A.getD s []++occ s l o
 |[],o,A,h=>by simp[Qdo,occ]
 |x::r,o,A,h=>by
  unfold Qdo occ;by_cases hk:x.k=2
  . rw[Wb hk,QkD r (o+1) _ (by simpa using h)];by_cases e:x.i.toNat=s
    . rw[Wb ⟨hk,e⟩,e];simp[Vr,h]
    . rw[Wa (λh=>e h.2)];simp[Vr,Ve e]
  . rw[Wa hk,Wa (λh=>hk h.1),QkD r (o+1) A h]
theorem Qjm {s:Nat} {z:List Int} (hz:s<z.length):∀ (l:List Nd) (o:Nat),(Qbc l o z).getD s 0=(match occ s l o with|[]=>z.getD s 0|a::_=>a+1)
 |[],o=>by simp[Qbc,occ]
 |x::r,o=>by
  unfold Qbc occ;by_cases hk:x.k=2
  . rw[Wb hk];by_cases e:x.i.toNat=s
    . rw[Wb ⟨hk,e⟩,e,Qjh (by simpa using hz)]
    . rw[Wa (λh=>e h.2),Qj7 (λh=>e h.symm)];exact Qjm hz r (o+1)
  . rw[Wa hk,Wa (λh=>hk h.1)];exact Qjm hz r (o+1)
section
variable {g:Gm}
theorem Qft {s:Nat} (hs:s<g.is.length):g.sets.getD s []=occ s g.ns 0:=by
 rw[Gm.sets,QkD _ _ _ (by simpa using hs)];simp[Vr,hs]
theorem Qlf {s:Nat} (hs:s<g.is.length):g.firsts.getD s 0=(match g.sets.getD s []with|[]=>0|a::_=>a+1):=by
 rw[Gm.firsts,Qjm (by simpa using hs),Qft hs];simp[Vr,hs]
theorem QoI:(0:Int)∈g.firsts↔[]∈g.sets:=by
 have hl:g.sets.length=g.is.length:=Qcu;have hf:g.firsts.length=g.is.length:=by simp[Gm.firsts]
 constructor
 . intro h;obtain⟨s,hs,e⟩:=VX h;have:=Qlf (g:=g) (s:=s) (by omega);rw[Vr,Vb hs,V6,e]at this;have hs':s<g.sets.length:=by omega
   have h2:g.sets.getD s []=g.sets[s]:=by rw[Vr,Vb hs']; rfl
   cases hc:g.sets.getD s []with
   |nil=>rw[<-hc,h2]; exact Vg hs'
   |cons a r =>
    rw[hc]at this;have h3:0<=a:=Qii (s:=s) (l:=g.ns) (o:=0) (by rw[<-Qft (by omega),hc]; simp);simp only at this; omega
 . intro h;obtain⟨s,hs,e⟩:=VX h;have:=Qlf (g:=g) (s:=s) (by omega);rw[Vr (l:=g.sets),Vb hs,V6,e]at this;have hs':s<g.firsts.length:=by omega
   rw[Vr,Vb hs',V6]at this;simp only at this;rw[<-this]; exact Vg hs'
theorem QnL (h:¬ []∈g.sets):Srt g.firsts↔QeN g.sets:=by
 have hl:g.sets.length=g.is.length:=Qcu;have hf:g.firsts.length=g.is.length:=by simp[Gm.firsts]
 have hv:∀ s,s<g.is.length->g.firsts.getD s 0=(g.sets.getD s []).getD 0 0+1:=by
  intro s hs;rw[Qlf hs]
  cases hc:g.sets.getD s []with
  |nil =>
   exfalso; apply h;have hs':s<g.sets.length:=by omega
   rw[Vr,Vb hs',V6]at hc;rw[<-hc]; exact Vg hs'
  |cons a r=>simp
 unfold Srt QeN;rw[hf,hl];constructor
 . intro h1 k hk;have:=h1 k hk;rw[hv _ (by omega),hv _ (by omega)]at this;omega
 . intro h1 k hk;have:=h1 k hk;rw[hv _ (by omega),hv _ (by omega)];omega
theorem QoA:g.setsE=g.setsR:=by
 unfold Gm.setsE Gm.setsR;by_cases hb:∃ x∈g.ns,x.tyBad g
 . rw[Wb hb,Wb hb]
 . rw[Wa hb,Wa hb];by_cases h0:[]∈g.sets
   . rw[Wb h0,Wb (QoI.2 h0)]
   . rw[Wa h0,Wa (λh=>h0 (QoI.1 h))];by_cases hs:QeN g.sets
     . rw[Wb hs,Wb ((QnL h0).2 hs)]
     . rw[Wa hs,Wa (λh=>hs ((QnL h0).1 h))]
def Gm.formE (g:Gm):Int:=if g.err0≠0 then g.err0 else g.setsE
theorem QeC:g.w0.ok g.ns.length:=⟨by simp[Gm.w0],by simp[Gm.w0],by simp[Gm.w0]⟩
theorem QlZ:g.wk.1=g.wr.1:=(Qio (ns:=g.ns) (g.ns.length+1) (-1) 0 0 g.w0 0 QeC).1
theorem Qty (h1:1<=g.ns.length) (h:g.wk.1=some g.ns.length):QbU g.wk.2.D=g.wr.2:=by
 have hr:=(Qio (ns:=g.ns) (g.ns.length+1) (-1) 0 0 g.w0 0 QeC).2 g.ns.length h;have hok:=(Qc9 (ns:=g.ns) (g.ns.length+1) (-1) 0 0 g.w0 QeC).1;have hD:g.wk.2.D.length=g.ns.length:=hok.2.1;have hx:∀ x,QbU g.wk.2.D<=x↔g.wr.2<=x:=by
  intro x;rw[Qsu (by omega)];have:=hr.1.2 x;have h0:g.wk.2.D.getD 0 0=0:=hr.2;show _↔(Qcg g.ns (g.ns.length+1) 0 0 0).2<=x;rw[this,hD];constructor
  . intro k;have:=k 0 (by omega);rw[h0]at this;exact⟨this,λi _ hi=>k i hi⟩
  . rintro⟨_,k⟩ i hi;exact k i (by omega) hi
 have:=(hx (QbU g.wk.2.D)).1 (V4 _);have:=(hx g.wr.2).2 (V4 _);omega
theorem Qqm:g.formE=g.formR:=by
 have hR:g.rng=(((((g.pl<1\/4<g.pl)\/(g.ns.length:Int)<1)\/2000<(g.ns.length:Int))\/200<(g.is.length:Int))):=rfl;unfold Gm.formE Gm.err0 Gm.formR;by_cases hr:g.rng
 . simp[hr]
 . rw[Wa hr,Wa hr];by_cases hn:QaI g g.ns=0
   . have hn':¬ QaI g g.ns≠0:=by simpa using hn
     rw[Wa hn',Wa hn',QlZ];by_cases hk:g.wr.1=some g.ns.length
     . have hk':¬ g.wr.1≠some g.ns.length:=by simpa using hk
       rw[Wa hk',Wa hk'];rw[hR]at hr;rw[Qty (by omega) (by rw[QlZ]; exact hk),QoA];by_cases hm:40<g.wr.2
       . simp[hm]
       . simp[hm]
     . simp[hk]
   . simp[hn]
end
def NO (b:Nat) (M:Wu):List Nd->Wv->Prop
 |[],cs=>cs=[]
 |x::r,cs=>∃ p1 p2 p3 rest,cs=i64 x.k::i64 x.p::i64 x.i::.own (b+p1) 0 x.nx.length 1 2::.own (b+p2) 0 x.ws.length 1 2::.own (b+p3) 0 x.ps.length 1 2::rest /\
  M[p1]? = some (⟨Qa x.nx,3,2,true⟩:AO)/\M[p2]? = some (⟨Qa x.ws,3,2,true⟩:AO)/\M[p3]? = some (⟨Qa x.ps,3,2,true⟩:AO)/\NO b M r rest
theorem NO.mono {b:Nat} {M M':Wu} (h:∀ (p:Nat) (l:List Int),M[p]? = some (⟨Qa l,3,2,true⟩:AO)->M'[p]? = some (⟨Qa l,3,2,true⟩:AO)):∀ {l:List Nd} {cs:Wv},NO b M l cs->NO b M' l cs
 |[],cs,hn=>hn
 |x::r,cs,⟨p1,p2,p3,rest,h0,h1,h2,h3,h4⟩=>⟨p1,p2,p3,rest,h0,h _ _ h1,h _ _ h2,h _ _ h3,NO.mono h h4⟩
theorem NO.snoc {b:Nat} {M:Wu} {x:Nd} {p1 p2 p3:Nat} (h1:M[p1]? = some ⟨Qa x.nx,3,2,true⟩) (h2:M[p2]? = some ⟨Qa x.ws,3,2,true⟩) (h3:M[p3]? = some ⟨Qa x.ps,3,2,true⟩) :
 ∀ {l:List Nd} {cs:Wv},NO b M l cs->NO b M (l++[x]) (cs++[i64 x.k,i64 x.p,i64 x.i,.own (b+p1) 0 x.nx.length 1 2,.own (b+p2) 0 x.ws.length 1 2,.own (b+p3) 0 x.ps.length 1 2])
 |[],cs,hn=>by
  cases hn
  exact⟨p1,p2,p3,[],rfl,h1,h2,h3,rfl⟩
 |y::r,cs,⟨q1,q2,q3,rest,h0,k1,k2,k3,h4⟩=>by
  subst h0;exact⟨q1,q2,q3,_,rfl,k1,k2,k3,NO.snoc h1 h2 h3 h4⟩
theorem NO.len {b:Nat} {M:Wu}:∀ {l:List Nd} {cs:Wv},NO b M l cs->cs.length=6*l.length
 |[],cs,hn=>by cases hn; rfl
 |x::r,cs,⟨p1,p2,p3,rest,h0,h1,h2,h3,h4⟩=>by subst h0; simp[NO.len h4]; omega
theorem NO.cell {b:Nat} {M:Wu}:∀ {l:List Nd} {cs:Wv},NO b M l cs->Qw cs
 |[],cs,hn=>by cases hn; intro s hs; simp at hs
 |x::r,cs,⟨p1,p2,p3,rest,h0,h1,h2,h3,h4⟩=>by
  subst h0;intro s hs;simp only[Vi]at hs;rcases hs with rfl|rfl|rfl|rfl|rfl|rfl|hs
  . rfl
  . rfl
  . rfl
  . rfl
  . rfl
  . rfl
  . exact NO.cell h4 s hs
theorem NO.fz {b n k d:Nat} {M F:Wu} (hb:b=n+k) (hF:∀ p,F[k+p]? = M[p]?):∀ {l:List Nd} {cs:Wv},NO b M l cs->cs.map (SV.fz n [] F (d+2))=nds l
 |[],cs,hn=>by cases hn; rfl
 |x::r,cs,⟨p1,p2,p3,rest,h0,h1,h2,h3,h4⟩=>by
  subst h0;have e:∀ p,b+p=n+(k+p):=λp=>by omega
  simp only[Vs,NO.fz hb hF h4,nds,Nd.cells,e,QdF,hF,h1,h2,h3,QY,Qcd];simp[sl]
section
variable {H:Wu} {g:Gm}
theorem Qqo (H:Wu) (k n:Nat):H.length+k+n=H.length+(k+n):=Yf ..
end
section
variable {H:Wu} {x y:SV} {l m:List Int}
theorem QqR (hx:IsI H x l) (hy:IsI H y m) (hl:l.length<4611686018427387904) (hlm:l.length=m.length) {N:Nat} {K:Wt}
 (hret:l≠m->∀ env,env.get 4=bl false->K .ret env H) (hexit:l=m->∀ env,K (.exit 0) env H) :
 ∀ (n i:Nat) (env:Env),i+n=l.length->(∀ k (h:k<l.length),k<i->l[k]=m[k]'(by omega))->env.get 0=x->env.get 1=y->env.get 5=i64 i ->
  LI Try.prog N Qh Qgl env H K:=by
 intro n
 induction n with
 |zero =>
  intro i env hi hp h0 h1 h5;refine Qc hm Qgl.eq_1 ?_;have e:i=l.length:=by omega
  subst e;simp -implicitDefEqProofs[h0,h1,h5,hx.vd,hx.ug,hx.sl,hx.len];exact hexit (List.ext_getElem hlm λk h1 h2=>hp k h1 h1) _
 |succ n ih =>
  intro i env hi hp h0 h1 h5;refine Qc hm Qgl.eq_1 ?_;have hlt:i<l.length:=by omega
  have hlt':i<m.length:=by omega
  simp -implicitDefEqProofs[h0,h1,h5,hlt,hlt',hx.vd,hx.ug,hx.sl,hx.len,hx.v hlt,hx.ok hlt,hy.vd,hy.ug,hy.sl,hy.len,hy.v hlt',hy.ok hlt'];by_cases hc:l[i]=m[i]
  . rw[Wb hc];refine ih (i+1) _ (by omega) ?_ ?_ ?_ ?_
    rotate_left
    . simp[h0]
    . simp[h1]
    . simp[QR (show i<9223372036854775807 by omega)]
    intro k hk hki;by_cases e:k=i
    . subst e; exact hc
    . exact hp k hk (by omega)
  . rw[Wa hc];exact hret (λe=>hc (by subst e; rfl)) _ (by simp)
theorem ok48 (hx:IsI H x l) (hy:IsI H y m) (hl:l.length<4611686018427387904):Ok Try.prog 48 [x,y] H (.ret (bl (decide (l=m)))) H:=by
 refine Qq hm Try.func48 c48 (by simp) λhcl => ?_;by_cases hlm:l.length=m.length
 . simp -implicitDefEqProofs[i48,r48,hx.vd,hx.ug,hx.sl,hx.len,hy.vd,hy.ug,hy.sl,hy.len,hlm];refine QqR hx hy hl hlm (λhne env h4 => ?_) (λhe env => ?_) l.length 0 _ (by omega) (by omega) (by simp) (by simp) (by simp)
   . simp -implicitDefEqProofs[h4,hne];exact Qn
   . simp -implicitDefEqProofs[he];exact Qn
 . simp -implicitDefEqProofs[i48,r48,hx.vd,hx.ug,hx.sl,hx.len,hy.vd,hy.ug,hy.sl,hy.len,show ¬ ((l.length:Int)=m.length)by omega,hlm];have:l≠m:=λe=>hlm (by rw[e]);simp[this];exact Qn
theorem QpV (hx:IsI H x l) (hy:IsI H y l) (hl:l.length<4611686018427387904):Ok Try.prog 48 [x,y] H (.ret (bl true)) H:=by simpa using ok48 hx hy hl
end
section
variable {H:Wu} {g:Gm} {x:Nd} {is:List (Int×Int)}
theorem isc (H:Wu) (l:List Int):IsI H (.slc (Qa l) l.length) l:=IsI.slc H l
def Nd.big (x:Nd):Prop:=(80<x.nx.length\/80<x.ws.length)\/80<x.ps.length
instance (x:Nd):Decidable x.big:=by unfold Nd.big; infer_instance
def Gm.large (g:Gm):Prop:=(∃ x∈g.ns.take 81,x.big)\/80<g.ns.length\/80<g.is.length
instance (g:Gm):Decidable g.large:=by unfold Gm.large; infer_instance
theorem ok62:Ok Try.prog 62 [.agg g.cells] H (.ret (i64 g.formE)) H:=by
 refine Qq hm Try.func62 c62 (by simp) λhcl => ?_;simp -implicitDefEqProofs[i62,r62,Gm.cells];have hh:=λH=>ok76 (H:=H) (g:=g);simp only[Gm.cells]at hh;refine Qj (hh _) ?_;unfold Gm.walked Gm.formE;by_cases h:g.err0=0
 . simp -implicitDefEqProofs[h];exact Ql 1 hcl rfl (by simp)
 . simp -implicitDefEqProofs[h];exact Ql 1 hcl rfl (by simp)
end
theorem hm':Try.prog.follows .mixedOrders=true:=Try.checked.mixed
structure Gh where
 lv:Nat
 sn:List (List Int)
def QeP (a b:List (List Int)) (pl:Int) (k:Int):Prop:=b.length=a.length/\∀ (q:Nat) (h:q<a.length),∃ e:Int,b[q]? = some (a[q]++[e])/\((q:Int)=pl->e=k)
def Nd.mvr (x:Nd):Int:=if x.k=2 then x.p else -1
structure Rcl (g:Gm) (lvs:Nat->Int) (V:Nat->Option (Int×Int×List Int)) (gs:List Gh):Prop where
 len:gs.length=g.ns.length
 root:gs[0]? = some ⟨0,List.replicate g.pl.toNat []⟩
 edge:∀ (j:Nat) (x:Nd) (y:Gh),g.ns[j]? = some x->gs[j]? = some y->∀ (k:Nat) (c:Int),x.nx[k]? = some c->∃ (m:Nat) (z:Gh),c=(m:Int)/\gs[m]? = some z/\QeP y.sn z.sn x.mvr k/\z.lv=y.lv+1
 fit:∀ (j:Nat) (x:Nd) (y:Gh),g.ns[j]? = some x->gs[j]? = some y->(x.k=2->lvs y.lv=x.p/\0<=x.i/\0<=x.p/\∃ s,y.sn[x.p.toNat]? = some s/\V x.i.toNat=some (x.p,(y.lv:Int),s))/\(x.k=1->lvs y.lv<0)
 un:∀ (i j:Nat) (u:Int×Int×List Int),V i=some u->V j=some u->i=j
def Qc2 (a b:List (List Int)) (pl:Int) (k:Int):Prop:=∀ (q:Nat) (h:q<b.length),∃ (e:Int) (h':q<a.length),b[q]=a[q]++[e]/\((q:Int)=pl->e=k)
theorem Qc2.nil (a:List (List Int)) (pl k:Int):Qc2 a [] pl k:=λq h=>by simp at h
theorem Qc2.snoc {a b:List (List Int)} {pl k e:Int} (h:Qc2 a b pl k) (hl:b.length<a.length) (he:(b.length:Int)=pl->e=k):Qc2 a (b++[a[b.length]++[e]]) pl k:=by
 intro q hq;by_cases h1:q<b.length
 . obtain⟨e',h',h2,h3⟩:=h q h1;exact⟨e',h',by rw[Zo h1]; exact h2,h3⟩
 . have:q=b.length:=by simp at hq; omega
   subst this;exact⟨e,hl,by simp,he⟩
theorem Qc2.full {a b:List (List Int)} {pl k:Int} (h:Qc2 a b pl k) (hl:b.length=a.length):QeP a b pl k:=by
 refine⟨hl,λq hq => ?_⟩;obtain⟨e,h',h1,h2⟩:=h q (by omega);exact⟨e,by rw[Vb (show q<b.length by omega),h1],h2⟩
end Go.Proofs.Ytogjmpkehjfecaa.Rc
namespace Go.Proofs.Ytogjmpkehjfecaa.Rc
open Go.Ab Go.Ab.Lm
def u32 (n:Nat):SV:=.val (.int .u32 n)
def us (l:List Nat):Wv:=l.map u32
def nS (a:Nat):SV:=.slc (us (lim a)) (lim a).length
theorem QZ (l:List Nat):(us l).length=l.length:=by simp[us]
theorem QbV (n:Nat) (l:List Nat):SV.underL n (us l)=true:=by
 induction l with
 |nil=>rfl
 |cons x r ih=>simp only[us,Vs,SV.underL,Va]at ih ⊢; exact⟨rfl,ih⟩
theorem Qbh {l:List Nat} {i:Nat} (h:i<l.length):(us l)[i]?.getD .any=u32 l[i]:=by simp[us,h]
theorem Qcb {l:List Nat} {i:Nat} (h:i<l.length) (h':i<(us l).length):(us l)[i]'h'=u32 l[i]:=by simp[us]
section
variable {H:Wu} {l:List Nat}
set_option maxRecDepth 10000 in
theorem Qst {N:Nat} {K:Wt} (hexit:∀ env,env.get 0=.slc (us (QA l)) (QA l).length->K (.exit 0) env H) :
 ∀ (k:Nat) (m:List Nat) (env:Env),k<1000000->m.length=k->QA m=QA l->env.get 0=.slc (us m) m.length->LI Try.prog N Qh QcX env H K:=by
 intro k
 induction k with
 |zero =>
  intro m env hk hm0 ht h0;refine Qc hm QcX.eq_1 ?_;have:m=[]:=Vu hm0;subst this;simp -implicitDefEqProofs[h0];refine hexit _ ?_;rw[<-ht]; simp[QA]
 |succ k ih =>
  intro m env hk hml ht h0;refine Qc hm QcX.eq_1 ?_;obtain⟨m',y,rfl⟩:∃ m' y,m=m'++[y]:=⟨m.dropLast,m.getLast (by intro e; rw[e]at hml; simp at hml),(Z8 _).symm⟩;have hm':m'.length=k:=by simp at hml; exact hml
  have w1:IntKind.i64.wrap (k:Int)=k:=QcJ (by omega);have e1:us (m'++[y])=us m'++[u32 y]:=by simp[us]
  have e2:(us m').length=k:=by rw[QZ,hm']
  rw[e1]at h0;by_cases hy:y=0
  . subst hy;simp -implicitDefEqProofs[h0,w1,hm',e2,u32];repeat (refine⟨by omega,?_⟩)
    refine ih m' _ (by omega) hm' (by rw[<-ht,QgY]) ?_;simp[hm',e2,YI]
  . have hy':¬ (y:Int)=0:=by omega
    simp -implicitDefEqProofs[h0,w1,hm',e2,u32,hy,hy'];repeat (refine⟨by omega,?_⟩)
    refine hexit _ ?_;rw[<-ht,Qhm hy,e1];simp[hm',u32]
theorem ok69 (hl:l.length<1000000):Ok Try.prog 69 [.slc (us l) l.length] H (.ret (.slc (us (QA l)) (QA l).length)) H:=by
 refine Qq hm Try.func69 c69 (by simp[QbV]) λhcl => ?_;simp -implicitDefEqProofs[i69,r69];refine Qst (λenv h0 => ?_) l.length l _ hl rfl rfl (by simp);simp -implicitDefEqProofs[h0];exact Qn
end
def Qal (a b:Nat):Int:=if a<b then -1 else if b<a then 1 else 0
section
variable {H:Wu} {a b:Nat}
set_option maxRecDepth 10000 in
theorem Qrg {x y:List Nat} (hx:Dig x) (hy:Dig y) (hxl:x.length<1000000) (hl:x.length=y.length) {N:Nat} {K:Wt}
 (hret:∀ env,Qal (val x) (val y)≠0->env.get 4=i64 (Qal (val x) (val y))->K .ret env H) (hexit:x=y->∀ env,K (.exit 0) env H) :
 ∀ (k:Nat) (env:Env),k<=x.length->x.drop k=y.drop k->env.get 0=.slc (us x) x.length->env.get 1=.slc (us y) y.length->env.get 5=i64 ((k:Int)-1)->LI Try.prog N Qh QgG env H K:=by
 intro k
 induction k with
 |zero =>
  intro env hk hd h0 h1 h5;refine Qc hm QgG.eq_1 ?_;simp -implicitDefEqProofs[h0,h1,h5];refine hexit ?_ _;simpa using hd
 |succ k ih =>
  intro env hk hd h0 h1 h5;refine Qc hm QgG.eq_1 ?_;have hkx:k<x.length:=by omega
  have hky:k<y.length:=by omega
  have e5:((k+1:Nat):Int)-1=k:=by omega
  rw[e5]at h5;have w1:IntKind.i64.wrap ((k:Int)-1)=(k:Int)-1:=Qi (by omega) (by omega);have dx:=Yk k x;have dy:=Yk k y;rw[Vz hkx]at dx;rw[Vz hky,<- hd]at dy;have tx:(x.take k).length=k:=by simp; omega
  have ty:(y.take k).length=k:=by simp; omega
  have dgx:Dig (x.take k):=λz hz=>hx z (V7 hz);have dgy:Dig (y.take k):=λz hz=>hy z (V7 hz);have g0:(us x)[k]?.getD .any=.val (.int .u32 x[k]):=Qbh hkx;have g1:(us y)[k]?.getD .any=.val (.int .u32 y[k]):=Qbh hky;have g0':∀ h,(us x)[k]'h=.val (.int .u32 x[k]):=λh=>Qcb hkx h;have g1':∀ h,(us y)[k]'h=.val (.int .u32 y[k]):=λh=>Qcb hky h;by_cases c1:x[k]<y[k]
  . have hlt:val x<val y:=by rw[<-dx,<- dy]; exact Qnb tx ty dgx dgy c1 _
    have eo:Qal (val x) (val y) = -1:=by unfold Qal; rw[Wb hlt]
    simp -implicitDefEqProofs[h0,h1,h5,hkx,hky,QZ,g0,g1,g0',g1',c1,show(x[k]:Int)<(y[k]:Int)by omega];repeat (refine⟨by omega,?_⟩)
    exact hret _ (by rw[eo]; decide) (by rw[eo]; simp)
  . by_cases c2:y[k]<x[k]
    . have hlt:val y<val x:=by rw[<-dx,<- dy]; exact Qnb ty tx dgy dgx c2 _
      have eo:Qal (val x) (val y)=1:=by unfold Qal; rw[Wa (by omega),Wb hlt]
      simp -implicitDefEqProofs[h0,h1,h5,hkx,hky,QZ,g0,g1,g0',g1',c1,c2,show ¬ (x[k]:Int)<(y[k]:Int)by omega,show(y[k]:Int)<(x[k]:Int)by omega];repeat (refine⟨by omega,?_⟩)
      exact hret _ (by rw[eo]; decide) (by rw[eo]; simp)
    . simp -implicitDefEqProofs[h0,h1,h5,hkx,hky,QZ,g0,g1,g0',g1',c1,c2,show ¬ (x[k]:Int)<(y[k]:Int)by omega,show ¬ (y[k]:Int)<(x[k]:Int)by omega];repeat (refine⟨by omega,?_⟩)
      refine ih _ (by omega) ?_ ?_ ?_ ?_
      . rw[Vz hkx,Vz hky,hd];congr 1; omega
      . simp[h0]
      . simp[h1]
      . simp[w1]
theorem QeX (ha:(lim a).length<1000000) (hb:(lim b).length<1000000):Ok Try.prog 44 [nS a,nS b] H (.ret (i64 (Qal a b))) H:=by
 refine Qq hm Try.func44 c44 (by simp[nS,QbV]) λhcl => ?_;by_cases hl:(lim a).length=(lim b).length
 . simp -implicitDefEqProofs[i44,r44,nS,hl];have w1:IntKind.i64.wrap (((lim b).length:Int)-1)=((lim b).length:Int)-1:=Qi (by omega) (by omega);rw[w1];refine Qrg (x:=lim a) (y:=lim b) (QaY a) (QaY b) ha hl (λenv hne h4 => ?_) (λhe env => ?_) (lim b).length _ (by omega) ?_ ?_ ?_ ?_
   . rw[Qcs,Qcs]at h4;simp -implicitDefEqProofs[h4];exact Qn
   . have:a=b:=by rw[<-Qcs a,<- Qcs b,he]
     simp -implicitDefEqProofs;rw[show Qal a b=0 by unfold Qal; rw[Wa (by omega),Wa (by omega)]];exact Qn
   . rw[<-hl,YN,hl,YN]
   . simp[hl]
   . simp
   . simp
 . have hl':¬ ((lim a).length:Int)=(lim b).length:=by omega
   by_cases hlt:(lim a).length<(lim b).length
   . have:a<b:=by
      apply Nat.lt_of_not_le;intro hc;have:=QcN hc;omega
     simp -implicitDefEqProofs[i44,r44,nS,hl,hl',hlt,show((lim a).length:Int)<(lim b).length by omega];rw[show Qal a b = -1 by unfold Qal; rw[Wb this]];exact Qn
   . have:b<a:=by
      apply Nat.lt_of_not_le;intro hc;have:=QcN hc;omega
     simp -implicitDefEqProofs[i44,r44,nS,hl,hl',hlt,show ¬ ((lim a).length:Int)<(lim b).length by omega];rw[show Qal a b=1 by unfold Qal; rw[Wa (by omega),Wb this]];exact Qn
end
theorem QaV {n:Nat} (h:n<4294967296):IntKind.u32.wrap (n:Int)=n:=by
 show((n:Int)) % 4294967296=n;omega
theorem QaF {n:Nat} (h:n<18446744073709551616):IntKind.u64.wrap (n:Int)=n:=by
 show((n:Int)) % 18446744073709551616=n;omega
def QaZ:List Nat->List Nat->Nat->List Nat
 |[],[],c=>if c=0 then []else [c]
 |x::r,[],c=>((c+x) % B)::QaZ r [] ((c+x) / B)
 |[],y::s,c=>((c+y) % B)::QaZ [] s ((c+y) / B)
 |x::r,y::s,c=>((c+x+y) % B)::QaZ r s ((c+x+y) / B)
theorem Qpm:∀ (a b c:Nat),c<=1->QaZ (lim a) (lim b) c=lim (a+b+c):=by
 intro a
 induction a using Nat.strongRecOn with
 |ind a iha =>
  intro b
  induction b using Nat.strongRecOn with
  |ind b ihb =>
   intro c hc;have hB:B=1000000000:=rfl;by_cases ha:a=0
   . by_cases hb:b=0
     . subst ha; subst hb;rw[Qan];have:c=0\/c=1:=by omega
       rcases this with rfl|rfl
       . simp[QaZ,Qan]
       . rw[Qa4 (by omega)];simp[QaZ,hB,Qan]
     . subst ha;rw[Qan,Qa4 hb,Qa4 (show 0+b+c≠0 by omega)];have h1:=ihb (b / B) (YB (YK hb) (by decide)) ((c+b % B) / B) (by rw[hB]; omega);rw[Qan]at h1;simp only[QaZ,h1];congr 1
       . rw[hB]; omega
       . congr 1; rw[hB]; omega
   . by_cases hb:b=0
     . subst hb;rw[Qan,Qa4 ha,Qa4 (show a+0+c≠0 by omega)];have h1:=iha (a / B) (YB (YK ha) (by decide)) 0 ((c+a % B) / B) (by rw[hB]; omega);rw[Qan]at h1;simp only[QaZ,h1];congr 1
       . rw[hB]; omega
       . congr 1; rw[hB]; omega
     . rw[Qa4 ha,Qa4 hb,Qa4 (show a+b+c≠0 by omega)];have h1:=iha (a / B) (YB (YK ha) (by decide)) (b / B) ((c+a % B+b % B) / B) (by rw[hB]; omega);simp only[QaZ,h1];congr 1
       . rw[hB]; omega
       . congr 1; rw[hB]; omega
section
variable {H:Wu} {a b:Nat}
set_option maxRecDepth 10000 in
theorem Qp1 {x y z:List Nat} (hx:Dig x) (hy:Dig y) (hxl:x.length<1000000) (hyl:y.length<1000000) (hzl:z.length<1000000) {N:Nat} {K:Wt}
 (hexit:∀ env G,env.get 5=.own H.length 0 z.length 1 z.length->K (.exit 0) env (H++⟨us z,93,z.length,true⟩::G)) :
 ∀ (m:Nat) (p:List Nat) (c:Nat) (env:Env) (G:Wu),p.length+m=z.length->c<=1->p++QaZ (x.drop p.length) (y.drop p.length) c=z ->
  env.get 0=.slc (us x) x.length->env.get 1=.slc (us y) y.length->env.get 5=.own H.length 0 p.length 1 p.length->env.get 6=u32 c->env.get 7=i64 p.length ->
  LI Try.prog N Qh QfR env (H++⟨us p,93,p.length,true⟩::G) K:=by
 intro m
 induction m with
 |zero =>
  intro p c env G hm hc hz h0 h1 h5 h6 h7;refine Qc hm' QfR.eq_1 ?_;have hr:QaZ (x.drop p.length) (y.drop p.length) c=[]:=by
   have:=Wn List.length hz;simp only[Vy]at this;exact Vu (by omega)
  obtain⟨ex,ey,c0⟩:x.drop p.length=[]/\y.drop p.length=[]/\c=0:=by
   generalize x.drop p.length=u at hr;generalize y.drop p.length=v at hr
   cases u<;>cases v<;>simp[QaZ]at hr ⊢
   exact hr
  subst c0;have cx:¬ p.length<x.length:=by have:=Wn List.length ex; simp at this; omega
  have cy:¬ p.length<y.length:=by have:=Wn List.length ey; simp at this; omega
  rw[hr,VQ]at hz;subst hz;simp -implicitDefEqProofs[h0,h1,h5,h6,h7,cx,cy,u32,show ¬ (p.length:Int)<x.length by omega,show ¬ (p.length:Int)<y.length by omega];exact hexit _ G (by simp[h5])
 |succ m ih =>
  intro p c env G hm hc hz h0 h1 h5 h6 h7;refine Qc hm' QfR.eq_1 ?_;have w1:IntKind.i64.wrap ((p.length:Int)+1)=((p.length+1:Nat):Int):=QaQ (by omega);have step:∀ (t q:Nat),q=t / B->QaZ (x.drop p.length) (y.drop p.length) c=(t % B)::QaZ (x.drop (p.length+1)) (y.drop (p.length+1)) q->q<=1->∀ (env:Env) (G:Wu),env.get 0=.slc (us x) x.length->env.get 1=.slc (us y) y.length->env.get 5=.own H.length 0 (p.length+1) 1 (p.length+1)->env.get 6=u32 q->env.get 7=i64 ((p.length+1:Nat):Int) ->
   LI Try.prog N Qh QfR env (H++⟨us p++[u32 (t % B)],93,p.length+1,true⟩::G) K:=by
   intro t q hq hpl hq1 env G k0 k1 k5 k6 k7;have e:us p++[u32 (t % B)]=us (p++[t % B]):=by simp[us]
   have el:p.length+1=(p++[t % B]).length:=by simp
   rw[e];rw[el]at k5 k7 ⊢;refine ih (p++[t % B]) q env G (by simp; omega) hq1 ?_ k0 k1 k5 k6 k7;rw[<-el,VF,ZD,<- hpl];exact hz
  have hB:B=1000000000:=rfl;simp only[hB]at step;have tm:∀ t:Nat,((t:Int)).tmod 1000000000=((t % 1000000000:Nat):Int):=λt=>rfl;have td:∀ t:Nat,((t:Int)).tdiv 1000000000=((t / 1000000000:Nat):Int):=λt=>rfl;by_cases cx:p.length<x.length
  . have dx:=hx _ (Vg cx);have gx:(us x)[p.length]?.getD .any=.val (.int .u32 x[p.length]):=Qbh cx;have gx':∀ h,(us x)[p.length]'h=.val (.int .u32 x[p.length]):=λh=>Qcb cx h;by_cases cy:p.length<y.length
    . have dy:=hy _ (Vg cy);have gy:(us y)[p.length]?.getD .any=.val (.int .u32 y[p.length]):=Qbh cy;have gy':∀ h,(us y)[p.length]'h=.val (.int .u32 y[p.length]):=λh=>Qcb cy h;obtain⟨t,ht⟩:∃ t,t=c+x[p.length]+y[p.length]:=⟨_,rfl⟩;obtain⟨q,hq⟩:∃ q,q=t / 1000000000:=⟨_,rfl⟩;have e:IntKind.u32.wrap (IntKind.u32.wrap ((c:Int)+(x[p.length]:Nat))+(y[p.length]:Nat))=(t:Int):=by
       rw[show(c:Int)+(x[p.length]:Nat)=((c+x[p.length]:Nat):Int)by omega,QaV (by omega),show((c+x[p.length]:Nat):Int)+(y[p.length]:Nat)=((t:Nat):Int)by omega,QaV (by omega)]
      have hs:=step t q hq (by rw[Vz cx,Vz cy,QaZ,<- ht,hB,<- hq]) (by omega);simp only[u32]at hs;have eq0:((t / 1000000000:Nat):Int)=(q:Int):=by rw[hq]
      obtain⟨r,hr⟩:∃ r,r=t % 1000000000:=⟨_,rfl⟩;have er:((t % 1000000000:Nat):Int)=(r:Int):=by rw[hr]
      rw[<-hr]at hs;simp -implicitDefEqProofs[h0,h1,h5,h6,h7,cx,cy,QZ,gx,gy,gx',gy',u32,show(p.length:Int)<x.length by omega,show(p.length:Int)<y.length by omega,e,tm,td,er,eq0,QaV (show q<4294967296 by omega)];repeat (refine⟨by omega,?_⟩)
      refine⟨⟨rfl,rfl,rfl⟩,rfl,?_⟩;repeat (refine⟨by omega,?_⟩)
      exact hs _ _ (by simp[h0]) (by simp[h1]) (by simp) (by simp) (by simp[w1])
    . obtain⟨t,ht⟩:∃ t,t=c+x[p.length]:=⟨_,rfl⟩;obtain⟨q,hq⟩:∃ q,q=t / 1000000000:=⟨_,rfl⟩;have e:IntKind.u32.wrap ((c:Int)+(x[p.length]:Nat))=(t:Int):=by
       rw[show(c:Int)+(x[p.length]:Nat)=((t:Nat):Int)by omega,QaV (by omega)]
      have ey:y.drop p.length=[]:=Yh (by omega);have ey1:y.drop (p.length+1)=[]:=Yh (by omega);have hs:=step t q hq (by rw[Vz cx,ey,ey1,QaZ,<- ht,hB,<- hq]) (by omega);simp only[u32]at hs;have eq0:((t / 1000000000:Nat):Int)=(q:Int):=by rw[hq]
      obtain⟨r,hr⟩:∃ r,r=t % 1000000000:=⟨_,rfl⟩;have er:((t % 1000000000:Nat):Int)=(r:Int):=by rw[hr]
      rw[<-hr]at hs;simp -implicitDefEqProofs[h0,h1,h5,h6,h7,cx,cy,QZ,gx,gx',u32,show(p.length:Int)<x.length by omega,show ¬ (p.length:Int)<y.length by omega,e,tm,td,er,eq0,QaV (show q<4294967296 by omega)];repeat (refine⟨by omega,?_⟩)
      refine⟨⟨rfl,rfl,rfl⟩,rfl,?_⟩;repeat (refine⟨by omega,?_⟩)
      exact hs _ _ (by simp[h0]) (by simp[h1]) (by simp) (by simp) (by simp[w1])
  . have ex:x.drop p.length=[]:=Yh (by omega);have ex1:x.drop (p.length+1)=[]:=Yh (by omega);by_cases cy:p.length<y.length
    . have dy:=hy _ (Vg cy);have gy:(us y)[p.length]?.getD .any=.val (.int .u32 y[p.length]):=Qbh cy;have gy':∀ h,(us y)[p.length]'h=.val (.int .u32 y[p.length]):=λh=>Qcb cy h;obtain⟨t,ht⟩:∃ t,t=c+y[p.length]:=⟨_,rfl⟩;obtain⟨q,hq⟩:∃ q,q=t / 1000000000:=⟨_,rfl⟩;have e:IntKind.u32.wrap ((c:Int)+(y[p.length]:Nat))=(t:Int):=by
       rw[show(c:Int)+(y[p.length]:Nat)=((t:Nat):Int)by omega,QaV (by omega)]
      have hs:=step t q hq (by rw[Vz cy,ex,ex1,QaZ,<- ht,hB,<- hq]) (by omega);simp only[u32]at hs;have eq0:((t / 1000000000:Nat):Int)=(q:Int):=by rw[hq]
      obtain⟨r,hr⟩:∃ r,r=t % 1000000000:=⟨_,rfl⟩;have er:((t % 1000000000:Nat):Int)=(r:Int):=by rw[hr]
      rw[<-hr]at hs;simp -implicitDefEqProofs[h0,h1,h5,h6,h7,cx,cy,QZ,gy,gy',u32,show ¬ (p.length:Int)<x.length by omega,show(p.length:Int)<y.length by omega,e,tm,td,er,eq0,QaV (show q<4294967296 by omega)];repeat (refine⟨by omega,?_⟩)
      refine⟨⟨rfl,rfl,rfl⟩,rfl,?_⟩;repeat (refine⟨by omega,?_⟩)
      exact hs _ _ (by simp[h0]) (by simp[h1]) (by simp) (by simp) (by simp[w1])
    . have ey:y.drop p.length=[]:=Yh (by omega);have ey1:y.drop (p.length+1)=[]:=Yh (by omega);by_cases c0:c=0
      . subst c0;rw[ex,ey]at hz;simp[QaZ]at hz;subst hz;omega
      . obtain⟨t,ht⟩:∃ t,t=c:=⟨_,rfl⟩;obtain⟨q,hq⟩:∃ q,q=t / 1000000000:=⟨_,rfl⟩;have hs:=step t q hq (by
         have h1:q=0:=by omega
         have h2:c=1:=by omega
         rw[ex,ey,ex1,ey1,h1,ht,h2];simp[QaZ]) (by omega)
        simp only[u32]at hs;have eq0:((t / 1000000000:Nat):Int)=(q:Int):=by rw[hq]
        obtain⟨r,hr⟩:∃ r,r=t % 1000000000:=⟨_,rfl⟩;have er:((t % 1000000000:Nat):Int)=(r:Int):=by rw[hr]
        rw[<-hr]at hs;have c1:0<c:=by omega
        rw[<-ht]at c1 h6;simp -implicitDefEqProofs[h0,h1,h5,h6,h7,cx,cy,u32,QZ,c1,show ¬ (p.length:Int)<x.length by omega,show ¬ (p.length:Int)<y.length by omega,tm,td,er,eq0,QaV (show q<4294967296 by omega)];repeat (refine⟨by omega,?_⟩)
        refine⟨⟨rfl,rfl,rfl⟩,rfl,?_⟩;repeat (refine⟨by omega,?_⟩)
        exact hs _ _ (by simp[h0]) (by simp[h1]) (by simp) (by simp) (by simp[w1])
theorem ok43 (ha:(lim a).length<1000000) (hb:(lim b).length<1000000) (hab:(lim (a+b)).length<1000000):Ok Try.prog 43 [nS a,nS b] H (.ret (nS (a+b))) H:=by
 refine Qq hm Try.func43 c43 (by simp[nS,QbV]) λhcl => ?_;simp -implicitDefEqProofs[i43,r43,nS];refine Qp1 (H:=H) (z:=lim (a+b)) (QaY a) (QaY b) ha hb hab (λenv G h5 => ?_) (lim (a+b)).length [] 0 _ [] (by simp) (by omega) ?_ ?_ ?_ ?_ ?_ ?_
 . simp -implicitDefEqProofs[h5];refine Ql 2 hcl rfl ?_;simp[QZ,Qdu,QbV];exact VE (by rw[QZ]; omega)
 . simpa using Qpm a b 0 (by omega)
 . simp
 . simp
 . simp
 . simp[u32]
 . simp
end
section
variable {H X:Wu} {l:List Nat}
set_option maxRecDepth 10000 in
theorem QqL {k v:Nat} (hk:X[k]? = some ⟨us l,93,v,true⟩) {N:Nat} {K:Wt} (hexit:∀ env,env.get 0=.own k 0 (QA l).length 1 v->K (.exit 0) env X) :
 ∀ (n:Nat) (m:List Nat) (env:Env) (s:List Nat),n<1000000->m.length=n->m++s=l->QA m=QA l->env.get 0=.own k 0 m.length 1 v->LI Try.prog N Qh QcX env X K:=by
 intro n
 induction n with
 |zero =>
  intro m env s hn hm0 hs ht h0;refine Qc hm' QcX.eq_1 ?_;have:m=[]:=Vu hm0;subst this;simp -implicitDefEqProofs[h0];refine hexit _ ?_;rw[<-ht]; simp[QA]
 |succ n ih =>
  intro m env s hn hml hs ht h0;refine Qc hm' QcX.eq_1 ?_;obtain⟨m',y,rfl⟩:∃ m' y,m=m'++[y]:=⟨m.dropLast,m.getLast (by intro e; rw[e]at hml; simp at hml),(Z8 _).symm⟩;have hm':m'.length=n:=by simp at hml; exact hml
  have w1:IntKind.i64.wrap (n:Int)=n:=QcJ (by omega);have hc:=Qau (o:=⟨us l,93,v,true⟩) hk rfl;have hln:n<l.length:=by rw[<-hs]; simp; omega
  have e2:(us l)[n]?.getD .any=.val (.int .u32 y):=by
   rw[Qbh hln];have:l[n]=y:=by subst hs; simp[List.getElem_append,hm']
   rw[this]; rfl
  have e2':∀ h,(us l)[n]'h=.val (.int .u32 y):=λh=>by
   have:=e2;rw[Vb h]at this;simpa using this
  have hll:(us l).length=l.length:=QZ l;by_cases hy:y=0
  . subst hy;simp -implicitDefEqProofs[h0,w1,hm',hc,e2,e2',hll];repeat (refine⟨by omega,?_⟩)
    refine ih m' _ ([0]++s) (by omega) hm' (by rw[<-hs]; simp) (by rw[<-ht,QgY]) ?_;simp[hm']
  . have hy':¬ (y:Int)=0:=by omega
    simp -implicitDefEqProofs[h0,w1,hm',hc,e2,e2',hll,hy,hy'];repeat (refine⟨by omega,?_⟩)
    refine hexit _ ?_;rw[<-ht,Qhm hy];simp[hm']
theorem QkH {k v:Nat} (hk:X[k]? = some ⟨us l,93,v,true⟩) (hl:l.length<1000000):OkP Try.prog 69 [.own k 0 l.length 1 v] X λo X'=>o=.ret (.own k 0 (QA l).length 1 v)/\X'=X:=by
 have hlt:=Qb hk;refine QaU hm' Try.func69 c69 (by simp[hlt]) λhcl => ?_;simp -implicitDefEqProofs[i69,r69];refine QqL hk (λenv h0 => ?_) l.length l _ [] hl rfl (by simp) rfl (by simp);simp -implicitDefEqProofs[h0];exact⟨_,_,⟨rfl,rfl⟩,Qn⟩
end
def Qaw:List Nat->List Nat->Nat->List Nat
 |[],_,_=>[]
 |x::r,[],w=>if x<w then(x+B-w)::Qaw r [] 1 else(x-w)::Qaw r [] 0
 |x::r,y::s,w=>if x<w+y then(x+B-w-y)::Qaw r s 1 else(x-w-y)::Qaw r s 0
theorem QiW:∀ (x y:List Nat) (w:Nat),(Qaw x y w).length=x.length
 |[],_,_=>rfl
 |x::r,[],w=>by unfold Qaw; split<;>simp[QiW r]
 |x::r,y::s,w=>by unfold Qaw; split<;>simp[QiW r]
theorem Qfv:∀ {x y:List Nat} {w:Nat},Dig x->Dig y->w<=1->Dig (Qaw x y w)
 |[],_,_,_,_,_=>λz hz=>by simp[Qaw]at hz
 |x::r,[],w,hx,hy,hw=>by
  have h0:=hx x (by simp);have hB:B=1000000000:=rfl;unfold Qaw;split
  . intro z hz;rcases Vi.1 hz with rfl|hz
    . omega
    . exact Qfv hx.tail hy (by omega) z hz
  . intro z hz;rcases Vi.1 hz with rfl|hz
    . omega
    . exact Qfv hx.tail hy (by omega) z hz
 |x::r,y::s,w,hx,hy,hw=>by
  have h0:=hx x (by simp);have hB:B=1000000000:=rfl;unfold Qaw;split
  . intro z hz;rcases Vi.1 hz with rfl|hz
    . omega
    . exact Qfv hx.tail hy.tail (by omega) z hz
  . intro z hz;rcases Vi.1 hz with rfl|hz
    . omega
    . exact Qfv hx.tail hy.tail (by omega) z hz
theorem Qff:∀ {x y:List Nat} {w:Nat},Dig x->Dig y->w<=1->val y+w<=val x->val (Qaw x y w)=val x-val y-w
 |[],y,w,_,_,_,h=>by simp only[Qaw,val]at h ⊢; omega
 |x::r,[],w,hx,hy,hw,h=>by
  have h0:=hx x (by simp);have hB:B=1000000000:=rfl;simp only[val]at h;unfold Qaw;split
  . have hr:1<=val r:=by
     rcases Yp (val r)with e|e
     . rw[e]at h; omega
     . exact e
    have ih:=Qff (y:=[]) (w:=1) hx.tail hy (by omega) (by simpa[val]using hr);simp only[val]at ih ⊢;rw[ih,hB];omega
  . have ih:=Qff (y:=[]) (w:=0) hx.tail hy (by omega) (by simp[val]);simp only[val]at ih ⊢;rw[ih,hB];omega
 |x::r,y::s,w,hx,hy,hw,h=>by
  have h0:=hx x (by simp);have h1:=hy y (by simp);have hB:B=1000000000:=rfl;simp only[val]at h;rw[hB]at h h0 h1;unfold Qaw;split
  . have hr:val s+1<=val r:=by omega
    have ih:=Qff (w:=1) hx.tail hy.tail (by omega) hr;simp only[val];rw[ih,hB];omega
  . have hr:val s+0<=val r:=by omega
    have ih:=Qff (w:=0) hx.tail hy.tail (by omega) hr;simp only[val];rw[ih,hB];omega
end Go.Proofs.Ytogjmpkehjfecaa.Rc
namespace Go.Ab
section
variable [QK] [QE] [QF]
theorem OkP.cvP {P:Wz} {f:WB} {args:Wv} {H:Wu} {Pt Pt':Out->Wu->Prop} (h:OkP P f args H Pt) (hr:∀ r H1,Pt (.ret r) H1->∃ r' H',Pt' (.ret r') H'/\Cv H.length r H1 r' H')
 (hp:∀ x H1,Pt (.pan x) H1->Pt' (.pan x) H1):OkP P f args H Pt':=by
 refine⟨h.1,λS vs hH hS hv=>(h.2 S vs hH hS hv).mono ?_⟩;rintro e w' ⟨out,H1,v,ρ',h0,h1,h2,h3⟩;subst hH
 cases out with
 |ret r =>
  obtain⟨r',H',k1,k2⟩:=hr r H1 h0;obtain⟨ρ2,g1,g2,g3⟩:=k2 ⟨ρ',H1,w'⟩ v rfl h2 h3.2;exact⟨.ret r',H',v,ρ2,k1,h1.trans g1,g2,h3.1,g3⟩
 |pan x=>exact⟨.pan x,H1,v,ρ',hp x H1 h0,h1,h2,h3⟩
theorem OkP.closed {P:Wz} {f:WB} {args:Wv} {H:Wu} {Pt:Out->Wu->Prop} (h0:∀ (vs:Array Value) (w:WA),(callFunc f vs).run P w=.ok (.enter f vs) w) (h:Go.Ab.closed H->OkP P f args H Pt):OkP P f args H Pt :=
 ⟨h0,λS vs hH hS hv=>(h (by rw[<-hH]; exact hS.closed)).2 S vs hH hS hv⟩
end
end Go.Ab
namespace Go.Proofs.Ytogjmpkehjfecaa.Rc
open Go.Ab Go.Ab.Lm
section
variable {H:Wu} {a b:Nat}
set_option maxRecDepth 10000 in
theorem QtU {x y z:List Nat} (hx:Dig x) (hy:Dig y) (hxl:x.length<1000000) (hyl:y.length<1000000) (hzl:z.length=x.length) {N:Nat} {K:Wt}
 (hexit:∀ env G,env.get 5=.own H.length 0 z.length 1 z.length->K (.exit 0) env (H++⟨us z,93,z.length,true⟩::G)) :
 ∀ (m:Nat) (p:List Nat) (w:Nat) (env:Env) (G:Wu),p.length+m=x.length->w<=1->p++Qaw (x.drop p.length) (y.drop p.length) w=z ->
  env.get 0=.slc (us x) x.length->env.get 1=.slc (us y) y.length->env.get 5=.own H.length 0 p.length 1 p.length->env.get 6=i64 w->env.get 7=i64 p.length ->
  LI Try.prog N Qh Qfx env (H++⟨us p,93,p.length,true⟩::G) K:=by
 intro m
 induction m with
 |zero =>
  intro p w env G hm hw hz h0 h1 h5 h6 h7;refine Qc hm' Qfx.eq_1 ?_;have hpx:p.length=x.length:=by omega
  have ex:x.drop p.length=[]:=Yh (by omega);rw[ex]at hz;simp[Qaw]at hz;subst hz;simp -implicitDefEqProofs[h0,h1,h5,h6,h7,hpx];rw[<-hpx];exact hexit _ G (by simp[h5])
 |succ m ih =>
  intro p w env G hm hw hz h0 h1 h5 h6 h7;refine Qc hm' Qfx.eq_1 ?_;have w1:IntKind.i64.wrap ((p.length:Int)+1)=((p.length+1:Nat):Int):=QaQ (by omega);have hB:B=1000000000:=rfl;have step:∀ (r q:Nat),Qaw (x.drop p.length) (y.drop p.length) w=r::Qaw (x.drop (p.length+1)) (y.drop (p.length+1)) q->q<=1->∀ (env:Env) (G:Wu),env.get 0=.slc (us x) x.length->env.get 1=.slc (us y) y.length->env.get 5=.own H.length 0 (p.length+1) 1 (p.length+1)->env.get 6=i64 q->env.get 7=i64 ((p.length+1:Nat):Int) ->
   LI Try.prog N Qh Qfx env (H++⟨us p++[.val (.int .u32 r)],93,p.length+1,true⟩::G) K:=by
   intro r q hpl hq1 env G k0 k1 k5 k6 k7;have e:us p++[.val (.int .u32 (r:Int))]=us (p++[r]):=by simp[us,u32]
   have el:p.length+1=(p++[r]).length:=by simp
   rw[e];rw[el]at k5 k7 ⊢;refine ih (p++[r]) q env G (by simp; omega) hq1 ?_ k0 k1 k5 k6 k7;rw[<-el,VF,ZD,<- hpl];exact hz
  have cx:p.length<x.length:=by omega
  have dx:=hx _ (Vg cx);have gx:(us x)[p.length]?.getD .any=.val (.int .u32 x[p.length]):=Qbh cx;have gx':∀ h,(us x)[p.length]'h=.val (.int .u32 x[p.length]):=λh=>Qcb cx h;have wa:IntKind.i64.wrap ((x[p.length]:Nat):Int)=(x[p.length]:Nat):=QcJ (by omega);have wb:IntKind.i64.wrap (((x[p.length]:Nat):Int)-w)=((x[p.length]:Nat):Int)-w:=Qi (by omega) (by omega);by_cases cy:p.length<y.length
  . have dy:=hy _ (Vg cy);have gy:(us y)[p.length]?.getD .any=.val (.int .u32 y[p.length]):=Qbh cy;have gy':∀ h,(us y)[p.length]'h=.val (.int .u32 y[p.length]):=λh=>Qcb cy h;have wc:IntKind.i64.wrap ((y[p.length]:Nat):Int)=(y[p.length]:Nat):=QcJ (by omega);have wd:IntKind.i64.wrap (((x[p.length]:Nat):Int)-w-(y[p.length]:Nat))=((x[p.length]:Nat):Int)-w-(y[p.length]:Nat):=Qi (by omega) (by omega);by_cases hd:x[p.length]<w+y[p.length]
    . have we:IntKind.i64.wrap (((x[p.length]:Nat):Int)-w-(y[p.length]:Nat)+1000000000)=((x[p.length]+B-w-y[p.length]:Nat):Int):=by rw[Qi (by omega) (by omega)]; omega
      have wf:=QaV (n:=x[p.length]+B-w-y[p.length]) (by omega);have hs:=step _ 1 (by rw[Vz cx,Vz cy,Qaw,Wb hd]) (by omega);generalize x[p.length]+B-w-y[p.length]=r at *;simp -implicitDefEqProofs[h0,h1,h5,h6,h7,cx,cy,QZ,gx,gx',gy,gy',wa,wb,wc,wd,we,wf,show(p.length:Int)<x.length by omega,show(p.length:Int)<y.length by omega,show((x[p.length]:Nat):Int)-w-(y[p.length]:Nat)<0 by omega];repeat (refine⟨by omega,?_⟩)
      refine⟨⟨rfl,rfl,rfl⟩,rfl,?_⟩;repeat (refine⟨by omega,?_⟩)
      exact hs _ _ (by simp[h0]) (by simp[h1]) (by simp) (by simp) (by simp[w1])
    . have we:((x[p.length]:Nat):Int)-w-(y[p.length]:Nat)=((x[p.length] - w-y[p.length]:Nat):Int):=by omega
      have wf:=QaV (n:=x[p.length] - w-y[p.length]) (by omega);have hs:=step _ 0 (by rw[Vz cx,Vz cy,Qaw,Wa hd]) (by omega);have hnn:¬ ((x[p.length] - w-y[p.length]:Nat):Int)<0:=by omega
      rw[we]at wd;generalize x[p.length] - w-y[p.length]=r at *;simp -implicitDefEqProofs[h0,h1,h5,h6,h7,cx,cy,QZ,gx,gx',gy,gy',wa,wb,wc,wd,we,wf,hnn,show(p.length:Int)<x.length by omega,show(p.length:Int)<y.length by omega];repeat (refine⟨by omega,?_⟩)
      refine⟨⟨rfl,rfl,rfl⟩,rfl,?_⟩;repeat (refine⟨by omega,?_⟩)
      exact hs _ _ (by simp[h0]) (by simp[h1]) (by simp) (by simp) (by simp[w1])
  . have ey:y.drop p.length=[]:=Yh (by omega);have ey1:y.drop (p.length+1)=[]:=Yh (by omega);by_cases hd:x[p.length]<w
    . have we:IntKind.i64.wrap (((x[p.length]:Nat):Int)-w+1000000000)=((x[p.length]+B-w:Nat):Int):=by rw[Qi (by omega) (by omega)]; omega
      have wf:=QaV (n:=x[p.length]+B-w) (by omega);have hs:=step _ 1 (by rw[Vz cx,ey,ey1,Qaw,Wb hd]) (by omega);generalize x[p.length]+B-w=r at *;simp -implicitDefEqProofs[h0,h1,h5,h6,h7,cx,cy,QZ,gx,gx',wa,wb,we,wf,show(p.length:Int)<x.length by omega,show ¬ (p.length:Int)<y.length by omega,show((x[p.length]:Nat):Int)-w<0 by omega];repeat (refine⟨by omega,?_⟩)
      refine⟨⟨rfl,rfl,rfl⟩,rfl,?_⟩;repeat (refine⟨by omega,?_⟩)
      exact hs _ _ (by simp[h0]) (by simp[h1]) (by simp) (by simp) (by simp[w1])
    . have we:((x[p.length]:Nat):Int)-w=((x[p.length] - w:Nat):Int):=by omega
      have wf:=QaV (n:=x[p.length] - w) (by omega);have hs:=step _ 0 (by rw[Vz cx,ey,ey1,Qaw,Wa hd]) (by omega);have hnn:¬ ((x[p.length] - w:Nat):Int)<0:=by omega
      rw[we]at wb;generalize x[p.length] - w=r at *;simp -implicitDefEqProofs[h0,h1,h5,h6,h7,cx,cy,QZ,gx,gx',wa,wb,we,wf,hnn,show(p.length:Int)<x.length by omega,show ¬ (p.length:Int)<y.length by omega];repeat (refine⟨by omega,?_⟩)
      refine⟨⟨rfl,rfl,rfl⟩,rfl,?_⟩;repeat (refine⟨by omega,?_⟩)
      exact hs _ _ (by simp[h0]) (by simp[h1]) (by simp) (by simp) (by simp[w1])
theorem QlT (hab:b<=a) (ha:(lim a).length<1000000) (hb:(lim b).length<1000000):OkP Try.prog 45 [nS a,nS b] H λo H'=>∃ z G,o=.ret (.own H.length 0 (lim (a-b)).length 1 z.length)/\H'=H++⟨us z,93,z.length,true⟩::G/\QA z=lim (a-b)/\z.length=(lim a).length:=by
 refine QaU hm' Try.func45 c45 (by simp[nS,QbV]) λhcl => ?_;have hz:=Qff (QaY a) (QaY b) (w:=0) (by omega) (by rw[Qcs,Qcs]; omega);have hd:=Qfv (QaY a) (QaY b) (w:=0) (by omega);have hl:=QiW (lim a) (lim b) 0;have ht:=Qd4 hd;rw[hz,Qcs,Qcs,Nat.sub_zero]at ht;simp -implicitDefEqProofs[i45,r45,nS];refine QtU (H:=H) (z:=Qaw (lim a) (lim b) 0) (QaY a) (QaY b) ha hb hl (λenv G h5 => ?_) (lim a).length [] 0 _ [] (by simp) (by omega) ?_ ?_ ?_ ?_ ?_ ?_
 . generalize Qaw (lim a) (lim b) 0=z at *;simp -implicitDefEqProofs[h5];have h69:=QkH (X:=H++⟨us z,93,z.length,true⟩::G) (l:=z) (k:=H.length) (v:=z.length) (by simp) (by omega);refine Q6 h69 ?_;rintro o G' ⟨rfl,hG⟩;rw[hG];simp -implicitDefEqProofs[ht];exact⟨_,_,⟨z,rfl,⟨G,rfl⟩,ht,hl⟩,Qn⟩
 . simp
 . simp
 . simp
 . simp
 . simp
 . simp
theorem QhS:∀ l:List Nat,l.take (QA l).length=QA l
 |[]=>rfl
 |x::r=>by
  have ih:=QhS r;by_cases h:QA r=[]/\x=0
  . have e:QA (x::r)=[]:=by unfold QA; rw[Wb h]
    rw[e]; rfl
  . have e:QA (x::r)=x::QA r:=by conv=>lhs; unfold QA; rw[Wa h]
    rw[e]; simp[ih]
theorem Qlb {n:Nat} {L:Wu} {z:List Nat} {k d v:Nat} (h:L[k]? = some ⟨us z,93,v,true⟩):SV.fz n [] L (d+2) (.own (n+k) 0 (QA z).length 1 v)=.slc (us (QA z)) (QA z).length:=by
 have hl:=Qk5 z;have e:(us z).take (QA z).length=us (QA z):=by
  unfold us;rw[<-ZK,QhS]
 rw[QdF,h];simp[QY,QZ,Qdu,QbV,e,hl]
theorem ok45 (hab:b<=a) (ha:(lim a).length<1000000) (hb:(lim b).length<1000000):Ok Try.prog 45 [nS a,nS b] H (.ret (nS (a-b))) H:=by
 have h:=QlT (H:=H) hab ha hb;refine OkP.toOk (OkP.closed h.1 λhcl=>OkP.cvP h ?_ ?_)
 . rintro r H1 ⟨z,G,hr,rfl,ht,hl⟩
   cases hr
   refine⟨_,H,⟨rfl,rfl⟩,Ql 2 hcl rfl ?_⟩;have:=Qlb (n:=H.length) (L:=⟨us z,93,z.length,true⟩::G) (z:=z) (k:=0) (d:=0) (v:=z.length) (by simp);rw[ht,Yd]at this;exact this
 . rintro x H1 ⟨z,G,hr,_⟩
   cases hr
end
end Go.Proofs.Ytogjmpkehjfecaa.Rc
namespace Go.Ab.Shr
def Qa6 (r:Nat->Int) (x:Nat):List Nat->List Nat
 |[]=>[x]
 |y::l=>if r y<r x then x::y::l else y::Qa6 r x l
def QaA (r:Nat->Int):Nat->List Nat
 |0=>[]
 |n+1=>Qa6 r n (QaA r n)
def Ord (r:Nat->Int):List Nat->Prop
 |[]=>True
 |x::l=>(∀ y∈l,r y<r x\/(r y=r x/\x<y))/\Ord r l
theorem Qjv {r:Nat->Int} {x y:Nat}:∀ {l:List Nat},y∈Qa6 r x l↔y=x\/y∈l
 |[]=>by simp[Qa6]
 |z::l=>by
  simp only[Qa6];split
  . simp
  . simp only[Vi,Qjv (l:=l)];constructor
    . rintro(h|h|h); exact .inr (.inl h); exact .inl h; exact .inr (.inr h)
    . rintro(h|h|h); exact .inr (.inl h); exact .inl h; exact .inr (.inr h)
theorem QoK {r:Nat->Int} {x:Nat}:∀ {l:List Nat},(Qa6 r x l).length=l.length+1
 |[]=>rfl
 |z::l=>by
  simp only[Qa6];split
  . rfl
  . simp only[VV,QoK (l:=l)]
theorem Qoe {r:Nat->Int} {x:Nat}:∀ {l:List Nat},Ord r l->(∀ y∈l,y<x)->Ord r (Qa6 r x l)
 |[],_,_=>by simp[Qa6,Ord]
 |z::l,h,hx=>by
  simp only[Qa6];obtain⟨h1,h2⟩:=h;split
  . rename_i hlt;refine⟨λy hy => ?_,h1,h2⟩;rcases Vi.1 hy with rfl|hy
    . exact .inl hlt
    . rcases h1 y hy with h|h
      . exact .inl (by omega)
      . exact .inl (by omega)
  . rename_i hge;refine⟨λy hy => ?_,Qoe h2 λy hy=>hx y (VO _ hy)⟩;rcases Qjv.1 hy with rfl|hy
    . have:=hx z (by simp); omega
    . exact h1 y hy
theorem Qe4 {r:Nat->Int}:∀ {n x:Nat},x∈QaA r n↔x<n
 |0,x=>by simp[QaA]
 |n+1,x=>by
  simp only[QaA,Qjv,Qe4 (n:=n)];omega
theorem Qhk {r:Nat->Int}:∀ n:Nat,(QaA r n).length=n
 |0=>rfl
 |n+1=>by simp only[QaA,QoK,Qhk n]
theorem QhJ {r:Nat->Int}:∀ n:Nat,Ord r (QaA r n)
 |0=>trivial
 |n+1=>Qoe (QhJ n) λy hy=>Qe4.1 hy
def top (r:Nat->Int):Nat->Nat
 |0=>0
 |n+1=>if n=0 then 0 else if r (top r n)<r n then n else top r n
def put (f:Nat->Int) (k:Nat) (v:Int):Nat->Int:=λi=>if i=k then v else f i
def Qam (f:Nat->Int):List Nat->Nat->Int
 |[],i=>f i
 |x::l,i=>Qam (put f x (f x+1)) l i
end Go.Ab.Shr
namespace Go.Proofs.Ytogjmpkehjfecaa.Rc
open Go.Ab Go.Ab.Shr
def QaJ (l:List Nat):Wv:=Qa (l.map λ(n:Nat)=>(n:Int))
@[simp] theorem Qmm (l:List Nat):(QaJ l).length=l.length:=by simp[QaJ]
def bkI (r:Nat->Int) (x:Nat):List Nat->List Nat->List Nat
 |[],B=>x::B
 |y::A,B=>if r y<r x then bkI r x A (y::B)else(y::A).reverse++x::B
theorem QmE {r:Nat->Int} {x:Nat}:∀ (B:List Nat),(∀ y∈B,r y<r x)->Qa6 r x B=x::B
 |[],_=>rfl
 |y::B,h=>by simp only[Qa6]; rw[Wb (h y (by simp))]
theorem Qnq {r:Nat->Int} {x:Nat}:∀ (A B:List Nat),(∀ y∈A,¬ r y<r x)->Qa6 r x (A++B)=A++Qa6 r x B
 |[],B,_=>rfl
 |y::A,B,h=>by
  show Qa6 r x (y::(A++B))=y::(A++Qa6 r x B);simp only[Qa6];rw[Wa (h y (by simp)),Qnq A B λz hz=>h z (VO _ hz)]
theorem QoG {r:Nat->Int} {x:Nat}:∀ (A B:List Nat),(A.Pairwise λa b=>r a<=r b)->(∀ y∈B,r y<r x)->bkI r x A B=Qa6 r x (A.reverse++B)
 |[],B,_,hB=>by simp only[bkI,List.reverse_nil,Ye,QmE B hB]
 |y::A,B,hA,hB=>by
  rw[Yu]at hA;simp only[bkI];split
  . rename_i h;rw[QoG A (y::B) hA.2 λz hz=>by
     rcases Vi.1 hz with rfl|hz
     . exact h
     . exact hB z hz]
    simp
  . rename_i h;rw[Qnq _ _ λz hz => ?_,QmE B hB];rw[List.mem_reverse]at hz;rcases Vi.1 hz with rfl|hz
    . exact h
    . have:=hA.1 z hz; omega
theorem Qlx {r:Nat->Int}:∀ {l:List Nat},Ord r l->l.Pairwise λa b=>r b<=r a
 |[],_=>.nil
 |x::l,h=>by
  rw[Yu];refine⟨λy hy => ?_,Qlx h.2⟩;rcases h.1 y hy with h|h<;>omega
theorem QpD {r:Nat->Int} (n:Nat):bkI r n (QaA r n).reverse []=QaA r (n+1):=by
 rw[QoG _ _ (by rw[List.pairwise_reverse]; exact Qlx (QhJ n)) (by simp)];simp[QaA]
def oN (C:Wv) (l:List Nat) (D:Wv) (T:Wy) (v:Nat):AO:=⟨C++(QaJ l++D),T,v,true⟩
section
variable {H:Wu} {k v:Nat} {C D:Wv} {T:Wy} {vf:SV} {r:Nat->Int} {n:Nat}
def oS (H:Wu) (k:Nat) (C D:Wv) (T:Wy) (v:Nat) (l:List Nat):Wu:=H.set k (oN C l D T v)
theorem Qh9 (hk:k<H.length) (l:List Nat):Qd (oS H k C D T v l) k v=C++(QaJ l++D):=by
 have:=Quk hk [] (C++(QaJ l++D)) T v;simpa[oS,oN]using this
theorem Qtl (hk:k<H.length) (l:List Nat) (f:AO->AO):Ab.setObj (oS H k C D T v l) k f=H.set k (f (oN C l D T v)):=by
 have:=Qq7 hk [] (oN C l D T v) f;simpa[oS]using this
theorem QsS {l:List Nat} {j:Nat} (hj:j<l.length) (x:Nat):(C++(QaJ l++D)).take (C.length+j)++i64 (x:Int)::(C++(QaJ l++D)).drop (C.length+j+1)=C++(QaJ (l.set j x)++D):=by
 rw[ZL,Zg];have e1:C.length+j-C.length=j:=by omega
 have e2:C.length+j+1-C.length=j+1:=by omega
 rw[e1,e2,VE (by omega),Yh (by omega),ZL,Zg];have e3:j-(QaJ l).length=0:=by simp; omega
 have e4:j+1-(QaJ l).length=0:=by simp; omega
 rw[e3,e4];simp only[Yw,VQ,Y0,Ye,VF,List.append_cancel_left_eq];have:(QaJ l).take j++i64 (x:Int)::(QaJ l).drop (j+1)=QaJ (l.set j x):=by
  have:=Qa1 (l:=l.map λ(n:Nat)=>(n:Int)) (k:=j) (by simpa using hj) (x:Int);simpa[QaJ,List.map_set]using this
 rw[<-this];simp
theorem Qnv (hk:k<H.length) {l:List Nat} {j:Nat} (hj:j<l.length):(Qd (oS H k C D T v l) k v)[C.length+j]?.getD .any=i64 (l[j]:Nat):=by
 rw[Qh9 hk,Vf (by omega),Vd (by simp; omega)];simp[QaJ,Qa,hj]
theorem Qmi (hk:k<H.length) {l:List Nat} {j:Nat} (hj:j<l.length) (x:Nat) :
 Ab.setObj (oS H k C D T v l) k (λo=>{ cells:=List.take (C.length+j) o.cells++i64 (x:Int)::List.drop (C.length+j+1) o.cells,ty:=o.ty,ver:=o.ver,live:=o.live })=oS H k C D T v (l.set j x):=by
 rw[Qtl hk];simp only[oS,oN];rw[QsS hj]
set_option maxRecDepth 10000 in
theorem QtF (hk:k<H.length) (hvf:vf.vd=true/\vf.ug=vf) (hn:n<4611686018427387904)
 (hcmp:∀ (l:List Nat) (a b:Nat),a<n->b<n->OkC Try.prog vf [i64 a,i64 b] (oS H k C D T v l) (.ret (i64 (r b-r a))) (oS H k C D T v l))
 {x b i:Nat} (hx:x<n) {R F:List Nat} {N:Nat} {K:Wt}
 (hexit:∀ env,env.get 0=.own k C.length n 1 v->env.get 1=i64 0->env.get 2=i64 b->env.get 3=vf->env.get 8=i64 i->K (.exit 2) env (oS H k C D T v (F++R))) :
 ∀ (A B:List Nat) (env:Env),(A.length+1+B.length+R.length=n)->(∀ y∈A,y<n)->bkI r x A B=F ->
  env.get 0=.own k C.length n 1 v->env.get 1=i64 0->env.get 2=i64 b->env.get 3=vf->env.get 8=i64 i->env.get 9=i64 A.length ->
  LI Try.prog N Qh Qgt env (oS H k C D T v (A.reverse++x::B++R)) K:=by
 intro A
 induction A with
 |nil =>
  intro B env hl hA hF h0 h1 h2 h3 h8 h9;refine Qc hm Qgt.eq_1 ?_;subst hF;have hc:=Qh9 (C:=C) (D:=D) (T:=T) (v:=v) hk (bkI r x [] B++R);simp only[Ys]at h9;simp -implicitDefEqProofs[h0,h1,h2,h3,h8,h9,hvf.1,hvf.2];exact hexit _ (by simp[h0]) (by simp[h1]) (by simp[h2]) (by simp[h3]) (by simp[h8])
 |cons y A ih =>
  intro B env hl hA hF h0 h1 h2 h3 h8 h9;refine Qc hm Qgt.eq_1 ?_;simp only[VV]at hl h9;have hLl:(A.reverse++y::x::(B++R)).length=n:=by simp; omega
  have e1:(Qd (oS H k C D T v (A.reverse++y::x::(B++R))) k v)[C.length+(A.length+1)]?.getD .any=i64 (x:Int):=by rw[Qnv hk (by simp)]; simp
  have e2:(Qd (oS H k C D T v (A.reverse++y::x::(B++R))) k v)[C.length+A.length]?.getD .any=i64 (y:Int):=by rw[Qnv hk (by simp)]; simp
  have e3:(Qd (oS H k C D T v (A.reverse++y::x::(B++R))) k v).length=C.length+n+D.length:=by rw[Qh9 hk]; simp only[Vy,Qmm]; simp only[Vy]at hLl; omega
  have w1:IntKind.i64.wrap (A.length:Int)=A.length:=Qi (by omega) (by omega);have e4:=Qmi (C:=C) (D:=D) (T:=T) (v:=v) hk (l:=A.reverse++y::x::(B++R)) (j:=A.length+1) (by simp) y;have e5:(A.reverse++y::x::(B++R)).set (A.length+1) y=A.reverse++y::y::(B++R):=by simp[List.set_append]
  have e6:=Qmi (C:=C) (D:=D) (T:=T) (v:=v) hk (l:=A.reverse++y::y::(B++R)) (j:=A.length) (by simp) x;have e7:(A.reverse++y::y::(B++R)).set A.length x=A.reverse++x::y::(B++R):=by simp[List.set_append]
  have e8:(Qd (oS H k C D T v (A.reverse++y::y::(B++R))) k v).length=C.length+n+D.length:=by rw[Qh9 hk]; simp only[Vy,Qmm,VV]; simp only[Vy,VV]at hLl; omega
  rw[e5]at e4;rw[e7]at e6;simp -implicitDefEqProofs[h0,h1,h2,h3,h8,h9,hvf.1,hvf.2,e1,e2,e3,w1];refine⟨by omega,by omega,by omega,by omega,Qkf (hcmp _ x y hx (hA y (by simp))).toP λout H' hP => ?_⟩;obtain⟨rfl,rfl⟩:=hP;simp only[bkI]at hF;by_cases hc:r y<r x
  . rw[Wb hc]at hF;have hc':r y-r x<0:=by omega
    simp -implicitDefEqProofs[hc',h0,h9,e1,e2,e3,w1,e4,e6,e8];refine⟨by omega,by omega,by omega,by omega,by omega,by omega,by omega,by omega,?_⟩;have e9:A.reverse++x::(y::B)++R=A.reverse++x::y::(B++R):=by simp
    rw[<-e9];refine ih (y::B) _ (by simp; omega) (λz hz=>hA z (VO _ hz)) hF ?_ ?_ ?_ ?_ ?_ ?_
    . simp
    . simp[h1]
    . simp[h2]
    . simp[h3]
    . simp[h8]
    . simp
  . rw[Wa hc]at hF;have hc':¬ r y-r x<0:=by omega
    subst hF;simp -implicitDefEqProofs[hc'];have e9:(y::A).reverse++x::B++R=A.reverse++y::x::(B++R):=by simp
    rw[e9]at hexit;exact hexit _ (by simp[h0]) (by simp[h1]) (by simp[h2]) (by simp[h3]) (by simp[h8])
set_option maxRecDepth 10000 in
theorem QrZ (hk:k<H.length) (hvf:vf.vd=true/\vf.ug=vf) (hn:n<4611686018427387904)
 (hcmp:∀ (l:List Nat) (a b:Nat),a<n->b<n->OkC Try.prog vf [i64 a,i64 b] (oS H k C D T v l) (.ret (i64 (r b-r a))) (oS H k C D T v l))
 {N:Nat} {K:Wt} (hexit:∀ env,K (.exit 0) env (oS H k C D T v (QaA r n))) :
 ∀ (m i:Nat) (env:Env),i+m=n->env.get 0=.own k C.length n 1 v->env.get 1=i64 0->env.get 2=i64 n->env.get 3=vf->env.get 8=i64 i ->
  LI Try.prog N Qh Qfp env (oS H k C D T v (QaA r i++List.range' i m)) K:=by
 intro m
 induction m with
 |zero =>
  intro i env hi h0 h1 h2 h3 h8;refine Qc hm Qfp.eq_1 ?_;have e:i=n:=by omega
  subst e;simp -implicitDefEqProofs[h0,h1,h2,h3,h8];exact hexit _
 |succ m ih =>
  intro i env hi h0 h1 h2 h3 h8;refine Qc hm Qfp.eq_1 ?_;have hlt:i<n:=by omega
  simp -implicitDefEqProofs[h0,h1,h2,h3,h8,hlt];have e1:QaA r i++List.range' i (m+1)=((QaA r i).reverse).reverse++i::[]++List.range' (i+1) m:=by
   rw[YR]; simp
  rw[e1];have hl:(QaA r i).length=i:=Qhk i;refine QtF (r:=r) (n:=n) (i:=i) (b:=n) (R:=List.range' (i+1) m) (F:=QaA r (i+1)) hk hvf hn hcmp hlt (λenv g0 g1 g2 g3 g8 => ?_) (QaA r i).reverse [] _ (by simp[hl]; omega) (λy hy => ?_) (QpD i) ?_ ?_ ?_ ?_ ?_ ?_
  . simp -implicitDefEqProofs[g8];refine ih (i+1) _ (by omega) ?_ ?_ ?_ ?_ ?_
    . simp[g0]
    . simp[g1]
    . simp[g2]
    . simp[g3]
    . simp[QR (show i<9223372036854775807 by omega)]
  . rw[List.mem_reverse,Qe4]at hy; omega
  . simp
  . simp
  . simp
  . simp
  . simp
  . simp[hl]
theorem ok98 (hk:k<H.length) (hvf:vf.vd=true/\vf.ug=vf) (hvu:vf.under H.length=true) (hn:n<4611686018427387904)
 (hcmp:∀ (l:List Nat) (a b:Nat),a<n->b<n->OkC Try.prog vf [i64 a,i64 b] (oS H k C D T v l) (.ret (i64 (r b-r a))) (oS H k C D T v l)) :
 Ok Try.prog 98 [.own k C.length n 1 v,i64 0,i64 n,vf] (oS H k C D T v (List.range n)) (.ret (.tup [])) (oS H k C D T v (QaA r n)):=by
 have hlen:∀ l,(oS H k C D T v l).length=H.length:=λl=>by simp[oS]
 refine Qq hm Try.func98 c98 (by simp[hlen,hk,hvu]) λhcl => ?_;simp -implicitDefEqProofs[i98,r98];by_cases h0:n=0
 . subst h0;refine Qc hm Qfp.eq_1 ?_;simp -implicitDefEqProofs;exact Qn
 . have e1:List.range n=QaA r 1++List.range' 1 (n-1):=by
    rw[Ze,show n=(n-1)+1 by omega,YR]; rfl
   rw[e1];refine QrZ (r:=r) hk hvf hn hcmp (λenv => ?_) (n-1) 1 _ (by omega) ?_ ?_ ?_ ?_ ?_
   . simp -implicitDefEqProofs;exact Qn
   . simp
   . simp
   . simp
   . simp
   . simp[Qi (show(-9223372036854775808:Int)<=1 by omega) (show(1:Int)<=9223372036854775807 by omega)]
end
section
variable {H:Wu} {k v:Nat} {C D:Wv} {T:Wy} {vf:SV} {r:Nat->Int} {n:Nat}
set_option maxRecDepth 10000 in
theorem ok81 (hk:k<H.length) (hvf:vf.vd=true/\vf.ug=vf/\vf.strip=vf) (hvu:vf.under H.length=true) (hn:n<=10)
 (hcmp:∀ (l:List Nat) (a b:Nat),a<n->b<n->OkC Try.prog vf [i64 a,i64 b] (oS H k C D T v l) (.ret (i64 (r b-r a))) (oS H k C D T v l)) :
 Ok Try.prog 81 [.own k C.length n 1 v,i64 n,vf] (oS H k C D T v (List.range n)) (.ret (.tup [])) (oS H k C D T v (QaA r n)):=by
 have hlen:∀ l,(oS H k C D T v l).length=H.length:=λl=>by simp[oS]
 refine Qq hm Try.func81 c81 (by simp[hlen,hk,hvu]) λhcl => ?_;simp -implicitDefEqProofs[i81,r81];refine Qc hm QlS.eq_1 ?_;simp -implicitDefEqProofs[show ¬ (20:Int)<=(n:Int)by omega];refine Qj (ok98 hk ⟨hvf.1,hvf.2.1⟩ hvu (by omega) hcmp) ?_;simp -implicitDefEqProofs;refine Qc hm Qn5.eq_1 ?_;simp -implicitDefEqProofs[show ¬ (20:Int)<(n:Int)by omega];exact Qn
theorem ok65 (hk:k<H.length) (hvf:vf.vd=true/\vf.ug=vf/\vf.strip=vf) (hvu:vf.under H.length=true) (hn:n<=10)
 (hcmp:∀ (l:List Nat) (a b:Nat),a<n->b<n->OkC Try.prog vf [i64 a,i64 b] (oS H k C D T v l) (.ret (i64 (r b-r a))) (oS H k C D T v l)) :
 Ok Try.prog 65 [.own k C.length n 1 v,vf] (oS H k C D T v (List.range n)) (.ret (.tup [])) (oS H k C D T v (QaA r n)):=by
 have hlen:∀ l,(oS H k C D T v l).length=H.length:=λl=>by simp[oS]
 refine Qq hm Try.func65 c65 (by simp[hlen,hk,hvu]) λhcl => ?_;simp -implicitDefEqProofs[i65,r65];refine Qj (ok81 hk hvf hvu hn hcmp) ?_;simp -implicitDefEqProofs;exact Qn
end
def QaN (x:Int):Int:=max x 0
def Qa3 (l:List Int) (tot:Int) (i:Nat):Int:=(65536*QaN (l.getD i 0)) % tot
section
variable {H:Wu} {x:SV} {l:List Int} {b t p:Nat}
structure ClS (H:Wu) (x:SV) (l:List Int) (tot:Int) (b t p:Nat):Prop where
 hb:Qd H b 0=[x]
 ht:Qd H t 0=[i64 tot]
 hp:Qd H p 0=[.fn (.func 64) [] [.ptr (.own b 0 0 0 0) 0,.ptr (.own t 0 0 0 0) 0]]
 lb:b<H.length
 lt:t<H.length
 lp:p<H.length
 hx:IsI H x l
theorem ok64 {tot:Int} (h:ClS H x l tot b t p) (hl:l.length<=10) (hr:∀ v∈l,-70368744177664<=v/\v<=70368744177664) (h0:0<tot) (h1:tot<4611686018427387904) {i:Nat} (hi:i<l.length) :
 Ok Try.prog 64 [i64 i,.ptr (.own b 0 0 0 0) 0,.ptr (.own t 0 0 0 0) 0] H (.ret (i64 (Qa3 l tot i))) H:=by
 have hx:=h.hx;refine Qq hm Try.func64 c64 (by simp[h.lb,h.lt]) λhcl => ?_;have hv:=hr _ (Vg hi);have e:Qa3 l tot i=(65536*max l[i] 0) % tot:=by simp[Qa3,QaN,hi]
 have w1:IntKind.i64.wrap (65536*max l[i] 0)=65536*max l[i] 0:=Qi (by omega) (by omega);have w2:(65536*max l[i] 0).tmod tot=65536*max l[i] 0 % tot:=Int.tmod_eq_emod_of_nonneg (by omega);rw[e];simp -implicitDefEqProofs[i64x,r64,h.hb,h.ht,hx.vd,hx.ug,hx.sl,hx.len,hi,hx.ok hi,hx.v hi,w1,w2,show ¬ tot=0 by omega];exact Qn
theorem Qna {tot:Int} (h0:0<tot) (i:Nat):0<=Qa3 l tot i/\Qa3 l tot i<tot:=⟨Y3 _ (by omega),YO _ h0⟩
theorem ok66 {tot:Int} (h:ClS H x l tot b t p) (hl:l.length<=10) (hr:∀ v∈l,-70368744177664<=v/\v<=70368744177664) (h0:0<tot) (h1:tot<4611686018427387904) {i j:Nat} (hi:i<l.length) (hj:j<l.length) :
 Ok Try.prog 66 [i64 i,i64 j,.ptr (.own p 0 0 0 0) 0] H (.ret (i64 (Qa3 l tot j-Qa3 l tot i))) H:=by
 refine Qq hm Try.func66 c66 (by simp[h.lp]) λhcl => ?_;have r1:=Qna (l:=l) h0 i;have r2:=Qna (l:=l) h0 j;have w1:IntKind.i64.wrap (Qa3 l tot j-Qa3 l tot i)=Qa3 l tot j-Qa3 l tot i:=Qi (by omega) (by omega);simp -implicitDefEqProofs[i66,r66,h.hp];refine Qjc (out:=.ret (i64 (Qa3 l tot j))) (H':=H) (by simpa using ok64 h hl hr h0 h1 hj) ?_;simp -implicitDefEqProofs[h.hp];refine Qjc (out:=.ret (i64 (Qa3 l tot i))) (H':=H) (by simpa using ok64 h hl hr h0 h1 hi) ?_;simp -implicitDefEqProofs[h.hp,w1];exact Qn
end
def G2 (H:Wu) (a k:Nat) (o p:AO):Wu:=(H.set a o).set k p
section
variable {H L:Wu} {a k:Nat} {o p:AO}
@[simp] theorem Qfn:(G2 H a k o p).length=H.length:=by simp[G2]
theorem QhX (ha:a<H.length) (hk:a≠k):(G2 H a k o p++L)[a]? = some o:=by
 rw[Vd (by simpa using ha)];unfold G2;rw[Ve (Ne.symm hk),Vh ha]
theorem QhN (hk:k<H.length):(G2 H a k o p++L)[k]? = some p:=by
 rw[Vd (by simpa using hk)];unfold G2;rw[Vh (by simpa using hk)]
theorem Qgi (ha:a<H.length) (hk:a≠k) {c:Wv} {T:Wy} {v:Nat}:Qd (G2 H a k ⟨c,T,v,true⟩ p++L) a v=c:=Qau (o:=⟨c,T,v,true⟩) (QhX ha hk) rfl
theorem QiM (hk:k<H.length) {c:Wv} {T:Wy} {v:Nat}:Qd (G2 H a k o ⟨c,T,v,true⟩++L) k v=c:=Qau (o:=⟨c,T,v,true⟩) (QhN hk) rfl
theorem Qc5 (v:Nat):Qd (G2 H a k o p++L) H.length v=Qd L 0 v:=by
 have:=Qhs (G2 H a k o p) L v; rwa [Qfn]at this
theorem QcF (j v:Nat):Qd (G2 H a k o p++L) (H.length+j) v=Qd L j v:=by
 have:=Qdz (G2 H a k o p) L j v; rwa [Qfn]at this
theorem Qc8 (j:Nat) (f:AO->AO):Ab.setObj (G2 H a k o p++L) (H.length+j) f=G2 H a k o p++Ab.setObj L j f:=by
 have:=Qpy (G2 H a k o p) L j f; rwa [Qfn]at this
theorem Qhy (ha:a<H.length) (hk:a≠k) (f:AO->AO):Ab.setObj (G2 H a k o p++L) a f=G2 H a k (f o) p++L:=by
 rw[QU (QhX ha hk),Yv _ _ (by simpa using ha)];unfold G2;rw[Zm _ _ (Ne.symm hk),Yl]
theorem Qjb (hk:k<H.length) (f:AO->AO):Ab.setObj (G2 H a k o p++L) k f=G2 H a k o (f p)++L:=by
 rw[QU (QhN hk),Yv _ _ (by simpa using hk)];unfold G2;rw[Yl]
theorem QoP (hcl:closed H) (ho:SV.underL H.length o.cells=true) (hp:SV.underL H.length p.cells=true):closed (G2 H a k o p):=by
 unfold G2;exact Qcq (Qcq hcl a ho) k (by simpa using hp)
end
def oI (C:Wv) (l:List Int) (D:Wv) (T:Wy) (v:Nat):AO:=⟨C++(Qa l++D),T,v,true⟩
theorem QqM {C D:Wv} {l:List Int} {j:Nat} (hj:j<l.length) (x:Int):(C++(Qa l++D)).take (C.length+j)++i64 x::(C++(Qa l++D)).drop (C.length+j+1)=C++(Qa (l.set j x)++D):=by
 rw[ZL,Zg];have e1:C.length+j-C.length=j:=by omega
 have e2:C.length+j+1-C.length=j+1:=by omega
 rw[e1,e2,VE (by omega),Yh (by omega),ZL,Zg];have e3:j-(Qa l).length=0:=by simp; omega
 have e4:j+1-(Qa l).length=0:=by simp; omega
 rw[e3,e4];simp only[Yw,VQ,Y0,Ye,VF,List.append_cancel_left_eq];rw[<-Qa1 hj x];simp
theorem QpZ {C D:Wv} {l:List Int}:(C++(Qa l++D)).length=C.length+l.length+D.length:=by simp; omega
def Qe (f:Nat->Int):Nat->Int
 |0=>0
 |n+1=>Qe f n+f n
def Qbi (l:List Int) (k:Nat):Int:=Qe (λi=>QaN (l.getD i 0)) k
def Qg (l:List Int):Int:=Qbi l l.length
def QC (l:List Int) (tot:Int) (i:Nat):Int:=if tot=0 then 65536 / (l.length:Int)else if 0<l.getD i 0 then 65536*l.getD i 0 / tot else 0
def QbF (l:List Int) (k:Nat):Int:=65536-Qe (QC l (Qg l)) k
def QO (l:List Int):Int:=QbF l l.length
def QD (l:List Int):List Nat:=if 0<Qg l/\0<QO l then QaA (Qa3 l (Qg l)) l.length else List.range l.length
def Qp (l:List Int):List Int:=(List.range l.length).map (Qam (QC l (Qg l)) ((QD l).take (QO l).toNat))
theorem QdZ (l:List Int):(Qp l).length=l.length:=by simp[Qp]
theorem QsF (x:Int):0<=QaN x:=by unfold QaN; omega
theorem Qji {f:Nat->Int} (h:∀ i,0<=f i):∀ n,0<=Qe f n
 |0=>V4 _
 |n+1=>by have:=Qji h n; have:=h n; simp only[Qe]; omega
theorem Qli {f:Nat->Int} {c:Int}:∀ n,(∀ i,i<n->f i<=c)->Qe f n<=n*c
 |0,_=>by simp[Qe]
 |n+1,h=>by
  have h1:=Qli n λi hi=>h i (by omega);have h2:=h n (by omega);simp only[Qe];have:((n+1:Nat):Int)*c=n*c+c:=by rw[Int.natCast_succ,Int.add_mul,Int.one_mul]
  omega
theorem Qg5 (c:Int):∀ n,Qe (λ_=>c) n=n*c
 |0=>by simp[Qe]
 |n+1=>by
  simp only[Qe,Qg5 c n];rw[Int.natCast_succ,Int.add_mul,Int.one_mul]
theorem Qe5 (f:Nat->Int) (c:Int):∀ n,Qe (λi=>c*f i) n=c*Qe f n
 |0=>by simp[Qe]
 |n+1=>by simp only[Qe,Qe5 f c n,Zp]
theorem Qkw {f g:Nat->Int}:∀ n,(∀ i,i<n->f i<=g i)->Qe f n<=Qe g n
 |0,_=>V4 _
 |n+1,h=>by
  have h1:=Qkw n λi hi=>h i (by omega);have h2:=h n (by omega);simp only[Qe]; omega
theorem Qjj (f g:Nat->Int):∀ n,Qe (λi=>f i+g i) n=Qe f n+Qe g n
 |0=>rfl
 |n+1=>by simp only[Qe,Qjj f g n]; omega
theorem QfG {f g:Nat->Int}:∀ n,(∀ i,i<n->f i=g i)->Qe f n=Qe g n
 |0,_=>rfl
 |n+1,h=>by simp only[Qe]; rw[QfG n λi hi=>h i (by omega),h n (by omega)]
theorem Qkp (l:List Int) (k:Nat):0<=Qbi l k:=Qji (λi=>QsF _) _
theorem Qdt (l:List Int):0<=Qg l:=Qkp l _
theorem Qnr {l:List Int} {i:Nat} (h:i<l.length):Qbi l (i+1)=Qbi l i+max l[i] 0:=by simp[Qbi,Qe,QaN,h]
theorem QfN {l:List Int} (hl:l.length<=10) (hr:∀ v∈l,v<=70368744177664):∀ k,k<=l.length->Qbi l k<=k*70368744177664:=λk hk =>
 Qli k λi hi=>by
  have h:i<l.length:=by omega
  have:=hr _ (Vg h);simp only[QaN,Vr,Vb h,V6]; omega
theorem Qd9 (l:List Int) (i:Nat):0<=QC l (Qg l) i:=by
 have:=Qdt l;unfold QC;split
 . exact ZM (by omega) (by omega)
 . split
   . exact ZM (by omega) this
   . exact V4 _
theorem Qja {l:List Int} (h:Qg l≠0) (i:Nat):QC l (Qg l) i=65536*QaN (l.getD i 0) / Qg l:=by
 unfold QC;rw[Wa h];split
 . have:QaN (l.getD i 0)=l.getD i 0:=by unfold QaN; omega
   rw[this]
 . have:QaN (l.getD i 0)=0:=by unfold QaN; omega
   rw[this]; simp
theorem QgK {l:List Int} (hn:0<l.length):0<=QO l/\QO l<l.length:=by
 have h0:=Qdt l;unfold QO QbF;by_cases h:Qg l=0
 . have e:Qe (QC l (Qg l)) l.length=l.length*(65536 / (l.length:Int)):=by
    rw[<-Qg5];exact QfG _ λi _=>by unfold QC; rw[Wb h]
   rw[e];have h1:=Zq 65536 (l.length:Int);have h2:=Y3 65536 (b:=(l.length:Int)) (by omega);have h3:=YO 65536 (b:=(l.length:Int)) (by omega);omega
 . have hp:0<Qg l:=by omega
   have e1:Qe (λi=>Qg l*QC l (Qg l) i) l.length=Qg l*Qe (QC l (Qg l)) l.length:=Qe5 _ _ _;have e2:Qe (λi=>65536*QaN (l.getD i 0)) l.length=65536*Qg l:=Qe5 _ _ _;have h1:Qe (λi=>Qg l*QC l (Qg l) i) l.length<=Qe (λi=>65536*QaN (l.getD i 0)) l.length:=Qkw _ λi _=>by
    rw[Qja h]; exact Int.mul_ediv_self_le (by omega)
   have h2:Qe (λi=>65536*QaN (l.getD i 0)) l.length<=Qe (λi=>Qg l*QC l (Qg l) i+(Qg l-1)) l.length:=Qkw _ λi _=>by
    rw[Qja h];have:=Zq (65536*QaN (l.getD i 0)) (Qg l);have:=YO (65536*QaN (l.getD i 0)) hp;omega
   rw[Qjj,Qg5]at h2;rw[e1,e2]at h1 h2;generalize Qe (QC l (Qg l)) l.length=s at *;generalize Qg l=t at *;constructor
   . have:t*s<=t*65536:=by rw[Zr t 65536]; exact h1
     have:=Int.le_of_mul_le_mul_left this hp;omega
   . have h3:t*65536<t*s+l.length*t:=by
      have:(l.length:Int)*(t-1)<l.length*t:=Int.mul_lt_mul_of_pos_left (by omega) (by omega);rw[Zr t 65536]; omega
     have h4:t*65536<t*(s+l.length):=by rw[Zp,Zr t l.length]; exact h3
     have:=Int.lt_of_mul_lt_mul_left h4 (by omega);omega
section
variable {H:Wu} {a k va v n:Nat} {C D:Wv} {T:Wy} {x:SV} {l:List Int}
def S6 (H:Wu) (a k va v:Nat) (C D:Wv) (T:Wy) (x:SV) (o p:List Int) (t:Int):Wu :=
 G2 H a k ⟨Qa o,3,va,true⟩ (oI C p D T v)++[⟨[x],36,0,true⟩,⟨[i64 t],3,0,true⟩]
structure P2 (H:Wu) (a k:Nat):Prop where
 la:a<H.length
 lk:k<H.length
 ne:a≠k
set_option maxRecDepth 10000 in
theorem QqZ (hP:P2 H a k) {o p:List Int} (hx:∀ L,IsI (G2 H a k ⟨Qa o,3,va,true⟩ (oI C p D T v)++L) x l) (hl:l.length<=10) (hr:∀ v∈l,v<=70368744177664) {N:Nat} {K:Wt} {x1 x2:SV}
 (hexit:∀ env,env.get 1=x1->env.get 2=x2->env.get 3=.ptr (.own H.length 0 0 0 0) 0->env.get 6=.ptr (.own (H.length+1) 0 0 0 0) 0->K (.exit 0) env (S6 H a k va v C D T x o p (Qg l))) :
 ∀ (m i:Nat) (env:Env),i+m=l.length->env.get 1=x1->env.get 2=x2->env.get 3=.ptr (.own H.length 0 0 0 0) 0->env.get 6=.ptr (.own (H.length+1) 0 0 0 0) 0 ->
  env.get 15=x->env.get 16=i64 l.length->env.get 17=i64 i->LI Try.prog N Qh Qh0 env (S6 H a k va v C D T x o p (Qbi l i)) K:=by
 intro m
 induction m with
 |zero =>
  intro i env hi h1 h2 h3 h6 h15 h16 h17;refine Qc hm Qh0.eq_1 ?_;have e:i=l.length:=by omega
  subst e;simp -implicitDefEqProofs[h16,h17];exact hexit _ (by simp[h1]) (by simp[h2]) (by simp[h3]) (by simp[h6])
 |succ m ih =>
  intro i env hi h1 h2 h3 h6 h15 h16 h17;refine Qc hm Qh0.eq_1 ?_;have hlt:i<l.length:=by omega
  have hx':=hx [⟨[x],36,0,true⟩,⟨[i64 (Qbi l i)],3,0,true⟩];have b1:=QfN hl hr i (by omega);have b2:=Qkp l i;have hv:=hr _ (Vg hlt);have w1:IntKind.i64.wrap (Qbi l i+max l[i] 0)=Qbi l (i+1):=by rw[Qnr hlt]; exact Qi (by omega) (by omega)
  simp -implicitDefEqProofs[S6,h1,h2,h3,h6,h15,h16,h17,hlt,hx'.vd,hx'.ug,hx'.sl,hx'.len,hx'.ok hlt,hx'.v hlt,QcF,Qc8,w1];refine ih (i+1) _ (by omega) ?_ ?_ ?_ ?_ ?_ ?_ ?_
  . simp
  . simp
  . simp
  . simp
  . simp
  . simp
  . simp[QR (show i<9223372036854775807 by omega)]
end
theorem QsT {l:List Int} {i:Nat} (h:i<l.length) (t:Int):QC l t i=if t=0 then 65536 / (l.length:Int)else if 0<l[i]then 65536*l[i] / t else 0:=by simp[QC,h]
theorem Qq8 (l:List Int) (i:Nat):QbF l (i+1)=QbF l i-QC l (Qg l) i:=by simp only[QbF,Qe]; omega
theorem Qt0 {l:List Int} (i:Nat) (hl:0<l.length):QC l (Qg l) i<=65536*70368744177664\/∃ h:i<l.length,70368744177664<l[i]:=by
 by_cases h:∃ h:i<l.length,70368744177664<l[i]
 . exact .inr h
 . left;have h0:=Qdt l;unfold QC;split
   . have:65536 / (l.length:Int)<=65536:=Int.ediv_le_self _ (by omega);omega
   . split
     . rename_i h1 h2;by_cases hi:i<l.length
       . have h3:l.getD i 0=l[i]:=by simp[hi]
         have h4:¬ 70368744177664<l[i]:=λh5=>h ⟨hi,h5⟩;rw[h3]at h2 ⊢;have:65536*l[i] / Qg l<=65536*l[i]:=Int.ediv_le_self _ (by omega);omega
       . simp[hi]at h2
     . omega
theorem Qmr {f:Nat->Int} (h:∀ i,0<=f i) {i n:Nat} (hi:i<=n):Qe f i<=Qe f n:=by
 induction n with
 |zero =>
  have:i=0:=by omega
  subst this; exact V4 _
 |succ n ih =>
  by_cases e:i=n+1
  . subst e; exact V4 _
  . have:=ih (by omega); have:=h n; simp only[Qe]; omega
theorem QqW {l:List Int} (h0:0<l.length) (i:Nat) (hi:i<l.length):0<=QbF l i/\QbF l i<=65536/\0<=QbF l (i+1):=by
 have h1:=(QgK h0).1;have h2:=Qmr (Qd9 l) (show i+1<=l.length by omega);have h3:=Qmr (Qd9 l) (show i<=i+1 by omega);have h4:=Qji (Qd9 l) i;unfold QO QbF at *;omega
section
variable {H:Wu} {a k va v n:Nat} {C D:Wv} {T:Wy} {x:SV} {l:List Int}
set_option maxRecDepth 10000 in
theorem QsK (hP:P2 H a k) (hx:∀ (o p:List Int) (L:Wu),IsI (G2 H a k ⟨Qa o,3,va,true⟩ (oI C p D T v)++L) x l) (hl:l.length<=10) (h0:0<l.length) (hr:∀ v∈l,-70368744177664<=v/\v<=70368744177664) {N:Nat} {K:Wt}
 (hexit:∀ env,env.get 1=.own a 0 l.length 1 va->env.get 2=.own k C.length l.length 1 v->env.get 3=.ptr (.own H.length 0 0 0 0) 0->env.get 6=.ptr (.own (H.length+1) 0 0 0 0) 0->env.get 9=i64 (QO l) ->
  K (.exit 2) env (S6 H a k va v C D T x ((List.range l.length).map (QC l (Qg l))) ((List.range l.length).map λ(i:Nat)=>(i:Int)) (Qg l))) :
 ∀ (m i:Nat) (o p:List Int) (env:Env),i+m=l.length->o.length=l.length->p.length=l.length->(∀ j,j<i->o[j]? = some (QC l (Qg l) j))->(∀ j,j<i->p[j]? = some (j:Int)) ->
  env.get 1=.own a 0 l.length 1 va->env.get 2=.own k C.length l.length 1 v->env.get 3=.ptr (.own H.length 0 0 0 0) 0->env.get 6=.ptr (.own (H.length+1) 0 0 0 0) 0 ->
  env.get 9=i64 (QbF l i)->env.get 26=x->env.get 27=i64 l.length->env.get 28=i64 i->LI Try.prog N Qh Qho env (S6 H a k va v C D T x o p (Qg l)) K:=by
 intro m
 induction m with
 |zero =>
  intro i o p env hi ho hp ho2 hp2 h1 h2 h3 h6 h9 h26 h27 h28;refine Qc hm Qho.eq_1 ?_;have e:i=l.length:=by omega
  subst e;have e1:o=(List.range l.length).map (QC l (Qg l)):=by
   apply Vx;intro j;by_cases hj:j<l.length
   . rw[ho2 j hj]; simp[hj]
   . rw[Vp (by omega),Vp (by simp; omega)]
  have e2:p=(List.range l.length).map λ(i:Nat)=>(i:Int):=by
   apply Vx;intro j;by_cases hj:j<l.length
   . rw[hp2 j hj]; simp[hj]
   . rw[Vp (by omega),Vp (by simp; omega)]
  subst e1 e2;simp -implicitDefEqProofs[h27,h28];exact hexit _ (by simp[h1]) (by simp[h2]) (by simp[h3]) (by simp[h6]) (by simp[h9,QO])
 |succ m ih =>
  intro i o p env hi ho hp ho2 hp2 h1 h2 h3 h6 h9 h26 h27 h28;refine Qc hm Qho.eq_1 ?_;have hlt:i<l.length:=by omega
  have hx':=hx o p [⟨[x],36,0,true⟩,⟨[i64 (Qg l)],3,0,true⟩];have hv:=hr _ (Vg hlt);have hf:=QsT hlt (Qg l);have hfn:=Qd9 l i;have hlk:=Qq8 l i;have htn:=Qdt l;have hb:=QqW h0 i hlt;have w2:IntKind.i64.wrap ((i:Int)+1)=((i+1:Nat):Int):=QaQ (by omega);have w3:IntKind.i64.wrap (QbF l i-QC l (Qg l) i)=QbF l (i+1):=by rw[hlk]; exact Qi (by omega) (by omega)
  simp only[oI]at hx';have io:i<o.length:=by omega
  have ip:i<p.length:=by omega
  have ok':=hx'.ok hlt;have ov':=hx'.v hlt;have s1:∀ y:Int,List.take i (Qa o)++i64 y::List.drop (i+1) (Qa o)=Qa (o.set i y):=λy=>Qa1 io y;have s2:List.take (C.length+i) (C++(Qa p++D))++i64 (i:Int)::List.drop (C.length+i+1) (C++(Qa p++D))=C++(Qa (p.set i i)++D):=QqM ip _;have s3:(C++(Qa p++D)).length=C.length+p.length+D.length:=QpZ;have s4:∀ y:Int,(Qa (o.set i y))[i]?.getD .any=i64 y:=λy=>by simp[Qa,io]
  have hq1:∀ j,j<i+1->(o.set i (QC l (Qg l) i))[j]? = some (QC l (Qg l) j):=λj hj=>by
   by_cases e:i=j
   . subst e; rw[Vh io]
   . rw[Ve e]; exact ho2 j (by omega)
  have hq2:∀ j,j<i+1->(p.set i (i:Int))[j]? = some (j:Int):=λj hj=>by
   by_cases e:i=j
   . subst e; rw[Vh ip]
   . rw[Ve e]; exact hp2 j (by omega)
  have key:=ih (i+1) (o.set i (QC l (Qg l) i)) (p.set i (i:Int));generalize Qg l=t at *;by_cases ht:t=0
  . rw[Wb ht]at hf;have w4:IntKind.i64.wrap (Int.tdiv 65536 (l.length:Int))=QC l t i:=by
     rw[hf,ZN (by omega)];exact Qi (by omega) (by omega)
    have hd:(t=0)=True:=eq_true ht;have hne:¬ l=[]:=λe=>by rw[e]at h0; simp at h0
    simp -implicitDefEqProofs[S6,oI,h1,h2,h3,h6,h9,h26,h27,h28,hlt,hx'.vd,hx'.ug,hx'.sl,hx'.len,ok',ov',QcF,Qc5,Qc8,Qgi hP.la hP.ne,QiM hP.lk,Qhy hP.la hP.ne,Qjb hP.lk,hd,s1,s2,s3,s4,w2,w3,w4,hne];refine⟨by omega,by omega,by omega,?_⟩;refine key _ (by omega) (by simpa using ho) (by simpa using hp) hq1 hq2 ?_ ?_ ?_ ?_ ?_ ?_ ?_ ?_;all_goals simp
  . rw[Wa ht]at hf;have hd:(t=0)=False:=eq_false ht;by_cases hp0:0<l[i]
    . rw[Wb hp0]at hf;have w5:IntKind.i64.wrap (65536*l[i])=65536*l[i]:=Qi (by omega) (by omega);have w4:IntKind.i64.wrap (Int.tdiv (65536*l[i]) t)=QC l t i:=by
       rw[hf,ZN (by omega)];exact Qi (by omega) (by omega)
      simp -implicitDefEqProofs[S6,oI,h1,h2,h3,h6,h9,h26,h27,h28,hlt,hx'.vd,hx'.ug,hx'.sl,hx'.len,ok',ov',QcF,Qc5,Qc8,Qgi hP.la hP.ne,QiM hP.lk,Qhy hP.la hP.ne,Qjb hP.lk,hd,s1,s2,s3,s4,w2,w3,w4,w5,hp0];refine⟨by omega,by omega,by omega,?_⟩;refine key _ (by omega) (by simpa using ho) (by simpa using hp) hq1 hq2 ?_ ?_ ?_ ?_ ?_ ?_ ?_ ?_;all_goals simp
    . rw[Wa hp0]at hf;have w6:IntKind.i64.wrap (QbF l i)=QbF l (i+1):=by rw[hf]at w3; simpa using w3
      rw[hf]at key hq1;simp -implicitDefEqProofs[S6,oI,h1,h2,h3,h6,h9,h26,h27,h28,hlt,hx'.vd,hx'.ug,hx'.sl,hx'.len,ok',ov',QcF,Qc5,Qc8,Qgi hP.la hP.ne,QiM hP.lk,Qhy hP.la hP.ne,Qjb hP.lk,hd,s1,s2,s3,s4,w2,w3,hp0,hf,w6];refine⟨by omega,by omega,by omega,?_⟩;refine key _ (by omega) (by simpa using ho) (by simpa using hp) hq1 hq2 ?_ ?_ ?_ ?_ ?_ ?_ ?_ ?_;all_goals simp
end
def Qf (n:Nat) (f:Nat->Int):List Int:=(List.range n).map f
@[simp] theorem Qy9 (n:Nat) (f:Nat->Int):(Qf n f).length=n:=by simp[Qf]
theorem QcP {n:Nat} {f:Nat->Int} {i:Nat} (h:i<n):(Qf n f)[i]'(by simpa using h)=f i:=by simp[Qf]
theorem Qcr {n:Nat} {f:Nat->Int} {i:Nat} (h:i<n):(Qf n f).getD i 0=f i:=by simp[Qf,h]
theorem QdL {n:Nat} {f:Nat->Int} {i:Nat} (y:Int):(Qf n f).set i y=Qf n (put f i y):=by
 apply Vx;intro j;by_cases hj:j<n
 . by_cases e:i=j
   . subst e; rw[Vh (by simpa using hj)]; simp[Qf,put,hj]
   . rw[Ve e];have:¬ j=i:=λh=>e h.symm;simp[Qf,put,hj,this]
 . rw[Vp (by simp; omega),Vp (by simp; omega)]
section
variable {H L:Wu} {a k va v n:Nat} {C D:Wv} {T:Wy}
set_option maxRecDepth 10000 in
theorem Qk9 (hP:P2 H a k) {q:List Nat} (hq:∀ y∈q,y<n) (hn:n<=10) {c:Nat} (hc:c<=q.length) {N:Nat} {K:Wt} {F:Nat->Int}
 (hexit:∀ env,K (.exit 5) env (G2 H a k ⟨Qa (Qf n F),3,va,true⟩ (oN C q D T v)++L)) :
 ∀ (m j:Nat) (f:Nat->Int) (env:Env),j+m=c->(∀ i,i<n->0<=f i/\f i<=9223372036854775000+j)->c<=100->Qam f ((q.take c).drop j)=F ->
  env.get 1=.own a 0 n 1 va->env.get 78=.own k C.length c 1 v->env.get 79=i64 c->env.get 80=i64 j ->
  LI Try.prog N Qh QiR env (G2 H a k ⟨Qa (Qf n f),3,va,true⟩ (oN C q D T v)++L) K:=by
 intro m
 induction m with
 |zero =>
  intro j f env hj hf hc1 hF h1 h78 h79 h80;refine Qc hm QiR.eq_1 ?_;have e:j=c:=by omega
  subst e;rw[Yh (by simp; omega)]at hF;have hF':f=F:=by rw[<-hF]; funext i; rfl
  subst hF';simp -implicitDefEqProofs[h79,h80];exact hexit _
 |succ m ih =>
  intro j f env hj hf hc1 hF h1 h78 h79 h80;refine Qc hm QiR.eq_1 ?_;have hlt:j<c:=by omega
  have hjq:j<q.length:=by omega
  rw[Vz (by simp; omega)]at hF;simp only[List.getElem_take,Qam]at hF;have hy:q[j]<n:=hq _ (Vg hjq);have e1:(QaJ q++D)[j]?.getD .any=i64 (q[j]:Nat):=by
   rw[Vd (by simpa using hjq)];simp[QaJ,Qa,hjq]
  have e2:(C++(QaJ q++D)).length=C.length+q.length+D.length:=by simp; omega
  have e3:(Qa (Qf n f))[q[j]]?.getD .any=i64 (f q[j]):=by simp[Qa,Qf,hy]
  have e4:∀ y:Int,List.take q[j] (Qa (Qf n f))++i64 y::List.drop (q[j]+1) (Qa (Qf n f))=Qa (Qf n (put f q[j] y)):=λy=>by
   rw[Qa1 (by simpa using hy),QdL]
  have hb:=hf _ hy;have w1:IntKind.i64.wrap (f q[j]+1)=f q[j]+1:=Qi (by omega) (by omega);simp -implicitDefEqProofs[oN,h1,h78,h79,h80,hlt,Qgi hP.la hP.ne,QiM hP.lk,Qhy hP.la hP.ne,e1,e2,e3,e4,QcP hy,w1,hy];refine⟨by omega,by omega,by omega,?_⟩;refine ih (j+1) (put f q[j] (f q[j]+1)) _ (by omega) (λi hi => ?_) hc1 hF ?_ ?_ ?_ ?_
  . have h2:=hf i hi;unfold put;split<;>omega
  . simp
  . simp
  . simp
  . simp[QR (show j<9223372036854775807 by omega)]
theorem ok38 {H:Wu} {x:SV} {l o0 p0:List Int} (hP:P2 H a k) (hu:SV.underL H.length C=true/\SV.underL H.length D=true) (hx:∀ (o p:List Int) (L:Wu),IsI (G2 H a k ⟨Qa o,3,va,true⟩ (oI C p D T v)++L) x l) (hl:l.length<=10) (h0:0<l.length)
 (hr:∀ v∈l,-70368744177664<=v/\v<=70368744177664) (ho0:o0.length=l.length) (hp0:p0.length=l.length) :
 Ok Try.prog 38 [x,.own a 0 l.length 1 va,.own k C.length l.length 1 v] (G2 H a k ⟨Qa o0,3,va,true⟩ (oI C p0 D T v)) (.ret (.tup [])) (G2 H a k ⟨Qa (Qp l),3,va,true⟩ (oN C (QD l) D T v)):=by
 have hx0:=hx o0 p0 [];have hxu:x.under H.length=true:=by simpa using hx0.und
 refine Qq hm Try.func38 c38 (by simp[hP.la,hP.lk,hxu]) λhcl => ?_;have hxL:=hx o0 p0 [⟨[x],36,0,true⟩,⟨[i64 0],3,0,true⟩];simp -implicitDefEqProofs[i38,r38,hx0.vd,hx0.ug,hx0.cell,hx0.flat,hx0.sl,hx0.len,QcF,Qc5,Qc8];refine QqZ (l:=l) hP (λL=>hx o0 p0 L) hl (λv hv=>(hr v hv).2) (x1:=.own a 0 l.length 1 va) (x2:=.own k C.length l.length 1 v) (λenv g1 g2 g3 g6 => ?_) l.length 0 _ (by omega) (by simp) (by simp) (by simp) (by simp) (by simp) (by simp) (by simp);simp -implicitDefEqProofs[S6,g1,g2,g3,g6,hx0.vd,hx0.ug,hx0.cell,hx0.flat,hx0.sl,hx0.len,QcF,Qc5,Qc8];refine QsK (l:=l) hP hx hl h0 hr (λenv g1 g2 g3 g6 g9 => ?_) l.length 0 o0 p0 _ (by omega) ho0 hp0 (λj hj=>by omega) (λj hj=>by omega) (by simp[g1]) (by simp[g2]) (by simp[g3]) (by simp[g6]) (by simp[QbF,Qe]) (by simp) (by simp) (by simp);have hlr:=QgK h0;have e1:((List.range l.length).map (QC l (Qg l)))=Qf l.length (QC l (Qg l)):=rfl;have e2:oI C ((List.range l.length).map λ(i:Nat)=>(i:Int)) D T v=oN C (List.range l.length) D T v:=rfl;have e3:Qf l.length (Qam (QC l (Qg l)) ((QD l).take (QO l).toNat))=Qp l:=rfl;have hfl:∀ i,i<l.length->0<=QC l (Qg l) i/\QC l (Qg l) i<=9223372036854775000+(0:Nat):=λi hi=>by
  have h1:=Qd9 l i;have h2:=Qt0 (l:=l) i h0;have h3:=(hr _ (Vg hi)).2;rcases h2 with h2|⟨_,h2⟩<;>omega
 simp only[S6,e1,e2];have hcl2:closed (G2 H a k ⟨Qa (Qp l),3,va,true⟩ (oN C (QD l) D T v)):=by
  have h1:closed (G2 (G2 H a k ⟨Qa o0,3,va,true⟩ (oI C p0 D T v)) a k ⟨Qa (Qp l),3,va,true⟩ (oN C (QD l) D T v)) :=
   QoP hcl (by simp) (by simp only[Qfn,oN,SV.underL_append,hu.1,hu.2,QaJ]; simp)
  have h2:G2 (G2 H a k ⟨Qa o0,3,va,true⟩ (oI C p0 D T v)) a k ⟨Qa (Qp l),3,va,true⟩ (oN C (QD l) D T v)=G2 H a k ⟨Qa (Qp l),3,va,true⟩ (oN C (QD l) D T v):=by
   unfold G2;rw[Zm _ _ hP.ne.symm,Yl,Yl]
  rwa [h2]at h1
 have ho:∀ y∈QD l,y<l.length:=λy hy=>by
  unfold QD at hy;split at hy
  . exact Qe4.1 hy
  . simpa using hy
 have hol:(QD l).length=l.length:=by
  unfold QD;split
  . exact Qhk _
  . simp
 have hc9:((QO l).toNat:Int)=QO l:=by omega
 by_cases hc:0<Qg l/\0<QO l
 . have eo:QD l=QaA (Qa3 l (Qg l)) l.length:=by unfold QD; rw[Wb hc]
   simp -implicitDefEqProofs[g1,g2,g3,g6,g9,QcF,Qc5,Qc8,hc.1,hc.2];have key:=ok65 (H:=G2 H a k ⟨Qa (Qf l.length (QC l (Qg l))),3,va,true⟩ (oN C (List.range l.length) D T v)++[⟨[x],36,0,true⟩,⟨[i64 (Qg l)],3,0,true⟩,⟨[.fn (.func 64) [] [.ptr (.own H.length 0 0 0 0) 0,.ptr (.own (H.length+1) 0 0 0 0) 0]],83,0,true⟩])
    (k:=k) (v:=v) (C:=C) (D:=D) (T:=T) (vf:=.fn (.func 66) [] [.ptr (.own (H.length+2) 0 0 0 0) 0]) (r:=Qa3 l (Qg l)) (n:=l.length) (by simp; have:=hP.lk; omega) ⟨rfl,rfl,rfl⟩ (by simp) hl
   have hS:∀ q,oS (G2 H a k ⟨Qa (Qf l.length (QC l (Qg l))),3,va,true⟩ (oN C (List.range l.length) D T v)++[⟨[x],36,0,true⟩,⟨[i64 (Qg l)],3,0,true⟩,⟨[.fn (.func 64) [] [.ptr (.own H.length 0 0 0 0) 0,.ptr (.own (H.length+1) 0 0 0 0) 0]],83,0,true⟩]) k C D T v q =
    G2 H a k ⟨Qa (Qf l.length (QC l (Qg l))),3,va,true⟩ (oN C q D T v)++[⟨[x],36,0,true⟩,⟨[i64 (Qg l)],3,0,true⟩,⟨[.fn (.func 64) [] [.ptr (.own H.length 0 0 0 0) 0,.ptr (.own (H.length+1) 0 0 0 0) 0]],83,0,true⟩]:=λq=>by
    unfold oS;rw[Yv _ _ (by simpa using hP.lk)];unfold G2;rw[Yl]
   simp only[hS]at key;have htl:=QfN hl (λv hv=>(hr v hv).2) l.length (Vc _);have key2:=key λq i j hi hj=>⟨rfl,by
    have hxq:=hx (Qf l.length (QC l (Qg l))) (q.map λ(n:Nat)=>(n:Int)) [⟨[x],36,0,true⟩,⟨[i64 (Qg l)],3,0,true⟩,⟨[.fn (.func 64) [] [.ptr (.own H.length 0 0 0 0) 0,.ptr (.own (H.length+1) 0 0 0 0) 0]],83,0,true⟩];have hcl:ClS (G2 H a k ⟨Qa (Qf l.length (QC l (Qg l))),3,va,true⟩ (oN C q D T v)++[⟨[x],36,0,true⟩,⟨[i64 (Qg l)],3,0,true⟩,⟨[.fn (.func 64) [] [.ptr (.own H.length 0 0 0 0) 0,.ptr (.own (H.length+1) 0 0 0 0) 0]],83,0,true⟩]) x l (Qg l) H.length (H.length+1) (H.length+2) :=
     ⟨by rw[Qc5]; rfl,by rw[QcF]; rfl,by rw[QcF]; rfl,by simp,by simp,by simp,hxq⟩
    exact ok66 hcl hl hr hc.1 (by unfold Qg; omega) hi hj⟩
   refine Qj key2 ?_;simp -implicitDefEqProofs[g1,g2,g3,g6,g9];refine⟨by omega,?_⟩;rw[<-eo];refine Qk9 (n:=l.length) (C:=C) hP ho hl (c:=(QO l).toNat) (by omega) (F:=Qam (QC l (Qg l)) ((QD l).take (QO l).toNat)) (λenv => ?_) (QO l).toNat 0 _ _ (by omega) hfl (by omega) rfl ?_ ?_ ?_ ?_
   . simp -implicitDefEqProofs;exact Qfo rfl (by simp) hcl2 rfl
   . simp[g1]
   . simp
   . simp
   . simp
 . have eo:QD l=List.range l.length:=by unfold QD; rw[Wa hc]
   by_cases hc1:0<Qg l
   . have hc2:¬ 0<QO l:=λh=>hc ⟨hc1,h⟩;simp -implicitDefEqProofs[g1,g2,g3,g6,g9,QcF,Qc5,Qc8,hc1,hc2];refine⟨by omega,?_⟩;rw[<-eo];refine Qk9 (n:=l.length) (C:=C) hP ho hl (c:=(QO l).toNat) (by omega) (F:=Qam (QC l (Qg l)) ((QD l).take (QO l).toNat)) (λenv => ?_) (QO l).toNat 0 _ _ (by omega) hfl (by omega) rfl ?_ ?_ ?_ ?_
     . simp -implicitDefEqProofs;exact Qfo rfl (by simp) hcl2 rfl
     . simp[g1]
     . simp
     . simp
     . simp
   . simp -implicitDefEqProofs[g1,g2,g3,g6,g9,QcF,Qc5,Qc8,hc1];refine⟨by omega,?_⟩;rw[<-eo];refine Qk9 (n:=l.length) (C:=C) hP ho hl (c:=(QO l).toNat) (by omega) (F:=Qam (QC l (Qg l)) ((QD l).take (QO l).toNat)) (λenv => ?_) (QO l).toNat 0 _ _ (by omega) hfl (by omega) rfl ?_ ?_ ?_ ?_
     . simp -implicitDefEqProofs;exact Qfo rfl (by simp) hcl2 rfl
     . simp[g1]
     . simp
     . simp
     . simp
end
end Go.Proofs.Ytogjmpkehjfecaa.Rc
namespace Go.Proofs.Ytogjmpkehjfecaa.Rc
open Go.Ab
def gi (l:List Int) (i:Nat):Int:=l.getD i 0
structure Nf (ns:List Nd) (s:W3) (i:Nat) (x:Nd):Prop where
 ch:∀ j∈x.nx,(i:Int)<j/\j<ns.length/\gi s.P j.toNat=i/\gi s.D j.toNat=gi s.D i+1
 inc:x.nx.Pairwise (· < ·)
 la:gi s.L i=match x.nx.getLast? with|none=>(i:Int)|some j=>gi s.L j.toNat
def Fr (s t:W3) (a b:Nat):Prop:=∀ i,(i<a\/b<=i)->gi t.P i=gi s.P i/\gi t.D i=gi s.D i/\gi t.L i=gi s.L i
structure Kf (ns:List Nd) (at':Nat) (dep:Int) (l:List Int) (r0 r:Nat) (s t:W3):Prop where
 nf:∀ i x,r0<=i->i<r->ns[i]? = some x->Nf ns t i x
 pf:∀ i,r0<=i->i<r->((i:Int)∈l/\gi t.P i=at')\/(∃ (p:Nat) (x:Nd),gi t.P i=p/\r0<=p/\p<i/\ns[p]? = some x/\(i:Int)∈x.nx)
 ch:∀ j∈l,(r0:Int)<=j/\j<r/\gi t.P j.toNat=at'/\gi t.D j.toNat=dep+1
 inc:l.Pairwise (· < ·)
 nil:l=[]->r=r0
 la:∀ j,l.getLast? = some j->gi t.L j.toNat=(r:Int)-1
 fr:Fr s t r0 r
structure Wf (ns:List Nd) (par dep:Int) (k r:Nat) (s t:W3):Prop where
 nf:∀ i x,k<=i->i<r->ns[i]? = some x->Nf ns t i x
 pf:∀ i,k<i->i<r->∃ (p:Nat) (x:Nd),gi t.P i=p/\k<=p/\p<i/\ns[p]? = some x/\(i:Int)∈x.nx
 p:gi t.P k=par
 d:gi t.D k=dep
 l:gi t.L k=(r:Int)-1
 fr:Fr s t k r
theorem Fr.trans {s t u:W3} {a b c d:Nat} (h:Fr s t a b) (h':Fr t u c d) (h1:a<=c) (h2:b<=d):Fr s u a d:=by
 intro i hi;have e1:=h i (by omega);have e2:=h' i (by omega);exact⟨e2.1.trans e1.1,e2.2.1.trans e1.2.1,e2.2.2.trans e1.2.2⟩
theorem Nf.keep {ns:List Nd} {s t:W3} {i a b:Nat} {x:Nd} (h:Nf ns s i x) (hf:Fr s t a b) (hi:i<a) (hx:∀ j∈x.nx,j<a):Nf ns t i x:=by
 have hn:∀ j∈x.nx,j.toNat<a:=λj hj=>by have:=hx j hj; have:=(h.ch j hj).1; omega
 refine⟨λj hj => ?_,h.inc,?_⟩
 . have h1:=h.ch j hj;have h2:=hf j.toNat (.inl (hn j hj));have h3:=hf i (.inl hi);exact⟨h1.1,h1.2.1,h2.1.trans h1.2.2.1,by rw[h2.2.1,h3.2.1]; exact h1.2.2.2⟩
 . rw[(hf i (.inl hi)).2.2,h.la]
   cases hl:x.nx.getLast? with
   |none=>rfl
   |some j=>exact(hf j.toNat (.inl (hn j (Z9 hl)))).2.2.symm
theorem Ql0 {ns:List Nd} {at':Nat} {dep:Int} {w:Nat->W3->Option Nat×W3} (hok:∀ r s,s.ok ns.length->(w r s).2.ok ns.length/\∀ r',(w r s).1=some r'->r<r'/\r'<=ns.length)
 (hw:∀ r s r',s.ok ns.length->(w r s).1=some r'->Wf ns at' (dep+1) r r' s (w r s).2/\(∀ i x,r<=i->i<r'->ns[i]? = some x->∀ j∈x.nx,j<r')) :
 ∀ (l:List Int) (r0:Nat) (s:W3) (r:Nat),s.ok ns.length->(Qas w l r0 s).1=some r->Kf ns at' dep l r0 r s (Qas w l r0 s).2/\r0<=r/\(∀ i x,r0<=i->i<r->ns[i]? = some x->∀ j∈x.nx,j<r)
 |[],r0,s,r,hs,h=>by
  simp only[Qas,Option.some.injEq]at h;subst h;exact⟨⟨λi x h1 h2=>by omega,λi h1 h2=>by omega,λj hj=>by simp at hj,.nil,λ_=>rfl,λj hj=>by simp at hj,λi _=>⟨rfl,rfl,rfl⟩⟩,Vc _,λi x h1 h2=>by omega⟩
 |c::cs,r0,s,r,hs,h=>by
  unfold Qas at h ⊢;by_cases hc:c=r0
  . rw[Wb hc]at h ⊢;have hk:=hok r0 s hs;have hf:=hw r0 s
    cases hh:w r0 s with
    |mk o s1 =>
     rw[hh]at h hk hf
     cases o with
     |none=>simp at h
     |some r1 =>
      simp only at h ⊢;obtain⟨f1,f1b⟩:=hf r1 hs rfl;have b1:=hk.2 r1 rfl;obtain⟨f2,f2l,f2b⟩:=Ql0 hok hw cs r1 s1 r hk.1 h;generalize (Qas w cs r1 s1).2=t at f2;refine⟨⟨λi x h1 h2 hx => ?_,λi h1 h2 => ?_,λj hj => ?_,?_,(λe=>by cases e),λj hj => ?_,?_⟩,by omega,λi x h1 h2 hx j hj => ?_⟩
      . by_cases hi:i<r1
        . exact(f1.nf i x h1 hi hx).keep f2.fr hi (f1b i x h1 hi hx)
        . exact f2.nf i x (by omega) h2 hx
      . by_cases hi:i<r1
        . by_cases he:i=r0
          . subst he;exact .inl ⟨by rw[hc]; exact ZV,by rw[(f2.fr i (.inl hi)).1]; exact f1.p⟩
          . obtain⟨p,x,k1,k2,k3,k4,k5⟩:=f1.pf i (by omega) hi;exact .inr ⟨p,x,by rw[(f2.fr i (.inl hi)).1]; exact k1,k2,k3,k4,k5⟩
        . rcases f2.pf i (by omega) h2 with ⟨k1,k2⟩|⟨p,x,k1,k2,k3,k4,k5⟩
          . exact .inl ⟨VO _ k1,k2⟩
          . exact .inr ⟨p,x,k1,by omega,k3,k4,k5⟩
      . rcases Vi.1 hj with rfl|hj
        . have e:j.toNat=r0:=by omega
          refine⟨by omega,by omega,?_,?_⟩
          . rw[e,(f2.fr r0 (.inl b1.1)).1]; exact f1.p
          . rw[e,(f2.fr r0 (.inl b1.1)).2.1]; exact f1.d
        . have:=f2.ch j hj;exact⟨by omega,this.2.1,this.2.2⟩
      . refine .cons (λj hj => ?_) f2.inc;have:=(f2.ch j hj).1;omega
      . cases cs with
        |nil =>
         simp only[List.getLast?_singleton,Option.some.injEq]at hj;subst hj;have hr:=f2.nil rfl;have e:c.toNat=r0:=by omega
         rw[e,(f2.fr r0 (.inl b1.1)).2.2,f1.l,hr]
        |cons c' cs' =>
         rw[List.getLast?_cons_cons]at hj;exact f2.la j hj
      . exact f1.fr.trans f2.fr (by omega) (by omega)
      . by_cases hi:i<r1
        . have:=f1b i x h1 hi hx j hj; omega
        . exact f2b i x (by omega) h2 hx j hj
  . rw[Wa hc]at h;simp at h
theorem QkL {l:List Int} {i k:Nat} {v:Int} (h:i≠k):gi (l.set k v) i=gi l i:=Qj7 h
theorem QjC {l:List Int} {k:Nat} {v:Int} (h:k<l.length):gi (l.set k v) k=v:=Qjh h
theorem Qn6 {ns:List Nd}:∀ (f:Nat) (par dep:Int) (k:Nat) (s:W3) (r:Nat),s.ok ns.length->(QX ns f par dep k s).1=some r ->
 Wf ns par dep k r s (QX ns f par dep k s).2/\(∀ i x,k<=i->i<r->ns[i]? = some x->∀ j∈x.nx,j<r)
 |0,par,dep,k,s,r,hs,h=>by simp[QX]at h
 |f+1,par,dep,k,s,r,hs,h=>by
  unfold QX at h ⊢
  cases hk:ns[k]? with
  |none=>rw[hk]at h; simp at h
  |some x =>
   rw[hk]at h;have hlt:=Qb hk;have hs':W3.ok ⟨s.P.set k par,s.D.set k dep,s.L⟩ ns.length:=⟨by simpa using hs.1,by simpa using hs.2.1,hs.2.2⟩;have hkf:=Ql0 (ns:=ns) (at':=k) (dep:=dep) (w:=QX ns f k (dep+1)) (λr s hs=>Qc9 f k (dep+1) r s hs) (λr s r' hs h=>Qn6 f k (dep+1) r s r' hs h) x.nx (k+1) ⟨s.P.set k par,s.D.set k dep,s.L⟩;have hko:=Qfj (n:=ns.length) (w:=QX ns f k (dep+1)) (m:=0) (λr s _ hs=>Qc9 f k (dep+1) r s hs) x.nx (k+1) ⟨s.P.set k par,s.D.set k dep,s.L⟩ (by omega) (by omega) hs';simp only at h ⊢
   cases hh:Qas (QX ns f k (dep+1)) x.nx (k+1) ⟨s.P.set k par,s.D.set k dep,s.L⟩with
   |mk o s1 =>
    rw[hh]at h hkf hko
    cases o with
    |none=>simp at h
    |some r1 =>
     simp only[Option.some.injEq]at h;subst h;obtain⟨kf,kle,kb⟩:=hkf r1 hs' rfl;have hL:s1.L.length=ns.length:=hko.1.2.2;have hPk:gi s1.P k=par:=by rw[(kf.fr k (.inl (by omega))).1]; exact QjC (by have:=hs.1; omega)
     have hDk:gi s1.D k=dep:=by rw[(kf.fr k (.inl (by omega))).2.1]; exact QjC (by have:=hs.2.1; omega)
     have hLk:gi (s1.L.set k ((r1:Int)-1)) k=(r1:Int)-1:=QjC (by omega);have hLo:∀ i,i≠k->gi (s1.L.set k ((r1:Int)-1)) i=gi s1.L i:=λi hi=>QkL hi;have hb:∀ i y,k<=i->i<r1->ns[i]? = some y->∀ j∈y.nx,j<(r1:Int):=λi y h1 h2 hy j hj=>by
      by_cases he:i=k
      . subst he;rw[hk]at hy; cases hy
        exact(kf.ch j hj).2.1
      . exact kb i y (by omega) h2 hy j hj
     refine⟨⟨λi y h1 h2 hy => ?_,λi h1 h2 => ?_,hPk,hDk,hLk,?_⟩,hb⟩
     . by_cases he:i=k
       . subst he;rw[hk]at hy; cases hy
         refine⟨λj hj => ?_,kf.inc,?_⟩
         . have:=kf.ch j hj;exact⟨by omega,by have:=this.2.1; have:=(hko.2 r1 rfl).2; omega,this.2.2.1,by rw[this.2.2.2]; show _=gi s1.D i+1; rw[hDk]⟩
         . show gi (s1.L.set i ((r1:Int)-1)) i=_;rw[hLk]
           cases hl:x.nx.getLast? with
           |none =>
            have:x.nx=[]:=List.getLast?_eq_none_iff.1 hl;have:=kf.nil this;simp only; omega
           |some j =>
            have h3:=kf.ch j (Z9 hl);show _=gi (s1.L.set i ((r1:Int)-1)) j.toNat;rw[hLo j.toNat (by omega),kf.la j hl]
       . have hn:=kf.nf i y (by omega) h2 hy;refine⟨hn.ch,hn.inc,?_⟩;show gi (s1.L.set k ((r1:Int)-1)) i=_;rw[hLo i he,hn.la]
         cases hl:y.nx.getLast? with
         |none=>rfl
         |some j =>
          have h3:=hn.ch j (Z9 hl);show _=gi (s1.L.set k ((r1:Int)-1)) j.toNat;rw[hLo j.toNat (by omega)]
     . rcases kf.pf i (by omega) h2 with ⟨k1,k2⟩|⟨p,y,k1,k2,k3,k4,k5⟩
       . exact⟨k,x,k2,Vc _,h1,hk,k1⟩
       . exact⟨p,y,k1,by omega,k3,k4,k5⟩
     . intro i hi;have h3:=kf.fr i (by omega);refine⟨?_,?_,?_⟩
       . show gi s1.P i=_; rw[h3.1]; exact QkL (by omega)
       . show gi s1.D i=_; rw[h3.2.1]; exact QkL (by omega)
       . show gi (s1.L.set k ((r1:Int)-1)) i=_; rw[hLo i (by omega)]; exact h3.2.2
section
variable {H:Wu} {g:Gm}
def Gm.out (g:Gm) (z v:SV):SV:=if g.formE=0 then .tup [v,i64 0]else .tup [z,i64 g.formE]
theorem Qr0 (h:g.formE≠0):∃ p,g.walked=.tup [p,i64 g.formE]/\p.under 0=true:=by
 unfold Gm.walked Gm.formE at *;by_cases h0:g.err0=0
 . have h1:¬ g.err0≠0:=by simpa using h0
   rw[Wa h1]at h ⊢;rw[Wa h1];exact⟨_,rfl,by simp[Gm.wp,sl,SV.underL,Qbe,Qbj]⟩
 . have h1:g.err0≠0:=h0;rw[Wb h1,Wb h1];exact⟨_,rfl,rfl⟩
theorem Qul (h:g.formE=0):g.walked=.tup [g.wp,i64 0]:=by
 unfold Gm.walked Gm.formE at *;by_cases h0:g.err0=0
 . have h1:¬ g.err0≠0:=by simpa using h0
   rw[Wa h1]at h ⊢;rw[h]
 . have h1:g.err0≠0:=h0;rw[Wb h1]at h;exact(h0 h).elim
end
structure Wg (g:Gm):Prop where
 gd:Gd g
 wk:g.wk.1=some g.ns.length
 mx:QbU g.wk.2.D<=40
 se:g.setsE=0
theorem QmS {g:Gm}:∀ {l:List Nd},QaI g l=0->∀ x∈l,x.err g=0
 |[],_,x,hx=>by simp at hx
 |y::r,h,x,hx=>by
  unfold QaI at h;by_cases hy:y.err g=0
  . rw[Wb hy]at h;rcases Vi.1 hx with rfl|hx
    . exact hy
    . exact QmS h x hx
  . rw[Wa hy]at h;exact(hy h).elim
theorem Qfk {g:Gm} (h:g.formE=0):Wg g:=by
 unfold Gm.formE at h;by_cases h0:g.err0=0
 . have h1:¬ g.err0≠0:=by simpa using h0
   rw[Wa h1]at h;unfold Gm.err0 at h0;by_cases hr:g.rng
   . rw[Wb hr]at h0; cases h0
   . rw[Wa hr]at h0;by_cases hn:QaI g g.ns=0
     . have hn':¬ QaI g g.ns≠0:=by simpa using hn
       rw[Wa hn']at h0;by_cases hw:g.wk.1=some g.ns.length
       . have hw':¬ g.wk.1≠some g.ns.length:=by simpa using hw
         rw[Wa hw']at h0;by_cases hm:40<QbU g.wk.2.D
         . rw[Wb hm]at h0; cases h0
         . unfold Gm.rng at hr;exact⟨⟨by omega,by omega,by omega,by omega,by omega,QmS hn⟩,hw,by omega,h⟩
       . have hw':g.wk.1≠some g.ns.length:=hw;rw[Wb hw']at h0; cases h0
     . have hn':QaI g g.ns≠0:=hn;rw[Wb hn']at h0; exact(hn h0).elim
 . have h1:g.err0≠0:=h0;rw[Wb h1]at h;exact(h0 h).elim
section
variable {H:Wu} {g:Gm}
set_option maxRecDepth 10000 in
theorem QsJ (hg:Gd g) {N:Nat} {K:Wt}
 (hexit:∀ env M cs,Fam (H.length+1) M g.sets cs->env.get 3=.own H.length 0 g.is.length 1 0->K (.exit 0) env (H++⟨cs,36,0,true⟩::M)) :
 ∀ (n i:Nat) (env:Env) (M:Wu) (A:List (List Int)) (cs:Wv),i+n=g.ns.length->A.length=g.is.length->(∀ s (h:s<A.length),A[s].length<=i)->Fam (H.length+1) M A cs->Qdo (g.ns.drop i) i A=g.sets ->
  env.get 3=.own H.length 0 g.is.length 1 0->env.get 17=.slc (nds g.ns) g.ns.length->env.get 18=i64 g.ns.length->env.get 19=i64 i ->
  LI Try.prog N Qh Qir env (H++⟨cs,36,0,true⟩::M) K:=by
 have hgn:=hg.n;intro n
 induction n with
 |zero =>
  intro i env M A cs hi hA hAl hF hS h3 h17 h18 h19;refine Qc hm Qir.eq_1 ?_;have e:i=g.ns.length:=by omega
  subst e;rw[YN]at hS;subst hS;simp -implicitDefEqProofs[h18,h19];exact hexit _ _ _ hF (by simp[h3])
 |succ n ih =>
  intro i env M A cs hi hA hAl hF hS h3 h17 h18 h19;refine Qc hm Qir.eq_1 ?_;have hlt:i<g.ns.length:=by omega
  have hx:g.ns[i]∈g.ns:=Vg hlt;have w1:IntKind.i64.wrap ((i:Int)+1)=((i+1:Nat):Int):=QaQ (by omega);rw[Vz hlt,Qdo]at hS;by_cases hk:g.ns[i].k=2
  . have hb:=hg.inf hx hk;have hs:g.ns[i].i.toNat<A.length:=by omega
    have hcl:=hF.len;rw[Wb hk,Vr,Vb hs,V6]at hS;have eset:∀ v:SV,List.take g.ns[i].i.toNat cs++v::List.drop (g.ns[i].i.toNat+1) cs=cs.set g.ns[i].i.toNat v:=λv=>by
     rw[Y1,Wb (by omega)]
    have hAl':∀ v:List Int,v.length<=i+1->∀ s (h:s<(A.set g.ns[i].i.toNat v).length),(A.set g.ns[i].i.toNat v)[s].length<=i+1:=λv hv s h=>by
     by_cases e:g.ns[i].i.toNat=s
     . subst e; simpa using hv
     . rw[Z7 e];have:=hAl s (by simpa using h); omega
    rcases hF.at' _ hs with ⟨k1,k2⟩|⟨k1,p,k2,k3⟩
    . simp -implicitDefEqProofs[h3,h17,h18,h19,hlt,QcH hlt,QcE hlt,QcI hlt,hk,sl,k2];refine⟨by omega,by omega,by omega,by omega,?_⟩;have hF':∀ x y:AO,Fam (H.length+1) (M++[x,y,⟨[i64 i],3,1,true⟩]) (A.set g.ns[i].i.toNat [(i:Int)]) (cs.set g.ns[i].i.toNat (.own (H.length+(M.length+3)) 0 1 1 1)):=λx y=>by
       have:=(hF.mono [x,y]).new (i:=(i:Int)) hs k1;rw[show H.length+1+(M++[x,y]).length=H.length+(M.length+3)by simp; omega]at this;simpa[Qa]using this
      rw[k1,Ye]at hS;rw[eset,w1];refine ih (i+1) _ _ _ _ (by omega) (by simp[hA]) (hAl' _ (by simp)) (hF' _ _) hS ?_ ?_ ?_ ?_
      . simp
      . simp
      . simp
      . simp
    . rw[show H.length+1+p=H.length+(p+1)by omega]at k2;have hp:=Qb k3;have hle:=hAl _ hs;simp -implicitDefEqProofs[h3,h17,h18,h19,hlt,QcH hlt,QcE hlt,QcI hlt,hk,sl,k2,Qk1 k3,QoV,Qol,Qnk k3];refine⟨by omega,by omega,by omega,by omega,by omega,by omega,?_⟩;have hF':∀ x y:AO,Fam (H.length+1) (M.set p ⟨Qa A[g.ns[i].i.toNat]++[i64 i],3,A[g.ns[i].i.toNat].length+1,true⟩++[x,y]) (A.set g.ns[i].i.toNat (A[g.ns[i].i.toNat]++[(i:Int)]))
       (cs.set g.ns[i].i.toNat (.own (H.length+(p+1)) 0 (A[g.ns[i].i.toNat].length+1) 1 (A[g.ns[i].i.toNat].length+1))):=λx y=>by
       rw[show H.length+(p+1)=H.length+1+p by omega]at k2 ⊢;have:=(hF.grow (i:=(i:Int)) hs k2 k3).mono [x,y];simpa[Qa]using this
      rw[eset,w1];refine ih (i+1) _ _ _ _ (by omega) (by simp[hA]) (hAl' _ (by simp; omega)) (hF' _ _) hS ?_ ?_ ?_ ?_
      . simp
      . simp
      . simp
      . simp
  . simp -implicitDefEqProofs[h3,h17,h18,h19,hlt,QcH hlt,QcE hlt,QcI hlt,hk,sl];rw[Wa hk]at hS;rw[w1];refine ih (i+1) _ _ A cs (by omega) hA (λs h=>by have:=hAl s h; omega) (hF.mono _) hS ?_ ?_ ?_ ?_
    . simp
    . simp
    . simp
    . simp
def Gm.setsV (g:Gm):SV:=.slc (g.sets.map slN) g.is.length
set_option maxRecDepth 10000 in
theorem ok79 (hg:Gd g):Ok Try.prog 79 [g.wp] H (.ret g.setsV) H:=by
 have hn:=hg.n;have hi:=hg.i;refine Qq hm Try.func79 c79 (by simp) λhcl => ?_;simp -implicitDefEqProofs[i79,r79,Gm.wp,sl];refine⟨by omega,by omega,?_⟩;refine QsJ (g:=g) hg (λenv M cs hF h3 => ?_) g.ns.length 0 _ [] (List.replicate g.is.length []) (List.replicate g.is.length nl) (by omega) (by simp) (by simp) (Fam.zero _ _ _) (by simp[Gm.sets]) (by simp) (by simp) (by simp) (by simp);simp -implicitDefEqProofs[h3];refine Ql 4 hcl rfl ?_;have hl:=hF.len;rw[Qcu]at hl;have:=hF.fz (n:=H.length) (k:=1) (d:=1) (F:=(⟨cs,36,0,true⟩:AO)::M) rfl (λp=>by rw[show 1+p=p+1 by omega]; simp);simp[hl,this,Gm.setsV];exact VE (by simp[Qcu])
end
structure WF (g:Gm):Prop where
 len:g.wk.2.ok g.ns.length
 nf:∀ i (h:i<g.ns.length),Nf g.ns g.wk.2 i g.ns[i]
 pf:∀ i,0<i->i<g.ns.length->∃ p,∃ h:p<g.ns.length,gi g.wk.2.P i=p/\p<i/\(i:Int)∈g.ns[p].nx
 p0:gi g.wk.2.P 0 = -1
 d0:gi g.wk.2.D 0=0
theorem Wg.wf {g:Gm} (h:Wg g):WF g:=by
 have hok:=Qc9 (ns:=g.ns) (g.ns.length+1) (-1) 0 0 g.w0 QeC;obtain⟨hf,_⟩:=Qn6 (ns:=g.ns) (g.ns.length+1) (-1) 0 0 g.w0 g.ns.length QeC h.wk;refine⟨hok.1,λi hi=>hf.nf i _ (by omega) hi (Vb hi),λi h0 hi => ?_,hf.p,hf.d⟩;obtain⟨p,x,k1,k2,k3,k4,k5⟩:=hf.pf i h0 hi;have hp:p<g.ns.length:=by omega
 rw[Vb hp]at k4
 cases k4
 exact⟨p,hp,k1,k3,k5⟩
theorem QgV {l:List Int} {i:Nat} (h:i<l.length):l[i]=gi l i:=by simp[gi,h]
theorem QlC {g:Gm}:g.wk.2.ok g.ns.length:=(Qc9 (ns:=g.ns) (g.ns.length+1) (-1) 0 0 g.w0 QeC).1
section
variable {H:Wu} {g:Gm}
def Gm.last (g:Gm) (node:Int):Int×Int:=if g.formE≠0 then(0,g.formE)else if node<0\/g.ns.length<=node then(0,2)else(gi g.wk.2.L node.toNat,0)
end
end Go.Proofs.Ytogjmpkehjfecaa.Rc
