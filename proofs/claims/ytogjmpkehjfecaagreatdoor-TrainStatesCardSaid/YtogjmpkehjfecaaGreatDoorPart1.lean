/- Steps of the proof. -/
import Derived.Test.YtogjmpkehjfecaaGreatDoorIr29z
import Derived.Test.YtogjmpkehjfecaaGreatDoorCore4
import Derived.Test.YtogjmpkehjfecaaGreatDoorCore5
set_option linter.all false
namespace Go.Proofs.YtogjmpkehjfecaaGreatDoor.Rc
open Go.Ab
theorem hm:Tryz.prog.follows .mixedOrders=true:=Tryz.checked.mixed
section
variable {x:SV} {H:Ws} {l:List Int}
def bx (H:Ws) (a:Nat) (n:Int):Prop:=Qf H a 0=[i64 n]/\a<H.length
def Qav (lo hi n:Int):Bool:=decide (n<lo)||decide (hi<n)
theorem Qwd {a b:Nat} {lo hi:Int} (ha:bx H a lo) (hb:bx H b hi) (n:Int) :
 Ok Tryz.prog 112 [i64 n,.ptr (.own a 0 0 0 0) 0,.ptr (.own b 0 0 0 0) 0] H (.ret (bl (Qav lo hi n))) H:=by
 refine Ql hm Tryz.func112 c112 (by simp[ha.2,hb.2]) λhcl => ?_;by_cases h1:n<lo
 . simp -implicitDefEqProofs[Qkm,QkI,ha.1,hb.1,h1,Qav];exact Qo
 . simp -implicitDefEqProofs[Qkm,QkI,ha.1,hb.1,h1,Qav];exact Qo
def QeI (lo hi:Int) (l:List Int):Int:=match l.findIdx? (Qav lo hi)with|some i=>i|none => -1
theorem Qqv {lo hi:Int} {l:List Int}:(0<=QeI lo hi l)=(l.any (Qav lo hi)=true):=by
 unfold QeI
 cases h:l.findIdx? (Qav lo hi)with
 |some i =>
  simp only[Z4];refine(eq_true ?_).symm;obtain⟨hi,h1,h2⟩:=Zi.1 h;exact V5.2 ⟨_,Vf hi,h1⟩
 |none =>
  rw[ZJ]at h;have:l.any (Qav lo hi)=false:=by
   rw[ZK]; intro x hx; simpa using h x hx
  simp[this]
theorem Qs3 (hx:IsI H x l) (hl:l.length<4611686018427387904) {a b:Nat} {lo up:Int} (ha:bx H a lo) (hb:bx H b up) {N:Nat} {K:Wr}
 (hret:∀ env (i:Nat),l.findIdx? (Qav lo up)=some i->env.get 4=i64 i->K .ret env H) (hexit:l.findIdx? (Qav lo up)=none->∀ env,K (.exit 0) env H) :
 ∀ (n i:Nat) (env:Env),i+n=l.length->(∀ j (h:j<l.length),j<i->Qav lo up l[j]=false)->env.get 0=x->env.get 1=.fn (.func 112) [] [.ptr (.own a 0 0 0 0) 0,.ptr (.own b 0 0 0 0) 0]->env.get 7=i64 l.length->env.get 8=i64 i ->
  LI Tryz.prog N Qb QiD env H K:=by
 intro n
 induction n with
 |zero =>
  intro i env hi hp h0 h1 h7 h8;refine Qc hm QiD.eq_1 ?_;have e:i=l.length:=by omega
  simp -implicitDefEqProofs[h7,h8,e];refine hexit ?_ _;rw[ZJ];intro y hy;obtain⟨j,hj,rfl⟩:=VH hy;exact hp j hj (by omega)
 |succ n ih =>
  intro i env hi hp h0 h1 h7 h8;refine Qc hm QiD.eq_1 ?_;have hlt:i<l.length:=by omega
  simp -implicitDefEqProofs[h0,h1,h7,h8,hlt,hx.vd,hx.ug,hx.sl,hx.len,hx.v hlt,hx.ok hlt];refine Qh (Qwd ha hb _) ?_
  cases ho:Qav lo up l[i]with
  |true =>
   simp -implicitDefEqProofs;refine hret _ i ?_ (by simp);rw[Zi];exact⟨hlt,ho,λj hj=>by simp[hp j (by omega) hj]⟩
  |false =>
   simp -implicitDefEqProofs[h8];refine ih (i+1) _ (by omega) ?_ ?_ ?_ ?_ ?_
   rotate_left
   . simp[h0]
   . simp[h1]
   . simp[h7]
   . simp[h8,Qw (show i<9223372036854775807 by omega)]
   intro j hj hji;by_cases e:j=i
   . subst e; exact ho
   . exact hp j hj (by omega)
theorem QuC (hx:IsI H x l) (hl:l.length<4611686018427387904) {a b:Nat} {lo up:Int} (ha:bx H a lo) (hb:bx H b up) :
 Ok Tryz.prog 137 [x,.fn (.func 112) [] [.ptr (.own a 0 0 0 0) 0,.ptr (.own b 0 0 0 0) 0]] H (.ret (i64 (QeI lo up l))) H:=by
 refine Ql hm Tryz.func137 c137 (by simp[ha.2,hb.2,hx.und]) λhcl => ?_;simp -implicitDefEqProofs[i137,r137,hx.vd,hx.ug,hx.sl,hx.len];refine Qs3 hx hl ha hb (λenv i h1 h2 => ?_) (λh1 env => ?_) l.length 0 _ (by omega) (by omega) (by simp) (by simp) (by simp) (by simp)
 . simp[h2,QeI,h1];exact Qo
 . simp[QeI,h1];exact Qo
theorem Qwq (hx:IsI H x l) (hl:l.length<4611686018427387904) {a b:Nat} {lo up:Int} (ha:bx H a lo) (hb:bx H b up) :
 Ok Tryz.prog 111 [x,.fn (.func 112) [] [.ptr (.own a 0 0 0 0) 0,.ptr (.own b 0 0 0 0) 0]] H (.ret (bl (l.any (Qav lo up)))) H:=by
 refine Ql hm Tryz.func111 c111 (by simp[ha.2,hb.2,hx.und]) λhcl => ?_;simp -implicitDefEqProofs[i111,r111,hx.vd,hx.ug,hx.sl,hx.len];refine Qh (QuC hx hl ha hb) ?_;have e:decide (0<=QeI lo up l)=l.any (Qav lo up):=by
  rw[ZG,Wo,Qqv]
 simp -implicitDefEqProofs;rw[e];exact Qo
def Qaj (lo hi:Int) (l:List Int):Int:=if l.any (Qav lo hi)then 2 else 0
theorem Qgj (hx:IsI H x l) (hl:l.length<4611686018427387904) (lo hi:Int) :
 Ok Tryz.prog 84 [i64 lo,i64 hi,x] H (.ret (i64 (Qaj lo hi l))) H:=by
 refine Ql hm Tryz.func84 c84 (by simp[hx.und]) λhcl => ?_;simp -implicitDefEqProofs[i84,r84,hx.vd,hx.ug,hx.sl,hx.len];refine Qh (Qwq (hx.app _) hl (a:=H.length) (b:=H.length+1) (lo:=lo) (up:=hi) ⟨by simp,by simp⟩ ⟨by simp,by simp⟩) ?_;by_cases h:l.any (Qav lo hi)=true
 . simp -implicitDefEqProofs[h,Qaj];exact Qi 1 hcl rfl (by simp)
 . simp -implicitDefEqProofs[h,Qaj];exact Qi 1 hcl rfl (by simp)
end
structure Nd where
 k:Int
 p:Int
 i:Int
 nx:List Int
 ws:List Int
 ps:List Int
def sl (l:List Int):SV:=.slc (Qa l) l.length
def Nd.cells (x:Nd):Wt:=[i64 x.k,i64 x.p,i64 x.i,sl x.nx,sl x.ws,sl x.ps]
def nds:List Nd->Wt
 |[]=>[]
 |x::r=>x.cells++nds r
def Qu:List (Int×Int)->Wt
 |[]=>[]
 |x::r=>i64 x.1::i64 x.2::Qu r
structure Gm where
 pl:Int
 ns:List Nd
 is:List (Int×Int)
def Gm.cells (g:Gm):Wt:=[i64 g.pl,.slc (nds g.ns) g.ns.length,.slc (Qu g.is) g.is.length]
structure Wk (H:Ws) (j:Nat) (g:Gm) (a b c:SV):Prop where
 o:Qf H j 0=[i64 g.pl,.slc (nds g.ns) g.ns.length,.slc (Qu g.is) g.is.length,a,b,c]
 lt:j<H.length
theorem Wk.app {H:Ws} {j:Nat} {g:Gm} {a b c:SV} (h:Wk H j g a b c) (L:Ws):Wk (H++L) j g a b c:=⟨by rw[Qeg L h.lt]; exact h.o,by have:=h.lt; simp; omega⟩
def Nd.chance (x:Nd):Int:=if x.p≠0\/x.i≠0\/0<x.ps.length\/x.nx.length<1\/60<x.nx.length\/x.ws.length≠x.nx.length then 3 else Qaj 1 1000 x.ws
def Nd.move (g:Gm) (x:Nd):Int:=if 0<x.ws.length\/0<x.ps.length\/x.nx.length<1\/10<x.nx.length then 3 else
 if Qaj 0 (g.pl-1) [x.p]≠0 then Qaj 0 (g.pl-1) [x.p]else Qaj 0 (g.is.length-1) [x.i]
def Nd.end (g:Gm) (x:Nd):Int:=if x.p≠0\/x.i≠0\/0<x.nx.length\/0<x.ws.length\/(x.ps.length:Int)≠g.pl then 3 else Qaj (-1000000) 1000000 x.ps
def Nd.err (g:Gm) (x:Nd):Int:=if x.k<1\/3<x.k then 3 else if x.k=1 then x.chance else if x.k=2 then x.move g else x.end g
section
variable {x:Nd} {H:Ws} {j:Nat} {g:Gm} {a b c:SV}
theorem isl (H:Ws) (l:List Int):IsI H (sl l) l:=IsI.slc H l
theorem QvS (h:j<H.length):Ok Tryz.prog 132 [.ptr (.own j 0 0 0 0) 0,.agg x.cells] H (.ret (i64 x.chance)) H:=by
 refine Ql hm Tryz.func132 c132 (by simp[Nd.cells,sl,h]) λhcl => ?_;simp -implicitDefEqProofs[i132,r132,Nd.cells,sl];have e:x.chance=if(((((¬x.p=0\/¬x.i=0)\/0<x.ps.length)\/(x.nx.length:Int)<1)\/60<(x.nx.length:Int))\/¬(x.ws.length:Int)=x.nx.length)then 3 else Qaj 1 1000 x.ws:=by
  unfold Nd.chance;congr 1;simp only[eq_iff_iff]; omega
 rw[e];split
 . exact Qi 1 hcl rfl (by simp)
 . rename_i hc;refine Qh (Qgj (IsI.slc _ _) (by omega) 1 1000) ?_;simp -implicitDefEqProofs;exact Qi 1 hcl rfl (by simp)
theorem Qu3 (h:Wk H j g a b c) (h4:g.pl<=4):Ok Tryz.prog 134 [.ptr (.own j 0 0 0 0) 0,.agg x.cells] H (.ret (i64 (x.end g))) H:=by
 have ho:=h.o;refine Ql hm Tryz.func134 c134 (by simp[Nd.cells,sl,h.lt]) λhcl => ?_;simp -implicitDefEqProofs[i134,r134,Nd.cells,sl,(h.app _).o];have e:x.end g=if((((¬x.p=0\/¬x.i=0)\/0<x.nx.length)\/0<x.ws.length)\/¬(x.ps.length:Int)=g.pl)then 3 else Qaj (-1000000) 1000000 x.ps:=by
  unfold Nd.end;congr 1;simp only[eq_iff_iff]; omega
 rw[e];split
 . exact Qi 1 hcl rfl (by simp)
 . rename_i hc;refine Qh (Qgj (IsI.slc _ _) (by omega) (-1000000) 1000000) ?_;simp -implicitDefEqProofs;exact Qi 1 hcl rfl (by simp)
theorem QuZ (h:Wk H j g a b c) (h1:1<=g.pl) (h4:g.pl<=4) (h5:g.is.length<=200):Ok Tryz.prog 133 [.ptr (.own j 0 0 0 0) 0,.agg x.cells] H (.ret (i64 (x.move g))) H:=by
 refine Ql hm Tryz.func133 c133 (by simp[Nd.cells,sl,h.lt]) λhcl => ?_;have w1:IntKind.i64.wrap (g.pl-1)=g.pl-1:=Qp (by omega) (by omega);have w2:IntKind.i64.wrap ((g.is.length:Int)-1)=(g.is.length:Int)-1:=Qp (by omega) (by omega);simp -implicitDefEqProofs[i133,r133,Nd.cells,sl,(h.app _).o,w1,w2];have e:x.move g=if((0<x.ws.length\/0<x.ps.length)\/(x.nx.length:Int)<1)\/10<(x.nx.length:Int)then 3 else
  if Qaj 0 (g.pl-1) [x.p]≠0 then Qaj 0 (g.pl-1) [x.p]else Qaj 0 (g.is.length-1) [x.i]:=by
  unfold Nd.move;congr 1;simp only[eq_iff_iff]; omega
 rw[e];split
 . exact Qi 1 hcl rfl (by simp)
 . rename_i hc;refine Qa9 (λ_=>Qgj (IsI.own0 H _ 1 0 [x.p] [] 3 rfl) (by simp) 0 (g.pl-1)) ?_;by_cases hw:Qaj 0 (g.pl-1) [x.p]=0
   . simp -implicitDefEqProofs[hw,(h.app _).o,w2];refine Qa9 (λ_=>Qgj (IsI.own0 H _ 2 0 [x.i] [] 3 rfl) (by simp) 0 (g.is.length-1)) ?_;simp -implicitDefEqProofs;exact Qi 1 hcl rfl (by simp[hw])
   . simp -implicitDefEqProofs[hw];exact Qi 1 hcl rfl (by simp[hw])
theorem Qr7 (h:Wk H j g a b c) (h1:1<=g.pl) (h4:g.pl<=4) (h5:g.is.length<=200):Ok Tryz.prog 107 [.ptr (.own j 0 0 0 0) 0,.agg x.cells] H (.ret (i64 (x.err g))) H:=by
 refine Ql hm Tryz.func107 c107 (by simp[Nd.cells,sl,h.lt]) λhcl => ?_;simp -implicitDefEqProofs[i107,r107,Nd.cells,sl,(h.app _).o];unfold Nd.err;split
 . exact⟨rfl,Qi 1 hcl rfl (by rfl)⟩
 . rename_i hc;have hk:x.k=1\/x.k=2\/x.k=3:=by omega
   rcases hk with hk|hk|hk
   . simp -implicitDefEqProofs[hk];refine⟨rfl,Qh (by rw[<-hk]; exact QvS (x:=x) (by simp; have:=h.lt; omega)) ?_⟩;simp -implicitDefEqProofs;exact Qi 1 hcl rfl (by simp[hk])
   . simp -implicitDefEqProofs[hk];refine⟨rfl,Qh (by rw[<-hk]; exact QuZ (x:=x) (h.app _) h1 h4 h5) ?_⟩;simp -implicitDefEqProofs;exact Qi 1 hcl rfl (by simp[hk])
   . simp -implicitDefEqProofs[hk];refine⟨rfl,Qh (by rw[<-hk]; exact Qu3 (x:=x) (h.app _) h4) ?_⟩;simp -implicitDefEqProofs;exact Qi 1 hcl rfl (by simp[hk])
end
def QkJ:Sh:=.st [.int .i64,.int .i64,.int .i64,.sl (.int .i64),.sl (.int .i64),.sl (.int .i64)]
def shIn:Sh:=.st [.int .i64,.int .i64]
def shGm:Sh:=.st [.int .i64,.sl QkJ,.sl shIn]
theorem QqR {d:Dt} (h:QkJ.has d):∃ x:Nd,d.cells=x.cells:=by
 obtain⟨m,rfl,hm⟩:=has_st h;obtain⟨d0,m,rfl,h0,hm⟩:=hasL_cons hm;obtain⟨d1,m,rfl,h1,hm⟩:=hasL_cons hm;obtain⟨d2,m,rfl,h2,hm⟩:=hasL_cons hm;obtain⟨d3,m,rfl,h3,hm⟩:=hasL_cons hm;obtain⟨d4,m,rfl,h4,hm⟩:=hasL_cons hm;obtain⟨d5,m,rfl,h5,hm⟩:=hasL_cons hm;obtain rfl:=hasL_nil hm;obtain⟨n0,e0,_⟩:=has_i64 h0;obtain⟨n1,e1,_⟩:=has_i64 h1;obtain⟨n2,e2,_⟩:=has_i64 h2;obtain⟨l3,e3,_⟩:=has_ints h3;obtain⟨l4,e4,_⟩:=has_ints h4;obtain⟨l5,e5,_⟩:=has_ints h5;exact⟨⟨n0,n1,n2,l3,l4,l5⟩,by simp[QnA,Dt.cellsL,e0,e1,e2,e3,e4,e5,Nd.cells,sl]⟩
theorem Qqc {d:Dt} (h:(Sh.sl QkJ).has d):∃ l:List Nd,d.cells=[.slc (nds l) l.length]:=by
 simp only[Sh.has]at h;obtain⟨m,rfl,hl,hx⟩:=h;have:∃ l:List Nd,l.length=m.length/\Dt.cellsL m=nds l:=by
  clear hl
  induction m with
  |nil=>exact⟨[],rfl,rfl⟩
  |cons x r ih =>
   obtain⟨l,h1,h2⟩:=ih λy hy=>hx y (by simp[hy]);obtain⟨n,hn⟩:=QqR (hx x (by simp));exact⟨n::l,by simp[h1],by simp[Dt.cellsL,hn,h2,nds]⟩
 obtain⟨l,h1,h2⟩:=this;exact⟨l,by simp only[Dt.cells,h2,<- h1]⟩
theorem Qri {d:Dt} (h:(Sh.sl shIn).has d):∃ l:List (Int×Int),d.cells=[.slc (Qu l) l.length]:=by
 simp only[Sh.has]at h;obtain⟨m,rfl,hl,hx⟩:=h;have:∃ l:List (Int×Int),l.length=m.length/\Dt.cellsL m=Qu l:=by
  clear hl
  induction m with
  |nil=>exact⟨[],rfl,rfl⟩
  |cons x r ih =>
   obtain⟨l,h1,h2⟩:=ih λy hy=>hx y (by simp[hy]);obtain⟨m,rfl,hm⟩:=has_st (hx x (by simp));obtain⟨d0,m,rfl,h0,hm⟩:=hasL_cons hm;obtain⟨d1,m,rfl,g1,hm⟩:=hasL_cons hm;obtain rfl:=hasL_nil hm;obtain⟨n0,e0,_⟩:=has_i64 h0;obtain⟨n1,e1,_⟩:=has_i64 g1;exact⟨(n0,n1)::l,by simp[h1],by simp[Dt.cellsL,QnA,e0,e1,h2,Qu]⟩
 obtain⟨l,h1,h2⟩:=this;exact⟨l,by simp only[Dt.cells,h2,<- h1]⟩
theorem has_gm {d:Dt} (h:shGm.has d):∃ g:Gm,d.sv=.agg g.cells:=by
 obtain⟨m,rfl,hm⟩:=has_st h;obtain⟨d0,m,rfl,h0,hm⟩:=hasL_cons hm;obtain⟨d1,m,rfl,h1,hm⟩:=hasL_cons hm;obtain⟨d2,m,rfl,h2,hm⟩:=hasL_cons hm;obtain rfl:=hasL_nil hm;obtain⟨n0,e0,_⟩:=has_i64 h0;obtain⟨l1,e1⟩:=Qqc h1;obtain⟨l2,e2⟩:=Qri h2;exact⟨⟨n0,l1,l2⟩,by simp[Qti,Dt.cellsL,e0,e1,e2,Gm.cells]⟩
end Go.Proofs.YtogjmpkehjfecaaGreatDoor.Rc
namespace Go.Ab.Lm
def B:Nat:=1000000000
def val:List Nat->Nat
 |[]=>0
 |x::r=>x+B*val r
def Dig (l:List Nat):Prop:=∀ x∈l,x<B
def QF:List Nat->List Nat
 |[]=>[]
 |x::r=>if QF r=[]/\x=0 then []else x::QF r
theorem Qd2:0<B:=by decide
def lim (n:Nat):List Nat:=if h:n=0 then []else(n % B)::lim (n / B)
termination_by n
decreasing_by exact Zj (ZL h) (by decide)
theorem QaZ:lim 0=[]:=by unfold lim; rfl
theorem Qcx {n:Nat} (h:n≠0):lim n=(n % B)::lim (n / B):=by rw[lim,dif_neg h]
theorem Qcy:∀ n:Nat,val (lim n)=n:=by
 intro n
 induction n using Nat.strongRecOn with
 |ind n ih =>
  by_cases h:n=0
  . subst h; rw[QaZ]; rfl
  . rw[Qcx h,val,ih _ (Zj (ZL h) (by decide))];exact Nat.mod_add_div n B
theorem Qbn:∀ n:Nat,Dig (lim n):=by
 intro n
 induction n using Nat.strongRecOn with
 |ind n ih =>
  by_cases h:n=0
  . subst h; rw[QaZ]; intro x hx; cases hx
  . rw[Qcx h];intro x hx;rcases Vi.1 hx with rfl|hx
    . exact Yo _ Qd2
    . exact ih _ (Zj (ZL h) (by decide)) x hx
theorem Qdw {n:Nat}:lim n=[]↔n=0:=by
 by_cases h:n=0
 . subst h; simp[QaZ]
 . rw[Qcx h]; simp[h]
theorem Dig.tail {x:Nat} {r:List Nat} (h:Dig (x::r)):Dig r:=λy hy=>h y (VJ _ hy)
theorem Dig.app {a b:List Nat} (h:Dig a) (h':Dig b):Dig (a++b):=λx hx=>by
 rcases Vk.1 hx with h1|h1
 . exact h x h1
 . exact h' x h1
theorem Qev:∀ {l:List Nat},Dig l->QF l=lim (val l)
 |[],_=>by rw[val,QaZ]; rfl
 |x::r,h=>by
  have ih:=Qev h.tail;have hx:=h x (by simp);unfold QF;simp only[ih,Qdw];by_cases hc:val r=0/\x=0
  . rw[Wb hc,val,hc.1,hc.2,ZM,QaZ]
  . rw[Wa hc];have hne:x+B*val r≠0:=by
     intro e;apply hc;have h1:B*val r=0:=by omega
     rcases Nat.mul_eq_zero.1 h1 with h2|h2
     . exact absurd h2 (by decide)
     . exact⟨h2,by omega⟩
    rw[val,Qcx hne];have e1:(x+B*val r) % B=x:=by rw[Nat.add_mul_mod_self_left]; exact YP hx
    have e2:(x+B*val r) / B=val r:=by rw[Nat.add_mul_div_left _ _ Qd2,YG hx,V0]
    rw[e1,e2]
theorem QlY:∀ l:List Nat,(QF l).length<=l.length
 |[]=>Vc _
 |x::r=>by
  have:=QlY r;unfold QF;split
  . simp
  . simp; exact this
theorem Qiy:∀ l:List Nat,QF (l++[0])=QF l
 |[]=>by simp[QF]
 |x::r=>by simp only[V6,QF,Qiy r]
theorem QhW {y:Nat} (hy:y≠0):∀ l:List Nat,QF (l++[y])=l++[y]
 |[]=>by simp[QF,hy]
 |x::r=>by simp[QF,QhW hy r]
theorem QhT:∀ (a b:List Nat),val (a++b)=val a+B ^ a.length*val b
 |[],b=>by simp[val]
 |x::a,b=>by
  simp only[V6,val,QhT a b,VL,V3];rw[Ys,<- Yg,VB B (B ^ a.length),Yn]
theorem QgX:∀ {l:List Nat},Dig l->val l<B ^ l.length
 |[],_=>by simp[val]
 |x::r,h=>by
  have ih:=QgX h.tail;have hx:=h x (by simp);simp only[val,VL,V3];have:B*(val r+1)<=B*B ^ r.length:=YH _ ih;rw[Ys,Yw]at this;rw[VB (B ^ r.length) B];omega
theorem QgD (k:Nat):0<B ^ k:=YI Qd2
theorem QkS:∀ {n:Nat},n≠0->B ^ ((lim n).length-1)<=n:=by
 intro n
 induction n using Nat.strongRecOn with
 |ind n ih =>
  intro h;rw[Qcx h];by_cases h1:n / B=0
  . rw[h1,QaZ]; simp; omega
  . have hi:=ih _ (Zj (ZL h) (by decide)) h1;have hl:(lim (n / B)).length≠0:=by
     intro e;exact h1 (Qdw.1 (Vx e))
    simp only[VL,ZN];obtain⟨k,hk⟩:∃ k,(lim (n / B)).length=k+1:=⟨(lim (n / B)).length-1,by omega⟩;rw[hk]at hi ⊢;simp only[ZN]at hi;rw[V3];have h2:=YD B hi;have h3:=Nat.div_mul_le_self n B;omega
theorem Qde (n:Nat):n<B ^ (lim n).length:=by
 have:=QgX (Qbn n)
 rwa [Qcy]at this
theorem Qcr {n k:Nat} (h:n<B ^ k):(lim n).length<=k:=by
 by_cases h0:n=0
 . subst h0; rw[QaZ]; simp
 . have h1:=QkS h0;apply Nat.le_of_not_lt;intro hk;have:B ^ k<=B ^ ((lim n).length-1):=Y3 Qd2 (by omega);omega
theorem Qdu {m n:Nat} (h:m<=n):(lim m).length<=(lim n).length:=Qcr (Z5 h (Qde n))
theorem Qna {a b:List Nat} {k:Nat} (ha:a.length=k) (hb:b.length=k) (hda:Dig a) (hdb:Dig b) {x y:Nat} (h:x<y) (c:List Nat):val (a++x::c)<val (b++y::c):=by
 rw[QhT,QhT,ha,hb];have h1:=QgX hda;have h2:=QgX hdb;rw[ha]at h1;rw[hb]at h2;simp only[val];have h3:B ^ k*(x+1+B*val c)<=B ^ k*(y+B*val c):=YH _ (by omega);have h4:B ^ k*(x+1+B*val c)=B ^ k*(x+B*val c)+B ^ k:=by
  rw[show x+1+B*val c=(x+B*val c)+1 by omega,Ys,Yw]
 omega
end Go.Ab.Lm
namespace Go.Proofs.YtogjmpkehjfecaaGreatDoor.Rc
open Go.Ab
theorem QnN {lo hi:Int} {l:List Int} (h:∀ j (h:j<l.length),j<l.length->Qav lo hi l[j]=false):Qaj lo hi l=0:=by
 unfold Qaj; rw[Wa];rw[V5];rintro⟨y,hy,h1⟩;obtain⟨j,hj,rfl⟩:=VH hy;rw[h j hj hj]at h1; cases h1
theorem QmJ {lo hi:Int} {l:List Int} {j:Nat} (hj:j<l.length) (h:Qav lo hi l[j]=true):Qaj lo hi l=2:=by
 unfold Qaj; rw[Wb];exact V5.2 ⟨_,Vf hj,h⟩
theorem Qd7 {lo hi n:Int}:Qaj lo hi [n]=if n<lo\/hi<n then 2 else 0:=by
 unfold Qaj; congr 1; simp[Qav]
section
variable {x:Nd} {H:Ws} {q:Nat} {g:Gm}
theorem Qu8 (hq:Qf H q 0=[i64 x.k,i64 x.p,i64 x.i,.slc (Qa x.nx) x.nx.length,.slc (Qa x.ws) x.ws.length,.slc (Qa x.ps) x.ps.length]) (hl:x.ws.length<4611686018427387904) {N:Nat} {K:Wr}
 (hret:Qaj 1 1000 x.ws=2->∀ env,env.get 4=i64 2->K .ret env H) (hexit:Qaj 1 1000 x.ws=0->∀ env,K (.exit 1) env H) :
 ∀ (n i:Nat) (env:Env),i+n=x.ws.length->(∀ j (h:j<x.ws.length),j<i->Qav 1 1000 x.ws[j]=false)->env.get 3=.ptr (.own q 0 0 0 0) 0->env.get 5=i64 i->LI Tryz.prog N Qb Qi7 env H K:=by
 intro n
 induction n with
 |zero =>
  intro i env hi hp h3 h5;refine Qc hm Qi7.eq_1 ?_;have e:i=x.ws.length:=by omega
  subst e;simp -implicitDefEqProofs[h3,h5,hq];exact hexit (QnN hp) _
 |succ n ih =>
  intro i env hi hp h3 h5;refine Qc hm Qi7.eq_1 ?_;have hlt:i<x.ws.length:=by omega
  simp -implicitDefEqProofs[h3,h5,hq,hlt];split
  . rename_i hc;refine⟨by omega,by omega,?_⟩;exact hret (QmJ hlt (by simp[Qav]; omega)) _ (by simp)
  . rename_i hc;refine⟨by omega,by omega,?_⟩;refine ih (i+1) _ (by omega) ?_ ?_ ?_
    rotate_left
    . simp[h3]
    . simp[Qw (show i<9223372036854775807 by omega)]
    intro j hj hji;by_cases e:j=i
    . subst e; simp[Qav]; omega
    . exact hp j hj (by omega)
theorem Qq8 (hq:Qf H q 0=[i64 x.k,i64 x.p,i64 x.i,.slc (Qa x.nx) x.nx.length,.slc (Qa x.ws) x.ws.length,.slc (Qa x.ps) x.ps.length]) (hl:x.ps.length<4611686018427387904) {N:Nat} {K:Wr}
 (hret:Qaj (-1000000) 1000000 x.ps=2->∀ env,env.get 4=i64 2->K .ret env H) (hexit:Qaj (-1000000) 1000000 x.ps=0->∀ env,K (.exit 3) env H) :
 ∀ (n i:Nat) (env:Env),i+n=x.ps.length->(∀ j (h:j<x.ps.length),j<i->Qav (-1000000) 1000000 x.ps[j]=false)->env.get 3=.ptr (.own q 0 0 0 0) 0->env.get 6=i64 i->LI Tryz.prog N Qb Qjn env H K:=by
 intro n
 induction n with
 |zero =>
  intro i env hi hp h3 h5;refine Qc hm Qjn.eq_1 ?_;have e:i=x.ps.length:=by omega
  subst e;simp -implicitDefEqProofs[h3,h5,hq];exact hexit (QnN hp) _
 |succ n ih =>
  intro i env hi hp h3 h5;refine Qc hm Qjn.eq_1 ?_;have hlt:i<x.ps.length:=by omega
  simp -implicitDefEqProofs[h3,h5,hq,hlt];split
  . rename_i hc;refine⟨by omega,by omega,?_⟩;exact hret (QmJ hlt (by simp[Qav]; omega)) _ (by simp)
  . rename_i hc;refine⟨by omega,by omega,?_⟩;refine ih (i+1) _ (by omega) ?_ ?_ ?_
    rotate_left
    . simp[h3]
    . simp[Qw (show i<9223372036854775807 by omega)]
    intro j hj hji;by_cases e:j=i
    . subst e; simp[Qav]; omega
    . exact hp j hj (by omega)
set_option maxRecDepth 10000 in
theorem ok64 (h1:1<=g.pl) (h4:g.pl<=4) (h5:g.is.length<=200):Ok Tryz.prog 64 [.agg g.cells,.agg x.cells] H (.ret (i64 (x.err g))) H:=by
 refine Ql hm Tryz.func64 c64 (by simp[Nd.cells,sl,Gm.cells]) λhcl => ?_;by_cases k1:x.k=1
 . have e:x.err g=if(((((¬x.p=0\/¬x.i=0)\/0<x.ps.length)\/(x.nx.length:Int)<1)\/60<(x.nx.length:Int))\/¬(x.ws.length:Int)=x.nx.length)then 3 else Qaj 1 1000 x.ws:=by
    unfold Nd.err Nd.chance;rw[Wa (by omega),Wb k1];congr 1;simp only[eq_iff_iff]; omega
   rw[e];simp -implicitDefEqProofs[Qf6,r64,Nd.cells,sl,Gm.cells,k1];split
   . exact Qi 1 hcl rfl (by simp)
   . refine Qu8 (q:=H.length+1) (x:=x) (by simp[k1]) (by omega) (λe1 env e2 => ?_) (λe1 env => ?_) x.ws.length 0 _ (by omega) (by omega) (by simp) (by simp)
     . simp -implicitDefEqProofs[e1,e2];exact Qi 1 hcl rfl (by simp)
     . simp -implicitDefEqProofs[e1];exact Qi 1 hcl rfl (by simp)
 by_cases k2:x.k=2
 . have e:x.err g=if(((0<x.ps.length\/0<x.ws.length)\/(x.nx.length:Int)<1)\/10<(x.nx.length:Int))then 3 else if((x.p<0\/g.pl<=x.p)\/x.i<0)\/g.is.length<=x.i then 2 else 0:=by
    unfold Nd.err Nd.move;rw[Wa (by omega),Wa k1,Wb k2];rw[Qd7,Qd7];by_cases hA:0<x.ws.length\/0<x.ps.length\/x.nx.length<1\/10<x.nx.length
    . rw[Wb hA,Wb (by omega)]
    . rw[Wa hA,Wa (show ¬ (((0<x.ps.length\/0<x.ws.length)\/(x.nx.length:Int)<1)\/10<(x.nx.length:Int))by omega)];by_cases hp:x.p<0\/g.pl-1<x.p
      . rw[Wb hp,Wb (by decide),Wb (by omega)]
      . rw[Wa hp,Wa (by decide)];by_cases hi:x.i<0\/g.is.length-1<x.i
        . rw[Wb hi,Wb (by omega)]
        . rw[Wa hi,Wa (by omega)]
   rw[e];simp -implicitDefEqProofs[Qf6,r64,Nd.cells,sl,Gm.cells,k1,k2];split
   . exact Qi 1 hcl rfl (by simp)
   . split
     . exact Qi 1 hcl rfl (by simp)
     . exact Qi 1 hcl rfl (by simp)
 by_cases k3:x.k=3
 . have e:x.err g=if((((¬x.p=0\/¬x.i=0)\/0<x.nx.length)\/0<x.ws.length)\/¬(x.ps.length:Int)=g.pl)then 3 else Qaj (-1000000) 1000000 x.ps:=by
    unfold Nd.err Nd.end;rw[Wa (by omega),Wa k1,Wa k2];congr 1;simp only[eq_iff_iff]; omega
   rw[e];simp -implicitDefEqProofs[Qf6,r64,Nd.cells,sl,Gm.cells,k3];split
   . exact Qi 1 hcl rfl (by simp)
   . refine Qq8 (q:=H.length+1) (x:=x) (by simp[k3]) (by omega) (λe1 env e2 => ?_) (λe1 env => ?_) x.ps.length 0 _ (by omega) (by omega) (by simp) (by simp)
     . simp -implicitDefEqProofs[e1,e2];exact Qi 1 hcl rfl (by simp)
     . simp -implicitDefEqProofs[e1];exact Qi 1 hcl rfl (by simp)
 have e:x.err g=3:=by
  unfold Nd.err;rw[Wb (by omega)]
 rw[e];simp -implicitDefEqProofs[Qf6,r64,Nd.cells,sl,Gm.cells,k1,k2,k3];exact Qi 1 hcl rfl (by simp)
end
structure W3 where
 P:List Int
 D:List Int
 L:List Int
def QaD (w:Nat->W3->Option Nat×W3):List Int->Nat->W3->Option Nat×W3
 |[],r,s=>(some r,s)
 |c::cs,r,s=>if c=r then(match w r s with|(none,s)=>(none,s)|(some r,s)=>QaD w cs r s)else(none,s)
def Q4 (ns:List Nd):Nat->Int->Int->Nat->W3->Option Nat×W3
 |0,_,_,_,s=>(none,s)
 |f+1,par,dep,k,s =>
  match ns[k]? with
  |none=>(none,s)
  |some x =>
   match QaD (Q4 ns f k (dep+1)) x.nx (k+1) ⟨s.P.set k par,s.D.set k dep,s.L⟩with
   | (none,s)=>(none,s)
   | (some r,s)=>(some r,⟨s.P,s.D,s.L.set k (r-1)⟩)
def rr (l:List Int):AO:=⟨Qa l,3,1,true⟩
def upd (H:Ws) (a b c:Nat) (s:W3):Ws:=((H.set a (rr s.P)).set b (rr s.D)).set c (rr s.L)
section
variable {H:Ws} {a b c j:Nat} {s t:W3} {g:Gm}
theorem QgU:(upd H a b c s).length=H.length:=by simp[upd]
theorem QfY {H H':Ws} {j:Nat} (h:H'[j]? = H[j]?) (v:Nat):Qf H' j v=Qf H j v:=by unfold Qf; rw[h]
structure P3 (H:Ws) (a b c:Nat):Prop where
 ab:a<b
 bc:b<c
 lt:c<H.length
theorem Qq4 (h:P3 H a b c):Qf (upd H a b c s) a 1=Qa s.P:=by
 have:=h.ab; have:=h.bc; have:=h.lt;refine Qak (o:=rr s.P) ?_ rfl;unfold upd;rw[Vd (by omega),Vd (by omega),Vg (by omega)]
theorem Qui (h:P3 H a b c):Qf (upd H a b c s) b 1=Qa s.D:=by
 have:=h.ab; have:=h.bc; have:=h.lt;refine Qak (o:=rr s.D) ?_ rfl;unfold upd;rw[Vd (by omega),Vg (by simp; omega)]
theorem Qob (h:P3 H a b c):Qf (upd H a b c s) c 1=Qa s.L:=by
 have:=h.ab; have:=h.bc; have:=h.lt;refine Qak (o:=rr s.L) ?_ rfl;unfold upd;rw[Vg (by simp; omega)]
theorem Qtk (h1:j≠a) (h2:j≠b) (h3:j≠c):Qf (upd H a b c s) j 0=Qf H j 0:=by
 refine QfY ?_ 0;unfold upd;rw[Vd (by omega),Vd (by omega),Vd (by omega)]
theorem Qt6 (h:P3 H a b c) (f:AO->AO) (l:List Int) (hf:f (rr s.P)=rr l):Ab.setObj (upd H a b c s) a f=upd H a b c ⟨l,s.D,s.L⟩:=by
 have:=h.ab; have:=h.bc; have:=h.lt;rw[QY (o:=rr s.P),hf]
 . unfold upd;rw[Zk _ _ (show c≠a by omega),Zk _ _ (show b≠a by omega),Yk]
 . unfold upd;rw[Vd (by omega),Vd (by omega),Vg (by omega)]
theorem Qr2 (h:P3 H a b c) (f:AO->AO) (l:List Int) (hf:f (rr s.D)=rr l):Ab.setObj (upd H a b c s) b f=upd H a b c ⟨s.P,l,s.L⟩:=by
 have:=h.ab; have:=h.bc; have:=h.lt;rw[QY (o:=rr s.D),hf]
 . unfold upd;rw[Zk _ _ (show c≠b by omega),Yk]
 . unfold upd;rw[Vd (by omega),Vg (by simp; omega)]
theorem QtR (h:P3 H a b c) (f:AO->AO) (l:List Int) (hf:f (rr s.L)=rr l):Ab.setObj (upd H a b c s) c f=upd H a b c ⟨s.P,s.D,l⟩:=by
 have:=h.ab; have:=h.bc; have:=h.lt;rw[QY (o:=rr s.L),hf]
 . unfold upd;rw[Yk]
 . unfold upd;rw[Vg (by simp; omega)]
theorem QvC {ns:List Nd} {k:Nat} (h:k<ns.length):nds (ns.drop k)=ns[k].cells++nds (ns.drop (k+1)):=by
 rw[Vy h]; rfl
theorem Qam:∀ ns:List Nd,(nds ns).length=6*ns.length
 |[]=>rfl
 |x::r=>by simp[nds,Qam r,Nd.cells]; omega
end
def Qdz (ns:List Nd):Option Nat->SV
 |none=>.tup [.val (.slice none 0 0),bl false]
 |some r=>.tup [.slc (nds (ns.drop r)) (ns.length-r),bl true]
def W3.ok (s:W3) (n:Nat):Prop:=s.P.length=n/\s.D.length=n/\s.L.length=n
theorem Qgb {n:Nat} {w:Nat->W3->Option Nat×W3} {m:Nat} (hw:∀ r s,m<=r->s.ok n->(w r s).2.ok n/\∀ r',(w r s).1=some r'->r<r'/\r'<=n) :
 ∀ (l:List Int) (r:Nat) (s:W3),m<=r->r<=n->s.ok n->(QaD w l r s).2.ok n/\∀ r',(QaD w l r s).1=some r'->r<=r'/\r'<=n
 |[],r,s,hr,hn,hs=>⟨hs,λr' h=>by simp[QaD]at h; omega⟩
 |c::cs,r,s,hr,hn,hs=>by
  unfold QaD;by_cases hc:c=r
  . rw[Wb hc];have h:=hw r s hr hs
    cases hh:w r s with
    |mk o s1 =>
     rw[hh]at h
     cases o with
     |none=>exact⟨h.1,λr' h'=>by simp at h'⟩
     |some r1 =>
      have h1:=h.2 r1 rfl;have h2:=Qgb hw cs r1 s1 (by omega) h1.2 h.1;exact⟨h2.1,λr' h'=>by have:=h2.2 r' h'; omega⟩
  . rw[Wa hc];exact⟨hs,λr' h=>by simp at h⟩
theorem Qdk {ns:List Nd}:∀ (f:Nat) (par dep:Int) (k:Nat) (s:W3),s.ok ns.length ->
 (Q4 ns f par dep k s).2.ok ns.length/\∀ r,(Q4 ns f par dep k s).1=some r->k<r/\r<=ns.length
 |0,par,dep,k,s,hs=>⟨hs,λr h=>by simp[Q4]at h⟩
 |f+1,par,dep,k,s,hs=>by
  unfold Q4
  cases hk:ns[k]? with
  |none=>exact⟨hs,λr h=>by simp at h⟩
  |some x =>
   have hlt:=Qg hk;have h:=Qgb (n:=ns.length) (w:=Q4 ns f k (dep+1)) (m:=0) (λr s _ hs=>Qdk f k (dep+1) r s hs) x.nx (k+1) ⟨s.P.set k par,s.D.set k dep,s.L⟩ (by omega) (by omega)
    ⟨by simpa using hs.1,by simpa using hs.2.1,hs.2.2⟩
   simp only
   cases hh:QaD (Q4 ns f k (dep+1)) x.nx (k+1) ⟨s.P.set k par,s.D.set k dep,s.L⟩with
   |mk o s1 =>
    rw[hh]at h
    cases o with
    |none=>exact⟨h.1,λr' h'=>by simp at h'⟩
    |some r1 =>
     refine⟨⟨h.1.1,h.1.2.1,by simpa using h.1.2.2⟩,λr' h' => ?_⟩;have:=h.2 r1 rfl;simp at h'; omega
section
variable {H:Ws} {a b c j:Nat} {g:Gm}
structure Wh (H:Ws) (j:Nat) (g:Gm) (a b c:Nat):Prop where
 w:Wk H j g (.own a 0 g.ns.length 1 1) (.own b 0 g.ns.length 1 1) (.own c 0 g.ns.length 1 1)
 p:P3 H a b c
 ja:j≠a
 jb:j≠b
 jc:j≠c
 n:g.ns.length<=2000
 nx:∀ x∈g.ns,x.nx.length<4611686018427387904
theorem Wh.cells (h:Wh H j g a b c) (s:W3):Qf (upd H a b c s) j 0=[i64 g.pl,.slc (nds g.ns) g.ns.length,.slc (Qu g.is) g.is.length,.own a 0 g.ns.length 1 1,.own b 0 g.ns.length 1 1,.own c 0 g.ns.length 1 1]:=by
 rw[Qtk h.ja h.jb h.jc]; exact h.w.o
set_option maxRecDepth 10000 in
theorem Qs9 (h:Wh H j g a b c) {x:Nd} {dep:Int} {k:Nat} {w:Nat->W3->Option Nat×W3} {R:Option Nat×W3} (hd0:0<=dep) (hd1:dep<=k) (hk:k<g.ns.length) (hnx:x.nx.length<4611686018427387904)
 (hok:∀ r s,k+1<=r->r<=g.ns.length->s.ok g.ns.length->Ok Tryz.prog 108 [.ptr (.own j 0 0 0 0) 0,i64 k,i64 (dep+1),.slc (nds (g.ns.drop r)) (g.ns.length-r)] (upd H a b c s) (.ret (Qdz g.ns (w r s).1)) (upd H a b c (w r s).2))
 (hw:∀ r s,k+1<=r->s.ok g.ns.length->(w r s).2.ok g.ns.length/\∀ r',(w r s).1=some r'->r<r'/\r'<=g.ns.length)
 {N:Nat} {K:Wr}
 (hret:R.1=none->∀ env,env.get 8=.val (.slice none 0 0)->env.get 9=bl false->K .ret env (upd H a b c R.2))
 (hexit:∀ r',R.1=some r'->r'<=g.ns.length->R.2.ok g.ns.length->∀ env,env.get 0=.ptr (.own j 0 0 0 0) 0->env.get 10=i64 k->env.get 11=.slc (nds (g.ns.drop r')) (g.ns.length-r')->K (.exit 0) env (upd H a b c R.2)) :
 ∀ (m i r:Nat) (s:W3) (env:Env),i+m=x.nx.length->k+1<=r->r<=g.ns.length->s.ok g.ns.length->QaD w (x.nx.drop i) r s=R ->
  env.get 0=.ptr (.own j 0 0 0 0) 0->env.get 2=i64 dep->env.get 10=i64 k->env.get 11=.slc (nds (g.ns.drop r)) (g.ns.length-r)->env.get 46=.slc (Qa x.nx) x.nx.length->env.get 47=i64 x.nx.length->env.get 48=i64 i ->
  LI Tryz.prog N Qb Qh6 env (upd H a b c s) K:=by
 have hn:=h.n;intro m
 induction m with
 |zero =>
  intro i r s env hi hr hrn hs hR h0 h2 h10 h11 h46 h47 h48;refine Qc hm Qh6.eq_1 ?_;have e:i=x.nx.length:=by omega
  subst e;simp -implicitDefEqProofs[h47,h48];rw[Yl]at hR;subst hR;exact hexit r rfl hrn hs _ (by simp[h0]) (by simp[h10]) (by simp[h11])
 |succ m ih =>
  intro i r s env hi hr hrn hs hR h0 h2 h10 h11 h46 h47 h48;refine Qc hm Qh6.eq_1 ?_;have hlt:i<x.nx.length:=by omega
  have w1:IntKind.i64.wrap ((g.ns.length:Int)-((g.ns.length-r:Nat):Int))=r:=by rw[Qp (by omega) (by omega)]; omega
  have w2:IntKind.i64.wrap (dep+1)=dep+1:=Qp (by omega) (by omega);rw[Vy hlt]at hR;unfold QaD at hR;by_cases hc:x.nx[i]=r
  . rw[Wb hc]at hR;simp -implicitDefEqProofs[h0,h2,h10,h11,h46,h47,h48,hlt,h.cells,w1,hc,w2];refine⟨by omega,Qh (hok r s hr hrn hs) ?_⟩;have hw1:=hw r s hr hs
    cases hh:w r s with
    |mk o s1 =>
     rw[hh]at hw1 hR
     cases o with
     |none =>
      subst hR;simp -implicitDefEqProofs[Qdz];exact hret rfl _ (by simp) (by simp)
     |some r1 =>
      have h1:=hw1.2 r1 rfl;simp -implicitDefEqProofs[Qdz,h48];refine ih (i+1) r1 s1 _ (by omega) (by omega) h1.2 hw1.1 hR ?_ ?_ ?_ ?_ ?_ ?_ ?_
      . simp[h0]
      . simp[h2]
      . simp[h10]
      . simp
      . simp[h46]
      . simp[h47]
      . simp[Qw (show i<9223372036854775807 by omega)]
  . rw[Wa hc]at hR;subst hR;simp -implicitDefEqProofs[h0,h2,h10,h11,h46,h47,h48,hlt,h.cells,w1,hc];refine⟨by omega,?_⟩;exact hret rfl _ (by simp) (by simp)
set_option maxRecDepth 10000 in
theorem Qwj (h:Wh H j g a b c):∀ (f:Nat) (par dep:Int) (k:Nat) (s:W3),k<=g.ns.length->g.ns.length+1<=k+f->0<=dep->dep<=k->s.ok g.ns.length ->
 Ok Tryz.prog 108 [.ptr (.own j 0 0 0 0) 0,i64 par,i64 dep,.slc (nds (g.ns.drop k)) (g.ns.length-k)] (upd H a b c s)
  (.ret (Qdz g.ns (Q4 g.ns f par dep k s).1)) (upd H a b c (Q4 g.ns f par dep k s).2):=by
 have ab:=h.p.ab; have bc:=h.p.bc; have lt:=h.p.lt;have hj:=h.w.lt;have hn:=h.n;intro f
 induction f with
 |zero=>intro par dep k s h1 h2; omega
 |succ f ih =>
  intro par dep k s hk hf hd0 hd1 hs;refine Ql hm Tryz.func108 c108 (by simp[QgU,hj]) λhcl => ?_;by_cases hk':k=g.ns.length
  . subst hk';simp -implicitDefEqProofs[Qj4,Qk5,Q4,Qdz];exact Qo
  . have hlt:k<g.ns.length:=by omega
    have w1:IntKind.i64.wrap ((g.ns.length:Int)-((g.ns.length-k:Nat):Int))=k:=by rw[Qp (by omega) (by omega)]; omega
    have e1:∀ (s:W3) (v:Int),k<s.P.length->Ab.setObj (upd H a b c s) a (λo=>{ cells:=List.take k o.cells++i64 v::List.drop (k+1) o.cells,ty:=o.ty,ver:=o.ver,live:=o.live })=upd H a b c ⟨s.P.set k v,s.D,s.L⟩ :=
     λs v hv=>Qt6 h.p _ _ (by simp[rr,Qar hv])
    have e2:∀ (s:W3) (v:Int),k<s.D.length->Ab.setObj (upd H a b c s) b (λo=>{ cells:=List.take k o.cells++i64 v::List.drop (k+1) o.cells,ty:=o.ty,ver:=o.ver,live:=o.live })=upd H a b c ⟨s.P,s.D.set k v,s.L⟩ :=
     λs v hv=>Qr2 h.p _ _ (by simp[rr,Qar hv])
    have e3:∀ (s:W3) (v:Int),k<s.L.length->Ab.setObj (upd H a b c s) c (λo=>{ cells:=List.take k o.cells++i64 v::List.drop (k+1) o.cells,ty:=o.ty,ver:=o.ver,live:=o.live })=upd H a b c ⟨s.P,s.D,s.L.set k v⟩ :=
     λs v hv=>QtR h.p _ _ (by simp[rr,Qar hv])
    have e4:List.take ((g.ns.length-k-1)*6) (nds (g.ns.drop (k+1)))=nds (g.ns.drop (k+1)):=VA (by rw[Qam]; simp; omega);have k1:=hs.1; have k2:=hs.2.1; have k3:=hs.2.2;rw[QvC hlt];simp -implicitDefEqProofs[Qj4,Qk5,h.cells,QgU,show ¬ g.ns.length-k=0 by omega,show((g.ns.length-k:Nat):Int)≠0 by omega,w1,Qq4 h.p,Qui h.p,Qob h.p,e1,e2,k1,k2,k3,hlt,Nd.cells,sl,e4];refine⟨by omega,by omega,by omega,?_⟩;have hget:g.ns[k]? = some g.ns[k]:=Vb hlt;have hs':W3.ok ⟨s.P.set k par,s.D.set k dep,s.L⟩ g.ns.length:=⟨by simpa using k1,by simpa using k2,k3⟩;refine Qs9 h (x:=g.ns[k]) (dep:=dep) (k:=k) (w:=Q4 g.ns f k (dep+1)) (R:=QaD (Q4 g.ns f k (dep+1)) g.ns[k].nx (k+1) ⟨s.P.set k par,s.D.set k dep,s.L⟩) hd0 hd1 hlt (h.nx _ (Vf hlt))
     (λr s hr hrn hs=>ih k (dep+1) r s hrn (by omega) (by omega) (by omega) hs) (λr s _ hs=>Qdk f k (dep+1) r s hs) (λhR env h8 h9 => ?_) (λr' hR hr' hs1 env h0 h10 h11 => ?_)
     g.ns[k].nx.length 0 (k+1) _ _ (by omega) (by omega) (by omega) hs' (by simp) (by simp) (by simp) (by simp) (by simp; omega) (by simp) (by simp) (by simp)
    . simp -implicitDefEqProofs[h8,h9];unfold Q4;rw[hget]
      revert hR
      simp only;generalize QaD (Q4 g.ns f k (dep+1)) g.ns[k].nx (k+1) ⟨s.P.set k par,s.D.set k dep,s.L⟩=R;obtain⟨o,s2⟩:=R;rintro rfl;simp[Qdz];exact Qo
    . have w2:IntKind.i64.wrap ((g.ns.length:Int)-((g.ns.length-r':Nat):Int))=r':=by rw[Qp (by omega) (by omega)]; omega
      have w3:IntKind.i64.wrap ((r':Int)-1)=(r':Int)-1:=Qp (by omega) (by omega);unfold Q4;rw[hget]
      revert hR hs1
      simp only;generalize QaD (Q4 g.ns f k (dep+1)) g.ns[k].nx (k+1) ⟨s.P.set k par,s.D.set k dep,s.L⟩=R;obtain⟨o,s2⟩:=R;rintro hR hs1
      cases hR
      have k4:=hs1.2.2;simp only at k4;simp -implicitDefEqProofs[h0,h10,h11,h.cells,QgU,w2,w3,Qob h.p,e3,k4,hlt];refine⟨by omega,?_⟩;exact Qo
end
def Qca (l:List Int):Int:=l.tail.foldl max (l.headD 0)
section
variable {x:SV} {H:Ws} {l:List Int}
theorem Qrk (hx:IsI H x l) (hl:l.length<4611686018427387904) {N:Nat} {K:Wr}
 (hexit:∀ env,env.get 3=i64 (Qca l)->K (.exit 0) env H) :
 ∀ (n i:Nat) (acc:Int) (env:Env),i+n=l.length->(l.drop i).foldl max acc=Qca l->env.get 0=x->env.get 3=i64 acc->env.get 4=i64 i->LI Tryz.prog N Qb Qi4 env H K:=by
 intro n
 induction n with
 |zero =>
  intro i acc env hi ha h0 h3 h4;refine Qc hm Qi4.eq_1 ?_;have e:i=l.length:=by omega
  subst e;simp -implicitDefEqProofs[h0,h3,h4,hx.vd,hx.ug,hx.sl,hx.len];rw[Yl]at ha;exact hexit _ (by simp[h3]; exact Wn i64 ha)
 |succ n ih =>
  intro i acc env hi ha h0 h3 h4;refine Qc hm Qi4.eq_1 ?_;have hlt:i<l.length:=by omega
  rw[Vy hlt,Zv]at ha;simp -implicitDefEqProofs[h0,h3,h4,hlt,hx.vd,hx.ug,hx.sl,hx.len,hx.v hlt,hx.ok hlt];refine ih (i+1) (max acc l[i]) _ (by omega) ha ?_ ?_ ?_
  . simp[h0]
  . simp
  . simp[Qw (show i<9223372036854775807 by omega)]
theorem QpX (hx:IsI H x l) (hl:l.length<4611686018427387904) (hne:0<l.length):Ok Tryz.prog 109 [x] H (.ret (i64 (Qca l))) H:=by
 refine Ql hm Tryz.func109 c109 (by simp[hx.und]) λhcl => ?_;simp -implicitDefEqProofs[i109,r109,hx.vd,hx.ug,hx.sl,hx.len,show ¬ (l.length:Int)<1 by omega,hx.v hne,hx.ok hne];refine⟨by omega,?_⟩;refine Qrk hx hl (λenv h3 => ?_) (l.length-1) 1 l[0] _ (by omega) ?_ (by simp) (by simp) (by simp)
 . simp -implicitDefEqProofs[h3];exact Qo
 . cases l with
   |nil=>simp at hne
   |cons y r=>rfl
def Qch (v:Int) (l:List Int):Int:=match l.findIdx? (· == v)with|some i=>i|none => -1
theorem Qvd (hx:IsI H x l) (hl:l.length<4611686018427387904) {v:Int} {N:Nat} {K:Wr}
 (hret:∀ env (i:Nat),l.findIdx? (· == v)=some i->env.get 4=i64 i->K .ret env H) (hexit:l.findIdx? (· == v)=none->∀ env,K (.exit 0) env H) :
 ∀ (n i:Nat) (env:Env),i+n=l.length->(∀ j (h:j<l.length),j<i->¬ l[j]=v)->env.get 0=x->env.get 1=i64 v->env.get 7=i64 l.length->env.get 8=i64 i ->
  LI Tryz.prog N Qb Qjl env H K:=by
 intro n
 induction n with
 |zero =>
  intro i env hi hp h0 h1 h7 h8;refine Qc hm Qjl.eq_1 ?_;have e:i=l.length:=by omega
  simp -implicitDefEqProofs[h7,h8,e];refine hexit ?_ _;rw[ZJ];intro y hy;obtain⟨j,hj,rfl⟩:=VH hy;simpa using hp j hj (by omega)
 |succ n ih =>
  intro i env hi hp h0 h1 h7 h8;refine Qc hm Qjl.eq_1 ?_;have hlt:i<l.length:=by omega
  by_cases ho:l[i]=v
  . simp -implicitDefEqProofs[h0,h1,h7,h8,hlt,hx.vd,hx.ug,hx.sl,hx.len,hx.v hlt,hx.ok hlt,ho];refine hret _ i ?_ (by simp);rw[Zi];exact⟨hlt,by simpa using ho,λj hj=>by simpa using hp j (by omega) hj⟩
  . simp -implicitDefEqProofs[h0,h1,h7,h8,hlt,hx.vd,hx.ug,hx.sl,hx.len,hx.v hlt,hx.ok hlt,show ¬ v=l[i]from λe=>ho e.symm];refine ih (i+1) _ (by omega) ?_ ?_ ?_ ?_ ?_
    rotate_left
    . simp[h0]
    . simp[h1]
    . simp[h7]
    . simp[h8,Qw (show i<9223372036854775807 by omega)]
    intro j hj hji;by_cases e:j=i
    . subst e; exact ho
    . exact hp j hj (by omega)
theorem Qmx (hx:IsI H x l) (hl:l.length<4611686018427387904) (v:Int):Ok Tryz.prog 140 [x,i64 v] H (.ret (i64 (Qch v l))) H:=by
 refine Ql hm Tryz.func140 c140 (by simp[hx.und]) λhcl => ?_;simp -implicitDefEqProofs[i140,r140,hx.vd,hx.ug,hx.sl,hx.len];refine Qvd hx hl (v:=v) (λenv i h1 h2 => ?_) (λh1 env => ?_) l.length 0 _ (by omega) (by omega) (by simp) (by simp) (by simp) (by simp)
 . simp[h2,Qch,h1];exact Qo
 . simp[Qch,h1];exact Qo
theorem QrD {v:Int} {l:List Int}:decide (0<=Qch v l)=decide (v∈l):=by
 rw[ZG,Wo,Wo];unfold Qch
 cases h:l.findIdx? (· == v)with
 |some i =>
  simp only[Z4,true_iff];obtain⟨hi,h1,h2⟩:=Zi.1 h;rw[<-eq_of_beq h1]; exact Vf hi
 |none =>
  rw[ZJ]at h;have:v∉l:=λhv=>by simpa using h v hv
  simp[this]
theorem Qvq (hx:IsI H x l) (hl:l.length<4611686018427387904) (v:Int):Ok Tryz.prog 135 [x,i64 v] H (.ret (bl (decide (v∈l)))) H:=by
 refine Ql hm Tryz.func135 c135 (by simp[hx.und]) λhcl => ?_;simp -implicitDefEqProofs[i135,r135,hx.vd,hx.ug,hx.sl,hx.len];refine Qh (Qmx hx hl v) ?_;simp -implicitDefEqProofs;rw[QrD];exact Qo
theorem QqS (n:Int):Ok Tryz.prog 153 [i64 n] H (.ret (bl false)) H:=by
 refine Ql hm Tryz.func153 c153 (by simp) λhcl => ?_;simp -implicitDefEqProofs[i153,r153];exact Qo
theorem Qwe (m n:Int):Ok Tryz.prog 151 [i64 m,i64 n] H (.ret (bl (decide (m<n)))) H:=by
 refine Ql hm Tryz.func151 c151 (by simp) λhcl => ?_;simp -implicitDefEqProofs[i151,r151];refine Qh (QqS m) ?_;simp -implicitDefEqProofs;refine QeY _ _ _ _ ?_;simp -implicitDefEqProofs;exact Qo
def Srt (l:List Int):Prop:=∀ k,k<l.length-1->¬ l.getD (k+1) 0<l.getD k 0
instance (l:List Int):Decidable (Srt l):=by unfold Srt; infer_instance
theorem Qkt {l:List Int}:Srt l↔∀ k (h:k+1<l.length),¬ l[k+1]<l[k]:=by
 constructor
 . intro h k hk;have:=h k (by omega);simpa only[Vp,Vb hk,Vb (show k<l.length by omega),VT]using this
 . intro h k hk;simp only[Vp,Vb (show k+1<l.length by omega),Vb (show k<l.length by omega),VT];exact h k (by omega)
theorem Qtc (hx:IsI H x l) (hl:l.length<4611686018427387904) {N:Nat} {K:Wr}
 (hret:¬ Srt l->∀ env,env.get 2=bl false->K .ret env H) (hexit:Srt l->∀ env,K (.exit 0) env H) :
 ∀ (n:Nat) (env:Env),n<l.length->(∀ k (h:k+1<l.length),n<=k->¬ l[k+1]<l[k])->env.get 0=x->env.get 3=i64 n->LI Tryz.prog N Qb QfT env H K:=by
 intro n
 induction n with
 |zero =>
  intro env hi hp h0 h3;refine Qc hm QfT.eq_1 ?_;simp -implicitDefEqProofs[h0,h3];exact hexit (Qkt.2 λk hk=>hp k hk (by omega)) _
 |succ n ih =>
  intro env hi hp h0 h3;refine Qc hm QfT.eq_1 ?_;have w1:IntKind.i64.wrap (n:Int)=n:=QcI (by omega);have hlt:n<l.length:=by omega
  simp -implicitDefEqProofs[h0,h3,hi,hlt,w1,hx.vd,hx.ug,hx.sl,hx.len,hx.v hlt,hx.ok hlt,hx.v hi,hx.ok hi];refine⟨by omega,?_⟩;refine Qa9 (λ_=>Qwe _ _) ?_;by_cases hc:l[n+1]<l[n]
  . simp -implicitDefEqProofs[hc];exact hret (λh=>Qkt.1 h n hi hc) _ (by simp)
  . simp -implicitDefEqProofs[hc,h3,w1];refine ih _ (by omega) ?_ ?_ ?_
    rotate_left
    . simp[h0]
    . simp
    intro k hk hnk;by_cases e:k=n
    . subst e; exact hc
    . exact hp k hk (by omega)
theorem Qtf (hx:IsI H x l) (hl:l.length<4611686018427387904):Ok Tryz.prog 136 [x] H (.ret (bl (decide (Srt l)))) H:=by
 refine Ql hm Tryz.func136 c136 (by simp[hx.und]) λhcl => ?_;by_cases h0:l.length=0
 . have:l=[]:=Vx h0;subst this;simp -implicitDefEqProofs[Qk2,Qlf,hx.vd,hx.ug,hx.sl,hx.len,show IntKind.i64.wrap (-1) = -1 by rfl];refine Qc hm QfT.eq_1 ?_;simp -implicitDefEqProofs[show Srt []from Qkt.2 (λk h=>by simp at h)];exact Qo
 . have w1:IntKind.i64.wrap ((l.length:Int)-1)=((l.length-1:Nat):Int):=by rw[Qp (by omega) (by omega)]; omega
   simp -implicitDefEqProofs[Qk2,Qlf,hx.vd,hx.ug,hx.sl,hx.len,w1];refine Qtc hx hl (λh1 env h2 => ?_) (λh1 env => ?_) (l.length-1) _ (by omega) (by omega) (by simp) (by simp)
   . simp -implicitDefEqProofs[h2,h1];exact Qo
   . simp -implicitDefEqProofs[h1];exact Qo
end
def Qbw:List Nd->Nat->List Int->List Int
 |[],_,z=>z
 |x::r,o,z=>if x.k=2 then(Qbw r (o+1) z).set x.i.toNat (o+1)else Qbw r (o+1) z
@[simp] theorem Qvl (z:List Int):∀ (l:List Nd) (o:Nat),(Qbw l o z).length=z.length
 |[],o=>rfl
 |x::r,o=>by unfold Qbw; split<;>simp[Qvl z r (o+1)]
def ro (l:List Int):AO:=⟨Qa l,3,0,true⟩
def Nd.tyBad (g:Gm) (x:Nd):Prop:=x.k=2/\g.is[x.i.toNat]? ≠ some (x.p,(x.nx.length:Int))
instance (g:Gm) (x:Nd):Decidable (x.tyBad g):=by unfold Nd.tyBad; infer_instance
def Gm.firsts (g:Gm):List Int:=Qbw g.ns 0 (List.replicate g.is.length 0)
def Gm.setsE (g:Gm):Int:=if ∃ x∈g.ns,x.tyBad g then 10 else if 0∈g.firsts then 18 else if Srt g.firsts then 0 else 9
structure Gd (g:Gm):Prop where
 p1:1<=g.pl
 p4:g.pl<=4
 n1:1<=g.ns.length
 n:g.ns.length<=2000
 i:g.is.length<=200
 e:∀ x∈g.ns,x.err g=0
theorem Gd.inf {g:Gm} (h:Gd g) {x:Nd} (hx:x∈g.ns) (hk:x.k=2):0<=x.i/\x.i<g.is.length:=by
 have:=h.e x hx;unfold Nd.err Nd.move at this;rw[Wa (by omega),Wa (by omega),Wb hk]at this;split at this
 . omega
 . rw[Qd7,Qd7]at this;split at this
   . split at this<;>omega
   . split at this<;>omega
theorem Qm8:∀ {l:List (Int×Int)} {k:Nat} (h:k<l.length),(Qu l).drop (2*k)=i64 l[k].1::i64 l[k].2::Qu (l.drop (k+1))
 |[],k,h=>by simp at h
 |x::r,0,h=>rfl
 |x::r,k+1,h=>by
  rw[show 2*(k+1)=2*k+2 by omega];simp only[Qu,Zl];rw[Qm8 (l:=r) (k:=k) (by simpa using h)];simp
theorem Qlx:∀ {l:List Nd} {k:Nat} (h:k<l.length),(nds l).drop (6*k)=l[k].cells++nds (l.drop (k+1))
 |[],k,h=>by simp at h
 |x::r,0,h=>rfl
 |x::r,k+1,h=>by
  rw[show 6*(k+1)=6*k+6 by omega];simp only[nds,Nd.cells,Zl,V6,VW];rw[Qlx (l:=r) (k:=k) (by simpa using h)];simp[Nd.cells]
theorem Qa0:∀ l:List (Int×Int),(Qu l).length=2*l.length
 |[]=>rfl
 |x::r=>by simp[Qu,Qa0 r]; omega
theorem QaC {l:List Nd} {k:Nat} (h:k<l.length):(nds l).drop (k*6)=i64 l[k].k::i64 l[k].p::i64 l[k].i::sl l[k].nx::sl l[k].ws::sl l[k].ps::nds (l.drop (k+1)):=by
 rw[VB,Qlx h]; rfl
theorem QaR {l:List Nd} {k:Nat} (h:k<l.length):min 6 ((nds l).length-k*6)=6:=by rw[Qam]; omega
theorem QaN {l:List Nd} {k:Nat} (h:k<l.length):6<=(nds l).length-k*6:=by rw[Qam]; omega
theorem QaL {l:List (Int×Int)} {k:Nat} (h:k<l.length):(Qu l).drop (k*2)=i64 l[k].1::i64 l[k].2::Qu (l.drop (k+1)):=by
 rw[VB,Qm8 h]
theorem QdG {l:List (Int×Int)} {k:Nat} (h:k<l.length):min 2 ((Qu l).length-k*2)=2:=by rw[Qa0]; omega
theorem QdV {l:List (Int×Int)} {k:Nat} (h:k<l.length):2<=(Qu l).length-k*2:=by rw[Qa0]; omega
section
variable {H:Ws} {j:Nat} {g:Gm} {a b c:SV}
set_option maxRecDepth 10000 in
theorem Qrs (h:Wk H j g a b c) (hg:Gd g) {N:Nat} {K:Wr}
 (hexit:∀ env M,env.get 0=.ptr (.own j 0 0 0 0) 0->env.get 3=.own H.length 0 g.is.length 1 0->K (.exit 0) env (H++ro g.firsts::M)) :
 ∀ (n:Nat) (env:Env) (M:Ws),n<=g.ns.length->env.get 0=.ptr (.own j 0 0 0 0) 0->env.get 3=.own H.length 0 g.is.length 1 0->env.get 4=i64 ((n:Int)-1) ->
  LI Tryz.prog N Qb QhZ env (H++ro (Qbw (g.ns.drop n) n (List.replicate g.is.length 0))::M) K:=by
 intro n
 induction n with
 |zero =>
  intro env M hi h0 h3 h4;refine Qc hm QhZ.eq_1 ?_;simp -implicitDefEqProofs[h0,h3,h4];exact hexit _ _ (by simp[h0]) (by simp[h3])
 |succ n ih =>
  intro env M hi h0 h3 h4;refine Qc hm QhZ.eq_1 ?_;have hn:=hg.n;have hx:g.ns[n]∈g.ns:=Vf hi;have w1:IntKind.i64.wrap (n:Int)=n:=QcI (by omega);have e:((n+1:Nat):Int)-1=n:=by omega
  rw[e]at h4;have w2:IntKind.i64.wrap ((n:Int)+1)=((n+1:Nat):Int):=QaF (by omega);have w3:IntKind.i64.wrap ((n:Int)-1)=(n:Int)-1:=Qp (by omega) (by omega);by_cases hk:g.ns[n].k=2
  . have hb:=hg.inf hx hk;have e7:Qbw (g.ns.drop n) n (List.replicate g.is.length 0)=(Qbw (g.ns.drop (n+1)) (n+1) (List.replicate g.is.length 0)).set g.ns[n].i.toNat ((n+1:Nat):Int):=by
     rw[Vy hi,Qbw,Wb hk]; rfl
    rw[e7]at ih;simp -implicitDefEqProofs[h0,h3,h4,(h.app _).o,hi,QaC hi,QaR hi,QaN hi,hk,sl,ro];refine⟨by omega,by omega,by omega,?_⟩;rw[w2,Qar (by simp; omega),w3];refine ih _ _ (by omega) ?_ ?_ ?_
    . simp
    . simp
    . simp
  . have e7:Qbw (g.ns.drop n) n (List.replicate g.is.length 0)=Qbw (g.ns.drop (n+1)) (n+1) (List.replicate g.is.length 0):=by
     rw[Vy hi,Qbw,Wa hk]
    rw[e7]at ih;simp -implicitDefEqProofs[h0,h3,h4,(h.app _).o,hi,QaC hi,QaR hi,QaN hi,hk,sl];refine⟨by omega,?_⟩;rw[w3];refine ih _ _ (by omega) ?_ ?_ ?_
    . simp
    . simp
    . simp
set_option maxRecDepth 10000 in
theorem Qwx (h:Wk H j g a b c) (hg:Gd g) {N:Nat} {K:Wr} {r:AO}
 (hret:(∃ x∈g.ns,x.tyBad g)->∀ env M,env.get 2=i64 10->K .ret env (H++r::M))
 (hexit:(¬ ∃ x∈g.ns,x.tyBad g)->∀ env M,env.get 3=.own H.length 0 g.is.length 1 0->K (.exit 2) env (H++r::M)) :
 ∀ (n i:Nat) (env:Env) (M:Ws),i+n=g.ns.length->(∀ k (h:k<g.ns.length),k<i->¬ g.ns[k].tyBad g)->env.get 0=.ptr (.own j 0 0 0 0) 0->env.get 3=.own H.length 0 g.is.length 1 0 ->
  env.get 47=.slc (nds g.ns) g.ns.length->env.get 48=i64 g.ns.length->env.get 49=i64 i->LI Tryz.prog N Qb Qg6 env (H++r::M) K:=by
 have hn:=hg.n;intro n
 induction n with
 |zero =>
  intro i env M hi hp h0 h3 h47 h48 h49;refine Qc hm Qg6.eq_1 ?_;have e:i=g.ns.length:=by omega
  subst e;simp -implicitDefEqProofs[h0,h3,h48,h49];refine hexit ?_ _ _ (by simp[h3]);rintro⟨x,hx,hb⟩;obtain⟨k,hk,rfl⟩:=VH hx;exact hp k hk hk hb
 |succ n ih =>
  intro i env M hi hp h0 h3 h47 h48 h49;refine Qc hm Qg6.eq_1 ?_;have hlt:i<g.ns.length:=by omega
  have hx:g.ns[i]∈g.ns:=Vf hlt;have w1:IntKind.i64.wrap ((i:Int)+1)=((i+1:Nat):Int):=QaF (by omega);by_cases hk:g.ns[i].k=2
  . have hb:=hg.inf hx hk;have hb':g.ns[i].i.toNat<g.is.length:=by omega
    simp -implicitDefEqProofs[h0,h3,h47,h48,h49,(h.app _).o,hlt,QaC hlt,QaR hlt,QaN hlt,QaL hb',QdG hb',QdV hb',hk,sl];refine⟨by omega,?_⟩;have hbad:(¬g.is[g.ns[i].i.toNat].fst=g.ns[i].p\/¬g.is[g.ns[i].i.toNat].snd=(g.ns[i].nx.length:Int))↔g.ns[i].tyBad g:=by
     unfold Nd.tyBad;rw[Vb hb'];simp only[hk,true_and,ne_eq,Option.some.injEq];rw[<-Prod.eta g.is[g.ns[i].i.toNat],Prod.mk.injEq];constructor
     . rintro(h|h) ⟨h1,h2⟩
       . exact h h1
       . exact h h2
     . intro h;by_cases h1:g.is[g.ns[i].i.toNat].fst=g.ns[i].p
       . exact .inr λh2=>h ⟨h1,h2⟩
       . exact .inl h1
    split
    . rename_i hc;exact hret ⟨_,hx,hbad.1 hc⟩ _ _ (by simp)
    . rename_i hc;rw[w1];refine ih (i+1) _ _ (by omega) ?_ ?_ ?_ ?_ ?_ ?_
      rotate_left
      . simp
      . simp
      . simp
      . simp
      . simp
      intro k hk hki;by_cases e:k=i
      . subst e; exact λhb=>hc (hbad.2 hb)
      . exact hp k hk (by omega)
  . simp -implicitDefEqProofs[h0,h3,h47,h48,h49,(h.app _).o,hlt,QaC hlt,QaR hlt,QaN hlt,hk,sl];rw[w1];refine ih (i+1) _ _ (by omega) ?_ ?_ ?_ ?_ ?_ ?_
    rotate_left
    . simp
    . simp
    . simp
    . simp
    . simp
    intro k hk' hki;by_cases e:k=i
    . subst e; exact λhb=>hk hb.1
    . exact hp k hk' (by omega)
set_option maxRecDepth 10000 in
theorem QuX (h:Wk H j g a b c) (hg:Gd g):Ok Tryz.prog 110 [.ptr (.own j 0 0 0 0) 0] H (.ret (i64 g.setsE)) H:=by
 have hn:=hg.n;have hi:=hg.i;have w1:IntKind.i64.wrap ((g.ns.length:Int)-1)=(g.ns.length:Int)-1:=Qp (by omega) (by omega);refine Ql hm Tryz.func110 c110 (by simp[h.lt]) λhcl => ?_;simp -implicitDefEqProofs[i110,r110,h.o,(h.app _).o,w1];refine⟨by omega,by omega,?_⟩;have e0:[(⟨List.replicate g.is.length (i64 0),3,0,true⟩:AO)]=ro (Qbw (g.ns.drop g.ns.length) g.ns.length (List.replicate g.is.length 0))::[]:=by
  simp[ro,Qbw,Qa]
 rw[e0];refine Qrs h hg (λenv M h0 h3 => ?_) g.ns.length _ _ (Vc _) (by simp) (by simp) (by simp);simp -implicitDefEqProofs[h0,h3,(h.app _).o];have hF:g.firsts.length=g.is.length:=by simp[Gm.firsts]
 refine Qwx h hg (λhb env M h2 => ?_) (λhb env M h3 => ?_) g.ns.length 0 _ _ (by omega) (by omega) (by simp[h0]) (by simp[h3]) (by simp) (by simp) (by simp)
 . simp -implicitDefEqProofs[h2];refine Qi 1 hcl rfl ?_;simp[Gm.setsE,Wb hb]
 . have hI:∀ M,IsI (H++ro g.firsts::M) (.own H.length 0 g.is.length 1 0) g.firsts:=λM=>by
    have:=IsI.own0 H (ro g.firsts::M) 0 0 g.firsts [] 3 (by simp[ro])
    rwa [hF]at this
   simp -implicitDefEqProofs[h3];refine Qh (Qvq (hI M) (by omega) 0) ?_;by_cases h0:0∈g.firsts
   . simp -implicitDefEqProofs[h0];refine Qi 1 hcl rfl ?_;simp[Gm.setsE,Wa hb,h0]
   . simp -implicitDefEqProofs[h0,h3];refine Qh (Qtf (hI M) (by omega)) ?_;by_cases h1:Srt g.firsts
     . simp -implicitDefEqProofs[h1];refine Qi 1 hcl rfl ?_;simp[Gm.setsE,Wa hb,h0,h1]
     . simp -implicitDefEqProofs[h1];refine Qi 1 hcl rfl ?_;simp[Gm.setsE,Wa hb,h0,h1]
end
def Gm.rng (g:Gm):Prop:=((((g.pl<1\/4<g.pl)\/(g.ns.length:Int)<1)\/2000<(g.ns.length:Int))\/200<(g.is.length:Int))
instance (g:Gm):Decidable g.rng:=by unfold Gm.rng; infer_instance
def Qay (g:Gm):List Nd->Int
 |[]=>0
 |x::r=>if x.err g=0 then Qay g r else x.err g
def Gm.w0 (g:Gm):W3:=⟨List.replicate g.ns.length 0,List.replicate g.ns.length 0,List.replicate g.ns.length 0⟩
def Gm.wk (g:Gm):Option Nat×W3:=Q4 g.ns (g.ns.length+1) (-1) 0 0 g.w0
def Gm.err0 (g:Gm):Int:=if g.rng then 2 else if Qay g g.ns≠0 then Qay g g.ns else if g.wk.1≠some g.ns.length then 9 else if 40<Qca g.wk.2.D then 5 else 0
def Gm.wp (g:Gm):SV:=.ptr (.slc [i64 g.pl,.slc (nds g.ns) g.ns.length,.slc (Qu g.is) g.is.length,sl g.wk.2.P,sl g.wk.2.D,sl g.wk.2.L] 0) 0
def Gm.walked (g:Gm):SV:=if g.err0≠0 then .tup [.val (.pointer none),i64 g.err0]else .tup [g.wp,i64 g.setsE]
def Qd (g:Gm):AO:=⟨[i64 g.pl,.slc (nds g.ns) g.ns.length,.slc (Qu g.is) g.is.length],26,0,true⟩
def Qdn (g:Gm) (a b c:SV):AO:=⟨[i64 g.pl,.slc (nds g.ns) g.ns.length,.slc (Qu g.is) g.is.length,a,b,c],139,0,true⟩
abbrev nl:SV:=.val (.slice none 0 0)
theorem Q5 (n:Nat):∀ l:List Nd,SV.underL n (nds l)=true
 |[]=>rfl
 |x::r=>by rw[nds,SV.underL_append,Q5 n r]; simp[Nd.cells,sl]
theorem Q6 (n:Nat):∀ l:List (Int×Int),SV.underL n (Qu l)=true
 |[]=>rfl
 |x::r=>by simp[Qu,Q6 n r]
theorem Qgp {n:Nat} {ks:List Nat} {L:Ws} {d:Nat} {l:Wt} (h:SV.underL n l=true):l.map (SV.fz n ks L (d+1))=l:=by
 rw[SV.underL_iff]at h;conv=>rhs; rw[<-YB l]
 exact Vt λx hx=>QaA (h x hx)
@[simp] theorem fz_nds (n:Nat) (ks:List Nat) (L:Ws) (d:Nat) (l:List Nd):(nds l).map (SV.fz n ks L (d+1))=nds l:=Qgp (Q5 n l)
@[simp] theorem QyY (n:Nat) (ks:List Nat) (L:Ws) (d:Nat) (l:List (Int×Int)):(Qu l).map (SV.fz n ks L (d+1))=Qu l:=Qgp (Q6 n l)
section
variable {H:Ws} {g:Gm}
theorem Qta {M:Ws} {a b c:SV}:Wk (H++Qd g::Qdn g a b c::M) (H.length+1) g a b c:=⟨by simp[Qdn],by simp⟩
set_option maxRecDepth 10000 in
theorem QuO (h1:1<=g.pl) (h4:g.pl<=4) (h5:g.is.length<=200) (hn:g.ns.length<=2000) {N:Nat} {K:Wr}
 (hret:Qay g g.ns≠0->∀ env M,env.get 2=.val (.pointer none)->env.get 3=i64 (Qay g g.ns)->K .ret env (H++Qd g::Qdn g nl nl nl::M))
 (hexit:(∀ x∈g.ns,x.err g=0)->Qay g g.ns=0->∀ env M,env.get 1=.ptr (.own H.length 0 0 0 0) 0->env.get 4=.ptr (.own (H.length+1) 0 0 0 0) 0->K (.exit 0) env (H++Qd g::Qdn g nl nl nl::M)) :
 ∀ (n i:Nat) (env:Env) (M:Ws),i+n=g.ns.length->(∀ k (h:k<g.ns.length),k<i->g.ns[k].err g=0)->Qay g (g.ns.drop i)=Qay g g.ns ->
  env.get 1=.ptr (.own H.length 0 0 0 0) 0->env.get 4=.ptr (.own (H.length+1) 0 0 0 0) 0->env.get 40=.slc (nds g.ns) g.ns.length->env.get 41=i64 g.ns.length->env.get 42=i64 i ->
  LI Tryz.prog N Qb QgQ env (H++Qd g::Qdn g nl nl nl::M) K:=by
 intro n
 induction n with
 |zero =>
  intro i env M hi hp hE h1 h4 h40 h41 h42;refine Qc hm QgQ.eq_1 ?_;have e:i=g.ns.length:=by omega
  subst e;simp -implicitDefEqProofs[h41,h42];rw[Yl]at hE;refine hexit ?_ hE.symm _ _ (by simp[h1]) (by simp[h4]);intro x hx;obtain⟨k,hk,rfl⟩:=VH hx;exact hp k hk hk
 |succ n ih =>
  intro i env M hi hp hE e1 e4 h40 h41 h42;refine Qc hm QgQ.eq_1 ?_;have hlt:i<g.ns.length:=by omega
  have w1:IntKind.i64.wrap ((i:Int)+1)=((i+1:Nat):Int):=QaF (by omega);rw[Vy hlt,Qay]at hE;simp -implicitDefEqProofs[e1,e4,h40,h41,h42,hlt,QaC hlt,QaR hlt,QaN hlt,sl];refine Qh (Qr7 (x:=g.ns[i]) (Qta (g:=g) (a:=nl) (b:=nl) (c:=nl)) h1 h4 h5) ?_;by_cases hc:g.ns[i].err g=0
  . rw[Wb hc]at hE;simp -implicitDefEqProofs[hc,h42];rw[w1];refine ih (i+1) _ _ (by omega) ?_ hE ?_ ?_ ?_ ?_ ?_
    rotate_left
    . simp[e1]
    . simp[e4]
    . simp[h40]
    . simp[h41]
    . simp
    intro k hk hki;by_cases e:k=i
    . subst e; exact hc
    . exact hp k hk (by omega)
  . rw[Wa hc]at hE;simp -implicitDefEqProofs[hc];refine hret ?_ _ _ (by simp) (by simp[hE]);rw[<-hE]; exact hc
theorem Qc7 {x:Nd} (h:x.err g=0):x.nx.length<=60:=by
 unfold Nd.err at h;split at h
 . omega
 . split at h
   . unfold Nd.chance at h;split at h<;>omega
   . split at h
     . unfold Nd.move at h;split at h<;>omega
     . unfold Nd.end at h;split at h<;>omega
theorem QvN {M:Ws} {A B x y z:AO} {s:W3} :
 upd (H++A::B::(M++[x,y,z])) (H.length+(M.length+1+1)) (H.length+(M.length+1+1+1)) (H.length+(M.length+1+1+1+1)) s=H++A::B::(M++[rr s.P,rr s.D,rr s.L]):=by
 simp[upd]
set_option maxRecDepth 10000 in
theorem ok83:Ok Tryz.prog 83 [.agg g.cells] H (.ret g.walked) H:=by
 refine Ql hm Tryz.func83 c83 (by simp[Gm.cells]) λhcl => ?_;simp -implicitDefEqProofs[i83,r83,Gm.cells];have hR:g.rng=(((((g.pl<1\/4<g.pl)\/(g.ns.length:Int)<1)\/2000<(g.ns.length:Int))\/200<(g.is.length:Int))):=rfl;split
 . rename_i hc;refine Qi 2 hcl rfl ?_;simp[Gm.walked,Gm.err0,hR,hc]
 . rename_i hc;refine⟨rfl,?_⟩;have g1:1<=g.pl:=by omega
   have g4:g.pl<=4:=by omega
   have gi:g.is.length<=200:=by omega
   have gn:g.ns.length<=2000:=by omega
   have gn1:1<=g.ns.length:=by omega
   refine QuO (g:=g) g1 g4 gi gn (λhE env M e2 e3 => ?_) (λhE hE' env M e1 e4 => ?_) g.ns.length 0 _ [] (by omega) (by omega) (by simp) (by simp) (by simp) (by simp) (by simp) (by simp)
   . simp -implicitDefEqProofs[e2,e3];refine Qi 2 hcl rfl ?_;simp[Gm.walked,Gm.err0,hR,hc,hE]
   . have hG:Gd g:=⟨g1,g4,gn1,gn,gi,hE⟩;simp -implicitDefEqProofs[e1,e4,Qd,Qdn];refine⟨by omega,by omega,by omega,by omega,by omega,by omega,?_⟩;have ez:(⟨List.replicate g.ns.length (i64 0),3,1,true⟩:AO)=rr (List.replicate g.ns.length 0):=by simp[rr,Qa]
     rw[ez];generalize hHx:H++(⟨[i64 g.pl,SV.slc (nds g.ns) g.ns.length,SV.slc (Qu g.is) g.is.length],26,0,true⟩:AO)::(⟨[i64 g.pl,SV.slc (nds g.ns) g.ns.length,SV.slc (Qu g.is) g.is.length,
      SV.own (H.length+(M.length+1+1)) 0 g.ns.length 1 1,SV.own (H.length+(M.length+1+1+1)) 0 g.ns.length 1 1,SV.own (H.length+(M.length+1+1+1+1)) 0 g.ns.length 1 1],139,0,true⟩:AO) ::
       (M++[rr (List.replicate g.ns.length 0),rr (List.replicate g.ns.length 0),rr (List.replicate g.ns.length 0)])=Hx
     have hup:∀ s,upd Hx (H.length+(M.length+1+1)) (H.length+(M.length+1+1+1)) (H.length+(M.length+1+1+1+1)) s =
      H++Qd g::Qdn g (.own (H.length+(M.length+1+1)) 0 g.ns.length 1 1) (.own (H.length+(M.length+1+1+1)) 0 g.ns.length 1 1) (.own (H.length+(M.length+1+1+1+1)) 0 g.ns.length 1 1)::(M++[rr s.P,rr s.D,rr s.L]) :=
      λs=>by rw[<-hHx]; exact QvN
     have h0:upd Hx (H.length+(M.length+1+1)) (H.length+(M.length+1+1+1)) (H.length+(M.length+1+1+1+1)) g.w0=Hx:=by rw[hup,<- hHx]; rfl
     have hWh:Wh Hx (H.length+1) g (H.length+(M.length+1+1)) (H.length+(M.length+1+1+1)) (H.length+(M.length+1+1+1+1)):=by
      refine⟨⟨by rw[<-hHx]; simp,by rw[<-hHx]; simp⟩,⟨by omega,by omega,by rw[<-hHx]; simp⟩,by omega,by omega,by omega,gn,λx hx => ?_⟩;have:=Qc7 (hE x hx); omega
     have ok:=Qwj hWh (g.ns.length+1) (-1) 0 0 g.w0 (by omega) (by omega) (by omega) (by omega) ⟨by simp[Gm.w0],by simp[Gm.w0],by simp[Gm.w0]⟩;have hwok:=Qdk (ns:=g.ns) (g.ns.length+1) (-1) 0 0 g.w0 ⟨by simp[Gm.w0],by simp[Gm.w0],by simp[Gm.w0]⟩;rw[h0]at ok;refine Qh ok ?_;have hW:Q4 g.ns (g.ns.length+1) (-1) 0 0 g.w0=g.wk:=rfl;rw[hW]at hwok ⊢;have hwp:g.walked=if(if g.wk.1≠some g.ns.length then(9:Int)else if 40<Qca g.wk.2.D then 5 else 0)≠0 then .tup [.val (.pointer none),i64 (if g.wk.1≠some g.ns.length then(9:Int)else if 40<Qca g.wk.2.D then 5 else 0)]else .tup [g.wp,i64 g.setsE]:=by
      unfold Gm.walked Gm.err0;rw[Wa (show ¬ g.rng by rw[hR]; exact hc),Wa (show ¬ Qay g g.ns≠0 by simpa using hE')]
     cases hk:g.wk.1 with
     |none =>
      rw[hk]at hwp;simp -implicitDefEqProofs[Qdz];rw[hup];refine Qi 2 hcl rfl ?_;rw[hwp]; simp
     |some r =>
      rw[hk]at hwp hwok;have hr:=hwok.2 r rfl;by_cases hrn:r=g.ns.length
      . subst hrn;simp -implicitDefEqProofs[Qdz,nds,e1,e4,hWh.cells];have hI:IsI (upd Hx (H.length+(M.length+1+1)) (H.length+(M.length+1+1+1)) (H.length+(M.length+1+1+1+1)) g.wk.2) (.own (H.length+(M.length+1+1+1)) 0 g.ns.length 1 1) g.wk.2.D:=by
         rw[hup];have:=IsI.own0 H (Qd g::Qdn g (.own (H.length+(M.length+1+1)) 0 g.ns.length 1 1) (.own (H.length+(M.length+1+1+1)) 0 g.ns.length 1 1) (.own (H.length+(M.length+1+1+1+1)) 0 g.ns.length 1 1)::(M++[rr g.wk.2.P,rr g.wk.2.D,rr g.wk.2.L])) (M.length+1+1+1) 1 g.wk.2.D [] 3 (by simp[rr])
         rwa [hwok.1.2.1]at this
        refine Qh (QpX hI (by rw[hwok.1.2.1]; omega) (by rw[hwok.1.2.1]; omega)) ?_;by_cases hm40:40<Qca g.wk.2.D
        . simp -implicitDefEqProofs[hm40];rw[hup];refine Qi 2 hcl rfl ?_;rw[hwp]; simp[hm40]
        . simp -implicitDefEqProofs[hm40,e1,e4];have hWk:Wk (upd Hx (H.length+(M.length+1+1)) (H.length+(M.length+1+1+1)) (H.length+(M.length+1+1+1+1)) g.wk.2) (H.length+1) g _ _ _:=⟨hWh.cells _,by rw[QgU]; exact hWh.w.lt⟩;refine Qh (QuX hWk hG) ?_;simp -implicitDefEqProofs;rw[hup];refine Qi 4 hcl rfl ?_;rw[hwp];have k1:=hwok.1.1;have k2:=hwok.1.2.1;have k3:=hwok.1.2.2;simp[hm40,Qd,Qdn,rr,Gm.wp,sl,k1,k2,k3]
      . simp -implicitDefEqProofs[Qdz,show ¬ g.ns.length-r=0 by omega,show 0<g.ns.length-r by omega];rw[hup];refine Qi 2 hcl rfl ?_;rw[hwp]; simp[hrn]
end
def Qb3 (w:Nat->Int->Option Nat×Int):List Int->Nat->Int->Option Nat×Int
 |[],r,m=>(some r,m)
 |c::cs,r,m=>if c=r then(match w r m with|(none,m)=>(none,m)|(some r,m)=>Qb3 w cs r m)else(none,m)
def QaW (ns:List Nd):Nat->Int->Nat->Int->Option Nat×Int
 |0,_,_,m=>(none,m)
 |f+1,dep,k,m =>
  match ns[k]? with
  |none=>(none,m)
  |some x=>Qb3 (QaW ns f (dep+1)) x.nx (k+1) (max m dep)
theorem QnP {n:Nat} {w:Nat->Int->Option Nat×Int} (hw:∀ r m r',(w r m).1=some r'->r<r'/\r'<=n) :
 ∀ (l:List Int) (r:Nat) (m:Int),r<=n->∀ r',(Qb3 w l r m).1=some r'->r<=r'/\r'<=n
 |[],r,m,hn=>λr' h=>by simp[Qb3]at h; omega
 |c::cs,r,m,hn=>by
  unfold Qb3;by_cases hc:c=r
  . rw[Wb hc];have h:=hw r m
    cases hh:w r m with
    |mk o m1 =>
     rw[hh]at h
     cases o with
     |none=>exact λr' h'=>by simp at h'
     |some r1 =>
      have h1:=h r1 rfl;have h2:=QnP hw cs r1 m1 h1.2;exact λr' h'=>by have:=h2 r' h'; omega
  . rw[Wa hc];exact λr' h=>by simp at h
theorem Qkw {ns:List Nd}:∀ (f:Nat) (dep:Int) (k:Nat) (m:Int) (r:Nat),(QaW ns f dep k m).1=some r->k<r/\r<=ns.length
 |0,dep,k,m=>λr h=>by simp[QaW]at h
 |f+1,dep,k,m=>by
  unfold QaW
  cases hk:ns[k]? with
  |none=>exact λr h=>by simp at h
  |some x =>
   have hlt:=Qg hk;intro r h;have:=QnP (n:=ns.length) (w:=QaW ns f (dep+1)) (λr m r' h=>Qkw f (dep+1) r m r' h) x.nx (k+1) (max m dep) (by omega) r h;omega
def upq (H:Ws) (q:Nat) (m:Int):Ws:=H.set q ⟨[i64 m],3,0,true⟩
def Qdh:Option Nat->Int
 |none => -1
 |some r=>r
section
variable {H L:Ws} {g:Gm} {q j:Nat} {m m':Int}
theorem Qdy:(upq H q m).length=H.length:=by simp[upq]
theorem QpS (h:q<H.length):upq (H++L) q m=upq H q m++L:=by
 unfold upq; rw[Yj _ _ h]
theorem Qni (h:q<H.length):(upq H q m)[q]? = some ⟨[i64 m],3,0,true⟩:=by unfold upq; rw[Vg h]
theorem QsG (h:q<H.length):Qf (upq H q m) q 0=[i64 m]:=Qak (o:=⟨[i64 m],3,0,true⟩) (Qni h) rfl
theorem Qof (h:q<H.length):Qf (upq H q m++L) q 0=[i64 m]:=by rw[Qeg L (by rw[Qdy]; exact h),QsG h]
theorem Qwa (h:q<H.length) (f:AO->AO) (hf:f ⟨[i64 m],3,0,true⟩=⟨[i64 m'],3,0,true⟩):Ab.setObj (upq H q m++L) q f=upq H q m'++L:=by
 rw[QY (o:=⟨[i64 m],3,0,true⟩) (by rw[Ve (by rw[Qdy]; exact h)]; exact Qni h),hf];unfold upq;rw[Yj _ _ (by simpa using h),Yk]
theorem Qpg (h:closed (upq H q m)):closed (upq H q m'):=by
 intro i o ho s hs;by_cases e:i=q
 . subst e;unfold upq at ho;rw[Y9]at ho;simp only[We]at ho;split at ho
   . cases ho
     simp only[Z6]at hs;subst hs; rfl
   . cases ho
 . unfold upq at ho;rw[Vd (λh=>e h.symm)]at ho;have:=h i o (by unfold upq; rw[Vd (λh=>e h.symm)]; exact ho) s hs;simpa[Qdy]using this
theorem Qds {l:List Nd} {k t:Nat} (h:k<l.length) (ht:t<6):(nds l)[k*6+t]? = l[k].cells[t]? := by
 rw[<-Vs,VB,Qlx h,Ve (by simpa[Nd.cells]using ht)]
theorem Qf9 {l:List Nd} {k:Nat} (h:k<l.length):(nds l)[k*6+3]? = some (.slc (Qa l[k].nx) l[k].nx.length):=by rw[Qds h (by omega)]; rfl
set_option maxRecDepth 10000 in
theorem Qvo (hq:q<H.length) {x:Nd} {dep:Int} {k:Nat} {w:Nat->Int->Option Nat×Int} {R:Option Nat×Int} (hd0:0<=dep) (hd1:dep<=k) (hk:k<g.ns.length) (hx:x=g.ns[k]) (hn:g.ns.length<=2000) (hnx:x.nx.length<4611686018427387904)
 (hok:∀ r m,k+1<=r->r<=g.ns.length->Ok Tryz.prog 65 [.agg g.cells,i64 r,i64 (dep+1),.ptr (.own q 0 0 0 0) 0] (upq H q m++[Qd g]) (.ret (i64 (Qdh (w r m).1))) (upq H q (w r m).2++[Qd g]))
 (hw:∀ r m r',(w r m).1=some r'->r<r'/\r'<=g.ns.length)
 {N:Nat} {K:Wr}
 (hret:R.1=none->∀ env,env.get 8=i64 (-1)->K .ret env (upq H q R.2++[Qd g]))
 (hexit:∀ r',R.1=some r'->∀ env,env.get 9=i64 r'->K (.exit 0) env (upq H q R.2++[Qd g])) :
 ∀ (n i r:Nat) (m:Int) (env:Env),i+n=x.nx.length->k+1<=r->r<=g.ns.length->Qb3 w (x.nx.drop i) r m=R ->
  env.get 1=i64 k->env.get 2=i64 dep->env.get 3=.ptr (.own q 0 0 0 0) 0->env.get 4=.ptr (.own H.length 0 0 0 0) 0->env.get 9=i64 r->env.get 10=i64 i ->
  LI Tryz.prog N Qb QgT env (upq H q m++[Qd g]) K:=by
 subst hx;have hgb:∀ m,Qf (upq H q m++[Qd g]) H.length 0=[i64 g.pl,.slc (nds g.ns) g.ns.length,.slc (Qu g.is) g.is.length]:=λm=>by
  have:=Qf8 (upq H q m) [Qd g] 0;rw[Qdy]at this;rw[this]; rfl
 intro n
 induction n with
 |zero =>
  intro i r m env hi hr hrn hR h1 h2 h3 h4 h9 h10;refine Qc hm QgT.eq_1 ?_;have e:i=g.ns[k].nx.length:=by omega
  subst e;simp -implicitDefEqProofs[h1,h4,h9,h10,hgb,hk,Qf9 hk,Qam];refine⟨by omega,?_⟩;rw[Yl]at hR;subst hR;exact hexit r rfl _ (by simp)
 |succ n ih =>
  intro i r m env hi hr hrn hR h1 h2 h3 h4 h9 h10;refine Qc hm QgT.eq_1 ?_;have hlt:i<g.ns[k].nx.length:=by omega
  have w2:IntKind.i64.wrap (dep+1)=dep+1:=Qp (by omega) (by omega);rw[Vy hlt]at hR;unfold Qb3 at hR;by_cases hc:g.ns[k].nx[i]=r
  . rw[Wb hc]at hR;simp -implicitDefEqProofs[h1,h2,h3,h4,h9,h10,hlt,hgb,hk,Qf9 hk,Qam,hc,w2];refine⟨by omega,by omega,Qh (hok r m hr hrn) ?_⟩;have hw1:=hw r m
    cases hh:w r m with
    |mk o m1 =>
     rw[hh]at hw1 hR
     cases o with
     |none =>
      subst hR;simp -implicitDefEqProofs[Qdh];exact hret rfl _ (by simp)
     |some r1 =>
      have h1':=hw1 r1 rfl;simp -implicitDefEqProofs[Qdh,h10];refine ih (i+1) r1 m1 _ (by omega) (by omega) h1'.2 hR ?_ ?_ ?_ ?_ ?_ ?_
      . simp[h1]
      . simp[h2]
      . simp[h3]
      . simp[h4]
      . simp
      . simp[Qw (show i<9223372036854775807 by omega)]
  . rw[Wa hc]at hR;subst hR;simp -implicitDefEqProofs[h1,h2,h3,h4,h9,h10,hlt,hgb,hk,Qf9 hk,Qam,hc];refine⟨by omega,by omega,?_⟩;exact hret rfl _ (by simp)
set_option maxRecDepth 10000 in
theorem ok65 (hn:g.ns.length<=2000) (hnx:∀ x∈g.ns,x.nx.length<4611686018427387904):∀ (f:Nat) (H:Ws) (dep:Int) (k:Nat) (m:Int),q<H.length->k<=g.ns.length->g.ns.length+1<=k+f->0<=dep->dep<=k ->
 Ok Tryz.prog 65 [.agg g.cells,i64 k,i64 dep,.ptr (.own q 0 0 0 0) 0] (upq H q m) (.ret (i64 (Qdh (QaW g.ns f dep k m).1))) (upq H q (QaW g.ns f dep k m).2):=by
 intro f
 induction f with
 |zero=>intro H dep k m hq h1 h2; omega
 |succ f ih =>
  intro H dep k m hq hk hf hd0 hd1;refine Ql hm Tryz.func65 c65 (by simp[Gm.cells]) λhcl => ?_;have hw:∀ m,Qf (upq H q m++[Qd g]) q 0=[i64 m]:=λm=>Qof hq;by_cases hk':k=g.ns.length
  . subst hk';have e:QaW g.ns (f+1) dep g.ns.length m=(none,m):=by simp[QaW]
    rw[e];simp -implicitDefEqProofs[i65,r65,Gm.cells];refine Qi 1 hcl rfl ?_;simp[Qdh]
  . have hlt:k<g.ns.length:=by omega
    have w1:IntKind.i64.wrap ((k:Int)+1)=((k+1:Nat):Int):=QaF (by omega);simp -implicitDefEqProofs[i65,r65,Gm.cells,hlt,Qof hq,show ¬ g.ns.length<=k by omega,w1];have hget:g.ns[k]? = some g.ns[k]:=Vb hlt;have e:QaW g.ns (f+1) dep k m=Qb3 (QaW g.ns f (dep+1)) g.ns[k].nx (k+1) (max m dep):=by rw[QaW,hget]
    rw[e,Qwa (m':=max m dep) hq _ (by rfl)];refine Qvo (q:=q) (g:=g) hq (x:=g.ns[k]) (dep:=dep) (k:=k) (w:=QaW g.ns f (dep+1)) (R:=Qb3 (QaW g.ns f (dep+1)) g.ns[k].nx (k+1) (max m dep)) hd0 hd1 hlt rfl hn (hnx _ (Vf hlt))
     (λr m hr hrn => ?_) (λr m r' h=>Qkw f (dep+1) r m r' h) (λhR env h8 => ?_) (λr' hR env h9 => ?_)
     g.ns[k].nx.length 0 (k+1) (max m dep) _ (by omega) (by omega) (by omega) (by simp) (by simp) (by simp) (by simp) (by simp[Qdy]) (by simp) (by simp)
    . rw[<-QpS hq,<- QpS hq];exact ih (H++[Qd g]) (dep+1) r m (by simp; omega) hrn (by omega) (by omega) (by omega)
    . simp -implicitDefEqProofs[h8];rw[hR];exact Qi 1 (Qpg hcl) (by rw[Qdy,Qdy]) (by simp[Qdh])
    . simp -implicitDefEqProofs[h9];rw[hR];exact Qi 1 (Qpg hcl) (by rw[Qdy,Qdy]) (by simp[Qdh])
end
def slN (l:List Int):SV:=if l=[]then nl else sl l
structure Fam (b:Nat) (L:Ws) (A:List (List Int)) (cs:Wt):Prop where
 len:cs.length=A.length
 at':∀ s (h:s<A.length),(A[s]=[]/\cs[s]? = some nl)\/(A[s]≠[]/\∃ p,cs[s]? = some (.own (b+p) 0 A[s].length 1 A[s].length)/\L[p]? = some ⟨Qa A[s],3,A[s].length,true⟩)
 inj:∀ (s t p m n v w:Nat),s≠t->cs[s]? = some (.own (b+p) 0 m 1 v)->cs[t]? = some (.own (b+p) 0 n 1 w)->False
section
variable {b:Nat} {L L':Ws} {A:List (List Int)} {cs:Wt} {s:Nat} {i:Int}
theorem Fam.zero (b:Nat) (L:Ws) (n:Nat):Fam b L (List.replicate n []) (List.replicate n nl):=by
 refine⟨by simp,λs h=>.inl ?_,λs t p m n v w hst h1 h2 => ?_⟩
 . simp at h; simp[h]
 . rw[Z7]at h1;split at h1<;>cases h1
theorem Fam.mono (h:Fam b L A cs) (L':Ws):Fam b (L++L') A cs:=by
 refine⟨h.len,λs hs => ?_,h.inj⟩;rcases h.at' s hs with h1|⟨h1,p,h2,h3⟩
 . exact .inl h1
 . exact .inr ⟨h1,p,h2,by rw[Ve (Qg h3)]; exact h3⟩
theorem Fam.new (h:Fam b L A cs) (hs:s<A.length) (he:A[s]=[]):Fam b (L++[⟨Qa [i],3,1,true⟩]) (A.set s [i]) (cs.set s (.own (b+L.length) 0 1 1 1)):=by
 have hl:=h.len;have hnew:∀ t (n w:Nat),t<A.length->cs[t]? = some (.own (b+L.length) 0 n 1 w)->False:=by
  intro t n w ht hc;rcases h.at' t ht with ⟨_,h1⟩|⟨_,p,h2,h3⟩
  . rw[h1]at hc; cases hc
  . rw[h2]at hc;have hp:=Qg h3;simp only[Option.some.injEq,SV.own.injEq]at hc;omega
 refine⟨by simp[hl],λt ht => ?_,λt u p m n v w htu h1 h2 => ?_⟩
 . by_cases e:s=t
   . subst e;refine .inr ⟨by simp,L.length,?_,by simp⟩;rw[Vg (by omega)]; simp
   . have ht':t<A.length:=by simpa using ht
     rw[Vd e];simp only[ZO e];rcases h.at' t ht' with h1|⟨h1,p,h2,h3⟩
     . exact .inl h1
     . exact .inr ⟨h1,p,h2,by rw[Ve (Qg h3)]; exact h3⟩
 . by_cases e:s=t
   . subst e;rw[Vg (by omega)]at h1;rw[Vd htu]at h2;have hu:u<A.length:=by have:=Qg h2; omega
     simp only[Option.some.injEq,SV.own.injEq]at h1;have:p=L.length:=by omega
     subst this;exact hnew u _ _ hu h2
   . rw[Vd e]at h1;by_cases e':s=u
     . subst e';rw[Vg (by omega)]at h2;have ht:t<A.length:=by have:=Qg h1; omega
       simp only[Option.some.injEq,SV.own.injEq]at h2;have:p=L.length:=by omega
       subst this;exact hnew t _ _ ht h1
     . rw[Vd e']at h2;exact h.inj t u p m n v w htu h1 h2
theorem Fam.grow (h:Fam b L A cs) (hs:s<A.length) {p:Nat} (hc:cs[s]? = some (.own (b+p) 0 A[s].length 1 A[s].length)) (hp:L[p]? = some ⟨Qa A[s],3,A[s].length,true⟩) :
 Fam b (L.set p ⟨Qa (A[s]++[i]),3,A[s].length+1,true⟩) (A.set s (A[s]++[i])) (cs.set s (.own (b+p) 0 (A[s].length+1) 1 (A[s].length+1))):=by
 have hl:=h.len;have hpl:=Qg hp;refine⟨by simp[hl],λt ht => ?_,λt u q m n v w htu h1 h2 => ?_⟩
 . by_cases e:s=t
   . subst e;refine .inr ⟨by simp,p,?_,?_⟩
     . rw[Vg (by omega)]; simp
     . rw[Vg hpl]; simp
   . have ht':t<A.length:=by simpa using ht
     rw[Vd e];simp only[ZO e];rcases h.at' t ht' with h1|⟨h1,q,h2,h3⟩
     . exact .inl h1
     . refine .inr ⟨h1,q,h2,?_⟩;rw[Vd (λhqp => ?_)]; exact h3;subst hqp;exact h.inj s t p _ _ _ _ e hc h2
 . by_cases e:s=t
   . subst e;rw[Vg (by omega)]at h1;rw[Vd htu]at h2;simp only[Option.some.injEq,SV.own.injEq]at h1;have:q=p:=by omega
     subst this;exact h.inj s u q _ _ _ _ htu hc h2
   . rw[Vd e]at h1;by_cases e':s=u
     . subst e';rw[Vg (by omega)]at h2;simp only[Option.some.injEq,SV.own.injEq]at h2;have:q=p:=by omega
       subst this;exact h.inj s t q _ _ _ _ (λh=>e h) hc h1
     . rw[Vd e']at h2;exact h.inj t u q m n v w htu h1 h2
theorem Fam.fz (h:Fam b L A cs) {n k d:Nat} {F:Ws} (hb:b=n+k) (hF:∀ p,F[k+p]? = L[p]?):cs.map (SV.fz n [] F (d+2))=A.map slN:=by
 apply Vv;intro s;rw[Vo,Vo];by_cases hs:s<A.length
 . rw[Vb hs];rcases h.at' s hs with ⟨h1,h2⟩|⟨h1,p,h2,h3⟩
   . rw[h2]; simp[slN,h1,nl]
   . rw[h2];have e:b+p=n+(k+p):=by omega
     simp only[VU,slN,Wa h1,sl,e,Qf1,hF,h3,Qah];simp
 . have h1:=h.len;rw[Vl (by omega),Vl (by omega)];rfl
end
def QcT:List Nd->Nat->List (List Int)->List (List Int)
 |[],_,A=>A
 |x::r,o,A=>QcT r (o+1) (if x.k=2 then A.set x.i.toNat (A.getD x.i.toNat []++[(o:Int)])else A)
def Gm.sets (g:Gm):List (List Int):=QcT g.ns 0 (List.replicate g.is.length [])
section
variable {H:Ws} {g:Gm}
set_option maxRecDepth 10000 in
theorem Qql (hg:Gd g) {N:Nat} {K:Wr}
 (hexit:∀ env M cs,Fam (H.length+2) M g.sets cs->env.get 3=.own (H.length+1) 0 g.is.length 1 0->K (.exit 0) env (H++Qd g::⟨cs,45,0,true⟩::M)) :
 ∀ (n i:Nat) (env:Env) (M:Ws) (A:List (List Int)) (cs:Wt),i+n=g.ns.length->A.length=g.is.length->(∀ s (h:s<A.length),A[s].length<=i)->Fam (H.length+2) M A cs->QcT (g.ns.drop i) i A=g.sets ->
  env.get 1=.ptr (.own H.length 0 0 0 0) 0->env.get 3=.own (H.length+1) 0 g.is.length 1 0->env.get 4=i64 i ->
  LI Tryz.prog N Qb Qio env (H++Qd g::⟨cs,45,0,true⟩::M) K:=by
 have hgn:=hg.n;intro n
 induction n with
 |zero =>
  intro i env M A cs hi hA hAl hF hS h1 h3 h4;refine Qc hm Qio.eq_1 ?_;have e:i=g.ns.length:=by omega
  subst e;rw[Yl]at hS;subst hS;simp -implicitDefEqProofs[h1,h3,h4,Qd];exact hexit _ _ _ hF (by simp[h3])
 |succ n ih =>
  intro i env M A cs hi hA hAl hF hS h1 h3 h4;refine Qc hm Qio.eq_1 ?_;have hlt:i<g.ns.length:=by omega
  have hx:g.ns[i]∈g.ns:=Vf hlt;have w1:IntKind.i64.wrap ((i:Int)+1)=((i+1:Nat):Int):=QaF (by omega);rw[Vy hlt,QcT]at hS;by_cases hk:g.ns[i].k=2
  . have hb:=hg.inf hx hk;have hs:g.ns[i].i.toNat<A.length:=by omega
    have hcl:=hF.len;rw[Wb hk,Vp,Vb hs,VT]at hS;have eset:∀ v:SV,List.take g.ns[i].i.toNat cs++v::List.drop (g.ns[i].i.toNat+1) cs=cs.set g.ns[i].i.toNat v:=λv=>by
     rw[YA,Wb (by omega)]
    have hAl':∀ v:List Int,v.length<=i+1->∀ s (h:s<(A.set g.ns[i].i.toNat v).length),(A.set g.ns[i].i.toNat v)[s].length<=i+1:=λv hv s h=>by
     by_cases e:g.ns[i].i.toNat=s
     . subst e; simpa using hv
     . rw[ZO e];have:=hAl s (by simpa using h); omega
    rcases hF.at' _ hs with ⟨k1,k2⟩|⟨k1,p,k2,k3⟩
    . simp -implicitDefEqProofs[h1,h3,h4,Qd,hlt,QaC hlt,QaR hlt,QaN hlt,hk,sl,k2];refine⟨by omega,by omega,by omega,by omega,?_⟩;have hF':∀ x y:AO,Fam (H.length+2) (M++[x,y,⟨[i64 i],3,1,true⟩]) (A.set g.ns[i].i.toNat [(i:Int)]) (cs.set g.ns[i].i.toNat (.own (H.length+(M.length+4)) 0 1 1 1)):=λx y=>by
       have:=(hF.mono [x,y]).new (i:=(i:Int)) hs k1;rw[show H.length+2+(M++[x,y]).length=H.length+(M.length+4)by simp; omega]at this;simpa[Qa]using this
      rw[k1,VW]at hS;rw[eset,w1];refine ih (i+1) _ _ _ _ (by omega) (by simp[hA]) (hAl' _ (by simp)) (hF' _ _) hS ?_ ?_ ?_
      . simp
      . simp
      . simp
    . rw[show H.length+2+p=H.length+(p+1+1)by omega]at k2;have hp:=Qg k3;have hle:=hAl _ hs;simp -implicitDefEqProofs[h1,h3,h4,Qd,hlt,QaC hlt,QaR hlt,QaN hlt,hk,sl,k2,QfB k3,QgV,Qhh,QhH k3];refine⟨by omega,by omega,by omega,by omega,by omega,by omega,?_⟩;have hF':∀ x y:AO,Fam (H.length+2) (M.set p ⟨Qa A[g.ns[i].i.toNat]++[i64 i],3,A[g.ns[i].i.toNat].length+1,true⟩++[x,y]) (A.set g.ns[i].i.toNat (A[g.ns[i].i.toNat]++[(i:Int)]))
       (cs.set g.ns[i].i.toNat (.own (H.length+(p+1+1)) 0 (A[g.ns[i].i.toNat].length+1) 1 (A[g.ns[i].i.toNat].length+1))):=λx y=>by
       rw[show H.length+(p+1+1)=H.length+2+p by omega]at k2 ⊢;have:=(hF.grow (i:=(i:Int)) hs k2 k3).mono [x,y];simpa[Qa]using this
      rw[eset,w1];refine ih (i+1) _ _ _ _ (by omega) (by simp[hA]) (hAl' _ (by simp; omega)) (hF' _ _) hS ?_ ?_ ?_
      . simp
      . simp
      . simp
  . simp -implicitDefEqProofs[h1,h3,h4,Qd,hlt,QaC hlt,QaR hlt,QaN hlt,hk,sl];rw[Wa hk]at hS;rw[w1];refine ih (i+1) _ _ A cs (by omega) hA (λs h=>by have:=hAl s h; omega) (hF.mono _) hS ?_ ?_ ?_
    . simp
    . simp
    . simp
theorem Qmy:∀ (l:List Nd) (o:Nat) (A:List (List Int)),(QcT l o A).length=A.length
 |[],o,A=>rfl
 |x::r,o,A=>by rw[QcT,Qmy r]; split<;>simp
theorem QaT:g.sets.length=g.is.length:=by simp[Gm.sets,Qmy]
set_option maxRecDepth 10000 in
theorem QlT (hg:Gd g):Ok Tryz.prog 66 [.agg g.cells] H (.ret (.slc (g.sets.map slN) g.is.length)) H:=by
 have hn:=hg.n;have hi:=hg.i;refine Ql hm Tryz.func66 c66 (by simp) λhcl => ?_;simp -implicitDefEqProofs[i66,r66,Gm.cells];refine⟨by omega,by omega,?_⟩;refine Qql (g:=g) hg (λenv M cs hF h3 => ?_) g.ns.length 0 _ [] (List.replicate g.is.length []) (List.replicate g.is.length nl) (by omega) (by simp) (by simp) (Fam.zero _ _ _) (by simp[Gm.sets]) (by simp) (by simp) (by simp);simp -implicitDefEqProofs[h3];refine Qi 4 hcl rfl ?_;have hl:=hF.len;rw[QaT]at hl;have:=hF.fz (n:=H.length) (k:=2) (d:=1) (F:=Qd g::(⟨cs,45,0,true⟩:AO)::M) rfl (λp=>by rw[show 2+p=p+1+1 by omega]; simp);simp[hl,this];exact VA (by simp[QaT])
end
def Gm.wr (g:Gm):Option Nat×Int:=QaW g.ns (g.ns.length+1) 0 0 0
def QdF (A:List (List Int)):Prop:=∀ k,k<A.length-1->¬ (A.getD (k+1) []).getD 0 0<(A.getD k []).getD 0 0
instance (A:List (List Int)):Decidable (QdF A):=by unfold QdF; infer_instance
def Gm.setsR (g:Gm):Int:=if ∃ x∈g.ns,x.tyBad g then 10 else if []∈g.sets then 18 else if QdF g.sets then 0 else 9
def Gm.formR (g:Gm):Int:=if g.rng then 2 else if Qay g g.ns≠0 then Qay g g.ns else if g.wr.1≠some g.ns.length then 9 else if 40<g.wr.2 then 5 else g.setsR
theorem QqZ {l:List (Int×Int)} {k:Nat} (h:k<l.length):(Qu l)[k*2+1]? = some (i64 l[k].2):=by
 rw[<-Vs,QaL h]; rfl
theorem Qge {l:List (Int×Int)} {k:Nat} (h:k<l.length):(Qu l)[k*2]? = some (i64 l[k].1):=by
 rw[show k*2=k*2+0 by omega,<- Vs,QaL h]; rfl
theorem QpH {g:Gm} {x:Nd} (hk:x.k=2) (hb:x.i.toNat<g.is.length):(¬g.is[x.i.toNat].fst=x.p\/¬g.is[x.i.toNat].snd=(x.nx.length:Int))↔x.tyBad g:=by
 unfold Nd.tyBad;rw[Vb hb];simp only[hk,true_and,ne_eq,Option.some.injEq];rw[<-Prod.eta g.is[x.i.toNat],Prod.mk.injEq];constructor
 . rintro(h|h) ⟨h1,h2⟩
   . exact h h1
   . exact h h2
 . intro h;by_cases h1:g.is[x.i.toNat].fst=x.p
   . exact .inr λh2=>h ⟨h1,h2⟩
   . exact .inl h1
section
variable {H:Ws} {g:Gm}
set_option maxRecDepth 10000 in
theorem Qu2 (g1:1<=g.pl) (g4:g.pl<=4) (g5:g.is.length<=200) (hn:g.ns.length<=2000) {N:Nat} {K:Wr}
 (hret:Qay g g.ns≠0->∀ env,env.get 2=i64 (Qay g g.ns)->K .ret env (H++[Qd g]))
 (hexit:(∀ x∈g.ns,x.err g=0)->Qay g g.ns=0->∀ env,env.get 1=.ptr (.own H.length 0 0 0 0) 0->K (.exit 0) env (H++[Qd g])) :
 ∀ (n i:Nat) (env:Env),i+n=g.ns.length->(∀ k (h:k<g.ns.length),k<i->g.ns[k].err g=0)->Qay g (g.ns.drop i)=Qay g g.ns ->
  env.get 1=.ptr (.own H.length 0 0 0 0) 0->env.get 3=i64 i ->
  LI Tryz.prog N Qb Qiz env (H++[Qd g]) K:=by
 intro n
 induction n with
 |zero =>
  intro i env hi hp hE e1 e3;refine Qc hm Qiz.eq_1 ?_;have e:i=g.ns.length:=by omega
  subst e;simp -implicitDefEqProofs[e1,e3,Qd];rw[Yl]at hE;refine hexit ?_ hE.symm _ (by simp[e1]);intro x hx;obtain⟨k,hk,rfl⟩:=VH hx;exact hp k hk hk
 |succ n ih =>
  intro i env hi hp hE e1 e3;refine Qc hm Qiz.eq_1 ?_;have hlt:i<g.ns.length:=by omega
  have w1:IntKind.i64.wrap ((i:Int)+1)=((i+1:Nat):Int):=QaF (by omega);rw[Vy hlt,Qay]at hE;simp -implicitDefEqProofs[e1,e3,Qd,hlt,QaC hlt,QaR hlt,QaN hlt,sl];have hh:=λH=>ok64 (H:=H) (x:=g.ns[i]) g1 g4 g5;simp only[Gm.cells,Nd.cells,sl]at hh;refine Qa9 (λ_=>hh _) ?_;by_cases hc:g.ns[i].err g=0
  . rw[Wb hc]at hE;simp -implicitDefEqProofs[hc,e3];rw[w1];refine ih (i+1) _ (by omega) ?_ hE ?_ ?_
    rotate_left
    . simp[e1]
    . simp
    intro k hk hki;by_cases e:k=i
    . subst e; exact hc
    . exact hp k hk (by omega)
  . rw[Wa hc]at hE;simp -implicitDefEqProofs[hc];refine hret ?_ _ (by simp[hE]);rw[<-hE]; exact hc
set_option maxRecDepth 10000 in
theorem Qq2 (hg:Gd g) {N:Nat} {K:Wr} {r:AO}
 (hret:(∃ x∈g.ns,x.tyBad g)->∀ env M,env.get 2=i64 10->K .ret env (H++Qd g::r::M))
 (hexit:(¬ ∃ x∈g.ns,x.tyBad g)->∀ env M,env.get 1=.ptr (.own H.length 0 0 0 0) 0->K (.exit 2) env (H++Qd g::r::M)) :
 ∀ (n i:Nat) (env:Env) (M:Ws),i+n=g.ns.length->(∀ k (h:k<g.ns.length),k<i->¬ g.ns[k].tyBad g)->env.get 1=.ptr (.own H.length 0 0 0 0) 0->env.get 6=i64 i ->
  LI Tryz.prog N Qb Qhn env (H++Qd g::r::M) K:=by
 have hn:=hg.n;intro n
 induction n with
 |zero =>
  intro i env M hi hp h1 h6;refine Qc hm Qhn.eq_1 ?_;have e:i=g.ns.length:=by omega
  subst e;simp -implicitDefEqProofs[h1,h6,Qd];refine hexit ?_ _ _ (by simp[h1]);rintro⟨x,hx,hb⟩;obtain⟨k,hk,rfl⟩:=VH hx;exact hp k hk hk hb
 |succ n ih =>
  intro i env M hi hp h1 h6;refine Qc hm Qhn.eq_1 ?_;have hlt:i<g.ns.length:=by omega
  have hx:g.ns[i]∈g.ns:=Vf hlt;have w1:IntKind.i64.wrap ((i:Int)+1)=((i+1:Nat):Int):=QaF (by omega);by_cases hk:g.ns[i].k=2
  . have hb:=hg.inf hx hk;have hb':g.ns[i].i.toNat<g.is.length:=by omega
    simp -implicitDefEqProofs[h1,h6,Qd,hlt,QaC hlt,QaR hlt,QaN hlt,QaL hb',QqZ hb',Qa0,hk,sl];refine⟨by omega,λe=>⟨e,by omega,by omega⟩,λe=>⟨e,by omega⟩,?_⟩;split
    . rename_i hc;exact hret ⟨_,hx,(QpH hk hb').1 hc⟩ _ _ (by simp)
    . rename_i hc;rw[w1];refine ih (i+1) _ _ (by omega) ?_ ?_ ?_
      rotate_left
      . simp
      . simp
      intro k hk' hki;by_cases e:k=i
      . subst e; exact λhb=>hc ((QpH hk hb').2 hb)
      . exact hp k hk' (by omega)
  . simp -implicitDefEqProofs[h1,h6,Qd,hlt,QaC hlt,QaR hlt,QaN hlt,hk,sl];rw[w1];refine ih (i+1) _ _ (by omega) ?_ ?_ ?_
    rotate_left
    . simp
    . simp
    intro k hk' hki;by_cases e:k=i
    . subst e; exact λhb=>hk hb.1
    . exact hp k hk' (by omega)
theorem QrE:slN []=nl:=rfl
theorem Qdt {l:List Int} (h:l≠[]):slN l=.slc (Qa l) l.length:=by unfold slN; rw[Wa h]; rfl
theorem Qc6 {A:List (List Int)} {k:Nat} (h:k<A.length):(A.map slN).drop k=slN A[k]::(A.drop (k+1)).map slN:=by
 rw[Vy (by simpa using h)]; simp
theorem Qpz {A:List (List Int)} {k:Nat} (h:k<A.length):(A.map slN)[k]? = some (slN A[k]):=by simp[h]
set_option maxRecDepth 10000 in
theorem QqT {A:List (List Int)} (hA:A.length<=200) {N:Nat} {K:Wr}
 (hret:[]∈A->∀ env,env.get 2=i64 18->K .ret env H)
 (hexit:(∀ k (h:k<A.length),A[k]≠[])->∀ env,env.get 8=.slc (A.map slN) A.length->K (.exit 4) env H) :
 ∀ (n i:Nat) (env:Env),i+n=A.length->(∀ k (h:k<A.length),k<i->A[k]≠[])->env.get 8=.slc (A.map slN) A.length->env.get 9=i64 i ->
  LI Tryz.prog N Qb Qid env H K:=by
 intro n
 induction n with
 |zero =>
  intro i env hi hp h8 h9;refine Qc hm Qid.eq_1 ?_;have e:i=A.length:=by omega
  subst e;simp -implicitDefEqProofs[h8,h9];exact hexit (λk h=>hp k h h) _ (by simp[h8])
 |succ n ih =>
  intro i env hi hp h8 h9;refine Qc hm Qid.eq_1 ?_;have hlt:i<A.length:=by omega
  have w1:IntKind.i64.wrap ((i:Int)+1)=((i+1:Nat):Int):=QaF (by omega);by_cases hk:A[i]=[]
  . simp -implicitDefEqProofs[h8,h9,hlt,Qc6 hlt,hk,QrE,show(SV.val (Value.slice none 0 0)).isSl=true by rfl,show(SV.val (Value.slice none 0 0)).slen=0 by rfl];exact hret (by rw[<-hk]; exact Vf hlt) _ (by simp)
  . simp -implicitDefEqProofs[h8,h9,hlt,Qc6 hlt,Qdt hk,hk];rw[w1];refine ih (i+1) _ (by omega) ?_ ?_ ?_
    rotate_left
    . simp
    . simp
    intro k hk' hki;by_cases e:k=i
    . subst e; exact hk
    . exact hp k hk' (by omega)
theorem QkA {A:List (List Int)}:QdF A↔∀ k (h:k+1<A.length),¬ (A[k+1]).getD 0 0<(A[k]).getD 0 0:=by
 constructor
 . intro h k hk;have:=h k (by omega)
   rwa [Vp (l:=A),Vp (l:=A),Vb hk,Vb (show k<A.length by omega),VT,VT]at this
 . intro h k hk;rw[Vp (l:=A),Vp (l:=A),Vb (show k+1<A.length by omega),Vb (show k<A.length by omega),VT,VT];exact h k (by omega)
theorem Qoe {l:List Int} (h:l≠[]):(Qa l).head? = some (i64 (l.getD 0 0)):=by
 cases l with
 |nil=>exact(h rfl).elim
 |cons x r=>rfl
set_option maxRecDepth 10000 in
theorem Qru {A:List (List Int)} (hA:A.length<=200) (hne:∀ k (h:k<A.length),A[k]≠[]) {N:Nat} {K:Wr}
 (hret:¬ QdF A->∀ env,env.get 2=i64 9->K .ret env H)
 (hexit:QdF A->∀ env,K (.exit 6) env H) :
 ∀ (n i:Nat) (env:Env),i+n=A.length->(∀ k (h:k+1<A.length),k<i->¬ (A[k+1]).getD 0 0<(A[k]).getD 0 0)->env.get 8=.slc (A.map slN) A.length->env.get 10=i64 ((i:Int)+1) ->
  LI Tryz.prog N Qb Qjo env H K:=by
 intro n
 induction n with
 |zero =>
  intro i env hi hp h8 h10;refine Qc hm Qjo.eq_1 ?_;have e:i=A.length:=by omega
  subst e;simp -implicitDefEqProofs[h8,h10,show ¬ ((A.length:Int)+1<A.length)by omega];exact hexit (QkA.2 λk h=>hp k h (by omega)) _
 |succ n ih =>
  intro i env hi hp h8 h10;refine Qc hm Qjo.eq_1 ?_;have hlt:i<A.length:=by omega
  have w1:IntKind.i64.wrap ((i:Int)+1+1)=((i+1:Nat):Int)+1:=by rw[Qp (by omega) (by omega)]; omega
  have w2:IntKind.i64.wrap (i:Int)=i:=QcI (by omega);by_cases he:i+1=A.length
  . simp -implicitDefEqProofs[h8,h10,show ¬ ((i:Int)+1<A.length)by omega];exact hexit (QkA.2 λk h=>hp k h (by omega)) _
  . have hlt1:i+1<A.length:=by omega
    have m1:=hne _ hlt1;have m0:=hne _ hlt;simp -implicitDefEqProofs[h8,h10,hlt,hlt1,show((i:Int)+1<A.length)by omega,Qc6 hlt,Qc6 hlt1,Qpz hlt1,Qpz hlt,Qdt m1,Qdt m0,w2,Qoe m1,Qoe m0];have l1:0<A[i+1].length:=Z8.2 m1;have l0:0<A[i].length:=Z8.2 m0;refine⟨by omega,l1,l1,l0,l0,?_⟩;have ec:((A[i+1])[0]?.getD 0<(A[i])[0]?.getD 0)=((A[i+1]).getD 0 0<(A[i]).getD 0 0):=by rw[Vp,Vp]
    split
    . rename_i hc;exact hret (λh=>QkA.1 h i hlt1 (by simpa[Vp]using hc)) _ (by simp)
    . rename_i hc;rw[w1];refine ih (i+1) _ (by omega) ?_ ?_ ?_
      rotate_left
      . simp
      . simp
      intro k hk' hki;by_cases e:k=i
      . subst e; simpa[Vp]using hc
      . exact hp k hk' (by omega)
set_option maxRecDepth 10000 in
theorem ok37:Ok Tryz.prog 37 [.agg g.cells] H (.ret (i64 g.formR)) H:=by
 refine Ql hm Tryz.func37 c37 (by simp) λhcl => ?_;simp -implicitDefEqProofs[i37,r37,Gm.cells];have hR:g.rng=(((((g.pl<1\/4<g.pl)\/(g.ns.length:Int)<1)\/2000<(g.ns.length:Int))\/200<(g.is.length:Int))):=rfl;split
 . rename_i hc;refine Qi 2 hcl rfl ?_;simp[Gm.formR,hR,hc]
 . rename_i hc;have g1:1<=g.pl:=by omega
   have g4:g.pl<=4:=by omega
   have gi:g.is.length<=200:=by omega
   have gn:g.ns.length<=2000:=by omega
   have gn1:1<=g.ns.length:=by omega
   refine Qu2 (g:=g) g1 g4 gi gn (λhE env e2 => ?_) (λhE hE' env e1 => ?_) g.ns.length 0 _ (by omega) (by omega) (by simp) (by simp) (by simp)
   . simp -implicitDefEqProofs[e2];refine Qi 2 hcl rfl ?_;simp[Gm.formR,hR,hc,hE]
   . have hG:Gd g:=⟨g1,g4,gn1,gn,gi,hE⟩;simp -implicitDefEqProofs[e1,Qd];have hup:∀ m,upq (H++[Qd g,(⟨[i64 0],3,0,true⟩:AO)]) (H.length+1) m=H++[Qd g,(⟨[i64 m],3,0,true⟩:AO)]:=λm=>by simp[upq]
     have hnx:∀ x∈g.ns,x.nx.length<4611686018427387904:=λx hx=>by have:=Qc7 (hE x hx); omega
     have ok:=ok65 (g:=g) (q:=H.length+1) gn hnx (g.ns.length+1) (H++[Qd g,(⟨[i64 0],3,0,true⟩:AO)]) 0 0 0 (by simp) (by omega) (by omega) (by omega) (by omega);rw[hup,hup]at ok;have hwr:QaW g.ns (g.ns.length+1) 0 0 0=g.wr:=rfl;rw[hwr]at ok;have hwok:=Qkw (ns:=g.ns) (g.ns.length+1) 0 0 0;rw[hwr]at hwok;refine Qh ok ?_;have hF:g.formR=if g.wr.1≠some g.ns.length then 9 else if 40<g.wr.2 then 5 else g.setsR:=by
      unfold Gm.formR;rw[Wa (show ¬ g.rng by rw[hR]; exact hc),Wa (show ¬ Qay g g.ns≠0 by simpa using hE')]
     have hres:Qdh g.wr.1=(g.ns.length:Int)↔g.wr.1=some g.ns.length:=by
      cases h:g.wr.1 with
      |none=>simp[Qdh]
      |some r=>simp[Qdh]; omega
     simp -implicitDefEqProofs[Qd,e1];by_cases hk:g.wr.1=some g.ns.length
     . rw[Wb (hres.2 hk)];rw[hk]at hF;by_cases hm:40<g.wr.2
       . rw[Wb hm];refine Qi 2 hcl rfl ?_;rw[hF]; simp[hm]
       . rw[Wa hm];have hF':g.formR=g.setsR:=by rw[hF]; simp[hm]
         rw[hF'];unfold Gm.setsR;refine Qq2 (g:=g) (r:=⟨[i64 g.wr.2],3,0,true⟩) hG (λhb env M h2 => ?_) (λhb env M h1 => ?_) g.ns.length 0 _ [] (by omega) (by omega) (by simp[e1]) (by simp)
         . simp -implicitDefEqProofs[h2];refine Qi 2 hcl rfl ?_;rw[Wb hb]; simp
         . rw[Wa hb];simp -implicitDefEqProofs[h1,Qd];have hh:=λH=>QlT (H:=H) hG;simp only[Gm.cells]at hh;refine Qh (hh _) ?_;have hsl:g.sets.length=g.is.length:=QaT;rw[<-hsl];simp -implicitDefEqProofs;refine QqT (A:=g.sets) (by omega) (λhz env h2 => ?_) (λhz env h8 => ?_) g.sets.length 0 _ (by omega) (by omega) (by simp) (by simp)
           . simp -implicitDefEqProofs[h2];refine Qi 2 hcl rfl ?_;simp[hz]
           . have hz':¬ []∈g.sets:=λh=>by
              obtain⟨k,hk,e⟩:=VH h;exact hz k hk e
             rw[Wa hz'];simp -implicitDefEqProofs[h8];refine Qru (A:=g.sets) (by omega) hz (λhs env h2 => ?_) (λhs env => ?_) g.sets.length 0 _ (by omega) (by omega) (by simp[h8]) (by simp)
             . simp -implicitDefEqProofs[h2];refine Qi 2 hcl rfl ?_;simp[hs]
             . simp -implicitDefEqProofs;refine Qi 2 hcl rfl ?_;simp[hs]
     . rw[Wa (λh=>hk (hres.1 h))];refine Qi 2 hcl rfl ?_;rw[hF]; simp[hk]
end
theorem Qrz {l:List Int} (h:0<l.length) {x:Int}:Qca l<=x↔∀ i,i<l.length->l.getD i 0<=x:=by
 have hf:∀ (r:List Int) (a:Int),r.foldl max a<=x↔a<=x/\∀ y∈r,y<=x:=by
  intro r
  induction r with
  |nil=>intro a; simp
  |cons y r ih =>
   intro a;rw[Zv,ih];simp only[Vi,Wl];constructor
   . rintro⟨h1,h2⟩; exact⟨by omega,by omega,h2⟩
   . rintro⟨h1,h2,h3⟩; exact⟨by omega,h3⟩
 cases l with
 |nil=>simp at h
 |cons y r =>
  rw[Qca,List.tail_cons,List.headD_cons,hf];constructor
  . rintro⟨h1,h2⟩ i hi
    cases i with
    |zero=>simpa using h1
    |succ i =>
     have hi':i<r.length:=by simpa using hi
     have:=h2 _ (Vf hi');simpa[Vp,hi']using this
  . intro h1;refine⟨by simpa using h1 0 (by simp),λy hy => ?_⟩;obtain⟨k,hk,rfl⟩:=VH hy;have:=h1 (k+1) (by simpa using hk);simpa[Vp,hk]using this
def MxR (D:List Int) (a b:Nat) (m m':Int):Prop:=∀ x,m'<=x↔(m<=x/\∀ i,a<=i->i<b->D.getD i 0<=x)
theorem Qmn {n:Nat} {w:Nat->W3->Option Nat×W3} {v:Nat->Int->Option Nat×Int} (hok:∀ r s,s.ok n->(w r s).2.ok n/\∀ r',(w r s).1=some r'->r<r'/\r'<=n)
 (h:∀ r s m,s.ok n->(w r s).1=(v r m).1/\∀ r',(w r s).1=some r'->(∀ i,i<r->(w r s).2.D.getD i 0=s.D.getD i 0)/\MxR (w r s).2.D r r' m (v r m).2) :
 ∀ (l:List Int) (r:Nat) (s:W3) (m:Int),s.ok n->(QaD w l r s).1=(Qb3 v l r m).1/\∀ r',(QaD w l r s).1=some r'->(∀ i,i<r->(QaD w l r s).2.D.getD i 0=s.D.getD i 0)/\MxR (QaD w l r s).2.D r r' m (Qb3 v l r m).2
 |[],r,s,m,hs=>by
  refine⟨rfl,λr' h'=>⟨λ_ _=>rfl,λx => ?_⟩⟩;simp only[QaD,Option.some.injEq]at h';subst h';simp only[Qb3];exact⟨λh=>⟨h,λi h1 h2=>by omega⟩,λh=>h.1⟩
 |c::cs,r,s,m,hs=>by
  unfold QaD Qb3;by_cases hc:c=r
  . rw[Wb hc,Wb hc];obtain⟨h1,h2⟩:=h r s m hs;have h3:=hok r s hs
    cases hw:w r s with
    |mk o s1 =>
     cases hv:v r m with
     |mk o' m1 =>
      rw[hw,hv]at h1;rw[hw]at h2 h3;rw[hv]at h2;simp only at h1;subst h1
      cases o with
      |none=>exact⟨rfl,λr' h'=>by simp at h'⟩
      |some r1 =>
       obtain⟨h4,h5⟩:=h2 r1 rfl;have h6:=h3.2 r1 rfl;obtain⟨h7,h8⟩:=Qmn hok h cs r1 s1 m1 h3.1;refine⟨h7,λr' h' => ?_⟩;obtain⟨h9,h10⟩:=h8 r' h';refine⟨λi hi => ?_,λx => ?_⟩
       . simp only;rw[h9 i (by omega)]; exact h4 i hi
       . simp only;rw[h10 x,h5 x];constructor
         . rintro⟨⟨k1,k2⟩,k3⟩;refine⟨k1,λi h1 h2 => ?_⟩;by_cases hi:i<r1
           . rw[h9 i hi]; exact k2 i h1 hi
           . exact k3 i (by omega) h2
         . rintro⟨k1,k2⟩;have hr':r1<=r':=(Qgb (m:=0) (λr s _ hs=>hok r s hs) cs r1 s1 (by omega) h6.2 h3.1).2 r' h' |>.1;refine⟨⟨k1,λi h1 h2 => ?_⟩,λi h1 h2=>k2 i (by omega) h2⟩;have:=k2 i h1 (by omega)
           rwa [h9 i h2]at this
  . rw[Wa hc,Wa hc];exact⟨rfl,λr' h'=>by simp at h'⟩
theorem Qkc {l:List Int} {i k:Nat} {v:Int} (h:i≠k):(l.set k v).getD i 0=l.getD i 0:=by
 rw[Vp,Vp,Vd (λe=>h e.symm)]
theorem Qk8 {l:List Int} {k:Nat} {v:Int} (h:k<l.length):(l.set k v).getD k 0=v:=by
 rw[Vp,Vg h]; rfl
theorem Qgu {ns:List Nd}:∀ (f:Nat) (par dep:Int) (k:Nat) (s:W3) (m:Int),s.ok ns.length ->
 (Q4 ns f par dep k s).1=(QaW ns f dep k m).1/\∀ r,(Q4 ns f par dep k s).1=some r ->
  ((∀ i,i<k->(Q4 ns f par dep k s).2.D.getD i 0=s.D.getD i 0)/\MxR (Q4 ns f par dep k s).2.D k r m (QaW ns f dep k m).2)/\(Q4 ns f par dep k s).2.D.getD k 0=dep
 |0,par,dep,k,s,m,hs=>⟨rfl,λr h=>by simp[Q4]at h⟩
 |f+1,par,dep,k,s,m,hs=>by
  unfold Q4 QaW
  cases hk:ns[k]? with
  |none=>exact⟨rfl,λr h=>by simp at h⟩
  |some x =>
   have hlt:=Qg hk;have hs':W3.ok ⟨s.P.set k par,s.D.set k dep,s.L⟩ ns.length:=⟨by simpa using hs.1,by simpa using hs.2.1,hs.2.2⟩;have hr:=Qmn (n:=ns.length) (w:=Q4 ns f k (dep+1)) (v:=QaW ns f (dep+1)) (λr s hs=>Qdk f k (dep+1) r s hs)
    (λr s m hs=>⟨(Qgu f k (dep+1) r s m hs).1,λr' h=>((Qgu f k (dep+1) r s m hs).2 r' h).1⟩) x.nx (k+1) ⟨s.P.set k par,s.D.set k dep,s.L⟩ (max m dep) hs'
   have hk2:=Qgb (n:=ns.length) (w:=Q4 ns f k (dep+1)) (m:=0) (λr s _ hs=>Qdk f k (dep+1) r s hs) x.nx (k+1) ⟨s.P.set k par,s.D.set k dep,s.L⟩ (by omega) (by omega) hs';simp only
   cases hh:QaD (Q4 ns f k (dep+1)) x.nx (k+1) ⟨s.P.set k par,s.D.set k dep,s.L⟩with
   |mk o s1 =>
    cases hv:Qb3 (QaW ns f (dep+1)) x.nx (k+1) (max m dep)with
    |mk o' m1 =>
     rw[hh,hv]at hr;rw[hh]at hk2;obtain⟨h1,h2⟩:=hr;simp only at h1;subst h1
     cases o with
     |none=>exact⟨rfl,λr' h'=>by simp at h'⟩
     |some r1 =>
      obtain⟨h3,h4⟩:=h2 r1 rfl;have hr1:=hk2.2 r1 rfl;have hD:s.D.length=ns.length:=hs.2.1;have hk0:s1.D.getD k 0=dep:=by rw[h3 k (by omega)]; exact Qk8 (by omega)
      refine⟨rfl,λr h' => ?_⟩;simp only[Option.some.injEq]at h';subst h';refine⟨⟨λi hi => ?_,λx => ?_⟩,hk0⟩
      . show s1.D.getD i 0=_;rw[h3 i (by omega)]; exact Qkc (by omega)
      . show m1<=x↔_;rw[h4 x];constructor
        . rintro⟨k1,k2⟩;refine⟨by omega,λi h1 h2 => ?_⟩;by_cases e:i=k
          . subst e; show s1.D.getD i 0<=x; rw[hk0]; omega
          . exact k2 i (by omega) h2
        . rintro⟨k1,k2⟩;have:=k2 k (by omega) (by omega);have this:s1.D.getD k 0<=x:=this;rw[hk0]at this;exact⟨by omega,λi h1 h2=>k2 i (by omega) h2⟩
def occ (s:Nat):List Nd->Nat->List Int
 |[],_=>[]
 |x::r,o=>if x.k=2/\x.i.toNat=s then(o:Int)::occ s r (o+1)else occ s r (o+1)
theorem QjF {s:Nat}:∀ {l:List Nd} {o:Nat} {a:Int},a∈occ s l o->0<=a
 |[],o,a,h=>by simp[occ]at h
 |x::r,o,a,h=>by
  unfold occ at h;split at h
  . rcases Vi.1 h with rfl|h
    . omega
    . exact QjF h
  . exact QjF h
theorem Qlk {s:Nat}:∀ (l:List Nd) (o:Nat) (A:List (List Int)),s<A.length->(QcT l o A).getD s []=A.getD s []++occ s l o
 |[],o,A,h=>by simp[QcT,occ]
 |x::r,o,A,h=>by
  unfold QcT occ;by_cases hk:x.k=2
  . rw[Wb hk,Qlk r (o+1) _ (by simpa using h)];by_cases e:x.i.toNat=s
    . rw[Wb ⟨hk,e⟩,e];simp[Vp,h]
    . rw[Wa (λh=>e h.2)];simp[Vp,Vd e]
  . rw[Wa hk,Wa (λh=>hk h.1),Qlk r (o+1) A h]
theorem QlG {s:Nat} {z:List Int} (hz:s<z.length):∀ (l:List Nd) (o:Nat),(Qbw l o z).getD s 0=(match occ s l o with|[]=>z.getD s 0|a::_=>a+1)
 |[],o=>by simp[Qbw,occ]
 |x::r,o=>by
  unfold Qbw occ;by_cases hk:x.k=2
  . rw[Wb hk];by_cases e:x.i.toNat=s
    . rw[Wb ⟨hk,e⟩,e,Qk8 (by simpa using hz)]
    . rw[Wa (λh=>e h.2),Qkc (λh=>e h.symm)];exact QlG hz r (o+1)
  . rw[Wa hk,Wa (λh=>hk h.1)];exact QlG hz r (o+1)
section
variable {g:Gm}
theorem Qi2 {s:Nat} (hs:s<g.is.length):g.sets.getD s []=occ s g.ns 0:=by
 rw[Gm.sets,Qlk _ _ _ (by simpa using hs)];simp[Vp,hs]
theorem Qlg {s:Nat} (hs:s<g.is.length):g.firsts.getD s 0=(match g.sets.getD s []with|[]=>0|a::_=>a+1):=by
 rw[Gm.firsts,QlG (by simpa using hs),Qi2 hs];simp[Vp,hs]
theorem Qnz:(0:Int)∈g.firsts↔[]∈g.sets:=by
 have hl:g.sets.length=g.is.length:=QaT;have hf:g.firsts.length=g.is.length:=by simp[Gm.firsts]
 constructor
 . intro h;obtain⟨s,hs,e⟩:=VH h;have:=Qlg (g:=g) (s:=s) (by omega);rw[Vp,Vb hs,VT,e]at this;have hs':s<g.sets.length:=by omega
   have h2:g.sets.getD s []=g.sets[s]:=by rw[Vp,Vb hs']; rfl
   cases hc:g.sets.getD s []with
   |nil=>rw[<-hc,h2]; exact Vf hs'
   |cons a r =>
    rw[hc]at this;have h3:0<=a:=QjF (s:=s) (l:=g.ns) (o:=0) (by rw[<-Qi2 (by omega),hc]; simp);simp only at this; omega
 . intro h;obtain⟨s,hs,e⟩:=VH h;have:=Qlg (g:=g) (s:=s) (by omega);rw[Vp (l:=g.sets),Vb hs,VT,e]at this;have hs':s<g.firsts.length:=by omega
   rw[Vp,Vb hs',VT]at this;simp only at this;rw[<-this]; exact Vf hs'
theorem QmN (h:¬ []∈g.sets):Srt g.firsts↔QdF g.sets:=by
 have hl:g.sets.length=g.is.length:=QaT;have hf:g.firsts.length=g.is.length:=by simp[Gm.firsts]
 have hv:∀ s,s<g.is.length->g.firsts.getD s 0=(g.sets.getD s []).getD 0 0+1:=by
  intro s hs;rw[Qlg hs]
  cases hc:g.sets.getD s []with
  |nil =>
   exfalso; apply h;have hs':s<g.sets.length:=by omega
   rw[Vp,Vb hs',VT]at hc;rw[<-hc]; exact Vf hs'
  |cons a r=>simp
 unfold Srt QdF;rw[hf,hl];constructor
 . intro h1 k hk;have:=h1 k hk;rw[hv _ (by omega),hv _ (by omega)]at this;omega
 . intro h1 k hk;have:=h1 k hk;rw[hv _ (by omega),hv _ (by omega)];omega
theorem QoQ:g.setsE=g.setsR:=by
 unfold Gm.setsE Gm.setsR;by_cases hb:∃ x∈g.ns,x.tyBad g
 . rw[Wb hb,Wb hb]
 . rw[Wa hb,Wa hb];by_cases h0:[]∈g.sets
   . rw[Wb h0,Wb (Qnz.2 h0)]
   . rw[Wa h0,Wa (λh=>h0 (Qnz.1 h))];by_cases hs:QdF g.sets
     . rw[Wb hs,Wb ((QmN h0).2 hs)]
     . rw[Wa hs,Wa (λh=>hs ((QmN h0).1 h))]
def Gm.formE (g:Gm):Int:=if g.err0≠0 then g.err0 else g.setsE
theorem QeQ:g.w0.ok g.ns.length:=⟨by simp[Gm.w0],by simp[Gm.w0],by simp[Gm.w0]⟩
theorem QnQ:g.wk.1=g.wr.1:=(Qgu (ns:=g.ns) (g.ns.length+1) (-1) 0 0 g.w0 0 QeQ).1
theorem Qvu (h1:1<=g.ns.length) (h:g.wk.1=some g.ns.length):Qca g.wk.2.D=g.wr.2:=by
 have hr:=(Qgu (ns:=g.ns) (g.ns.length+1) (-1) 0 0 g.w0 0 QeQ).2 g.ns.length h;have hok:=(Qdk (ns:=g.ns) (g.ns.length+1) (-1) 0 0 g.w0 QeQ).1;have hD:g.wk.2.D.length=g.ns.length:=hok.2.1;have hx:∀ x,Qca g.wk.2.D<=x↔g.wr.2<=x:=by
  intro x;rw[Qrz (by omega)];have:=hr.1.2 x;have h0:g.wk.2.D.getD 0 0=0:=hr.2;show _↔(QaW g.ns (g.ns.length+1) 0 0 0).2<=x;rw[this,hD];constructor
  . intro k;have:=k 0 (by omega);rw[h0]at this;exact⟨this,λi _ hi=>k i hi⟩
  . rintro⟨_,k⟩ i hi;exact k i (by omega) hi
 have:=(hx (Qca g.wk.2.D)).1 (Ym _);have:=(hx g.wr.2).2 (Ym _);omega
theorem QuG:g.formE=g.formR:=by
 have hR:g.rng=(((((g.pl<1\/4<g.pl)\/(g.ns.length:Int)<1)\/2000<(g.ns.length:Int))\/200<(g.is.length:Int))):=rfl;unfold Gm.formE Gm.err0 Gm.formR;by_cases hr:g.rng
 . simp[hr]
 . rw[Wa hr,Wa hr];by_cases hn:Qay g g.ns=0
   . have hn':¬ Qay g g.ns≠0:=by simpa using hn
     rw[Wa hn',Wa hn',QnQ];by_cases hk:g.wr.1=some g.ns.length
     . have hk':¬ g.wr.1≠some g.ns.length:=by simpa using hk
       rw[Wa hk',Wa hk'];rw[hR]at hr;rw[Qvu (by omega) (by rw[QnQ]; exact hk),QoQ];by_cases hm:40<g.wr.2
       . simp[hm]
       . simp[hm]
     . simp[hk]
   . simp[hn]
end
def NO (b:Nat) (M:Ws):List Nd->Wt->Prop
 |[],cs=>cs=[]
 |x::r,cs=>∃ p1 p2 p3 rest,cs=i64 x.k::i64 x.p::i64 x.i::.own (b+p1) 0 x.nx.length 1 2::.own (b+p2) 0 x.ws.length 1 2::.own (b+p3) 0 x.ps.length 1 2::rest /\
  M[p1]? = some (⟨Qa x.nx,3,2,true⟩:AO)/\M[p2]? = some (⟨Qa x.ws,3,2,true⟩:AO)/\M[p3]? = some (⟨Qa x.ps,3,2,true⟩:AO)/\NO b M r rest
theorem NO.mono {b:Nat} {M M':Ws} (h:∀ (p:Nat) (l:List Int),M[p]? = some (⟨Qa l,3,2,true⟩:AO)->M'[p]? = some (⟨Qa l,3,2,true⟩:AO)):∀ {l:List Nd} {cs:Wt},NO b M l cs->NO b M' l cs
 |[],cs,hn=>hn
 |x::r,cs,⟨p1,p2,p3,rest,h0,h1,h2,h3,h4⟩=>⟨p1,p2,p3,rest,h0,h _ _ h1,h _ _ h2,h _ _ h3,NO.mono h h4⟩
theorem NO.len {b:Nat} {M:Ws}:∀ {l:List Nd} {cs:Wt},NO b M l cs->cs.length=6*l.length
 |[],cs,hn=>by cases hn; rfl
 |x::r,cs,⟨p1,p2,p3,rest,h0,h1,h2,h3,h4⟩=>by subst h0; simp[NO.len h4]; omega
theorem NO.cell {b:Nat} {M:Ws}:∀ {l:List Nd} {cs:Wt},NO b M l cs->QH cs
 |[],cs,hn=>by cases hn; intro s hs; simp at hs
 |x::r,cs,⟨p1,p2,p3,rest,h0,h1,h2,h3,h4⟩=>by
  subst h0;intro s hs;simp only[Vi]at hs;rcases hs with rfl|rfl|rfl|rfl|rfl|rfl|hs
  . rfl
  . rfl
  . rfl
  . rfl
  . rfl
  . rfl
  . exact NO.cell h4 s hs
theorem NO.fz {b n k d:Nat} {M F:Ws} (hb:b=n+k) (hF:∀ p,F[k+p]? = M[p]?):∀ {l:List Nd} {cs:Wt},NO b M l cs->cs.map (SV.fz n [] F (d+2))=nds l
 |[],cs,hn=>by cases hn; rfl
 |x::r,cs,⟨p1,p2,p3,rest,h0,h1,h2,h3,h4⟩=>by
  subst h0;have e:∀ p,b+p=n+(k+p):=λp=>by omega
  simp only[Vn,NO.fz hb hF h4,nds,Nd.cells,e,Qf1,hF,h1,h2,h3,Qah,Qdd];simp[sl]
section
variable {H:Ws} {g:Gm}
theorem Qnt (H:Ws) (k n:Nat):H.length+k+n=H.length+(k+n):=Yn ..
end
section
variable {H:Ws} {x y:SV} {l m:List Int}
theorem QsR (hx:IsI H x l) (hy:IsI H y m) (hl:l.length<4611686018427387904) (hlm:l.length=m.length) {N:Nat} {K:Wr}
 (hret:l≠m->∀ env,env.get 4=bl false->K .ret env H) (hexit:l=m->∀ env,K (.exit 0) env H) :
 ∀ (n i:Nat) (env:Env),i+n=l.length->(∀ k (h:k<l.length),k<i->l[k]=m[k]'(by omega))->env.get 0=x->env.get 1=y->env.get 5=i64 i ->
  LI Tryz.prog N Qb Qhu env H K:=by
 intro n
 induction n with
 |zero =>
  intro i env hi hp h0 h1 h5;refine Qc hm Qhu.eq_1 ?_;have e:i=l.length:=by omega
  subst e;simp -implicitDefEqProofs[h0,h1,h5,hx.vd,hx.ug,hx.sl,hx.len];exact hexit (Y4 hlm λk h1 h2=>hp k h1 h1) _
 |succ n ih =>
  intro i env hi hp h0 h1 h5;refine Qc hm Qhu.eq_1 ?_;have hlt:i<l.length:=by omega
  have hlt':i<m.length:=by omega
  simp -implicitDefEqProofs[h0,h1,h5,hlt,hlt',hx.vd,hx.ug,hx.sl,hx.len,hx.v hlt,hx.ok hlt,hy.vd,hy.ug,hy.sl,hy.len,hy.v hlt',hy.ok hlt'];by_cases hc:l[i]=m[i]
  . rw[Wb hc];refine ih (i+1) _ (by omega) ?_ ?_ ?_ ?_
    rotate_left
    . simp[h0]
    . simp[h1]
    . simp[Qw (show i<9223372036854775807 by omega)]
    intro k hk hki;by_cases e:k=i
    . subst e; exact hc
    . exact hp k hk (by omega)
  . rw[Wa hc];exact hret (λe=>hc (by subst e; rfl)) _ (by simp)
theorem ok40 (hx:IsI H x l) (hy:IsI H y m) (hl:l.length<4611686018427387904):Ok Tryz.prog 40 [x,y] H (.ret (bl (decide (l=m)))) H:=by
 refine Ql hm Tryz.func40 c40 (by simp) λhcl => ?_;by_cases hlm:l.length=m.length
 . simp -implicitDefEqProofs[i40,r40,hx.vd,hx.ug,hx.sl,hx.len,hy.vd,hy.ug,hy.sl,hy.len,hlm];refine QsR hx hy hl hlm (λhne env h4 => ?_) (λhe env => ?_) l.length 0 _ (by omega) (by omega) (by simp) (by simp) (by simp)
   . simp -implicitDefEqProofs[h4,hne];exact Qo
   . simp -implicitDefEqProofs[he];exact Qo
 . simp -implicitDefEqProofs[i40,r40,hx.vd,hx.ug,hx.sl,hx.len,hy.vd,hy.ug,hy.sl,hy.len,show ¬ ((l.length:Int)=m.length)by omega,hlm];have:l≠m:=λe=>hlm (by rw[e]);simp[this];exact Qo
theorem Qvj (hx:IsI H x l) (hy:IsI H y l) (hl:l.length<4611686018427387904):Ok Tryz.prog 40 [x,y] H (.ret (bl true)) H:=by simpa using ok40 hx hy hl
end
section
variable {H:Ws} {g:Gm} {x:Nd} {is:List (Int×Int)}
def Nd.big (x:Nd):Prop:=(80<x.nx.length\/80<x.ws.length)\/80<x.ps.length
instance (x:Nd):Decidable x.big:=by unfold Nd.big; infer_instance
def Gm.large (g:Gm):Prop:=(∃ x∈g.ns.take 81,x.big)\/80<g.ns.length\/80<g.is.length
instance (g:Gm):Decidable g.large:=by unfold Gm.large; infer_instance
theorem ok51:Ok Tryz.prog 51 [.agg g.cells] H (.ret (i64 g.formE)) H:=by
 refine Ql hm Tryz.func51 c51 (by simp) λhcl => ?_;simp -implicitDefEqProofs[i51,r51,Gm.cells];have hh:=λH=>ok83 (H:=H) (g:=g);simp only[Gm.cells]at hh;refine Qh (hh _) ?_;unfold Gm.walked Gm.formE;by_cases h:g.err0=0
 . simp -implicitDefEqProofs[h];exact Qi 1 hcl rfl (by simp)
 . simp -implicitDefEqProofs[h];exact Qi 1 hcl rfl (by simp)
end
theorem hm':Tryz.prog.follows .mixedOrders=true:=Tryz.checked.mixed
def NowQ (a b:List (List Int)) (pl:Int) (k:Int):Prop:=∀ (q:Nat) (h:q<b.length),∃ (e:Int) (h':q<a.length),b[q]=a[q]++[e]/\((q:Int)=pl->e=k)
theorem NowQ.nil (a:List (List Int)) (pl k:Int):NowQ a [] pl k:=λq h=>by simp at h
end Go.Proofs.YtogjmpkehjfecaaGreatDoor.Rc
namespace Go.Proofs.YtogjmpkehjfecaaGreatDoor.Rc
open Go.Ab Go.Ab.Lm
def u32 (n:Nat):SV:=.val (.int .u32 n)
def us (l:List Nat):Wt:=l.map u32
def nS (a:Nat):SV:=.slc (us (lim a)) (lim a).length
theorem Qab (l:List Nat):(us l).length=l.length:=by simp[us]
theorem QbW (n:Nat) (l:List Nat):SV.underL n (us l)=true:=by
 induction l with
 |nil=>rfl
 |cons x r ih=>simp only[us,Vn,SV.underL,Va]at ih ⊢; exact⟨rfl,ih⟩
theorem QbM {l:List Nat} {i:Nat} (h:i<l.length):(us l)[i]?.getD .any=u32 l[i]:=by simp[us,h]
theorem Qcv {l:List Nat} {i:Nat} (h:i<l.length) (h':i<(us l).length):(us l)[i]'h'=u32 l[i]:=by simp[us]
section
variable {H:Ws} {l:List Nat}
set_option maxRecDepth 10000 in
theorem QrS {N:Nat} {K:Wr} (hexit:∀ env,env.get 0=.slc (us (QF l)) (QF l).length->K (.exit 0) env H) :
 ∀ (k:Nat) (m:List Nat) (env:Env),k<1000000->m.length=k->QF m=QF l->env.get 0=.slc (us m) m.length->LI Tryz.prog N Qb Qc8 env H K:=by
 intro k
 induction k with
 |zero =>
  intro m env hk hm0 ht h0;refine Qc hm Qc8.eq_1 ?_;have:m=[]:=Vx hm0;subst this;simp -implicitDefEqProofs[h0];refine hexit _ ?_;rw[<-ht]; simp[QF]
 |succ k ih =>
  intro m env hk hml ht h0;refine Qc hm Qc8.eq_1 ?_;obtain⟨m',y,rfl⟩:∃ m' y,m=m'++[y]:=⟨m.dropLast,m.getLast (by intro e; rw[e]at hml; simp at hml),(Z9 _).symm⟩;have hm':m'.length=k:=by simp at hml; exact hml
  have w1:IntKind.i64.wrap (k:Int)=k:=QcI (by omega);have e1:us (m'++[y])=us m'++[u32 y]:=by simp[us]
  have e2:(us m').length=k:=by rw[Qab,hm']
  rw[e1]at h0;by_cases hy:y=0
  . subst hy;simp -implicitDefEqProofs[h0,w1,hm',e2,u32];repeat (refine⟨by omega,?_⟩)
    refine ih m' _ (by omega) hm' (by rw[<-ht,Qiy]) ?_;simp[hm',e2,Y0]
  . have hy':¬ (y:Int)=0:=by omega
    simp -implicitDefEqProofs[h0,w1,hm',e2,u32,hy,hy'];repeat (refine⟨by omega,?_⟩)
    refine hexit _ ?_;rw[<-ht,QhW hy,e1];simp[hm',u32]
theorem Qtq (hl:l.length<1000000):Ok Tryz.prog 130 [.slc (us l) l.length] H (.ret (.slc (us (QF l)) (QF l).length)) H:=by
 refine Ql hm Tryz.func130 Qki (by simp[QbW]) λhcl => ?_;simp -implicitDefEqProofs[Qif,Qhw];refine QrS (λenv h0 => ?_) l.length l _ hl rfl rfl (by simp);simp -implicitDefEqProofs[h0];exact Qo
end
def QaJ (a b:Nat):Int:=if a<b then -1 else if b<a then 1 else 0
section
variable {H:Ws} {a b:Nat}
set_option maxRecDepth 10000 in
theorem Qst {x y:List Nat} (hx:Dig x) (hy:Dig y) (hxl:x.length<1000000) (hl:x.length=y.length) {N:Nat} {K:Wr}
 (hret:∀ env,QaJ (val x) (val y)≠0->env.get 4=i64 (QaJ (val x) (val y))->K .ret env H) (hexit:x=y->∀ env,K (.exit 0) env H) :
 ∀ (k:Nat) (env:Env),k<=x.length->x.drop k=y.drop k->env.get 0=.slc (us x) x.length->env.get 1=.slc (us y) y.length->env.get 5=i64 ((k:Int)-1)->LI Tryz.prog N Qb Qh7 env H K:=by
 intro k
 induction k with
 |zero =>
  intro env hk hd h0 h1 h5;refine Qc hm Qh7.eq_1 ?_;simp -implicitDefEqProofs[h0,h1,h5];refine hexit ?_ _;simpa using hd
 |succ k ih =>
  intro env hk hd h0 h1 h5;refine Qc hm Qh7.eq_1 ?_;have hkx:k<x.length:=by omega
  have hky:k<y.length:=by omega
  have e5:((k+1:Nat):Int)-1=k:=by omega
  rw[e5]at h5;have w1:IntKind.i64.wrap ((k:Int)-1)=(k:Int)-1:=Qp (by omega) (by omega);have dx:=YF k x;have dy:=YF k y;rw[Vy hkx]at dx;rw[Vy hky,<- hd]at dy;have tx:(x.take k).length=k:=by simp; omega
  have ty:(y.take k).length=k:=by simp; omega
  have dgx:Dig (x.take k):=λz hz=>hx z (Ya hz);have dgy:Dig (y.take k):=λz hz=>hy z (Ya hz);have g0:(us x)[k]?.getD .any=.val (.int .u32 x[k]):=QbM hkx;have g1:(us y)[k]?.getD .any=.val (.int .u32 y[k]):=QbM hky;have g0':∀ h,(us x)[k]'h=.val (.int .u32 x[k]):=λh=>Qcv hkx h;have g1':∀ h,(us y)[k]'h=.val (.int .u32 y[k]):=λh=>Qcv hky h;by_cases c1:x[k]<y[k]
  . have hlt:val x<val y:=by rw[<-dx,<- dy]; exact Qna tx ty dgx dgy c1 _
    have eo:QaJ (val x) (val y) = -1:=by unfold QaJ; rw[Wb hlt]
    simp -implicitDefEqProofs[h0,h1,h5,hkx,hky,Qab,g0,g1,g0',g1',c1,show(x[k]:Int)<(y[k]:Int)by omega];repeat (refine⟨by omega,?_⟩)
    exact hret _ (by rw[eo]; decide) (by rw[eo]; simp)
  . by_cases c2:y[k]<x[k]
    . have hlt:val y<val x:=by rw[<-dx,<- dy]; exact Qna ty tx dgy dgx c2 _
      have eo:QaJ (val x) (val y)=1:=by unfold QaJ; rw[Wa (by omega),Wb hlt]
      simp -implicitDefEqProofs[h0,h1,h5,hkx,hky,Qab,g0,g1,g0',g1',c1,c2,show ¬ (x[k]:Int)<(y[k]:Int)by omega,show(y[k]:Int)<(x[k]:Int)by omega];repeat (refine⟨by omega,?_⟩)
      exact hret _ (by rw[eo]; decide) (by rw[eo]; simp)
    . simp -implicitDefEqProofs[h0,h1,h5,hkx,hky,Qab,g0,g1,g0',g1',c1,c2,show ¬ (x[k]:Int)<(y[k]:Int)by omega,show ¬ (y[k]:Int)<(x[k]:Int)by omega];repeat (refine⟨by omega,?_⟩)
      refine ih _ (by omega) ?_ ?_ ?_ ?_
      . rw[Vy hkx,Vy hky,hd];congr 1; omega
      . simp[h0]
      . simp[h1]
      . simp[w1]
theorem QiH (ha:(lim a).length<1000000) (hb:(lim b).length<1000000):Ok Tryz.prog 105 [nS a,nS b] H (.ret (i64 (QaJ a b))) H:=by
 refine Ql hm Tryz.func105 c105 (by simp[nS,QbW]) λhcl => ?_;by_cases hl:(lim a).length=(lim b).length
 . simp -implicitDefEqProofs[Qiw,Qha,nS,hl];have w1:IntKind.i64.wrap (((lim b).length:Int)-1)=((lim b).length:Int)-1:=Qp (by omega) (by omega);rw[w1];refine Qst (x:=lim a) (y:=lim b) (Qbn a) (Qbn b) ha hl (λenv hne h4 => ?_) (λhe env => ?_) (lim b).length _ (by omega) ?_ ?_ ?_ ?_
   . rw[Qcy,Qcy]at h4;simp -implicitDefEqProofs[h4];exact Qo
   . have:a=b:=by rw[<-Qcy a,<- Qcy b,he]
     simp -implicitDefEqProofs;rw[show QaJ a b=0 by unfold QaJ; rw[Wa (by omega),Wa (by omega)]];exact Qo
   . rw[<-hl,Yl,hl,Yl]
   . simp[hl]
   . simp
   . simp
 . have hl':¬ ((lim a).length:Int)=(lim b).length:=by omega
   by_cases hlt:(lim a).length<(lim b).length
   . have:a<b:=by
      apply Zm;intro hc;have:=Qdu hc;omega
     simp -implicitDefEqProofs[Qiw,Qha,nS,hl,hl',hlt,show((lim a).length:Int)<(lim b).length by omega];rw[show QaJ a b = -1 by unfold QaJ; rw[Wb this]];exact Qo
   . have:b<a:=by
      apply Zm;intro hc;have:=Qdu hc;omega
     simp -implicitDefEqProofs[Qiw,Qha,nS,hl,hl',hlt,show ¬ ((lim a).length:Int)<(lim b).length by omega];rw[show QaJ a b=1 by unfold QaJ; rw[Wa (by omega),Wb this]];exact Qo
end
theorem Qcl {n:Nat} (h:n<4294967296):IntKind.u32.wrap (n:Int)=n:=by
 show((n:Int)) % 4294967296=n;omega
theorem Q9 {n:Nat} (h:n<18446744073709551616):IntKind.u64.wrap (n:Int)=n:=by
 show((n:Int)) % 18446744073709551616=n;omega
section
variable {H X:Ws} {l:List Nat}
set_option maxRecDepth 10000 in
theorem Qsm {k v:Nat} (hk:X[k]? = some ⟨us l,114,v,true⟩) {N:Nat} {K:Wr} (hexit:∀ env,env.get 0=.own k 0 (QF l).length 1 v->K (.exit 0) env X) :
 ∀ (n:Nat) (m:List Nat) (env:Env) (s:List Nat),n<1000000->m.length=n->m++s=l->QF m=QF l->env.get 0=.own k 0 m.length 1 v->LI Tryz.prog N Qb Qc8 env X K:=by
 intro n
 induction n with
 |zero =>
  intro m env s hn hm0 hs ht h0;refine Qc hm' Qc8.eq_1 ?_;have:m=[]:=Vx hm0;subst this;simp -implicitDefEqProofs[h0];refine hexit _ ?_;rw[<-ht]; simp[QF]
 |succ n ih =>
  intro m env s hn hml hs ht h0;refine Qc hm' Qc8.eq_1 ?_;obtain⟨m',y,rfl⟩:∃ m' y,m=m'++[y]:=⟨m.dropLast,m.getLast (by intro e; rw[e]at hml; simp at hml),(Z9 _).symm⟩;have hm':m'.length=n:=by simp at hml; exact hml
  have w1:IntKind.i64.wrap (n:Int)=n:=QcI (by omega);have hc:=Qak (o:=⟨us l,114,v,true⟩) hk rfl;have hln:n<l.length:=by rw[<-hs]; simp; omega
  have e2:(us l)[n]?.getD .any=.val (.int .u32 y):=by
   rw[QbM hln];have:l[n]=y:=by subst hs; simp[List.getElem_append,hm']
   rw[this]; rfl
  have e2':∀ h,(us l)[n]'h=.val (.int .u32 y):=λh=>by
   have:=e2;rw[Vb h]at this;simpa using this
  have hll:(us l).length=l.length:=Qab l;by_cases hy:y=0
  . subst hy;simp -implicitDefEqProofs[h0,w1,hm',hc,e2,e2',hll];repeat (refine⟨by omega,?_⟩)
    refine ih m' _ ([0]++s) (by omega) hm' (by rw[<-hs]; simp) (by rw[<-ht,Qiy]) ?_;simp[hm']
  . have hy':¬ (y:Int)=0:=by omega
    simp -implicitDefEqProofs[h0,w1,hm',hc,e2,e2',hll,hy,hy'];repeat (refine⟨by omega,?_⟩)
    refine hexit _ ?_;rw[<-ht,QhW hy];simp[hm']
theorem Qln {k v:Nat} (hk:X[k]? = some ⟨us l,114,v,true⟩) (hl:l.length<1000000):OkP Tryz.prog 130 [.own k 0 l.length 1 v] X λo X'=>o=.ret (.own k 0 (QF l).length 1 v)/\X'=X:=by
 have hlt:=Qg hk;refine Qce hm' Tryz.func130 Qki (by simp[hlt]) λhcl => ?_;simp -implicitDefEqProofs[Qif,Qhw];refine Qsm hk (λenv h0 => ?_) l.length l _ [] hl rfl (by simp) rfl (by simp);simp -implicitDefEqProofs[h0];exact⟨_,_,⟨rfl,rfl⟩,Qo⟩
end
def QaG:List Nat->List Nat->Nat->List Nat
 |[],_,_=>[]
 |x::r,[],w=>if x<w then(x+B-w)::QaG r [] 1 else(x-w)::QaG r [] 0
 |x::r,y::s,w=>if x<w+y then(x+B-w-y)::QaG r s 1 else(x-w-y)::QaG r s 0
theorem Qj1:∀ (x y:List Nat) (w:Nat),(QaG x y w).length=x.length
 |[],_,_=>rfl
 |x::r,[],w=>by unfold QaG; split<;>simp[Qj1 r]
 |x::r,y::s,w=>by unfold QaG; split<;>simp[Qj1 r]
theorem QfA:∀ {x y:List Nat} {w:Nat},Dig x->Dig y->w<=1->Dig (QaG x y w)
 |[],_,_,_,_,_=>λz hz=>by simp[QaG]at hz
 |x::r,[],w,hx,hy,hw=>by
  have h0:=hx x (by simp);have hB:B=1000000000:=rfl;unfold QaG;split
  . intro z hz;rcases Vi.1 hz with rfl|hz
    . omega
    . exact QfA hx.tail hy (by omega) z hz
  . intro z hz;rcases Vi.1 hz with rfl|hz
    . omega
    . exact QfA hx.tail hy (by omega) z hz
 |x::r,y::s,w,hx,hy,hw=>by
  have h0:=hx x (by simp);have hB:B=1000000000:=rfl;unfold QaG;split
  . intro z hz;rcases Vi.1 hz with rfl|hz
    . omega
    . exact QfA hx.tail hy.tail (by omega) z hz
  . intro z hz;rcases Vi.1 hz with rfl|hz
    . omega
    . exact QfA hx.tail hy.tail (by omega) z hz
theorem Qfu:∀ {x y:List Nat} {w:Nat},Dig x->Dig y->w<=1->val y+w<=val x->val (QaG x y w)=val x-val y-w
 |[],y,w,_,_,_,h=>by simp only[QaG,val]at h ⊢; omega
 |x::r,[],w,hx,hy,hw,h=>by
  have h0:=hx x (by simp);have hB:B=1000000000:=rfl;simp only[val]at h;unfold QaG;split
  . have hr:1<=val r:=by
     rcases Yh (val r)with e|e
     . rw[e]at h; omega
     . exact e
    have ih:=Qfu (y:=[]) (w:=1) hx.tail hy (by omega) (by simpa[val]using hr);simp only[val]at ih ⊢;rw[ih,hB];omega
  . have ih:=Qfu (y:=[]) (w:=0) hx.tail hy (by omega) (by simp[val]);simp only[val]at ih ⊢;rw[ih,hB];omega
 |x::r,y::s,w,hx,hy,hw,h=>by
  have h0:=hx x (by simp);have h1:=hy y (by simp);have hB:B=1000000000:=rfl;simp only[val]at h;rw[hB]at h h0 h1;unfold QaG;split
  . have hr:val s+1<=val r:=by omega
    have ih:=Qfu (w:=1) hx.tail hy.tail (by omega) hr;simp only[val];rw[ih,hB];omega
  . have hr:val s+0<=val r:=by omega
    have ih:=Qfu (w:=0) hx.tail hy.tail (by omega) hr;simp only[val];rw[ih,hB];omega
end Go.Proofs.YtogjmpkehjfecaaGreatDoor.Rc
namespace Go.Ab
section
variable [QM] [QJ] [QL]
theorem OkP.closed {P:Wx} {f:Wz} {args:Wt} {H:Ws} {Pt:Out->Ws->Prop} (h0:∀ (vs:Array Value) (w:Wy),(callFunc f vs).run P w=.ok (.enter f vs) w) (h:Go.Ab.closed H->OkP P f args H Pt):OkP P f args H Pt :=
 ⟨h0,λS vs hH hS hv=>(h (by rw[<-hH]; exact hS.closed)).2 S vs hH hS hv⟩
end
end Go.Ab
namespace Go.Proofs.YtogjmpkehjfecaaGreatDoor.Rc
open Go.Ab Go.Ab.Lm
section
variable {H:Ws} {a b:Nat}
set_option maxRecDepth 10000 in
theorem Qqe {x y z:List Nat} (hx:Dig x) (hy:Dig y) (hxl:x.length<1000000) (hyl:y.length<1000000) (hzl:z.length=x.length) {N:Nat} {K:Wr}
 (hexit:∀ env G,env.get 5=.own H.length 0 z.length 1 z.length->K (.exit 0) env (H++⟨us z,114,z.length,true⟩::G)) :
 ∀ (m:Nat) (p:List Nat) (w:Nat) (env:Env) (G:Ws),p.length+m=x.length->w<=1->p++QaG (x.drop p.length) (y.drop p.length) w=z ->
  env.get 0=.slc (us x) x.length->env.get 1=.slc (us y) y.length->env.get 5=.own H.length 0 p.length 1 p.length->env.get 6=i64 w->env.get 7=i64 p.length ->
  LI Tryz.prog N Qb QfV env (H++⟨us p,114,p.length,true⟩::G) K:=by
 intro m
 induction m with
 |zero =>
  intro p w env G hm hw hz h0 h1 h5 h6 h7;refine Qc hm' QfV.eq_1 ?_;have hpx:p.length=x.length:=by omega
  have ex:x.drop p.length=[]:=YJ (by omega);rw[ex]at hz;simp[QaG]at hz;subst hz;simp -implicitDefEqProofs[h0,h1,h5,h6,h7,hpx];rw[<-hpx];exact hexit _ G (by simp[h5])
 |succ m ih =>
  intro p w env G hm hw hz h0 h1 h5 h6 h7;refine Qc hm' QfV.eq_1 ?_;have w1:IntKind.i64.wrap ((p.length:Int)+1)=((p.length+1:Nat):Int):=QaF (by omega);have hB:B=1000000000:=rfl;have step:∀ (r q:Nat),QaG (x.drop p.length) (y.drop p.length) w=r::QaG (x.drop (p.length+1)) (y.drop (p.length+1)) q->q<=1->∀ (env:Env) (G:Ws),env.get 0=.slc (us x) x.length->env.get 1=.slc (us y) y.length->env.get 5=.own H.length 0 (p.length+1) 1 (p.length+1)->env.get 6=i64 q->env.get 7=i64 ((p.length+1:Nat):Int) ->
   LI Tryz.prog N Qb QfV env (H++⟨us p++[.val (.int .u32 r)],114,p.length+1,true⟩::G) K:=by
   intro r q hpl hq1 env G k0 k1 k5 k6 k7;have e:us p++[.val (.int .u32 (r:Int))]=us (p++[r]):=by simp[us,u32]
   have el:p.length+1=(p++[r]).length:=by simp
   rw[e];rw[el]at k5 k7 ⊢;refine ih (p++[r]) q env G (by simp; omega) hq1 ?_ k0 k1 k5 k6 k7;rw[<-el,VQ,ZC,<- hpl];exact hz
  have cx:p.length<x.length:=by omega
  have dx:=hx _ (Vf cx);have gx:(us x)[p.length]?.getD .any=.val (.int .u32 x[p.length]):=QbM cx;have gx':∀ h,(us x)[p.length]'h=.val (.int .u32 x[p.length]):=λh=>Qcv cx h;have wa:IntKind.i64.wrap ((x[p.length]:Nat):Int)=(x[p.length]:Nat):=QcI (by omega);have wb:IntKind.i64.wrap (((x[p.length]:Nat):Int)-w)=((x[p.length]:Nat):Int)-w:=Qp (by omega) (by omega);by_cases cy:p.length<y.length
  . have dy:=hy _ (Vf cy);have gy:(us y)[p.length]?.getD .any=.val (.int .u32 y[p.length]):=QbM cy;have gy':∀ h,(us y)[p.length]'h=.val (.int .u32 y[p.length]):=λh=>Qcv cy h;have wc:IntKind.i64.wrap ((y[p.length]:Nat):Int)=(y[p.length]:Nat):=QcI (by omega);have wd:IntKind.i64.wrap (((x[p.length]:Nat):Int)-w-(y[p.length]:Nat))=((x[p.length]:Nat):Int)-w-(y[p.length]:Nat):=Qp (by omega) (by omega);by_cases hd:x[p.length]<w+y[p.length]
    . have we:IntKind.i64.wrap (((x[p.length]:Nat):Int)-w-(y[p.length]:Nat)+1000000000)=((x[p.length]+B-w-y[p.length]:Nat):Int):=by rw[Qp (by omega) (by omega)]; omega
      have wf:=Qcl (n:=x[p.length]+B-w-y[p.length]) (by omega);have hs:=step _ 1 (by rw[Vy cx,Vy cy,QaG,Wb hd]) (by omega);generalize x[p.length]+B-w-y[p.length]=r at *;simp -implicitDefEqProofs[h0,h1,h5,h6,h7,cx,cy,Qab,gx,gx',gy,gy',wa,wb,wc,wd,we,wf,show(p.length:Int)<x.length by omega,show(p.length:Int)<y.length by omega,show((x[p.length]:Nat):Int)-w-(y[p.length]:Nat)<0 by omega];repeat (refine⟨by omega,?_⟩)
      refine⟨⟨rfl,rfl,rfl⟩,rfl,?_⟩;repeat (refine⟨by omega,?_⟩)
      exact hs _ _ (by simp[h0]) (by simp[h1]) (by simp) (by simp) (by simp[w1])
    . have we:((x[p.length]:Nat):Int)-w-(y[p.length]:Nat)=((x[p.length] - w-y[p.length]:Nat):Int):=by omega
      have wf:=Qcl (n:=x[p.length] - w-y[p.length]) (by omega);have hs:=step _ 0 (by rw[Vy cx,Vy cy,QaG,Wa hd]) (by omega);have hnn:¬ ((x[p.length] - w-y[p.length]:Nat):Int)<0:=by omega
      rw[we]at wd;generalize x[p.length] - w-y[p.length]=r at *;simp -implicitDefEqProofs[h0,h1,h5,h6,h7,cx,cy,Qab,gx,gx',gy,gy',wa,wb,wc,wd,we,wf,hnn,show(p.length:Int)<x.length by omega,show(p.length:Int)<y.length by omega];repeat (refine⟨by omega,?_⟩)
      refine⟨⟨rfl,rfl,rfl⟩,rfl,?_⟩;repeat (refine⟨by omega,?_⟩)
      exact hs _ _ (by simp[h0]) (by simp[h1]) (by simp) (by simp) (by simp[w1])
  . have ey:y.drop p.length=[]:=YJ (by omega);have ey1:y.drop (p.length+1)=[]:=YJ (by omega);by_cases hd:x[p.length]<w
    . have we:IntKind.i64.wrap (((x[p.length]:Nat):Int)-w+1000000000)=((x[p.length]+B-w:Nat):Int):=by rw[Qp (by omega) (by omega)]; omega
      have wf:=Qcl (n:=x[p.length]+B-w) (by omega);have hs:=step _ 1 (by rw[Vy cx,ey,ey1,QaG,Wb hd]) (by omega);generalize x[p.length]+B-w=r at *;simp -implicitDefEqProofs[h0,h1,h5,h6,h7,cx,cy,Qab,gx,gx',wa,wb,we,wf,show(p.length:Int)<x.length by omega,show ¬ (p.length:Int)<y.length by omega,show((x[p.length]:Nat):Int)-w<0 by omega];repeat (refine⟨by omega,?_⟩)
      refine⟨⟨rfl,rfl,rfl⟩,rfl,?_⟩;repeat (refine⟨by omega,?_⟩)
      exact hs _ _ (by simp[h0]) (by simp[h1]) (by simp) (by simp) (by simp[w1])
    . have we:((x[p.length]:Nat):Int)-w=((x[p.length] - w:Nat):Int):=by omega
      have wf:=Qcl (n:=x[p.length] - w) (by omega);have hs:=step _ 0 (by rw[Vy cx,ey,ey1,QaG,Wa hd]) (by omega);have hnn:¬ ((x[p.length] - w:Nat):Int)<0:=by omega
      rw[we]at wb;generalize x[p.length] - w=r at *;simp -implicitDefEqProofs[h0,h1,h5,h6,h7,cx,cy,Qab,gx,gx',wa,wb,we,wf,hnn,show(p.length:Int)<x.length by omega,show ¬ (p.length:Int)<y.length by omega];repeat (refine⟨by omega,?_⟩)
      refine⟨⟨rfl,rfl,rfl⟩,rfl,?_⟩;repeat (refine⟨by omega,?_⟩)
      exact hs _ _ (by simp[h0]) (by simp[h1]) (by simp) (by simp) (by simp[w1])
theorem QtF (hab:b<=a) (ha:(lim a).length<1000000) (hb:(lim b).length<1000000):OkP Tryz.prog 106 [nS a,nS b] H λo H'=>∃ z G,o=.ret (.own H.length 0 (lim (a-b)).length 1 z.length)/\H'=H++⟨us z,114,z.length,true⟩::G/\QF z=lim (a-b)/\z.length=(lim a).length:=by
 refine Qce hm' Tryz.func106 c106 (by simp[nS,QbW]) λhcl => ?_;have hz:=Qfu (Qbn a) (Qbn b) (w:=0) (by omega) (by rw[Qcy,Qcy]; omega);have hd:=QfA (Qbn a) (Qbn b) (w:=0) (by omega);have hl:=Qj1 (lim a) (lim b) 0;have ht:=Qev hd;rw[hz,Qcy,Qcy,Nat.sub_zero]at ht;simp -implicitDefEqProofs[i106,r106,nS];refine Qqe (H:=H) (z:=QaG (lim a) (lim b) 0) (Qbn a) (Qbn b) ha hb hl (λenv G h5 => ?_) (lim a).length [] 0 _ [] (by simp) (by omega) ?_ ?_ ?_ ?_ ?_ ?_
 . generalize QaG (lim a) (lim b) 0=z at *;simp -implicitDefEqProofs[h5];have h69:=Qln (X:=H++⟨us z,114,z.length,true⟩::G) (l:=z) (k:=H.length) (v:=z.length) (by simp) (by omega);refine QbL h69 ?_;rintro o G' ⟨rfl,hG⟩;rw[hG];simp -implicitDefEqProofs[ht];exact⟨_,_,⟨z,rfl,⟨G,rfl⟩,ht,hl⟩,Qo⟩
 . simp
 . simp
 . simp
 . simp
 . simp
 . simp
theorem Qg4:∀ l:List Nat,l.take (QF l).length=QF l
 |[]=>rfl
 |x::r=>by
  have ih:=Qg4 r;by_cases h:QF r=[]/\x=0
  . have e:QF (x::r)=[]:=by unfold QF; rw[Wb h]
    rw[e]; rfl
  . have e:QF (x::r)=x::QF r:=by conv=>lhs; unfold QF; rw[Wa h]
    rw[e]; simp[ih]
theorem Qm1 {n:Nat} {L:Ws} {z:List Nat} {k d v:Nat} (h:L[k]? = some ⟨us z,114,v,true⟩):SV.fz n [] L (d+2) (.own (n+k) 0 (QF z).length 1 v)=.slc (us (QF z)) (QF z).length:=by
 have hl:=QlY z;have e:(us z).take (QF z).length=us (QF z):=by
  unfold us;rw[<-ZP,Qg4]
 rw[Qf1,h];simp[Qah,Qab,Qd9,QbW,e,hl]
end
end Go.Proofs.YtogjmpkehjfecaaGreatDoor.Rc
namespace Go.Ab.Shr
def Qa8 (r:Nat->Int) (x:Nat):List Nat->List Nat
 |[]=>[x]
 |y::l=>if r y<r x then x::y::l else y::Qa8 r x l
def QaB (r:Nat->Int):Nat->List Nat
 |0=>[]
 |n+1=>Qa8 r n (QaB r n)
def Ord (r:Nat->Int):List Nat->Prop
 |[]=>True
 |x::l=>(∀ y∈l,r y<r x\/(r y=r x/\x<y))/\Ord r l
theorem QlD {r:Nat->Int} {x y:Nat}:∀ {l:List Nat},y∈Qa8 r x l↔y=x\/y∈l
 |[]=>by simp[Qa8]
 |z::l=>by
  simp only[Qa8];split
  . simp
  . simp only[Vi,QlD (l:=l)];constructor
    . rintro(h|h|h); exact .inr (.inl h); exact .inl h; exact .inr (.inr h)
    . rintro(h|h|h); exact .inr (.inl h); exact .inl h; exact .inr (.inr h)
theorem Qnq {r:Nat->Int} {x:Nat}:∀ {l:List Nat},(Qa8 r x l).length=l.length+1
 |[]=>rfl
 |z::l=>by
  simp only[Qa8];split
  . rfl
  . simp only[VL,Qnq (l:=l)]
theorem QoX {r:Nat->Int} {x:Nat}:∀ {l:List Nat},Ord r l->(∀ y∈l,y<x)->Ord r (Qa8 r x l)
 |[],_,_=>by simp[Qa8,Ord]
 |z::l,h,hx=>by
  simp only[Qa8];obtain⟨h1,h2⟩:=h;split
  . rename_i hlt;refine⟨λy hy => ?_,h1,h2⟩;rcases Vi.1 hy with rfl|hy
    . exact .inl hlt
    . rcases h1 y hy with h|h
      . exact .inl (by omega)
      . exact .inl (by omega)
  . rename_i hge;refine⟨λy hy => ?_,QoX h2 λy hy=>hx y (VJ _ hy)⟩;rcases QlD.1 hy with rfl|hy
    . have:=hx z (by simp); omega
    . exact h1 y hy
theorem QeS {r:Nat->Int}:∀ {n x:Nat},x∈QaB r n↔x<n
 |0,x=>by simp[QaB]
 |n+1,x=>by
  simp only[QaB,QlD,QeS (n:=n)];omega
theorem Qgi {r:Nat->Int}:∀ n:Nat,(QaB r n).length=n
 |0=>rfl
 |n+1=>by simp only[QaB,Qnq,Qgi n]
theorem Qlv {r:Nat->Int}:∀ n:Nat,Ord r (QaB r n)
 |0=>trivial
 |n+1=>QoX (Qlv n) λy hy=>QeS.1 hy
def top (r:Nat->Int):Nat->Nat
 |0=>0
 |n+1=>if n=0 then 0 else if r (top r n)<r n then n else top r n
theorem Qig {r:Nat->Int}:∀ {n:Nat},0<n->top r n<n/\(∀ y,y<n->r y<=r (top r n))/\(∀ y,y<top r n->r y<r (top r n))
 |1,_=>by
  have e:top r 1=0:=rfl;rw[e];refine⟨by omega,λy h => ?_,λy h=>by omega⟩;have:y=0:=by omega
  rw[this];exact Ym _
 |n+2,_=>by
  obtain⟨h1,h2,h3⟩:=Qig (r:=r) (n:=n+1) (by omega);have e:top r (n+2)=if r (top r (n+1))<r (n+1)then n+1 else top r (n+1):=rfl;rw[e];split
  . rename_i h;refine⟨by omega,λy hy => ?_,λy hy => ?_⟩
    . by_cases hn:y=n+1
      . rw[hn]; exact Ym _
      . have:=h2 y (by omega); omega
    . have:=h2 y (by omega); omega
  . rename_i h;refine⟨by omega,λy hy => ?_,h3⟩;by_cases hn:y=n+1
    . rw[hn]; omega
    . exact h2 y (by omega)
def put (f:Nat->Int) (k:Nat) (v:Int):Nat->Int:=λi=>if i=k then v else f i
def QcX (n:Nat):Nat->(Nat->Int)×(Nat->Int)->(Nat->Int)×(Nat->Int)
 |0,s=>s
 |m+1,s=>QcX n m (put s.1 (top s.2 n) (s.1 (top s.2 n)+1),put s.2 (top s.2 n) (-1))
def Qb0 (f:Nat->Int):List Nat->Nat->Int
 |[],i=>f i
 |x::l,i=>Qb0 (put f x (f x+1)) l i
theorem QvB {r:Nat->Int} {n:Nat} {x:Nat} (hx:x<n) (h:∀ y,y<n->y≠x->r y<r x\/(r y=r x/\x<y)):top r n=x:=by
 obtain⟨h1,h2,h3⟩:=Qig (r:=r) (n:=n) (by omega);have a:=h2 x hx;rcases Ye (top r n) x with hlt|heq|hgt
 . rcases h (top r n) h1 (by omega)with h4|h4<;>omega
 . exact heq
 . have:=h3 x hgt;rcases h (top r n) h1 (by omega)with h4|h4<;>omega
theorem QmT {n:Nat}:∀ (m:Nat) (l:List Nat) (f r:Nat->Int),m<=l.length->Ord r l->(∀ x∈l,x<n)->(∀ y,y<n->y∉l->r y = -1)->(∀ x∈l,0<=r x) ->
 (QcX n m (f,r)).1=Qb0 f (l.take m)
 |0,l,f,r,_,_,_,_,_=>by simp only[QcX,Yi]; rfl
 |m+1,[],f,r,h,_,_,_,_=>by simp at h
 |m+1,x::l,f,r,h,ho,hn,hout,hin=>by
  obtain⟨h1,h2⟩:=ho;have hnx:x∉l:=λhx=>by rcases h1 x hx with h|h<;>omega
  have ht:top r n=x:=by
   refine QvB (hn x (by simp)) λy hy hne => ?_;by_cases hy2:y∈l
   . exact h1 y hy2
   . have:=hout y hy (by simp[hne,hy2]);have:=hin x (by simp);exact .inl (by omega)
  simp only[QcX,ht,List.take_succ_cons];have key:∀ y∈l,put r x (-1) y=r y:=λy hy=>by
   unfold put; exact Wa (λ(e:y=x)=>hnx (e ▸ hy))
  have ho2:∀ l':List Nat,(∀ y∈l',y∈l)->Ord r l'->Ord (put r x (-1)) l':=by
   intro l'
   induction l' with
   |nil=>intro _ _; trivial
   |cons z l' ih =>
    intro hs ho;refine⟨λy hy => ?_,ih (λy hy=>hs y (VJ _ hy)) ho.2⟩;rw[key y (hs y (VJ _ hy)),key z (hs z (by simp))];exact ho.1 y hy
  rw[QmT m l _ _ (by simpa using h) (ho2 l (λ_ h=>h) h2) (λy hy=>hn y (VJ _ hy)) (λy hy hy2 => ?_) (λy hy => ?_)]
  . funext i; rfl
  . unfold put;split
    . rfl
    . rename_i hne; exact hout y hy (by simp[hne,hy2])
  . rw[key y hy]; exact hin y (VJ _ hy)
end Go.Ab.Shr
namespace Go.Proofs.YtogjmpkehjfecaaGreatDoor.Rc
open Go.Ab Go.Ab.Shr
def Qa4 (l:List Nat):Wt:=Qa (l.map λ(n:Nat)=>(n:Int))
@[simp] theorem Qov (l:List Nat):(Qa4 l).length=l.length:=by simp[Qa4]
def bkI (r:Nat->Int) (x:Nat):List Nat->List Nat->List Nat
 |[],B=>x::B
 |y::A,B=>if r y<r x then bkI r x A (y::B)else(y::A).reverse++x::B
theorem Ql1 {r:Nat->Int} {x:Nat}:∀ (B:List Nat),(∀ y∈B,r y<r x)->Qa8 r x B=x::B
 |[],_=>rfl
 |y::B,h=>by simp only[Qa8]; rw[Wb (h y (by simp))]
theorem Qnm {r:Nat->Int} {x:Nat}:∀ (A B:List Nat),(∀ y∈A,¬ r y<r x)->Qa8 r x (A++B)=A++Qa8 r x B
 |[],B,_=>rfl
 |y::A,B,h=>by
  show Qa8 r x (y::(A++B))=y::(A++Qa8 r x B);simp only[Qa8];rw[Wa (h y (by simp)),Qnm A B λz hz=>h z (VJ _ hz)]
theorem Qn9 {r:Nat->Int} {x:Nat}:∀ (A B:List Nat),(A.Pairwise λa b=>r a<=r b)->(∀ y∈B,r y<r x)->bkI r x A B=Qa8 r x (A.reverse++B)
 |[],B,_,hB=>by simp only[bkI,List.reverse_nil,VW,Ql1 B hB]
 |y::A,B,hA,hB=>by
  rw[Yz]at hA;simp only[bkI];split
  . rename_i h;rw[Qn9 A (y::B) hA.2 λz hz=>by
     rcases Vi.1 hz with rfl|hz
     . exact h
     . exact hB z hz]
    simp
  . rename_i h;rw[Qnm _ _ λz hz => ?_,Ql1 B hB];rw[List.mem_reverse]at hz;rcases Vi.1 hz with rfl|hz
    . exact h
    . have:=hA.1 z hz; omega
theorem Qn7 {r:Nat->Int}:∀ {l:List Nat},Ord r l->l.Pairwise λa b=>r b<=r a
 |[],_=>.nil
 |x::l,h=>by
  rw[Yz];refine⟨λy hy => ?_,Qn7 h.2⟩;rcases h.1 y hy with h|h<;>omega
theorem Qrh {r:Nat->Int} (n:Nat):bkI r n (QaB r n).reverse []=QaB r (n+1):=by
 rw[Qn9 _ _ (by rw[List.pairwise_reverse]; exact Qn7 (Qlv n)) (by simp)];simp[QaB]
def oN (C:Wt) (l:List Nat) (D:Wt) (T:Ww) (v:Nat):AO:=⟨C++(Qa4 l++D),T,v,true⟩
section
variable {H:Ws} {k v:Nat} {C D:Wt} {T:Ww} {vf:SV} {r:Nat->Int} {n:Nat}
def oS (H:Ws) (k:Nat) (C D:Wt) (T:Ww) (v:Nat) (l:List Nat):Ws:=H.set k (oN C l D T v)
theorem QgM (hk:k<H.length) (l:List Nat):Qf (oS H k C D T v l) k v=C++(Qa4 l++D):=by
 have:=Qwr hk [] (C++(Qa4 l++D)) T v;simpa[oS,oN]using this
theorem QtI (hk:k<H.length) (l:List Nat) (f:AO->AO):Ab.setObj (oS H k C D T v l) k f=H.set k (f (oN C l D T v)):=by
 have:=Qts hk [] (oN C l D T v) f;simpa[oS]using this
theorem Qwi {l:List Nat} {j:Nat} (hj:j<l.length) (x:Nat):(C++(Qa4 l++D)).take (C.length+j)++i64 (x:Int)::(C++(Qa4 l++D)).drop (C.length+j+1)=C++(Qa4 (l.set j x)++D):=by
 rw[ZQ,Ze];have e1:C.length+j-C.length=j:=by omega
 have e2:C.length+j+1-C.length=j+1:=by omega
 rw[e1,e2,VA (by omega),YJ (by omega),ZQ,Ze];have e3:j-(Qa4 l).length=0:=by simp; omega
 have e4:j+1-(Qa4 l).length=0:=by simp; omega
 rw[e3,e4];simp only[Yi,Vr,YR,VW,VQ,List.append_cancel_left_eq];have:(Qa4 l).take j++i64 (x:Int)::(Qa4 l).drop (j+1)=Qa4 (l.set j x):=by
  have:=Qar (l:=l.map λ(n:Nat)=>(n:Int)) (k:=j) (by simpa using hj) (x:Int);simpa[Qa4,List.map_set]using this
 rw[<-this];simp
theorem Qpr (hk:k<H.length) {l:List Nat} {j:Nat} (hj:j<l.length):(Qf (oS H k C D T v l) k v)[C.length+j]?.getD .any=i64 (l[j]:Nat):=by
 rw[QgM hk,Vh (by omega),Ve (by simp; omega)];simp[Qa4,Qa,hj]
theorem Qn8 (hk:k<H.length) {l:List Nat} {j:Nat} (hj:j<l.length) (x:Nat) :
 Ab.setObj (oS H k C D T v l) k (λo=>{ cells:=List.take (C.length+j) o.cells++i64 (x:Int)::List.drop (C.length+j+1) o.cells,ty:=o.ty,ver:=o.ver,live:=o.live })=oS H k C D T v (l.set j x):=by
 rw[QtI hk];simp only[oS,oN];rw[Qwi hj]
set_option maxRecDepth 10000 in
theorem QuQ (hk:k<H.length) (hvf:vf.vd=true/\vf.ug=vf) (hn:n<4611686018427387904)
 (hcmp:∀ (l:List Nat) (a b:Nat),a<n->b<n->OkC Tryz.prog vf [i64 a,i64 b] (oS H k C D T v l) (.ret (i64 (r b-r a))) (oS H k C D T v l))
 {x b i:Nat} (hx:x<n) {R F:List Nat} {N:Nat} {K:Wr}
 (hexit:∀ env,env.get 0=.own k C.length n 1 v->env.get 1=i64 0->env.get 2=i64 b->env.get 3=vf->env.get 8=i64 i->K (.exit 2) env (oS H k C D T v (F++R))) :
 ∀ (A B:List Nat) (env:Env),(A.length+1+B.length+R.length=n)->(∀ y∈A,y<n)->bkI r x A B=F ->
  env.get 0=.own k C.length n 1 v->env.get 1=i64 0->env.get 2=i64 b->env.get 3=vf->env.get 8=i64 i->env.get 9=i64 A.length ->
  LI Tryz.prog N Qb QhR env (oS H k C D T v (A.reverse++x::B++R)) K:=by
 intro A
 induction A with
 |nil =>
  intro B env hl hA hF h0 h1 h2 h3 h8 h9;refine Qc hm QhR.eq_1 ?_;subst hF;have hc:=QgM (C:=C) (D:=D) (T:=T) (v:=v) hk (bkI r x [] B++R);simp only[YQ]at h9;simp -implicitDefEqProofs[h0,h1,h2,h3,h8,h9,hvf.1,hvf.2];exact hexit _ (by simp[h0]) (by simp[h1]) (by simp[h2]) (by simp[h3]) (by simp[h8])
 |cons y A ih =>
  intro B env hl hA hF h0 h1 h2 h3 h8 h9;refine Qc hm QhR.eq_1 ?_;simp only[VL]at hl h9;have hLl:(A.reverse++y::x::(B++R)).length=n:=by simp; omega
  have e1:(Qf (oS H k C D T v (A.reverse++y::x::(B++R))) k v)[C.length+(A.length+1)]?.getD .any=i64 (x:Int):=by rw[Qpr hk (by simp)]; simp
  have e2:(Qf (oS H k C D T v (A.reverse++y::x::(B++R))) k v)[C.length+A.length]?.getD .any=i64 (y:Int):=by rw[Qpr hk (by simp)]; simp
  have e3:(Qf (oS H k C D T v (A.reverse++y::x::(B++R))) k v).length=C.length+n+D.length:=by rw[QgM hk]; simp only[VG,Qov]; simp only[VG]at hLl; omega
  have w1:IntKind.i64.wrap (A.length:Int)=A.length:=Qp (by omega) (by omega);have e4:=Qn8 (C:=C) (D:=D) (T:=T) (v:=v) hk (l:=A.reverse++y::x::(B++R)) (j:=A.length+1) (by simp) y;have e5:(A.reverse++y::x::(B++R)).set (A.length+1) y=A.reverse++y::y::(B++R):=by simp[List.set_append]
  have e6:=Qn8 (C:=C) (D:=D) (T:=T) (v:=v) hk (l:=A.reverse++y::y::(B++R)) (j:=A.length) (by simp) x;have e7:(A.reverse++y::y::(B++R)).set A.length x=A.reverse++x::y::(B++R):=by simp[List.set_append]
  have e8:(Qf (oS H k C D T v (A.reverse++y::y::(B++R))) k v).length=C.length+n+D.length:=by rw[QgM hk]; simp only[VG,Qov,VL]; simp only[VG,VL]at hLl; omega
  rw[e5]at e4;rw[e7]at e6;simp -implicitDefEqProofs[h0,h1,h2,h3,h8,h9,hvf.1,hvf.2,e1,e2,e3,w1];refine⟨by omega,by omega,by omega,by omega,QkW (hcmp _ x y hx (hA y (by simp))).toP λout H' hP => ?_⟩;obtain⟨rfl,rfl⟩:=hP;simp only[bkI]at hF;by_cases hc:r y<r x
  . rw[Wb hc]at hF;have hc':r y-r x<0:=by omega
    simp -implicitDefEqProofs[hc',h0,h9,e1,e2,e3,w1,e4,e6,e8];refine⟨by omega,by omega,by omega,by omega,by omega,by omega,by omega,by omega,?_⟩;have e9:A.reverse++x::(y::B)++R=A.reverse++x::y::(B++R):=by simp
    rw[<-e9];refine ih (y::B) _ (by simp; omega) (λz hz=>hA z (VJ _ hz)) hF ?_ ?_ ?_ ?_ ?_ ?_
    . simp
    . simp[h1]
    . simp[h2]
    . simp[h3]
    . simp[h8]
    . simp
  . rw[Wa hc]at hF;have hc':¬ r y-r x<0:=by omega
    subst hF;simp -implicitDefEqProofs[hc'];have e9:(y::A).reverse++x::B++R=A.reverse++y::x::(B++R):=by simp
    rw[e9]at hexit;exact hexit _ (by simp[h0]) (by simp[h1]) (by simp[h2]) (by simp[h3]) (by simp[h8])
set_option maxRecDepth 10000 in
theorem QsF (hk:k<H.length) (hvf:vf.vd=true/\vf.ug=vf) (hn:n<4611686018427387904)
 (hcmp:∀ (l:List Nat) (a b:Nat),a<n->b<n->OkC Tryz.prog vf [i64 a,i64 b] (oS H k C D T v l) (.ret (i64 (r b-r a))) (oS H k C D T v l))
 {N:Nat} {K:Wr} (hexit:∀ env,K (.exit 0) env (oS H k C D T v (QaB r n))) :
 ∀ (m i:Nat) (env:Env),i+m=n->env.get 0=.own k C.length n 1 v->env.get 1=i64 0->env.get 2=i64 n->env.get 3=vf->env.get 8=i64 i ->
  LI Tryz.prog N Qb Qf2 env (oS H k C D T v (QaB r i++List.range' i m)) K:=by
 intro m
 induction m with
 |zero =>
  intro i env hi h0 h1 h2 h3 h8;refine Qc hm Qf2.eq_1 ?_;have e:i=n:=by omega
  subst e;simp -implicitDefEqProofs[h0,h1,h2,h3,h8];exact hexit _
 |succ m ih =>
  intro i env hi h0 h1 h2 h3 h8;refine Qc hm Qf2.eq_1 ?_;have hlt:i<n:=by omega
  simp -implicitDefEqProofs[h0,h1,h2,h3,h8,hlt];have e1:QaB r i++List.range' i (m+1)=((QaB r i).reverse).reverse++i::[]++List.range' (i+1) m:=by
   rw[YX]; simp
  rw[e1];have hl:(QaB r i).length=i:=Qgi i;refine QuQ (r:=r) (n:=n) (i:=i) (b:=n) (R:=List.range' (i+1) m) (F:=QaB r (i+1)) hk hvf hn hcmp hlt (λenv g0 g1 g2 g3 g8 => ?_) (QaB r i).reverse [] _ (by simp[hl]; omega) (λy hy => ?_) (Qrh i) ?_ ?_ ?_ ?_ ?_ ?_
  . simp -implicitDefEqProofs[g8];refine ih (i+1) _ (by omega) ?_ ?_ ?_ ?_ ?_
    . simp[g0]
    . simp[g1]
    . simp[g2]
    . simp[g3]
    . simp[Qw (show i<9223372036854775807 by omega)]
  . rw[List.mem_reverse,QeS]at hy; omega
  . simp
  . simp
  . simp
  . simp
  . simp
  . simp[hl]
theorem Qsh (hk:k<H.length) (hvf:vf.vd=true/\vf.ug=vf) (hvu:vf.under H.length=true) (hn:n<4611686018427387904)
 (hcmp:∀ (l:List Nat) (a b:Nat),a<n->b<n->OkC Tryz.prog vf [i64 a,i64 b] (oS H k C D T v l) (.ret (i64 (r b-r a))) (oS H k C D T v l)) :
 Ok Tryz.prog 117 [.own k C.length n 1 v,i64 0,i64 n,vf] (oS H k C D T v (List.range n)) (.ret (.tup [])) (oS H k C D T v (QaB r n)):=by
 have hlen:∀ l,(oS H k C D T v l).length=H.length:=λl=>by simp[oS]
 refine Ql hm Tryz.func117 c117 (by simp[hlen,hk,hvu]) λhcl => ?_;simp -implicitDefEqProofs[i117,r117];by_cases h0:n=0
 . subst h0;refine Qc hm Qf2.eq_1 ?_;simp -implicitDefEqProofs;exact Qo
 . have e1:List.range n=QaB r 1++List.range' 1 (n-1):=by
    rw[Zd,show n=(n-1)+1 by omega,YX]; rfl
   rw[e1];refine QsF (r:=r) hk hvf hn hcmp (λenv => ?_) (n-1) 1 _ (by omega) ?_ ?_ ?_ ?_ ?_
   . simp -implicitDefEqProofs;exact Qo
   . simp
   . simp
   . simp
   . simp
   . simp[Qp (show(-9223372036854775808:Int)<=1 by omega) (show(1:Int)<=9223372036854775807 by omega)]
end
section
variable {H:Ws} {k v:Nat} {C D:Wt} {T:Ww} {vf:SV} {r:Nat->Int} {n:Nat}
set_option maxRecDepth 10000 in
theorem ok88 (hk:k<H.length) (hvf:vf.vd=true/\vf.ug=vf/\vf.strip=vf) (hvu:vf.under H.length=true) (hn:n<=10)
 (hcmp:∀ (l:List Nat) (a b:Nat),a<n->b<n->OkC Tryz.prog vf [i64 a,i64 b] (oS H k C D T v l) (.ret (i64 (r b-r a))) (oS H k C D T v l)) :
 Ok Tryz.prog 88 [.own k C.length n 1 v,i64 n,vf] (oS H k C D T v (List.range n)) (.ret (.tup [])) (oS H k C D T v (QaB r n)):=by
 have hlen:∀ l,(oS H k C D T v l).length=H.length:=λl=>by simp[oS]
 refine Ql hm Tryz.func88 c88 (by simp[hlen,hk,hvu]) λhcl => ?_;simp -implicitDefEqProofs[i88,r88];refine Qc hm QmU.eq_1 ?_;simp -implicitDefEqProofs[show ¬ (20:Int)<=(n:Int)by omega];refine Qh (Qsh hk ⟨hvf.1,hvf.2.1⟩ hvu (by omega) hcmp) ?_;simp -implicitDefEqProofs;refine Qc hm Qma.eq_1 ?_;simp -implicitDefEqProofs[show ¬ (20:Int)<(n:Int)by omega];exact Qo
theorem ok54 (hk:k<H.length) (hvf:vf.vd=true/\vf.ug=vf/\vf.strip=vf) (hvu:vf.under H.length=true) (hn:n<=10)
 (hcmp:∀ (l:List Nat) (a b:Nat),a<n->b<n->OkC Tryz.prog vf [i64 a,i64 b] (oS H k C D T v l) (.ret (i64 (r b-r a))) (oS H k C D T v l)) :
 Ok Tryz.prog 54 [.own k C.length n 1 v,vf] (oS H k C D T v (List.range n)) (.ret (.tup [])) (oS H k C D T v (QaB r n)):=by
 have hlen:∀ l,(oS H k C D T v l).length=H.length:=λl=>by simp[oS]
 refine Ql hm Tryz.func54 c54 (by simp[hlen,hk,hvu]) λhcl => ?_;simp -implicitDefEqProofs[i54,r54];refine Qh (ok88 hk hvf hvu hn hcmp) ?_;simp -implicitDefEqProofs;exact Qo
end
def Qa3 (x:Int):Int:=max x 0
def Qbe (l:List Int) (tot:Int) (i:Nat):Int:=(65536*Qa3 (l.getD i 0)) % tot
section
variable {H:Ws} {x:SV} {l:List Int} {b t p:Nat}
structure ClS (H:Ws) (x:SV) (l:List Int) (tot:Int) (b t p:Nat):Prop where
 hb:Qf H b 0=[x]
 ht:Qf H t 0=[i64 tot]
 hp:Qf H p 0=[.fn (.func 53) [] [.ptr (.own b 0 0 0 0) 0,.ptr (.own t 0 0 0 0) 0]]
 lb:b<H.length
 lt:t<H.length
 lp:p<H.length
 hx:IsI H x l
theorem ok53 {tot:Int} (h:ClS H x l tot b t p) (hl:l.length<=10) (hr:∀ v∈l,-70368744177664<=v/\v<=70368744177664) (h0:0<tot) (h1:tot<4611686018427387904) {i:Nat} (hi:i<l.length) :
 Ok Tryz.prog 53 [i64 i,.ptr (.own b 0 0 0 0) 0,.ptr (.own t 0 0 0 0) 0] H (.ret (i64 (Qbe l tot i))) H:=by
 have hx:=h.hx;refine Ql hm Tryz.func53 c53 (by simp[h.lb,h.lt]) λhcl => ?_;have hv:=hr _ (Vf hi);have e:Qbe l tot i=(65536*max l[i] 0) % tot:=by simp[Qbe,Qa3,hi]
 have w1:IntKind.i64.wrap (65536*max l[i] 0)=65536*max l[i] 0:=Qp (by omega) (by omega);have w2:(65536*max l[i] 0).tmod tot=65536*max l[i] 0 % tot:=Int.tmod_eq_emod_of_nonneg (by omega);rw[e];simp -implicitDefEqProofs[i53,r53,h.hb,h.ht,hx.vd,hx.ug,hx.sl,hx.len,hi,hx.ok hi,hx.v hi,w1,w2,show ¬ tot=0 by omega];exact Qo
theorem Qm7 {tot:Int} (h0:0<tot) (i:Nat):0<=Qbe l tot i/\Qbe l tot i<tot:=⟨ZR _ (by omega),ZS _ h0⟩
theorem ok55 {tot:Int} (h:ClS H x l tot b t p) (hl:l.length<=10) (hr:∀ v∈l,-70368744177664<=v/\v<=70368744177664) (h0:0<tot) (h1:tot<4611686018427387904) {i j:Nat} (hi:i<l.length) (hj:j<l.length) :
 Ok Tryz.prog 55 [i64 i,i64 j,.ptr (.own p 0 0 0 0) 0] H (.ret (i64 (Qbe l tot j-Qbe l tot i))) H:=by
 refine Ql hm Tryz.func55 c55 (by simp[h.lp]) λhcl => ?_;have r1:=Qm7 (l:=l) h0 i;have r2:=Qm7 (l:=l) h0 j;have w1:IntKind.i64.wrap (Qbe l tot j-Qbe l tot i)=Qbe l tot j-Qbe l tot i:=Qp (by omega) (by omega);simp -implicitDefEqProofs[i55,r55,h.hp];refine Qk6 (out:=.ret (i64 (Qbe l tot j))) (H':=H) (by simpa using ok53 h hl hr h0 h1 hj) ?_;simp -implicitDefEqProofs[h.hp];refine Qk6 (out:=.ret (i64 (Qbe l tot i))) (H':=H) (by simpa using ok53 h hl hr h0 h1 hi) ?_;simp -implicitDefEqProofs[h.hp,w1];exact Qo
end
def G2 (H:Ws) (a k:Nat) (o p:AO):Ws:=(H.set a o).set k p
section
variable {H L:Ws} {a k:Nat} {o p:AO}
@[simp] theorem Qgm:(G2 H a k o p).length=H.length:=by simp[G2]
theorem Qgv (ha:a<H.length) (hk:a≠k):(G2 H a k o p++L)[a]? = some o:=by
 rw[Ve (by simpa using ha)];unfold G2;rw[Vd (Ne.symm hk),Vg ha]
theorem Qg1 (hk:k<H.length):(G2 H a k o p++L)[k]? = some p:=by
 rw[Ve (by simpa using hk)];unfold G2;rw[Vg (by simpa using hk)]
theorem Qjs (ha:a<H.length) (hk:a≠k) {c:Wt} {T:Ww} {v:Nat}:Qf (G2 H a k ⟨c,T,v,true⟩ p++L) a v=c:=Qak (o:=⟨c,T,v,true⟩) (Qgv ha hk) rfl
theorem Qip (hk:k<H.length) {c:Wt} {T:Ww} {v:Nat}:Qf (G2 H a k o ⟨c,T,v,true⟩++L) k v=c:=Qak (o:=⟨c,T,v,true⟩) (Qg1 hk) rfl
theorem Qda (v:Nat):Qf (G2 H a k o p++L) H.length v=Qf L 0 v:=by
 have:=Qf8 (G2 H a k o p) L v; rwa [Qgm]at this
theorem QcH (j v:Nat):Qf (G2 H a k o p++L) (H.length+j) v=Qf L j v:=by
 have:=QdY (G2 H a k o p) L j v; rwa [Qgm]at this
theorem QcY (j:Nat) (f:AO->AO):Ab.setObj (G2 H a k o p++L) (H.length+j) f=G2 H a k o p++Ab.setObj L j f:=by
 have:=Qty (G2 H a k o p) L j f; rwa [Qgm]at this
theorem QgN (ha:a<H.length) (hk:a≠k) (f:AO->AO):Ab.setObj (G2 H a k o p++L) a f=G2 H a k (f o) p++L:=by
 rw[QY (Qgv ha hk),Yj _ _ (by simpa using ha)];unfold G2;rw[Zk _ _ (Ne.symm hk),Yk]
theorem QjZ (hk:k<H.length) (f:AO->AO):Ab.setObj (G2 H a k o p++L) k f=G2 H a k o (f p)++L:=by
 rw[QY (Qg1 hk),Yj _ _ (by simpa using hk)];unfold G2;rw[Yk]
theorem Qmb (hcl:closed H) (ho:SV.underL H.length o.cells=true) (hp:SV.underL H.length p.cells=true):closed (G2 H a k o p):=by
 unfold G2;exact QcF (QcF hcl a ho) k (by simpa using hp)
end
def oI (C:Wt) (l:List Int) (D:Wt) (T:Ww) (v:Nat):AO:=⟨C++(Qa l++D),T,v,true⟩
theorem Qp3 {C D:Wt} {l:List Int} {j:Nat} (hj:j<l.length) (x:Int):(C++(Qa l++D)).take (C.length+j)++i64 x::(C++(Qa l++D)).drop (C.length+j+1)=C++(Qa (l.set j x)++D):=by
 rw[ZQ,Ze];have e1:C.length+j-C.length=j:=by omega
 have e2:C.length+j+1-C.length=j+1:=by omega
 rw[e1,e2,VA (by omega),YJ (by omega),ZQ,Ze];have e3:j-(Qa l).length=0:=by simp; omega
 have e4:j+1-(Qa l).length=0:=by simp; omega
 rw[e3,e4];simp only[Yi,Vr,YR,VW,VQ,List.append_cancel_left_eq];rw[<-Qar hj x];simp
theorem QuW {C D:Wt} {l:List Int}:(C++(Qa l++D)).length=C.length+l.length+D.length:=by simp; omega
def QN (f:Nat->Int):Nat->Int
 |0=>0
 |n+1=>QN f n+f n
def Qcd (l:List Int) (k:Nat):Int:=QN (λi=>Qa3 (l.getD i 0)) k
def Qk (l:List Int):Int:=Qcd l l.length
def QB (l:List Int) (tot:Int) (i:Nat):Int:=if tot=0 then 65536 / (l.length:Int)else if 0<l.getD i 0 then 65536*l.getD i 0 / tot else 0
def Qbg (l:List Int) (k:Nat):Int:=65536-QN (QB l (Qk l)) k
def QX (l:List Int):Int:=Qbg l l.length
def QZ (l:List Int):List Nat:=if 0<Qk l/\0<QX l then QaB (Qbe l (Qk l)) l.length else List.range l.length
def QG (l:List Int):List Int:=(List.range l.length).map (Qb0 (QB l (Qk l)) ((QZ l).take (QX l).toNat))
theorem Qfy (l:List Int):(QG l).length=l.length:=by simp[QG]
theorem Quo (x:Int):0<=Qa3 x:=by unfold Qa3; omega
theorem Qkf {f:Nat->Int} (h:∀ i,0<=f i):∀ n,0<=QN f n
 |0=>Ym _
 |n+1=>by have:=Qkf h n; have:=h n; simp only[QN]; omega
theorem Qn6 {f:Nat->Int} {c:Int}:∀ n,(∀ i,i<n->f i<=c)->QN f n<=n*c
 |0,_=>by simp[QN]
 |n+1,h=>by
  have h1:=Qn6 n λi hi=>h i (by omega);have h2:=h n (by omega);simp only[QN];have:((n+1:Nat):Int)*c=n*c+c:=by rw[Int.natCast_succ,Int.add_mul,Int.one_mul]
  omega
theorem QkU (c:Int):∀ n,QN (λ_=>c) n=n*c
 |0=>by simp[QN]
 |n+1=>by
  simp only[QN,QkU c n];rw[Int.natCast_succ,Int.add_mul,Int.one_mul]
theorem QjM (f:Nat->Int) (c:Int):∀ n,QN (λi=>c*f i) n=c*QN f n
 |0=>by simp[QN]
 |n+1=>by simp only[QN,QjM f c n,Int.mul_add]
theorem QjK {f g:Nat->Int}:∀ n,(∀ i,i<n->f i<=g i)->QN f n<=QN g n
 |0,_=>Ym _
 |n+1,h=>by
  have h1:=QjK n λi hi=>h i (by omega);have h2:=h n (by omega);simp only[QN]; omega
theorem QnL (f g:Nat->Int):∀ n,QN (λi=>f i+g i) n=QN f n+QN g n
 |0=>rfl
 |n+1=>by simp only[QN,QnL f g n]; omega
theorem Qoa {f g:Nat->Int}:∀ n,(∀ i,i<n->f i=g i)->QN f n=QN g n
 |0,_=>rfl
 |n+1,h=>by simp only[QN]; rw[Qoa n λi hi=>h i (by omega),h n (by omega)]
theorem Qj7 (l:List Int) (k:Nat):0<=Qcd l k:=Qkf (λi=>Quo _) _
theorem QeZ (l:List Int):0<=Qk l:=Qj7 l _
theorem QpC {l:List Int} {i:Nat} (h:i<l.length):Qcd l (i+1)=Qcd l i+max l[i] 0:=by simp[Qcd,QN,Qa3,h]
theorem Qju {l:List Int} (hl:l.length<=10) (hr:∀ v∈l,v<=70368744177664):∀ k,k<=l.length->Qcd l k<=k*70368744177664:=λk hk =>
 Qn6 k λi hi=>by
  have h:i<l.length:=by omega
  have:=hr _ (Vf h);simp only[Qa3,Vp,Vb h,VT]; omega
theorem QdB (l:List Int) (i:Nat):0<=QB l (Qk l) i:=by
 have:=QeZ l;unfold QB;split
 . exact Int.ediv_nonneg (by omega) (by omega)
 . split
   . exact Int.ediv_nonneg (by omega) this
   . exact Ym _
theorem Qgx {l:List Int} (h:Qk l≠0) (i:Nat):QB l (Qk l) i=65536*Qa3 (l.getD i 0) / Qk l:=by
 unfold QB;rw[Wa h];split
 . have:Qa3 (l.getD i 0)=l.getD i 0:=by unfold Qa3; omega
   rw[this]
 . have:Qa3 (l.getD i 0)=0:=by unfold Qa3; omega
   rw[this]; simp
theorem Qfv {l:List Int} (hn:0<l.length):0<=QX l/\QX l<l.length:=by
 have h0:=QeZ l;unfold QX Qbg;by_cases h:Qk l=0
 . have e:QN (QB l (Qk l)) l.length=l.length*(65536 / (l.length:Int)):=by
    rw[<-QkU];exact Qoa _ λi _=>by unfold QB; rw[Wb h]
   rw[e];have h1:=Int.emod_add_mul_ediv 65536 (l.length:Int);have h2:=ZR 65536 (b:=(l.length:Int)) (by omega);have h3:=ZS 65536 (b:=(l.length:Int)) (by omega);omega
 . have hp:0<Qk l:=by omega
   have e1:QN (λi=>Qk l*QB l (Qk l) i) l.length=Qk l*QN (QB l (Qk l)) l.length:=QjM _ _ _;have e2:QN (λi=>65536*Qa3 (l.getD i 0)) l.length=65536*Qk l:=QjM _ _ _;have h1:QN (λi=>Qk l*QB l (Qk l) i) l.length<=QN (λi=>65536*Qa3 (l.getD i 0)) l.length:=QjK _ λi _=>by
    rw[Qgx h]; exact Int.mul_ediv_self_le (by omega)
   have h2:QN (λi=>65536*Qa3 (l.getD i 0)) l.length<=QN (λi=>Qk l*QB l (Qk l) i+(Qk l-1)) l.length:=QjK _ λi _=>by
    rw[Qgx h];have:=Int.emod_add_mul_ediv (65536*Qa3 (l.getD i 0)) (Qk l);have:=ZS (65536*Qa3 (l.getD i 0)) hp;omega
   rw[QnL,QkU]at h2;rw[e1,e2]at h1 h2;generalize QN (QB l (Qk l)) l.length=s at *;generalize Qk l=t at *;constructor
   . have:t*s<=t*65536:=by rw[ZT t 65536]; exact h1
     have:=Int.le_of_mul_le_mul_left this hp;omega
   . have h3:t*65536<t*s+l.length*t:=by
      have:(l.length:Int)*(t-1)<l.length*t:=Int.mul_lt_mul_of_pos_left (by omega) (by omega);rw[ZT t 65536]; omega
     have h4:t*65536<t*(s+l.length):=by rw[Int.mul_add,ZT t l.length]; exact h3
     have:=Int.lt_of_mul_lt_mul_left h4 (by omega);omega
section
variable {H:Ws} {a k va v n:Nat} {C D:Wt} {T:Ww} {x:SV} {l:List Int}
def S6 (H:Ws) (a k va v:Nat) (C D:Wt) (T:Ww) (x:SV) (o p:List Int) (t:Int):Ws :=
 G2 H a k ⟨Qa o,3,va,true⟩ (oI C p D T v)++[⟨[x],45,0,true⟩,⟨[i64 t],3,0,true⟩]
structure P2 (H:Ws) (a k:Nat):Prop where
 la:a<H.length
 lk:k<H.length
 ne:a≠k
set_option maxRecDepth 10000 in
theorem QvE (hP:P2 H a k) {o p:List Int} (hx:∀ L,IsI (G2 H a k ⟨Qa o,3,va,true⟩ (oI C p D T v)++L) x l) (hl:l.length<=10) (hr:∀ v∈l,v<=70368744177664) {N:Nat} {K:Wr} {x1 x2:SV}
 (hexit:∀ env,env.get 1=x1->env.get 2=x2->env.get 3=.ptr (.own H.length 0 0 0 0) 0->env.get 6=.ptr (.own (H.length+1) 0 0 0 0) 0->K (.exit 0) env (S6 H a k va v C D T x o p (Qk l))) :
 ∀ (m i:Nat) (env:Env),i+m=l.length->env.get 1=x1->env.get 2=x2->env.get 3=.ptr (.own H.length 0 0 0 0) 0->env.get 6=.ptr (.own (H.length+1) 0 0 0 0) 0 ->
  env.get 15=x->env.get 16=i64 l.length->env.get 17=i64 i->LI Tryz.prog N Qb Qgw env (S6 H a k va v C D T x o p (Qcd l i)) K:=by
 intro m
 induction m with
 |zero =>
  intro i env hi h1 h2 h3 h6 h15 h16 h17;refine Qc hm Qgw.eq_1 ?_;have e:i=l.length:=by omega
  subst e;simp -implicitDefEqProofs[h16,h17];exact hexit _ (by simp[h1]) (by simp[h2]) (by simp[h3]) (by simp[h6])
 |succ m ih =>
  intro i env hi h1 h2 h3 h6 h15 h16 h17;refine Qc hm Qgw.eq_1 ?_;have hlt:i<l.length:=by omega
  have hx':=hx [⟨[x],45,0,true⟩,⟨[i64 (Qcd l i)],3,0,true⟩];have b1:=Qju hl hr i (by omega);have b2:=Qj7 l i;have hv:=hr _ (Vf hlt);have w1:IntKind.i64.wrap (Qcd l i+max l[i] 0)=Qcd l (i+1):=by rw[QpC hlt]; exact Qp (by omega) (by omega)
  simp -implicitDefEqProofs[S6,h1,h2,h3,h6,h15,h16,h17,hlt,hx'.vd,hx'.ug,hx'.sl,hx'.len,hx'.ok hlt,hx'.v hlt,QcH,QcY,w1];refine ih (i+1) _ (by omega) ?_ ?_ ?_ ?_ ?_ ?_ ?_
  . simp
  . simp
  . simp
  . simp
  . simp
  . simp
  . simp[Qw (show i<9223372036854775807 by omega)]
end
end Go.Proofs.YtogjmpkehjfecaaGreatDoor.Rc
