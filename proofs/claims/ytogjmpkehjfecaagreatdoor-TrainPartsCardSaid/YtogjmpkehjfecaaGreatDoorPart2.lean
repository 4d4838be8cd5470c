/- Steps of the proof. -/
import Derived.Test.YtogjmpkehjfecaaGreatDoorIr29z
import Derived.Test.YtogjmpkehjfecaaGreatDoorCore4
import Derived.Test.YtogjmpkehjfecaaGreatDoorCore5
import Derived.Test.YtogjmpkehjfecaaGreatDoorPart1
set_option linter.all false
namespace Go.Proofs.YtogjmpkehjfecaaGreatDoor.Rc
open Go.Ab
theorem hm:Tryz.prog.follows .mixedOrders=true:=Tryz.checked.mixed
section
variable {x:SV} {H:Ws} {l:List Int}
def bx (H:Ws) (a:Nat) (n:Int):Prop:=Qe H a 0=[i64 n]/\a<H.length
def Qas (lo hi n:Int):Bool:=decide (n<lo)||decide (hi<n)
theorem Qt1 {a b:Nat} {lo hi:Int} (ha:bx H a lo) (hb:bx H b hi) (n:Int) :
 Ok Tryz.prog 112 [i64 n,.ptr (.own a 0 0 0 0) 0,.ptr (.own b 0 0 0 0) 0] H (.ret (bl (Qas lo hi n))) H:=by
 refine Ql hm Tryz.func112 c112 (by simp[ha.2,hb.2]) λhcl => ?_;by_cases h1:n<lo
 . simp -implicitDefEqProofs[QjJ,Qlp,ha.1,hb.1,h1,Qas];exact Qn
 . simp -implicitDefEqProofs[QjJ,Qlp,ha.1,hb.1,h1,Qas];exact Qn
def QeF (lo hi:Int) (l:List Int):Int:=match l.findIdx? (Qas lo hi)with|some i=>i|none => -1
theorem QpY {lo hi:Int} {l:List Int}:(0<=QeF lo hi l)=(l.any (Qas lo hi)=true):=by
 unfold QeF
 cases h:l.findIdx? (Qas lo hi)with
 |some i =>
  simp only[Int.natCast_nonneg];refine(eq_true ?_).symm;obtain⟨hi,h1,h2⟩:=Zp.1 h;exact Yh.2 ⟨_,Vf hi,h1⟩
 |none =>
  rw[ZQ]at h;have:l.any (Qas lo hi)=false:=by
   rw[List.any_eq_false]; intro x hx; simpa using h x hx
  simp[this]
theorem Qqm (hx:IsI H x l) (hl:l.length<4611686018427387904) {a b:Nat} {lo up:Int} (ha:bx H a lo) (hb:bx H b up) {N:Nat} {K:Wr}
 (hret:∀ env (i:Nat),l.findIdx? (Qas lo up)=some i->env.get 4=i64 i->K .ret env H) (hexit:l.findIdx? (Qas lo up)=none->∀ env,K (.exit 0) env H) :
 ∀ (n i:Nat) (env:Env),i+n=l.length->(∀ j (h:j<l.length),j<i->Qas lo up l[j]=false)->env.get 0=x->env.get 1=.fn (.func 112) [] [.ptr (.own a 0 0 0 0) 0,.ptr (.own b 0 0 0 0) 0]->env.get 7=i64 l.length->env.get 8=i64 i ->
  LI Tryz.prog N Qb QhG env H K:=by
 intro n
 induction n with
 |zero =>
  intro i env hi hp h0 h1 h7 h8;refine Qc hm QhG.eq_1 ?_;have e:i=l.length:=by omega
  simp -implicitDefEqProofs[h7,h8,e];refine hexit ?_ _;rw[ZQ];intro y hy;obtain⟨j,hj,rfl⟩:=VG hy;exact hp j hj (by omega)
 |succ n ih =>
  intro i env hi hp h0 h1 h7 h8;refine Qc hm QhG.eq_1 ?_;have hlt:i<l.length:=by omega
  simp -implicitDefEqProofs[h0,h1,h7,h8,hlt,hx.vd,hx.ug,hx.sl,hx.len,hx.v hlt,hx.ok hlt];refine Qf (Qt1 ha hb _) ?_
  cases ho:Qas lo up l[i]with
  |true =>
   simp -implicitDefEqProofs;refine hret _ i ?_ (by simp);rw[Zp];exact⟨hlt,ho,λj hj=>by simp[hp j (by omega) hj]⟩
  |false =>
   simp -implicitDefEqProofs[h8];refine ih (i+1) _ (by omega) ?_ ?_ ?_ ?_ ?_
   rotate_left
   . simp[h0]
   . simp[h1]
   . simp[h7]
   . simp[h8,QO (show i<9223372036854775807 by omega)]
   intro j hj hji;by_cases e:j=i
   . subst e; exact ho
   . exact hp j hj (by omega)
theorem QsS (hx:IsI H x l) (hl:l.length<4611686018427387904) {a b:Nat} {lo up:Int} (ha:bx H a lo) (hb:bx H b up) :
 Ok Tryz.prog 137 [x,.fn (.func 112) [] [.ptr (.own a 0 0 0 0) 0,.ptr (.own b 0 0 0 0) 0]] H (.ret (i64 (QeF lo up l))) H:=by
 refine Ql hm Tryz.func137 c137 (by simp[ha.2,hb.2,hx.und]) λhcl => ?_;simp -implicitDefEqProofs[i137,r137,hx.vd,hx.ug,hx.sl,hx.len];refine Qqm hx hl ha hb (λenv i h1 h2 => ?_) (λh1 env => ?_) l.length 0 _ (by omega) (by omega) (by simp) (by simp) (by simp) (by simp)
 . simp[h2,QeF,h1];exact Qn
 . simp[QeF,h1];exact Qn
theorem Qrr (hx:IsI H x l) (hl:l.length<4611686018427387904) {a b:Nat} {lo up:Int} (ha:bx H a lo) (hb:bx H b up) :
 Ok Tryz.prog 111 [x,.fn (.func 112) [] [.ptr (.own a 0 0 0 0) 0,.ptr (.own b 0 0 0 0) 0]] H (.ret (bl (l.any (Qas lo up)))) H:=by
 refine Ql hm Tryz.func111 c111 (by simp[ha.2,hb.2,hx.und]) λhcl => ?_;simp -implicitDefEqProofs[i111,r111,hx.vd,hx.ug,hx.sl,hx.len];refine Qf (QsS hx hl ha hb) ?_;have e:decide (0<=QeF lo up l)=l.any (Qas lo up):=by
  rw[Bool.eq_iff_iff,Wp,QpY]
 simp -implicitDefEqProofs;rw[e];exact Qn
def Q5 (lo hi:Int) (l:List Int):Int:=if l.any (Qas lo hi)then 2 else 0
theorem Qf8 (hx:IsI H x l) (hl:l.length<4611686018427387904) (lo hi:Int) :
 Ok Tryz.prog 84 [i64 lo,i64 hi,x] H (.ret (i64 (Q5 lo hi l))) H:=by
 refine Ql hm Tryz.func84 c84 (by simp[hx.und]) λhcl => ?_;simp -implicitDefEqProofs[i84,r84,hx.vd,hx.ug,hx.sl,hx.len];refine Qf (Qrr (hx.app _) hl (a:=H.length) (b:=H.length+1) (lo:=lo) (up:=hi) ⟨by simp,by simp⟩ ⟨by simp,by simp⟩) ?_;by_cases h:l.any (Qas lo hi)=true
 . simp -implicitDefEqProofs[h,Q5];exact Qg 1 hcl rfl (by simp)
 . simp -implicitDefEqProofs[h,Q5];exact Qg 1 hcl rfl (by simp)
end
structure Nd where
 k:Int
 p:Int
 i:Int
 nx:List Int
 ws:List Int
 ps:List Int
def sl (l:List Int):SV:=.slc (Qa l) l.length
def Nd.cells (x:Nd):Wt:=[i64 x.k,i64 x.p,i64 x.i,sl x.nx,sl x.ws,sl x.ps]
def nds:List Nd->Wt
 |[]=>[]
 |x::r=>x.cells++nds r
def Qx:List (Int×Int)->Wt
 |[]=>[]
 |x::r=>i64 x.1::i64 x.2::Qx r
structure Gm where
 pl:Int
 ns:List Nd
 is:List (Int×Int)
def Gm.cells (g:Gm):Wt:=[i64 g.pl,.slc (nds g.ns) g.ns.length,.slc (Qx g.is) g.is.length]
structure Wk (H:Ws) (j:Nat) (g:Gm) (a b c:SV):Prop where
 o:Qe H j 0=[i64 g.pl,.slc (nds g.ns) g.ns.length,.slc (Qx g.is) g.is.length,a,b,c]
 lt:j<H.length
theorem Wk.app {H:Ws} {j:Nat} {g:Gm} {a b c:SV} (h:Wk H j g a b c) (L:Ws):Wk (H++L) j g a b c:=⟨by rw[Qd1 L h.lt]; exact h.o,by have:=h.lt; simp; omega⟩
def Nd.chance (x:Nd):Int:=if x.p≠0\/x.i≠0\/0<x.ps.length\/x.nx.length<1\/60<x.nx.length\/x.ws.length≠x.nx.length then 3 else Q5 1 1000 x.ws
def Nd.move (g:Gm) (x:Nd):Int:=if 0<x.ws.length\/0<x.ps.length\/x.nx.length<1\/10<x.nx.length then 3 else
 if Q5 0 (g.pl-1) [x.p]≠0 then Q5 0 (g.pl-1) [x.p]else Q5 0 (g.is.length-1) [x.i]
def Nd.end (g:Gm) (x:Nd):Int:=if x.p≠0\/x.i≠0\/0<x.nx.length\/0<x.ws.length\/(x.ps.length:Int)≠g.pl then 3 else Q5 (-1000000) 1000000 x.ps
def Nd.err (g:Gm) (x:Nd):Int:=if x.k<1\/3<x.k then 3 else if x.k=1 then x.chance else if x.k=2 then x.move g else x.end g
section
variable {x:Nd} {H:Ws} {j:Nat} {g:Gm} {a b c:SV}
theorem isl (H:Ws) (l:List Int):IsI H (sl l) l:=IsI.slc H l
theorem Qqu (h:j<H.length):Ok Tryz.prog 132 [.ptr (.own j 0 0 0 0) 0,.agg x.cells] H (.ret (i64 x.chance)) H:=by
 refine Ql hm Tryz.func132 c132 (by simp[Nd.cells,sl,h]) λhcl => ?_;simp -implicitDefEqProofs[i132,r132,Nd.cells,sl];have e:x.chance=if(((((¬x.p=0\/¬x.i=0)\/0<x.ps.length)\/(x.nx.length:Int)<1)\/60<(x.nx.length:Int))\/¬(x.ws.length:Int)=x.nx.length)then 3 else Q5 1 1000 x.ws:=by
  unfold Nd.chance;congr 1;simp only[eq_iff_iff]; omega
 rw[e];split
 . exact Qg 1 hcl rfl (by simp)
 . rename_i hc;refine Qf (Qf8 (IsI.slc _ _) (by omega) 1 1000) ?_;simp -implicitDefEqProofs;exact Qg 1 hcl rfl (by simp)
theorem QrN (h:Wk H j g a b c) (h4:g.pl<=4):Ok Tryz.prog 134 [.ptr (.own j 0 0 0 0) 0,.agg x.cells] H (.ret (i64 (x.end g))) H:=by
 have ho:=h.o;refine Ql hm Tryz.func134 c134 (by simp[Nd.cells,sl,h.lt]) λhcl => ?_;simp -implicitDefEqProofs[i134,r134,Nd.cells,sl,(h.app _).o];have e:x.end g=if((((¬x.p=0\/¬x.i=0)\/0<x.nx.length)\/0<x.ws.length)\/¬(x.ps.length:Int)=g.pl)then 3 else Q5 (-1000000) 1000000 x.ps:=by
  unfold Nd.end;congr 1;simp only[eq_iff_iff]; omega
 rw[e];split
 . exact Qg 1 hcl rfl (by simp)
 . rename_i hc;refine Qf (Qf8 (IsI.slc _ _) (by omega) (-1000000) 1000000) ?_;simp -implicitDefEqProofs;exact Qg 1 hcl rfl (by simp)
theorem Qst (h:Wk H j g a b c) (h1:1<=g.pl) (h4:g.pl<=4) (h5:g.is.length<=200):Ok Tryz.prog 133 [.ptr (.own j 0 0 0 0) 0,.agg x.cells] H (.ret (i64 (x.move g))) H:=by
 refine Ql hm Tryz.func133 c133 (by simp[Nd.cells,sl,h.lt]) λhcl => ?_;have w1:IntKind.i64.wrap (g.pl-1)=g.pl-1:=Qj (by omega) (by omega);have w2:IntKind.i64.wrap ((g.is.length:Int)-1)=(g.is.length:Int)-1:=Qj (by omega) (by omega);simp -implicitDefEqProofs[i133,r133,Nd.cells,sl,(h.app _).o,w1,w2];have e:x.move g=if((0<x.ws.length\/0<x.ps.length)\/(x.nx.length:Int)<1)\/10<(x.nx.length:Int)then 3 else
  if Q5 0 (g.pl-1) [x.p]≠0 then Q5 0 (g.pl-1) [x.p]else Q5 0 (g.is.length-1) [x.i]:=by
  unfold Nd.move;congr 1;simp only[eq_iff_iff]; omega
 rw[e];split
 . exact Qg 1 hcl rfl (by simp)
 . rename_i hc;refine Q3 (λ_=>Qf8 (IsI.own0 H _ 1 0 [x.p] [] 3 rfl) (by simp) 0 (g.pl-1)) ?_;by_cases hw:Q5 0 (g.pl-1) [x.p]=0
   . simp -implicitDefEqProofs[hw,(h.app _).o,w2];refine Q3 (λ_=>Qf8 (IsI.own0 H _ 2 0 [x.i] [] 3 rfl) (by simp) 0 (g.is.length-1)) ?_;simp -implicitDefEqProofs;exact Qg 1 hcl rfl (by simp[hw])
   . simp -implicitDefEqProofs[hw];exact Qg 1 hcl rfl (by simp[hw])
theorem Qu7 (h:Wk H j g a b c) (h1:1<=g.pl) (h4:g.pl<=4) (h5:g.is.length<=200):Ok Tryz.prog 107 [.ptr (.own j 0 0 0 0) 0,.agg x.cells] H (.ret (i64 (x.err g))) H:=by
 refine Ql hm Tryz.func107 c107 (by simp[Nd.cells,sl,h.lt]) λhcl => ?_;simp -implicitDefEqProofs[i107,r107,Nd.cells,sl,(h.app _).o];unfold Nd.err;split
 . exact⟨rfl,Qg 1 hcl rfl (by rfl)⟩
 . rename_i hc;have hk:x.k=1\/x.k=2\/x.k=3:=by omega
   rcases hk with hk|hk|hk
   . simp -implicitDefEqProofs[hk];refine⟨rfl,Qf (by rw[<-hk]; exact Qqu (x:=x) (by simp; have:=h.lt; omega)) ?_⟩;simp -implicitDefEqProofs;exact Qg 1 hcl rfl (by simp[hk])
   . simp -implicitDefEqProofs[hk];refine⟨rfl,Qf (by rw[<-hk]; exact Qst (x:=x) (h.app _) h1 h4 h5) ?_⟩;simp -implicitDefEqProofs;exact Qg 1 hcl rfl (by simp[hk])
   . simp -implicitDefEqProofs[hk];refine⟨rfl,Qf (by rw[<-hk]; exact QrN (x:=x) (h.app _) h4) ?_⟩;simp -implicitDefEqProofs;exact Qg 1 hcl rfl (by simp[hk])
end
theorem QlH {lo hi:Int} {l:List Int} (h:∀ j (h:j<l.length),j<l.length->Qas lo hi l[j]=false):Q5 lo hi l=0:=by
 unfold Q5; rw[Wa];rw[Yh];rintro⟨y,hy,h1⟩;obtain⟨j,hj,rfl⟩:=VG hy;rw[h j hj hj]at h1; cases h1
theorem Ql9 {lo hi:Int} {l:List Int} {j:Nat} (hj:j<l.length) (h:Qas lo hi l[j]=true):Q5 lo hi l=2:=by
 unfold Q5; rw[Wb];exact Yh.2 ⟨_,Vf hj,h⟩
theorem Qdv {lo hi n:Int}:Q5 lo hi [n]=if n<lo\/hi<n then 2 else 0:=by
 unfold Q5; congr 1; simp[Qas]
section
variable {x:Nd} {H:Ws} {q:Nat} {g:Gm}
theorem QvM (hq:Qe H q 0=[i64 x.k,i64 x.p,i64 x.i,.slc (Qa x.nx) x.nx.length,.slc (Qa x.ws) x.ws.length,.slc (Qa x.ps) x.ps.length]) (hl:x.ws.length<4611686018427387904) {N:Nat} {K:Wr}
 (hret:Q5 1 1000 x.ws=2->∀ env,env.get 4=i64 2->K .ret env H) (hexit:Q5 1 1000 x.ws=0->∀ env,K (.exit 1) env H) :
 ∀ (n i:Nat) (env:Env),i+n=x.ws.length->(∀ j (h:j<x.ws.length),j<i->Qas 1 1000 x.ws[j]=false)->env.get 3=.ptr (.own q 0 0 0 0) 0->env.get 5=i64 i->LI Tryz.prog N Qb QiS env H K:=by
 intro n
 induction n with
 |zero =>
  intro i env hi hp h3 h5;refine Qc hm QiS.eq_1 ?_;have e:i=x.ws.length:=by omega
  subst e;simp -implicitDefEqProofs[h3,h5,hq];exact hexit (QlH hp) _
 |succ n ih =>
  intro i env hi hp h3 h5;refine Qc hm QiS.eq_1 ?_;have hlt:i<x.ws.length:=by omega
  simp -implicitDefEqProofs[h3,h5,hq,hlt];split
  . rename_i hc;refine⟨by omega,by omega,?_⟩;exact hret (Ql9 hlt (by simp[Qas]; omega)) _ (by simp)
  . rename_i hc;refine⟨by omega,by omega,?_⟩;refine ih (i+1) _ (by omega) ?_ ?_ ?_
    rotate_left
    . simp[h3]
    . simp[QO (show i<9223372036854775807 by omega)]
    intro j hj hji;by_cases e:j=i
    . subst e; simp[Qas]; omega
    . exact hp j hj (by omega)
theorem Qqt (hq:Qe H q 0=[i64 x.k,i64 x.p,i64 x.i,.slc (Qa x.nx) x.nx.length,.slc (Qa x.ws) x.ws.length,.slc (Qa x.ps) x.ps.length]) (hl:x.ps.length<4611686018427387904) {N:Nat} {K:Wr}
 (hret:Q5 (-1000000) 1000000 x.ps=2->∀ env,env.get 4=i64 2->K .ret env H) (hexit:Q5 (-1000000) 1000000 x.ps=0->∀ env,K (.exit 3) env H) :
 ∀ (n i:Nat) (env:Env),i+n=x.ps.length->(∀ j (h:j<x.ps.length),j<i->Qas (-1000000) 1000000 x.ps[j]=false)->env.get 3=.ptr (.own q 0 0 0 0) 0->env.get 6=i64 i->LI Tryz.prog N Qb QiU env H K:=by
 intro n
 induction n with
 |zero =>
  intro i env hi hp h3 h5;refine Qc hm QiU.eq_1 ?_;have e:i=x.ps.length:=by omega
  subst e;simp -implicitDefEqProofs[h3,h5,hq];exact hexit (QlH hp) _
 |succ n ih =>
  intro i env hi hp h3 h5;refine Qc hm QiU.eq_1 ?_;have hlt:i<x.ps.length:=by omega
  simp -implicitDefEqProofs[h3,h5,hq,hlt];split
  . rename_i hc;refine⟨by omega,by omega,?_⟩;exact hret (Ql9 hlt (by simp[Qas]; omega)) _ (by simp)
  . rename_i hc;refine⟨by omega,by omega,?_⟩;refine ih (i+1) _ (by omega) ?_ ?_ ?_
    rotate_left
    . simp[h3]
    . simp[QO (show i<9223372036854775807 by omega)]
    intro j hj hji;by_cases e:j=i
    . subst e; simp[Qas]; omega
    . exact hp j hj (by omega)
set_option maxRecDepth 10000 in
theorem ok64 (h1:1<=g.pl) (h4:g.pl<=4) (h5:g.is.length<=200):Ok Tryz.prog 64 [.agg g.cells,.agg x.cells] H (.ret (i64 (x.err g))) H:=by
 refine Ql hm Tryz.func64 c64 (by simp[Nd.cells,sl,Gm.cells]) λhcl => ?_;by_cases k1:x.k=1
 . have e:x.err g=if(((((¬x.p=0\/¬x.i=0)\/0<x.ps.length)\/(x.nx.length:Int)<1)\/60<(x.nx.length:Int))\/¬(x.ws.length:Int)=x.nx.length)then 3 else Q5 1 1000 x.ws:=by
    unfold Nd.err Nd.chance;rw[Wa (by omega),Wb k1];congr 1;simp only[eq_iff_iff]; omega
   rw[e];simp -implicitDefEqProofs[Qfm,r64,Nd.cells,sl,Gm.cells,k1];split
   . exact Qg 1 hcl rfl (by simp)
   . refine QvM (q:=H.length+1) (x:=x) (by simp[k1]) (by omega) (λe1 env e2 => ?_) (λe1 env => ?_) x.ws.length 0 _ (by omega) (by omega) (by simp) (by simp)
     . simp -implicitDefEqProofs[e1,e2];exact Qg 1 hcl rfl (by simp)
     . simp -implicitDefEqProofs[e1];exact Qg 1 hcl rfl (by simp)
 by_cases k2:x.k=2
 . have e:x.err g=if(((0<x.ps.length\/0<x.ws.length)\/(x.nx.length:Int)<1)\/10<(x.nx.length:Int))then 3 else if((x.p<0\/g.pl<=x.p)\/x.i<0)\/g.is.length<=x.i then 2 else 0:=by
    unfold Nd.err Nd.move;rw[Wa (by omega),Wa k1,Wb k2];rw[Qdv,Qdv];by_cases hA:0<x.ws.length\/0<x.ps.length\/x.nx.length<1\/10<x.nx.length
    . rw[Wb hA,Wb (by omega)]
    . rw[Wa hA,Wa (show ¬ (((0<x.ps.length\/0<x.ws.length)\/(x.nx.length:Int)<1)\/10<(x.nx.length:Int))by omega)];by_cases hp:x.p<0\/g.pl-1<x.p
      . rw[Wb hp,Wb (by decide),Wb (by omega)]
      . rw[Wa hp,Wa (by decide)];by_cases hi:x.i<0\/g.is.length-1<x.i
        . rw[Wb hi,Wb (by omega)]
        . rw[Wa hi,Wa (by omega)]
   rw[e];simp -implicitDefEqProofs[Qfm,r64,Nd.cells,sl,Gm.cells,k1,k2];split
   . exact Qg 1 hcl rfl (by simp)
   . split
     . exact Qg 1 hcl rfl (by simp)
     . exact Qg 1 hcl rfl (by simp)
 by_cases k3:x.k=3
 . have e:x.err g=if((((¬x.p=0\/¬x.i=0)\/0<x.nx.length)\/0<x.ws.length)\/¬(x.ps.length:Int)=g.pl)then 3 else Q5 (-1000000) 1000000 x.ps:=by
    unfold Nd.err Nd.end;rw[Wa (by omega),Wa k1,Wa k2];congr 1;simp only[eq_iff_iff]; omega
   rw[e];simp -implicitDefEqProofs[Qfm,r64,Nd.cells,sl,Gm.cells,k3];split
   . exact Qg 1 hcl rfl (by simp)
   . refine Qqt (q:=H.length+1) (x:=x) (by simp[k3]) (by omega) (λe1 env e2 => ?_) (λe1 env => ?_) x.ps.length 0 _ (by omega) (by omega) (by simp) (by simp)
     . simp -implicitDefEqProofs[e1,e2];exact Qg 1 hcl rfl (by simp)
     . simp -implicitDefEqProofs[e1];exact Qg 1 hcl rfl (by simp)
 have e:x.err g=3:=by
  unfold Nd.err;rw[Wb (by omega)]
 rw[e];simp -implicitDefEqProofs[Qfm,r64,Nd.cells,sl,Gm.cells,k1,k2,k3];exact Qg 1 hcl rfl (by simp)
end
structure W3 where
 P:List Int
 D:List Int
 L:List Int
def QaD (w:Nat->W3->Option Nat×W3):List Int->Nat->W3->Option Nat×W3
 |[],r,s=>(some r,s)
 |c::cs,r,s=>if c=r then(match w r s with|(none,s)=>(none,s)|(some r,s)=>QaD w cs r s)else(none,s)
def QW (ns:List Nd):Nat->Int->Int->Nat->W3->Option Nat×W3
 |0,_,_,_,s=>(none,s)
 |f+1,par,dep,k,s =>
  match ns[k]? with
  |none=>(none,s)
  |some x =>
   match QaD (QW ns f k (dep+1)) x.nx (k+1) ⟨s.P.set k par,s.D.set k dep,s.L⟩with
   | (none,s)=>(none,s)
   | (some r,s)=>(some r,⟨s.P,s.D,s.L.set k (r-1)⟩)
def rr (l:List Int):AO:=⟨Qa l,3,1,true⟩
def upd (H:Ws) (a b c:Nat) (s:W3):Ws:=((H.set a (rr s.P)).set b (rr s.D)).set c (rr s.L)
section
variable {H:Ws} {a b c j:Nat} {s t:W3} {g:Gm}
theorem QgK:(upd H a b c s).length=H.length:=by simp[upd]
theorem Qfl {H H':Ws} {j:Nat} (h:H'[j]? = H[j]?) (v:Nat):Qe H' j v=Qe H j v:=by unfold Qe; rw[h]
structure P3 (H:Ws) (a b c:Nat):Prop where
 ab:a<b
 bc:b<c
 lt:c<H.length
theorem QvD (h:P3 H a b c):Qe (upd H a b c s) a 1=Qa s.P:=by
 have:=h.ab; have:=h.bc; have:=h.lt;refine Qaw (o:=rr s.P) ?_ rfl;unfold upd;rw[Ve (by omega),Ve (by omega),Vh (by omega)]
theorem Qta (h:P3 H a b c):Qe (upd H a b c s) b 1=Qa s.D:=by
 have:=h.ab; have:=h.bc; have:=h.lt;refine Qaw (o:=rr s.D) ?_ rfl;unfold upd;rw[Ve (by omega),Vh (by simp; omega)]
theorem Qn1 (h:P3 H a b c):Qe (upd H a b c s) c 1=Qa s.L:=by
 have:=h.ab; have:=h.bc; have:=h.lt;refine Qaw (o:=rr s.L) ?_ rfl;unfold upd;rw[Vh (by simp; omega)]
theorem Qso (h1:j≠a) (h2:j≠b) (h3:j≠c):Qe (upd H a b c s) j 0=Qe H j 0:=by
 refine Qfl ?_ 0;unfold upd;rw[Ve (by omega),Ve (by omega),Ve (by omega)]
theorem QpM (h:P3 H a b c) (f:AO->AO) (l:List Int) (hf:f (rr s.P)=rr l):Ab.setObj (upd H a b c s) a f=upd H a b c ⟨l,s.D,s.L⟩:=by
 have:=h.ab; have:=h.bc; have:=h.lt;rw[QS (o:=rr s.P),hf]
 . unfold upd;rw[Zq _ _ (show c≠a by omega),Zq _ _ (show b≠a by omega),Yi]
 . unfold upd;rw[Ve (by omega),Ve (by omega),Vh (by omega)]
theorem QvX (h:P3 H a b c) (f:AO->AO) (l:List Int) (hf:f (rr s.D)=rr l):Ab.setObj (upd H a b c s) b f=upd H a b c ⟨s.P,l,s.L⟩:=by
 have:=h.ab; have:=h.bc; have:=h.lt;rw[QS (o:=rr s.D),hf]
 . unfold upd;rw[Zq _ _ (show c≠b by omega),Yi]
 . unfold upd;rw[Ve (by omega),Vh (by simp; omega)]
theorem Qru (h:P3 H a b c) (f:AO->AO) (l:List Int) (hf:f (rr s.L)=rr l):Ab.setObj (upd H a b c s) c f=upd H a b c ⟨s.P,s.D,l⟩:=by
 have:=h.ab; have:=h.bc; have:=h.lt;rw[QS (o:=rr s.L),hf]
 . unfold upd;rw[Yi]
 . unfold upd;rw[Vh (by simp; omega)]
theorem Qqn {ns:List Nd} {k:Nat} (h:k<ns.length):nds (ns.drop k)=ns[k].cells++nds (ns.drop (k+1)):=by
 rw[Vu h]; rfl
theorem QaF:∀ ns:List Nd,(nds ns).length=6*ns.length
 |[]=>rfl
 |x::r=>by simp[nds,QaF r,Nd.cells]; omega
end
def QdC (ns:List Nd):Option Nat->SV
 |none=>.tup [.val (.slice none 0 0),bl false]
 |some r=>.tup [.slc (nds (ns.drop r)) (ns.length-r),bl true]
def W3.ok (s:W3) (n:Nat):Prop:=s.P.length=n/\s.D.length=n/\s.L.length=n
theorem Qga {n:Nat} {w:Nat->W3->Option Nat×W3} {m:Nat} (hw:∀ r s,m<=r->s.ok n->(w r s).2.ok n/\∀ r',(w r s).1=some r'->r<r'/\r'<=n) :
 ∀ (l:List Int) (r:Nat) (s:W3),m<=r->r<=n->s.ok n->(QaD w l r s).2.ok n/\∀ r',(QaD w l r s).1=some r'->r<=r'/\r'<=n
 |[],r,s,hr,hn,hs=>⟨hs,λr' h=>by simp[QaD]at h; omega⟩
 |c::cs,r,s,hr,hn,hs=>by
  unfold QaD;by_cases hc:c=r
  . rw[Wb hc];have h:=hw r s hr hs
    cases hh:w r s with
    |mk o s1 =>
     rw[hh]at h
     cases o with
     |none=>exact⟨h.1,λr' h'=>by simp at h'⟩
     |some r1 =>
      have h1:=h.2 r1 rfl;have h2:=Qga hw cs r1 s1 (by omega) h1.2 h.1;exact⟨h2.1,λr' h'=>by have:=h2.2 r' h'; omega⟩
  . rw[Wa hc];exact⟨hs,λr' h=>by simp at h⟩
theorem Qc0 {ns:List Nd}:∀ (f:Nat) (par dep:Int) (k:Nat) (s:W3),s.ok ns.length ->
 (QW ns f par dep k s).2.ok ns.length/\∀ r,(QW ns f par dep k s).1=some r->k<r/\r<=ns.length
 |0,par,dep,k,s,hs=>⟨hs,λr h=>by simp[QW]at h⟩
 |f+1,par,dep,k,s,hs=>by
  unfold QW
  cases hk:ns[k]? with
  |none=>exact⟨hs,λr h=>by simp at h⟩
  |some x =>
   have hlt:=Qd hk;have h:=Qga (n:=ns.length) (w:=QW ns f k (dep+1)) (m:=0) (λr s _ hs=>Qc0 f k (dep+1) r s hs) x.nx (k+1) ⟨s.P.set k par,s.D.set k dep,s.L⟩ (by omega) (by omega)
    ⟨by simpa using hs.1,by simpa using hs.2.1,hs.2.2⟩
   simp only
   cases hh:QaD (QW ns f k (dep+1)) x.nx (k+1) ⟨s.P.set k par,s.D.set k dep,s.L⟩with
   |mk o s1 =>
    rw[hh]at h
    cases o with
    |none=>exact⟨h.1,λr' h'=>by simp at h'⟩
    |some r1 =>
     refine⟨⟨h.1.1,h.1.2.1,by simpa using h.1.2.2⟩,λr' h' => ?_⟩;have:=h.2 r1 rfl;simp at h'; omega
section
variable {H:Ws} {a b c j:Nat} {g:Gm}
structure Wh (H:Ws) (j:Nat) (g:Gm) (a b c:Nat):Prop where
 w:Wk H j g (.own a 0 g.ns.length 1 1) (.own b 0 g.ns.length 1 1) (.own c 0 g.ns.length 1 1)
 p:P3 H a b c
 ja:j≠a
 jb:j≠b
 jc:j≠c
 n:g.ns.length<=2000
 nx:∀ x∈g.ns,x.nx.length<4611686018427387904
theorem Wh.cells (h:Wh H j g a b c) (s:W3):Qe (upd H a b c s) j 0=[i64 g.pl,.slc (nds g.ns) g.ns.length,.slc (Qx g.is) g.is.length,.own a 0 g.ns.length 1 1,.own b 0 g.ns.length 1 1,.own c 0 g.ns.length 1 1]:=by
 rw[Qso h.ja h.jb h.jc]; exact h.w.o
set_option maxRecDepth 10000 in
theorem QrZ (h:Wh H j g a b c) {x:Nd} {dep:Int} {k:Nat} {w:Nat->W3->Option Nat×W3} {R:Option Nat×W3} (hd0:0<=dep) (hd1:dep<=k) (hk:k<g.ns.length) (hnx:x.nx.length<4611686018427387904)
 (hok:∀ r s,k+1<=r->r<=g.ns.length->s.ok g.ns.length->Ok Tryz.prog 108 [.ptr (.own j 0 0 0 0) 0,i64 k,i64 (dep+1),.slc (nds (g.ns.drop r)) (g.ns.length-r)] (upd H a b c s) (.ret (QdC g.ns (w r s).1)) (upd H a b c (w r s).2))
 (hw:∀ r s,k+1<=r->s.ok g.ns.length->(w r s).2.ok g.ns.length/\∀ r',(w r s).1=some r'->r<r'/\r'<=g.ns.length)
 {N:Nat} {K:Wr}
 (hret:R.1=none->∀ env,env.get 8=.val (.slice none 0 0)->env.get 9=bl false->K .ret env (upd H a b c R.2))
 (hexit:∀ r',R.1=some r'->r'<=g.ns.length->R.2.ok g.ns.length->∀ env,env.get 0=.ptr (.own j 0 0 0 0) 0->env.get 10=i64 k->env.get 11=.slc (nds (g.ns.drop r')) (g.ns.length-r')->K (.exit 0) env (upd H a b c R.2)) :
 ∀ (m i r:Nat) (s:W3) (env:Env),i+m=x.nx.length->k+1<=r->r<=g.ns.length->s.ok g.ns.length->QaD w (x.nx.drop i) r s=R ->
  env.get 0=.ptr (.own j 0 0 0 0) 0->env.get 2=i64 dep->env.get 10=i64 k->env.get 11=.slc (nds (g.ns.drop r)) (g.ns.length-r)->env.get 46=.slc (Qa x.nx) x.nx.length->env.get 47=i64 x.nx.length->env.get 48=i64 i ->
  LI Tryz.prog N Qb QgC env (upd H a b c s) K:=by
 have hn:=h.n;intro m
 induction m with
 |zero =>
  intro i r s env hi hr hrn hs hR h0 h2 h10 h11 h46 h47 h48;refine Qc hm QgC.eq_1 ?_;have e:i=x.nx.length:=by omega
  subst e;simp -implicitDefEqProofs[h47,h48];rw[Yt]at hR;subst hR;exact hexit r rfl hrn hs _ (by simp[h0]) (by simp[h10]) (by simp[h11])
 |succ m ih =>
  intro i r s env hi hr hrn hs hR h0 h2 h10 h11 h46 h47 h48;refine Qc hm QgC.eq_1 ?_;have hlt:i<x.nx.length:=by omega
  have w1:IntKind.i64.wrap ((g.ns.length:Int)-((g.ns.length-r:Nat):Int))=r:=by rw[Qj (by omega) (by omega)]; omega
  have w2:IntKind.i64.wrap (dep+1)=dep+1:=Qj (by omega) (by omega);rw[Vu hlt]at hR;unfold QaD at hR;by_cases hc:x.nx[i]=r
  . rw[Wb hc]at hR;simp -implicitDefEqProofs[h0,h2,h10,h11,h46,h47,h48,hlt,h.cells,w1,hc,w2];refine⟨by omega,Qf (hok r s hr hrn hs) ?_⟩;have hw1:=hw r s hr hs
    cases hh:w r s with
    |mk o s1 =>
     rw[hh]at hw1 hR
     cases o with
     |none =>
      subst hR;simp -implicitDefEqProofs[QdC];exact hret rfl _ (by simp) (by simp)
     |some r1 =>
      have h1:=hw1.2 r1 rfl;simp -implicitDefEqProofs[QdC,h48];refine ih (i+1) r1 s1 _ (by omega) (by omega) h1.2 hw1.1 hR ?_ ?_ ?_ ?_ ?_ ?_ ?_
      . simp[h0]
      . simp[h2]
      . simp[h10]
      . simp
      . simp[h46]
      . simp[h47]
      . simp[QO (show i<9223372036854775807 by omega)]
  . rw[Wa hc]at hR;subst hR;simp -implicitDefEqProofs[h0,h2,h10,h11,h46,h47,h48,hlt,h.cells,w1,hc];refine⟨by omega,?_⟩;exact hret rfl _ (by simp) (by simp)
set_option maxRecDepth 10000 in
theorem QtA (h:Wh H j g a b c):∀ (f:Nat) (par dep:Int) (k:Nat) (s:W3),k<=g.ns.length->g.ns.length+1<=k+f->0<=dep->dep<=k->s.ok g.ns.length ->
 Ok Tryz.prog 108 [.ptr (.own j 0 0 0 0) 0,i64 par,i64 dep,.slc (nds (g.ns.drop k)) (g.ns.length-k)] (upd H a b c s)
  (.ret (QdC g.ns (QW g.ns f par dep k s).1)) (upd H a b c (QW g.ns f par dep k s).2):=by
 have ab:=h.p.ab; have bc:=h.p.bc; have lt:=h.p.lt;have hj:=h.w.lt;have hn:=h.n;intro f
 induction f with
 |zero=>intro par dep k s h1 h2; omega
 |succ f ih =>
  intro par dep k s hk hf hd0 hd1 hs;refine Ql hm Tryz.func108 c108 (by simp[QgK,hj]) λhcl => ?_;by_cases hk':k=g.ns.length
  . subst hk';simp -implicitDefEqProofs[Qj3,Qjk,QW,QdC];exact Qn
  . have hlt:k<g.ns.length:=by omega
    have w1:IntKind.i64.wrap ((g.ns.length:Int)-((g.ns.length-k:Nat):Int))=k:=by rw[Qj (by omega) (by omega)]; omega
    have e1:∀ (s:W3) (v:Int),k<s.P.length->Ab.setObj (upd H a b c s) a (λo=>{ cells:=List.take k o.cells++i64 v::List.drop (k+1) o.cells,ty:=o.ty,ver:=o.ver,live:=o.live })=upd H a b c ⟨s.P.set k v,s.D,s.L⟩ :=
     λs v hv=>QpM h.p _ _ (by simp[rr,Qa7 hv])
    have e2:∀ (s:W3) (v:Int),k<s.D.length->Ab.setObj (upd H a b c s) b (λo=>{ cells:=List.take k o.cells++i64 v::List.drop (k+1) o.cells,ty:=o.ty,ver:=o.ver,live:=o.live })=upd H a b c ⟨s.P,s.D.set k v,s.L⟩ :=
     λs v hv=>QvX h.p _ _ (by simp[rr,Qa7 hv])
    have e3:∀ (s:W3) (v:Int),k<s.L.length->Ab.setObj (upd H a b c s) c (λo=>{ cells:=List.take k o.cells++i64 v::List.drop (k+1) o.cells,ty:=o.ty,ver:=o.ver,live:=o.live })=upd H a b c ⟨s.P,s.D,s.L.set k v⟩ :=
     λs v hv=>Qru h.p _ _ (by simp[rr,Qa7 hv])
    have e4:List.take ((g.ns.length-k-1)*6) (nds (g.ns.drop (k+1)))=nds (g.ns.drop (k+1)):=VB (by rw[QaF]; simp; omega);have k1:=hs.1; have k2:=hs.2.1; have k3:=hs.2.2;rw[Qqn hlt];simp -implicitDefEqProofs[Qj3,Qjk,h.cells,QgK,show ¬ g.ns.length-k=0 by omega,show((g.ns.length-k:Nat):Int)≠0 by omega,w1,QvD h.p,Qta h.p,Qn1 h.p,e1,e2,k1,k2,k3,hlt,Nd.cells,sl,e4];refine⟨by omega,by omega,by omega,?_⟩;have hget:g.ns[k]? = some g.ns[k]:=Vb hlt;have hs':W3.ok ⟨s.P.set k par,s.D.set k dep,s.L⟩ g.ns.length:=⟨by simpa using k1,by simpa using k2,k3⟩;refine QrZ h (x:=g.ns[k]) (dep:=dep) (k:=k) (w:=QW g.ns f k (dep+1)) (R:=QaD (QW g.ns f k (dep+1)) g.ns[k].nx (k+1) ⟨s.P.set k par,s.D.set k dep,s.L⟩) hd0 hd1 hlt (h.nx _ (Vf hlt))
     (λr s hr hrn hs=>ih k (dep+1) r s hrn (by omega) (by omega) (by omega) hs) (λr s _ hs=>Qc0 f k (dep+1) r s hs) (λhR env h8 h9 => ?_) (λr' hR hr' hs1 env h0 h10 h11 => ?_)
     g.ns[k].nx.length 0 (k+1) _ _ (by omega) (by omega) (by omega) hs' (by simp) (by simp) (by simp) (by simp) (by simp; omega) (by simp) (by simp) (by simp)
    . simp -implicitDefEqProofs[h8,h9];unfold QW;rw[hget]
      revert hR
      simp only;generalize QaD (QW g.ns f k (dep+1)) g.ns[k].nx (k+1) ⟨s.P.set k par,s.D.set k dep,s.L⟩=R;obtain⟨o,s2⟩:=R;rintro rfl;simp[QdC];exact Qn
    . have w2:IntKind.i64.wrap ((g.ns.length:Int)-((g.ns.length-r':Nat):Int))=r':=by rw[Qj (by omega) (by omega)]; omega
      have w3:IntKind.i64.wrap ((r':Int)-1)=(r':Int)-1:=Qj (by omega) (by omega);unfold QW;rw[hget]
      revert hR hs1
      simp only;generalize QaD (QW g.ns f k (dep+1)) g.ns[k].nx (k+1) ⟨s.P.set k par,s.D.set k dep,s.L⟩=R;obtain⟨o,s2⟩:=R;rintro hR hs1
      cases hR
      have k4:=hs1.2.2;simp only at k4;simp -implicitDefEqProofs[h0,h10,h11,h.cells,QgK,w2,w3,Qn1 h.p,e3,k4,hlt];refine⟨by omega,?_⟩;exact Qn
end
def Qb3 (l:List Int):Int:=l.tail.foldl max (l.headD 0)
section
variable {x:SV} {H:Ws} {l:List Int}
theorem Qt6 (hx:IsI H x l) (hl:l.length<4611686018427387904) {N:Nat} {K:Wr}
 (hexit:∀ env,env.get 3=i64 (Qb3 l)->K (.exit 0) env H) :
 ∀ (n i:Nat) (acc:Int) (env:Env),i+n=l.length->(l.drop i).foldl max acc=Qb3 l->env.get 0=x->env.get 3=i64 acc->env.get 4=i64 i->LI Tryz.prog N Qb QgQ env H K:=by
 intro n
 induction n with
 |zero =>
  intro i acc env hi ha h0 h3 h4;refine Qc hm QgQ.eq_1 ?_;have e:i=l.length:=by omega
  subst e;simp -implicitDefEqProofs[h0,h3,h4,hx.vd,hx.ug,hx.sl,hx.len];rw[Yt]at ha;exact hexit _ (by simp[h3]; exact Wj i64 ha)
 |succ n ih =>
  intro i acc env hi ha h0 h3 h4;refine Qc hm QgQ.eq_1 ?_;have hlt:i<l.length:=by omega
  rw[Vu hlt,ZE]at ha;simp -implicitDefEqProofs[h0,h3,h4,hlt,hx.vd,hx.ug,hx.sl,hx.len,hx.v hlt,hx.ok hlt];refine ih (i+1) (max acc l[i]) _ (by omega) ha ?_ ?_ ?_
  . simp[h0]
  . simp
  . simp[QO (show i<9223372036854775807 by omega)]
theorem Qsv (hx:IsI H x l) (hl:l.length<4611686018427387904) (hne:0<l.length):Ok Tryz.prog 109 [x] H (.ret (i64 (Qb3 l))) H:=by
 refine Ql hm Tryz.func109 c109 (by simp[hx.und]) λhcl => ?_;simp -implicitDefEqProofs[i109,r109,hx.vd,hx.ug,hx.sl,hx.len,show ¬ (l.length:Int)<1 by omega,hx.v hne,hx.ok hne];refine⟨by omega,?_⟩;refine Qt6 hx hl (λenv h3 => ?_) (l.length-1) 1 l[0] _ (by omega) ?_ (by simp) (by simp) (by simp)
 . simp -implicitDefEqProofs[h3];exact Qn
 . cases l with
   |nil=>simp at hne
   |cons y r=>rfl
def Qcj (v:Int) (l:List Int):Int:=match l.findIdx? (· == v)with|some i=>i|none => -1
theorem Qu9 (hx:IsI H x l) (hl:l.length<4611686018427387904) {v:Int} {N:Nat} {K:Wr}
 (hret:∀ env (i:Nat),l.findIdx? (· == v)=some i->env.get 4=i64 i->K .ret env H) (hexit:l.findIdx? (· == v)=none->∀ env,K (.exit 0) env H) :
 ∀ (n i:Nat) (env:Env),i+n=l.length->(∀ j (h:j<l.length),j<i->¬ l[j]=v)->env.get 0=x->env.get 1=i64 v->env.get 7=i64 l.length->env.get 8=i64 i ->
  LI Tryz.prog N Qb Qh0 env H K:=by
 intro n
 induction n with
 |zero =>
  intro i env hi hp h0 h1 h7 h8;refine Qc hm Qh0.eq_1 ?_;have e:i=l.length:=by omega
  simp -implicitDefEqProofs[h7,h8,e];refine hexit ?_ _;rw[ZQ];intro y hy;obtain⟨j,hj,rfl⟩:=VG hy;simpa using hp j hj (by omega)
 |succ n ih =>
  intro i env hi hp h0 h1 h7 h8;refine Qc hm Qh0.eq_1 ?_;have hlt:i<l.length:=by omega
  by_cases ho:l[i]=v
  . simp -implicitDefEqProofs[h0,h1,h7,h8,hlt,hx.vd,hx.ug,hx.sl,hx.len,hx.v hlt,hx.ok hlt,ho];refine hret _ i ?_ (by simp);rw[Zp];exact⟨hlt,by simpa using ho,λj hj=>by simpa using hp j (by omega) hj⟩
  . simp -implicitDefEqProofs[h0,h1,h7,h8,hlt,hx.vd,hx.ug,hx.sl,hx.len,hx.v hlt,hx.ok hlt,show ¬ v=l[i]from λe=>ho e.symm];refine ih (i+1) _ (by omega) ?_ ?_ ?_ ?_ ?_
    rotate_left
    . simp[h0]
    . simp[h1]
    . simp[h7]
    . simp[h8,QO (show i<9223372036854775807 by omega)]
    intro j hj hji;by_cases e:j=i
    . subst e; exact ho
    . exact hp j hj (by omega)
theorem QoP (hx:IsI H x l) (hl:l.length<4611686018427387904) (v:Int):Ok Tryz.prog 140 [x,i64 v] H (.ret (i64 (Qcj v l))) H:=by
 refine Ql hm Tryz.func140 c140 (by simp[hx.und]) λhcl => ?_;simp -implicitDefEqProofs[i140,r140,hx.vd,hx.ug,hx.sl,hx.len];refine Qu9 hx hl (v:=v) (λenv i h1 h2 => ?_) (λh1 env => ?_) l.length 0 _ (by omega) (by omega) (by simp) (by simp) (by simp) (by simp)
 . simp[h2,Qcj,h1];exact Qn
 . simp[Qcj,h1];exact Qn
theorem QuC {v:Int} {l:List Int}:decide (0<=Qcj v l)=decide (v∈l):=by
 rw[Bool.eq_iff_iff,Wp,Wp];unfold Qcj
 cases h:l.findIdx? (· == v)with
 |some i =>
  simp only[Int.natCast_nonneg,true_iff];obtain⟨hi,h1,h2⟩:=Zp.1 h;rw[<-eq_of_beq h1]; exact Vf hi
 |none =>
  rw[ZQ]at h;have:v∉l:=λhv=>by simpa using h v hv
  simp[this]
theorem QtY (hx:IsI H x l) (hl:l.length<4611686018427387904) (v:Int):Ok Tryz.prog 135 [x,i64 v] H (.ret (bl (decide (v∈l)))) H:=by
 refine Ql hm Tryz.func135 c135 (by simp[hx.und]) λhcl => ?_;simp -implicitDefEqProofs[i135,r135,hx.vd,hx.ug,hx.sl,hx.len];refine Qf (QoP hx hl v) ?_;simp -implicitDefEqProofs;rw[QuC];exact Qn
theorem Qsi (n:Int):Ok Tryz.prog 153 [i64 n] H (.ret (bl false)) H:=by
 refine Ql hm Tryz.func153 c153 (by simp) λhcl => ?_;simp -implicitDefEqProofs[i153,r153];exact Qn
theorem Qqo (m n:Int):Ok Tryz.prog 151 [i64 m,i64 n] H (.ret (bl (decide (m<n)))) H:=by
 refine Ql hm Tryz.func151 c151 (by simp) λhcl => ?_;simp -implicitDefEqProofs[i151,r151];refine Qf (Qsi m) ?_;simp -implicitDefEqProofs;refine Qgl _ _ _ _ ?_;simp -implicitDefEqProofs;exact Qn
def Srt (l:List Int):Prop:=∀ k,k<l.length-1->¬ l.getD (k+1) 0<l.getD k 0
instance (l:List Int):Decidable (Srt l):=by unfold Srt; infer_instance
theorem Qjv {l:List Int}:Srt l↔∀ k (h:k+1<l.length),¬ l[k+1]<l[k]:=by
 constructor
 . intro h k hk;have:=h k (by omega);simpa only[Vm,Vb hk,Vb (show k<l.length by omega),VQ]using this
 . intro h k hk;simp only[Vm,Vb (show k+1<l.length by omega),Vb (show k<l.length by omega),VQ];exact h k (by omega)
theorem QtG (hx:IsI H x l) (hl:l.length<4611686018427387904) {N:Nat} {K:Wr}
 (hret:¬ Srt l->∀ env,env.get 2=bl false->K .ret env H) (hexit:Srt l->∀ env,K (.exit 0) env H) :
 ∀ (n:Nat) (env:Env),n<l.length->(∀ k (h:k+1<l.length),n<=k->¬ l[k+1]<l[k])->env.get 0=x->env.get 3=i64 n->LI Tryz.prog N Qb Qfy env H K:=by
 intro n
 induction n with
 |zero =>
  intro env hi hp h0 h3;refine Qc hm Qfy.eq_1 ?_;simp -implicitDefEqProofs[h0,h3];exact hexit (Qjv.2 λk hk=>hp k hk (by omega)) _
 |succ n ih =>
  intro env hi hp h0 h3;refine Qc hm Qfy.eq_1 ?_;have w1:IntKind.i64.wrap (n:Int)=n:=Qck (by omega);have hlt:n<l.length:=by omega
  simp -implicitDefEqProofs[h0,h3,hi,hlt,w1,hx.vd,hx.ug,hx.sl,hx.len,hx.v hlt,hx.ok hlt,hx.v hi,hx.ok hi];refine⟨by omega,?_⟩;refine Q3 (λ_=>Qqo _ _) ?_;by_cases hc:l[n+1]<l[n]
  . simp -implicitDefEqProofs[hc];exact hret (λh=>Qjv.1 h n hi hc) _ (by simp)
  . simp -implicitDefEqProofs[hc,h3,w1];refine ih _ (by omega) ?_ ?_ ?_
    rotate_left
    . simp[h0]
    . simp
    intro k hk hnk;by_cases e:k=n
    . subst e; exact hc
    . exact hp k hk (by omega)
theorem Qqj (hx:IsI H x l) (hl:l.length<4611686018427387904):Ok Tryz.prog 136 [x] H (.ret (bl (decide (Srt l)))) H:=by
 refine Ql hm Tryz.func136 c136 (by simp[hx.und]) λhcl => ?_;by_cases h0:l.length=0
 . have:l=[]:=Vx h0;subst this;simp -implicitDefEqProofs[QlC,Qle,hx.vd,hx.ug,hx.sl,hx.len,show IntKind.i64.wrap (-1) = -1 by rfl];refine Qc hm Qfy.eq_1 ?_;simp -implicitDefEqProofs[show Srt []from Qjv.2 (λk h=>by simp at h)];exact Qn
 . have w1:IntKind.i64.wrap ((l.length:Int)-1)=((l.length-1:Nat):Int):=by rw[Qj (by omega) (by omega)]; omega
   simp -implicitDefEqProofs[QlC,Qle,hx.vd,hx.ug,hx.sl,hx.len,w1];refine QtG hx hl (λh1 env h2 => ?_) (λh1 env => ?_) (l.length-1) _ (by omega) (by omega) (by simp) (by simp)
   . simp -implicitDefEqProofs[h2,h1];exact Qn
   . simp -implicitDefEqProofs[h1];exact Qn
end
def Qbs:List Nd->Nat->List Int->List Int
 |[],_,z=>z
 |x::r,o,z=>if x.k=2 then(Qbs r (o+1) z).set x.i.toNat (o+1)else Qbs r (o+1) z
@[simp] theorem QuA (z:List Int):∀ (l:List Nd) (o:Nat),(Qbs l o z).length=z.length
 |[],o=>rfl
 |x::r,o=>by unfold Qbs; split<;>simp[QuA z r (o+1)]
def ro (l:List Int):AO:=⟨Qa l,3,0,true⟩
def Nd.tyBad (g:Gm) (x:Nd):Prop:=x.k=2/\g.is[x.i.toNat]? ≠ some (x.p,(x.nx.length:Int))
instance (g:Gm) (x:Nd):Decidable (x.tyBad g):=by unfold Nd.tyBad; infer_instance
def Gm.firsts (g:Gm):List Int:=Qbs g.ns 0 (List.replicate g.is.length 0)
def Gm.setsE (g:Gm):Int:=if ∃ x∈g.ns,x.tyBad g then 10 else if 0∈g.firsts then 18 else if Srt g.firsts then 0 else 9
structure Gd (g:Gm):Prop where
 p1:1<=g.pl
 p4:g.pl<=4
 n1:1<=g.ns.length
 n:g.ns.length<=2000
 i:g.is.length<=200
 e:∀ x∈g.ns,x.err g=0
theorem Gd.inf {g:Gm} (h:Gd g) {x:Nd} (hx:x∈g.ns) (hk:x.k=2):0<=x.i/\x.i<g.is.length:=by
 have:=h.e x hx;unfold Nd.err Nd.move at this;rw[Wa (by omega),Wa (by omega),Wb hk]at this;split at this
 . omega
 . rw[Qdv,Qdv]at this;split at this
   . split at this<;>omega
   . split at this<;>omega
theorem Qm7:∀ {l:List (Int×Int)} {k:Nat} (h:k<l.length),(Qx l).drop (2*k)=i64 l[k].1::i64 l[k].2::Qx (l.drop (k+1))
 |[],k,h=>by simp at h
 |x::r,0,h=>rfl
 |x::r,k+1,h=>by
  rw[show 2*(k+1)=2*k+2 by omega];simp only[Qx,ZR];rw[Qm7 (l:=r) (k:=k) (by simpa using h)];simp
theorem QjQ:∀ {l:List Nd} {k:Nat} (h:k<l.length),(nds l).drop (6*k)=l[k].cells++nds (l.drop (k+1))
 |[],k,h=>by simp at h
 |x::r,0,h=>rfl
 |x::r,k+1,h=>by
  rw[show 6*(k+1)=6*k+6 by omega];simp only[nds,Nd.cells,ZR,VK,V3];rw[QjQ (l:=r) (k:=k) (by simpa using h)];simp[Nd.cells]
theorem Qb8:∀ l:List (Int×Int),(Qx l).length=2*l.length
 |[]=>rfl
 |x::r=>by simp[Qx,Qb8 r]; omega
theorem Qbt {l:List Nd} {k:Nat} (h:k<l.length):(nds l).drop (k*6)=i64 l[k].k::i64 l[k].p::i64 l[k].i::sl l[k].nx::sl l[k].ws::sl l[k].ps::nds (l.drop (k+1)):=by
 rw[VF,QjQ h]; rfl
theorem Qbr {l:List Nd} {k:Nat} (h:k<l.length):min 6 ((nds l).length-k*6)=6:=by rw[QaF]; omega
theorem Qbq {l:List Nd} {k:Nat} (h:k<l.length):6<=(nds l).length-k*6:=by rw[QaF]; omega
theorem Qbo {l:List (Int×Int)} {k:Nat} (h:k<l.length):(Qx l).drop (k*2)=i64 l[k].1::i64 l[k].2::Qx (l.drop (k+1)):=by
 rw[VF,Qm7 h]
theorem Qgc {l:List (Int×Int)} {k:Nat} (h:k<l.length):min 2 ((Qx l).length-k*2)=2:=by rw[Qb8]; omega
theorem QfO {l:List (Int×Int)} {k:Nat} (h:k<l.length):2<=(Qx l).length-k*2:=by rw[Qb8]; omega
section
variable {H:Ws} {j:Nat} {g:Gm} {a b c:SV}
set_option maxRecDepth 10000 in
theorem Qq2 (h:Wk H j g a b c) (hg:Gd g) {N:Nat} {K:Wr}
 (hexit:∀ env M,env.get 0=.ptr (.own j 0 0 0 0) 0->env.get 3=.own H.length 0 g.is.length 1 0->K (.exit 0) env (H++ro g.firsts::M)) :
 ∀ (n:Nat) (env:Env) (M:Ws),n<=g.ns.length->env.get 0=.ptr (.own j 0 0 0 0) 0->env.get 3=.own H.length 0 g.is.length 1 0->env.get 4=i64 ((n:Int)-1) ->
  LI Tryz.prog N Qb QiB env (H++ro (Qbs (g.ns.drop n) n (List.replicate g.is.length 0))::M) K:=by
 intro n
 induction n with
 |zero =>
  intro env M hi h0 h3 h4;refine Qc hm QiB.eq_1 ?_;simp -implicitDefEqProofs[h0,h3,h4];exact hexit _ _ (by simp[h0]) (by simp[h3])
 |succ n ih =>
  intro env M hi h0 h3 h4;refine Qc hm QiB.eq_1 ?_;have hn:=hg.n;have hx:g.ns[n]∈g.ns:=Vf hi;have w1:IntKind.i64.wrap (n:Int)=n:=Qck (by omega);have e:((n+1:Nat):Int)-1=n:=by omega
  rw[e]at h4;have w2:IntKind.i64.wrap ((n:Int)+1)=((n+1:Nat):Int):=QaB (by omega);have w3:IntKind.i64.wrap ((n:Int)-1)=(n:Int)-1:=Qj (by omega) (by omega);by_cases hk:g.ns[n].k=2
  . have hb:=hg.inf hx hk;have e7:Qbs (g.ns.drop n) n (List.replicate g.is.length 0)=(Qbs (g.ns.drop (n+1)) (n+1) (List.replicate g.is.length 0)).set g.ns[n].i.toNat ((n+1:Nat):Int):=by
     rw[Vu hi,Qbs,Wb hk]; rfl
    rw[e7]at ih;simp -implicitDefEqProofs[h0,h3,h4,(h.app _).o,hi,Qbt hi,Qbr hi,Qbq hi,hk,sl,ro];refine⟨by omega,by omega,by omega,?_⟩;rw[w2,Qa7 (by simp; omega),w3];refine ih _ _ (by omega) ?_ ?_ ?_
    . simp
    . simp
    . simp
  . have e7:Qbs (g.ns.drop n) n (List.replicate g.is.length 0)=Qbs (g.ns.drop (n+1)) (n+1) (List.replicate g.is.length 0):=by
     rw[Vu hi,Qbs,Wa hk]
    rw[e7]at ih;simp -implicitDefEqProofs[h0,h3,h4,(h.app _).o,hi,Qbt hi,Qbr hi,Qbq hi,hk,sl];refine⟨by omega,?_⟩;rw[w3];refine ih _ _ (by omega) ?_ ?_ ?_
    . simp
    . simp
    . simp
set_option maxRecDepth 10000 in
theorem Qul (h:Wk H j g a b c) (hg:Gd g) {N:Nat} {K:Wr} {r:AO}
 (hret:(∃ x∈g.ns,x.tyBad g)->∀ env M,env.get 2=i64 10->K .ret env (H++r::M))
 (hexit:(¬ ∃ x∈g.ns,x.tyBad g)->∀ env M,env.get 3=.own H.length 0 g.is.length 1 0->K (.exit 2) env (H++r::M)) :
 ∀ (n i:Nat) (env:Env) (M:Ws),i+n=g.ns.length->(∀ k (h:k<g.ns.length),k<i->¬ g.ns[k].tyBad g)->env.get 0=.ptr (.own j 0 0 0 0) 0->env.get 3=.own H.length 0 g.is.length 1 0 ->
  env.get 47=.slc (nds g.ns) g.ns.length->env.get 48=i64 g.ns.length->env.get 49=i64 i->LI Tryz.prog N Qb QhN env (H++r::M) K:=by
 have hn:=hg.n;intro n
 induction n with
 |zero =>
  intro i env M hi hp h0 h3 h47 h48 h49;refine Qc hm QhN.eq_1 ?_;have e:i=g.ns.length:=by omega
  subst e;simp -implicitDefEqProofs[h0,h3,h48,h49];refine hexit ?_ _ _ (by simp[h3]);rintro⟨x,hx,hb⟩;obtain⟨k,hk,rfl⟩:=VG hx;exact hp k hk hk hb
 |succ n ih =>
  intro i env M hi hp h0 h3 h47 h48 h49;refine Qc hm QhN.eq_1 ?_;have hlt:i<g.ns.length:=by omega
  have hx:g.ns[i]∈g.ns:=Vf hlt;have w1:IntKind.i64.wrap ((i:Int)+1)=((i+1:Nat):Int):=QaB (by omega);by_cases hk:g.ns[i].k=2
  . have hb:=hg.inf hx hk;have hb':g.ns[i].i.toNat<g.is.length:=by omega
    simp -implicitDefEqProofs[h0,h3,h47,h48,h49,(h.app _).o,hlt,Qbt hlt,Qbr hlt,Qbq hlt,Qbo hb',Qgc hb',QfO hb',hk,sl];refine⟨by omega,?_⟩;have hbad:(¬g.is[g.ns[i].i.toNat].fst=g.ns[i].p\/¬g.is[g.ns[i].i.toNat].snd=(g.ns[i].nx.length:Int))↔g.ns[i].tyBad g:=by
     unfold Nd.tyBad;rw[Vb hb'];simp only[hk,true_and,ne_eq,Option.some.injEq];rw[<-Prod.eta g.is[g.ns[i].i.toNat],Prod.mk.injEq];constructor
     . rintro(h|h) ⟨h1,h2⟩
       . exact h h1
       . exact h h2
     . intro h;by_cases h1:g.is[g.ns[i].i.toNat].fst=g.ns[i].p
       . exact .inr λh2=>h ⟨h1,h2⟩
       . exact .inl h1
    split
    . rename_i hc;exact hret ⟨_,hx,hbad.1 hc⟩ _ _ (by simp)
    . rename_i hc;rw[w1];refine ih (i+1) _ _ (by omega) ?_ ?_ ?_ ?_ ?_ ?_
      rotate_left
      . simp
      . simp
      . simp
      . simp
      . simp
      intro k hk hki;by_cases e:k=i
      . subst e; exact λhb=>hc (hbad.2 hb)
      . exact hp k hk (by omega)
  . simp -implicitDefEqProofs[h0,h3,h47,h48,h49,(h.app _).o,hlt,Qbt hlt,Qbr hlt,Qbq hlt,hk,sl];rw[w1];refine ih (i+1) _ _ (by omega) ?_ ?_ ?_ ?_ ?_ ?_
    rotate_left
    . simp
    . simp
    . simp
    . simp
    . simp
    intro k hk' hki;by_cases e:k=i
    . subst e; exact λhb=>hk hb.1
    . exact hp k hk' (by omega)
set_option maxRecDepth 10000 in
theorem Qp6 (h:Wk H j g a b c) (hg:Gd g):Ok Tryz.prog 110 [.ptr (.own j 0 0 0 0) 0] H (.ret (i64 g.setsE)) H:=by
 have hn:=hg.n;have hi:=hg.i;have w1:IntKind.i64.wrap ((g.ns.length:Int)-1)=(g.ns.length:Int)-1:=Qj (by omega) (by omega);refine Ql hm Tryz.func110 c110 (by simp[h.lt]) λhcl => ?_;simp -implicitDefEqProofs[i110,r110,h.o,(h.app _).o,w1];refine⟨by omega,by omega,?_⟩;have e0:[(⟨List.replicate g.is.length (i64 0),3,0,true⟩:AO)]=ro (Qbs (g.ns.drop g.ns.length) g.ns.length (List.replicate g.is.length 0))::[]:=by
  simp[ro,Qbs,Qa]
 rw[e0];refine Qq2 h hg (λenv M h0 h3 => ?_) g.ns.length _ _ (Vc _) (by simp) (by simp) (by simp);simp -implicitDefEqProofs[h0,h3,(h.app _).o];have hF:g.firsts.length=g.is.length:=by simp[Gm.firsts]
 refine Qul h hg (λhb env M h2 => ?_) (λhb env M h3 => ?_) g.ns.length 0 _ _ (by omega) (by omega) (by simp[h0]) (by simp[h3]) (by simp) (by simp) (by simp)
 . simp -implicitDefEqProofs[h2];refine Qg 1 hcl rfl ?_;simp[Gm.setsE,Wb hb]
 . have hI:∀ M,IsI (H++ro g.firsts::M) (.own H.length 0 g.is.length 1 0) g.firsts:=λM=>by
    have:=IsI.own0 H (ro g.firsts::M) 0 0 g.firsts [] 3 (by simp[ro])
    rwa [hF]at this
   simp -implicitDefEqProofs[h3];refine Qf (QtY (hI M) (by omega) 0) ?_;by_cases h0:0∈g.firsts
   . simp -implicitDefEqProofs[h0];refine Qg 1 hcl rfl ?_;simp[Gm.setsE,Wa hb,h0]
   . simp -implicitDefEqProofs[h0,h3];refine Qf (Qqj (hI M) (by omega)) ?_;by_cases h1:Srt g.firsts
     . simp -implicitDefEqProofs[h1];refine Qg 1 hcl rfl ?_;simp[Gm.setsE,Wa hb,h0,h1]
     . simp -implicitDefEqProofs[h1];refine Qg 1 hcl rfl ?_;simp[Gm.setsE,Wa hb,h0,h1]
end
def Gm.rng (g:Gm):Prop:=((((g.pl<1\/4<g.pl)\/(g.ns.length:Int)<1)\/2000<(g.ns.length:Int))\/200<(g.is.length:Int))
instance (g:Gm):Decidable g.rng:=by unfold Gm.rng; infer_instance
def Qan (g:Gm):List Nd->Int
 |[]=>0
 |x::r=>if x.err g=0 then Qan g r else x.err g
def Gm.w0 (g:Gm):W3:=⟨List.replicate g.ns.length 0,List.replicate g.ns.length 0,List.replicate g.ns.length 0⟩
def Gm.wk (g:Gm):Option Nat×W3:=QW g.ns (g.ns.length+1) (-1) 0 0 g.w0
def Gm.err0 (g:Gm):Int:=if g.rng then 2 else if Qan g g.ns≠0 then Qan g g.ns else if g.wk.1≠some g.ns.length then 9 else if 40<Qb3 g.wk.2.D then 5 else 0
def Gm.wp (g:Gm):SV:=.ptr (.slc [i64 g.pl,.slc (nds g.ns) g.ns.length,.slc (Qx g.is) g.is.length,sl g.wk.2.P,sl g.wk.2.D,sl g.wk.2.L] 0) 0
def Gm.walked (g:Gm):SV:=if g.err0≠0 then .tup [.val (.pointer none),i64 g.err0]else .tup [g.wp,i64 g.setsE]
def Qk (g:Gm):AO:=⟨[i64 g.pl,.slc (nds g.ns) g.ns.length,.slc (Qx g.is) g.is.length],26,0,true⟩
def QdE (g:Gm) (a b c:SV):AO:=⟨[i64 g.pl,.slc (nds g.ns) g.ns.length,.slc (Qx g.is) g.is.length,a,b,c],139,0,true⟩
abbrev nl:SV:=.val (.slice none 0 0)
theorem QaP (n:Nat):∀ l:List Nd,SV.underL n (nds l)=true
 |[]=>rfl
 |x::r=>by rw[nds,SV.underL_append,QaP n r]; simp[Nd.cells,sl]
theorem QaS (n:Nat):∀ l:List (Int×Int),SV.underL n (Qx l)=true
 |[]=>rfl
 |x::r=>by simp[Qx,QaS n r]
theorem QlP {n:Nat} {ks:List Nat} {L:Ws} {d:Nat} {l:Wt} (h:SV.underL n l=true):l.map (SV.fz n ks L (d+1))=l:=by
 rw[SV.underL_iff]at h;conv=>rhs; rw[<-List.map_id l]
 exact VA λx hx=>Qao (h x hx)
@[simp] theorem fz_nds (n:Nat) (ks:List Nat) (L:Ws) (d:Nat) (l:List Nd):(nds l).map (SV.fz n ks L (d+1))=nds l:=QlP (QaP n l)
@[simp] theorem Qv6 (n:Nat) (ks:List Nat) (L:Ws) (d:Nat) (l:List (Int×Int)):(Qx l).map (SV.fz n ks L (d+1))=Qx l:=QlP (QaS n l)
section
variable {H:Ws} {g:Gm}
theorem Qrf {M:Ws} {a b c:SV}:Wk (H++Qk g::QdE g a b c::M) (H.length+1) g a b c:=⟨by simp[QdE],by simp⟩
set_option maxRecDepth 10000 in
theorem QtO (h1:1<=g.pl) (h4:g.pl<=4) (h5:g.is.length<=200) (hn:g.ns.length<=2000) {N:Nat} {K:Wr}
 (hret:Qan g g.ns≠0->∀ env M,env.get 2=.val (.pointer none)->env.get 3=i64 (Qan g g.ns)->K .ret env (H++Qk g::QdE g nl nl nl::M))
 (hexit:(∀ x∈g.ns,x.err g=0)->Qan g g.ns=0->∀ env M,env.get 1=.ptr (.own H.length 0 0 0 0) 0->env.get 4=.ptr (.own (H.length+1) 0 0 0 0) 0->K (.exit 0) env (H++Qk g::QdE g nl nl nl::M)) :
 ∀ (n i:Nat) (env:Env) (M:Ws),i+n=g.ns.length->(∀ k (h:k<g.ns.length),k<i->g.ns[k].err g=0)->Qan g (g.ns.drop i)=Qan g g.ns ->
  env.get 1=.ptr (.own H.length 0 0 0 0) 0->env.get 4=.ptr (.own (H.length+1) 0 0 0 0) 0->env.get 40=.slc (nds g.ns) g.ns.length->env.get 41=i64 g.ns.length->env.get 42=i64 i ->
  LI Tryz.prog N Qb QgZ env (H++Qk g::QdE g nl nl nl::M) K:=by
 intro n
 induction n with
 |zero =>
  intro i env M hi hp hE h1 h4 h40 h41 h42;refine Qc hm QgZ.eq_1 ?_;have e:i=g.ns.length:=by omega
  subst e;simp -implicitDefEqProofs[h41,h42];rw[Yt]at hE;refine hexit ?_ hE.symm _ _ (by simp[h1]) (by simp[h4]);intro x hx;obtain⟨k,hk,rfl⟩:=VG hx;exact hp k hk hk
 |succ n ih =>
  intro i env M hi hp hE e1 e4 h40 h41 h42;refine Qc hm QgZ.eq_1 ?_;have hlt:i<g.ns.length:=by omega
  have w1:IntKind.i64.wrap ((i:Int)+1)=((i+1:Nat):Int):=QaB (by omega);rw[Vu hlt,Qan]at hE;simp -implicitDefEqProofs[e1,e4,h40,h41,h42,hlt,Qbt hlt,Qbr hlt,Qbq hlt,sl];refine Qf (Qu7 (x:=g.ns[i]) (Qrf (g:=g) (a:=nl) (b:=nl) (c:=nl)) h1 h4 h5) ?_;by_cases hc:g.ns[i].err g=0
  . rw[Wb hc]at hE;simp -implicitDefEqProofs[hc,h42];rw[w1];refine ih (i+1) _ _ (by omega) ?_ hE ?_ ?_ ?_ ?_ ?_
    rotate_left
    . simp[e1]
    . simp[e4]
    . simp[h40]
    . simp[h41]
    . simp
    intro k hk hki;by_cases e:k=i
    . subst e; exact hc
    . exact hp k hk (by omega)
  . rw[Wa hc]at hE;simp -implicitDefEqProofs[hc];refine hret ?_ _ _ (by simp) (by simp[hE]);rw[<-hE]; exact hc
theorem Qfx {x:Nd} (h:x.err g=0):x.nx.length<=60:=by
 unfold Nd.err at h;split at h
 . omega
 . split at h
   . unfold Nd.chance at h;split at h<;>omega
   . split at h
     . unfold Nd.move at h;split at h<;>omega
     . unfold Nd.end at h;split at h<;>omega
theorem QsG {M:Ws} {A B x y z:AO} {s:W3} :
 upd (H++A::B::(M++[x,y,z])) (H.length+(M.length+1+1)) (H.length+(M.length+1+1+1)) (H.length+(M.length+1+1+1+1)) s=H++A::B::(M++[rr s.P,rr s.D,rr s.L]):=by
 simp[upd]
set_option maxRecDepth 10000 in
theorem ok83:Ok Tryz.prog 83 [.agg g.cells] H (.ret g.walked) H:=by
 refine Ql hm Tryz.func83 c83 (by simp[Gm.cells]) λhcl => ?_;simp -implicitDefEqProofs[i83,r83,Gm.cells];have hR:g.rng=(((((g.pl<1\/4<g.pl)\/(g.ns.length:Int)<1)\/2000<(g.ns.length:Int))\/200<(g.is.length:Int))):=rfl;split
 . rename_i hc;refine Qg 2 hcl rfl ?_;simp[Gm.walked,Gm.err0,hR,hc]
 . rename_i hc;refine⟨rfl,?_⟩;have g1:1<=g.pl:=by omega
   have g4:g.pl<=4:=by omega
   have gi:g.is.length<=200:=by omega
   have gn:g.ns.length<=2000:=by omega
   have gn1:1<=g.ns.length:=by omega
   refine QtO (g:=g) g1 g4 gi gn (λhE env M e2 e3 => ?_) (λhE hE' env M e1 e4 => ?_) g.ns.length 0 _ [] (by omega) (by omega) (by simp) (by simp) (by simp) (by simp) (by simp) (by simp)
   . simp -implicitDefEqProofs[e2,e3];refine Qg 2 hcl rfl ?_;simp[Gm.walked,Gm.err0,hR,hc,hE]
   . have hG:Gd g:=⟨g1,g4,gn1,gn,gi,hE⟩;simp -implicitDefEqProofs[e1,e4,Qk,QdE];refine⟨by omega,by omega,by omega,by omega,by omega,by omega,?_⟩;have ez:(⟨List.replicate g.ns.length (i64 0),3,1,true⟩:AO)=rr (List.replicate g.ns.length 0):=by simp[rr,Qa]
     rw[ez];generalize hHx:H++(⟨[i64 g.pl,SV.slc (nds g.ns) g.ns.length,SV.slc (Qx g.is) g.is.length],26,0,true⟩:AO)::(⟨[i64 g.pl,SV.slc (nds g.ns) g.ns.length,SV.slc (Qx g.is) g.is.length,
      SV.own (H.length+(M.length+1+1)) 0 g.ns.length 1 1,SV.own (H.length+(M.length+1+1+1)) 0 g.ns.length 1 1,SV.own (H.length+(M.length+1+1+1+1)) 0 g.ns.length 1 1],139,0,true⟩:AO) ::
       (M++[rr (List.replicate g.ns.length 0),rr (List.replicate g.ns.length 0),rr (List.replicate g.ns.length 0)])=Hx
     have hup:∀ s,upd Hx (H.length+(M.length+1+1)) (H.length+(M.length+1+1+1)) (H.length+(M.length+1+1+1+1)) s =
      H++Qk g::QdE g (.own (H.length+(M.length+1+1)) 0 g.ns.length 1 1) (.own (H.length+(M.length+1+1+1)) 0 g.ns.length 1 1) (.own (H.length+(M.length+1+1+1+1)) 0 g.ns.length 1 1)::(M++[rr s.P,rr s.D,rr s.L]) :=
      λs=>by rw[<-hHx]; exact QsG
     have h0:upd Hx (H.length+(M.length+1+1)) (H.length+(M.length+1+1+1)) (H.length+(M.length+1+1+1+1)) g.w0=Hx:=by rw[hup,<- hHx]; rfl
     have hWh:Wh Hx (H.length+1) g (H.length+(M.length+1+1)) (H.length+(M.length+1+1+1)) (H.length+(M.length+1+1+1+1)):=by
      refine⟨⟨by rw[<-hHx]; simp,by rw[<-hHx]; simp⟩,⟨by omega,by omega,by rw[<-hHx]; simp⟩,by omega,by omega,by omega,gn,λx hx => ?_⟩;have:=Qfx (hE x hx); omega
     have ok:=QtA hWh (g.ns.length+1) (-1) 0 0 g.w0 (by omega) (by omega) (by omega) (by omega) ⟨by simp[Gm.w0],by simp[Gm.w0],by simp[Gm.w0]⟩;have hwok:=Qc0 (ns:=g.ns) (g.ns.length+1) (-1) 0 0 g.w0 ⟨by simp[Gm.w0],by simp[Gm.w0],by simp[Gm.w0]⟩;rw[h0]at ok;refine Qf ok ?_;have hW:QW g.ns (g.ns.length+1) (-1) 0 0 g.w0=g.wk:=rfl;rw[hW]at hwok ⊢;have hwp:g.walked=if(if g.wk.1≠some g.ns.length then(9:Int)else if 40<Qb3 g.wk.2.D then 5 else 0)≠0 then .tup [.val (.pointer none),i64 (if g.wk.1≠some g.ns.length then(9:Int)else if 40<Qb3 g.wk.2.D then 5 else 0)]else .tup [g.wp,i64 g.setsE]:=by
      unfold Gm.walked Gm.err0;rw[Wa (show ¬ g.rng by rw[hR]; exact hc),Wa (show ¬ Qan g g.ns≠0 by simpa using hE')]
     cases hk:g.wk.1 with
     |none =>
      rw[hk]at hwp;simp -implicitDefEqProofs[QdC];rw[hup];refine Qg 2 hcl rfl ?_;rw[hwp]; simp
     |some r =>
      rw[hk]at hwp hwok;have hr:=hwok.2 r rfl;by_cases hrn:r=g.ns.length
      . subst hrn;simp -implicitDefEqProofs[QdC,nds,e1,e4,hWh.cells];have hI:IsI (upd Hx (H.length+(M.length+1+1)) (H.length+(M.length+1+1+1)) (H.length+(M.length+1+1+1+1)) g.wk.2) (.own (H.length+(M.length+1+1+1)) 0 g.ns.length 1 1) g.wk.2.D:=by
         rw[hup];have:=IsI.own0 H (Qk g::QdE g (.own (H.length+(M.length+1+1)) 0 g.ns.length 1 1) (.own (H.length+(M.length+1+1+1)) 0 g.ns.length 1 1) (.own (H.length+(M.length+1+1+1+1)) 0 g.ns.length 1 1)::(M++[rr g.wk.2.P,rr g.wk.2.D,rr g.wk.2.L])) (M.length+1+1+1) 1 g.wk.2.D [] 3 (by simp[rr])
         rwa [hwok.1.2.1]at this
        refine Qf (Qsv hI (by rw[hwok.1.2.1]; omega) (by rw[hwok.1.2.1]; omega)) ?_;by_cases hm40:40<Qb3 g.wk.2.D
        . simp -implicitDefEqProofs[hm40];rw[hup];refine Qg 2 hcl rfl ?_;rw[hwp]; simp[hm40]
        . simp -implicitDefEqProofs[hm40,e1,e4];have hWk:Wk (upd Hx (H.length+(M.length+1+1)) (H.length+(M.length+1+1+1)) (H.length+(M.length+1+1+1+1)) g.wk.2) (H.length+1) g _ _ _:=⟨hWh.cells _,by rw[QgK]; exact hWh.w.lt⟩;refine Qf (Qp6 hWk hG) ?_;simp -implicitDefEqProofs;rw[hup];refine Qg 4 hcl rfl ?_;rw[hwp];have k1:=hwok.1.1;have k2:=hwok.1.2.1;have k3:=hwok.1.2.2;simp[hm40,Qk,QdE,rr,Gm.wp,sl,k1,k2,k3]
      . simp -implicitDefEqProofs[QdC,show ¬ g.ns.length-r=0 by omega,show 0<g.ns.length-r by omega];rw[hup];refine Qg 2 hcl rfl ?_;rw[hwp]; simp[hrn]
end
def QaI (w:Nat->Int->Option Nat×Int):List Int->Nat->Int->Option Nat×Int
 |[],r,m=>(some r,m)
 |c::cs,r,m=>if c=r then(match w r m with|(none,m)=>(none,m)|(some r,m)=>QaI w cs r m)else(none,m)
def Qat (ns:List Nd):Nat->Int->Nat->Int->Option Nat×Int
 |0,_,_,m=>(none,m)
 |f+1,dep,k,m =>
  match ns[k]? with
  |none=>(none,m)
  |some x=>QaI (Qat ns f (dep+1)) x.nx (k+1) (max m dep)
theorem Ql0 {n:Nat} {w:Nat->Int->Option Nat×Int} (hw:∀ r m r',(w r m).1=some r'->r<r'/\r'<=n) :
 ∀ (l:List Int) (r:Nat) (m:Int),r<=n->∀ r',(QaI w l r m).1=some r'->r<=r'/\r'<=n
 |[],r,m,hn=>λr' h=>by simp[QaI]at h; omega
 |c::cs,r,m,hn=>by
  unfold QaI;by_cases hc:c=r
  . rw[Wb hc];have h:=hw r m
    cases hh:w r m with
    |mk o m1 =>
     rw[hh]at h
     cases o with
     |none=>exact λr' h'=>by simp at h'
     |some r1 =>
      have h1:=h r1 rfl;have h2:=Ql0 hw cs r1 m1 h1.2;exact λr' h'=>by have:=h2 r' h'; omega
  . rw[Wa hc];exact λr' h=>by simp at h
theorem Qky {ns:List Nd}:∀ (f:Nat) (dep:Int) (k:Nat) (m:Int) (r:Nat),(Qat ns f dep k m).1=some r->k<r/\r<=ns.length
 |0,dep,k,m=>λr h=>by simp[Qat]at h
 |f+1,dep,k,m=>by
  unfold Qat
  cases hk:ns[k]? with
  |none=>exact λr h=>by simp at h
  |some x =>
   have hlt:=Qd hk;intro r h;have:=Ql0 (n:=ns.length) (w:=Qat ns f (dep+1)) (λr m r' h=>Qky f (dep+1) r m r' h) x.nx (k+1) (max m dep) (by omega) r h;omega
def upq (H:Ws) (q:Nat) (m:Int):Ws:=H.set q ⟨[i64 m],3,0,true⟩
def Qdm:Option Nat->Int
 |none => -1
 |some r=>r
section
variable {H L:Ws} {g:Gm} {q j:Nat} {m m':Int}
theorem Qdn:(upq H q m).length=H.length:=by simp[upq]
theorem Qmp (h:q<H.length):upq (H++L) q m=upq H q m++L:=by
 unfold upq; rw[Yo _ _ h]
theorem Qoo (h:q<H.length):(upq H q m)[q]? = some ⟨[i64 m],3,0,true⟩:=by unfold upq; rw[Vh h]
theorem Qvh (h:q<H.length):Qe (upq H q m) q 0=[i64 m]:=Qaw (o:=⟨[i64 m],3,0,true⟩) (Qoo h) rfl
theorem QnF (h:q<H.length):Qe (upq H q m++L) q 0=[i64 m]:=by rw[Qd1 L (by rw[Qdn]; exact h),Qvh h]
theorem QtL (h:q<H.length) (f:AO->AO) (hf:f ⟨[i64 m],3,0,true⟩=⟨[i64 m'],3,0,true⟩):Ab.setObj (upq H q m++L) q f=upq H q m'++L:=by
 rw[QS (o:=⟨[i64 m],3,0,true⟩) (by rw[Vd (by rw[Qdn]; exact h)]; exact Qoo h),hf];unfold upq;rw[Yo _ _ (by simpa using h),Yi]
theorem QnZ (h:closed (upq H q m)):closed (upq H q m'):=by
 intro i o ho s hs;by_cases e:i=q
 . subst e;unfold upq at ho;rw[YY]at ho;simp only[We]at ho;split at ho
   . cases ho
     simp only[List.mem_singleton]at hs;subst hs; rfl
   . cases ho
 . unfold upq at ho;rw[Ve (λh=>e h.symm)]at ho;have:=h i o (by unfold upq; rw[Ve (λh=>e h.symm)]; exact ho) s hs;simpa[Qdn]using this
theorem Qd0 {l:List Nd} {k t:Nat} (h:k<l.length) (ht:t<6):(nds l)[k*6+t]? = l[k].cells[t]? := by
 rw[<-Vr,VF,QjQ h,Vd (by simpa[Nd.cells]using ht)]
theorem Qlz {l:List Nd} {k:Nat} (h:k<l.length):(nds l)[k*6+3]? = some (.slc (Qa l[k].nx) l[k].nx.length):=by rw[Qd0 h (by omega)]; rfl
set_option maxRecDepth 10000 in
theorem Qu8 (hq:q<H.length) {x:Nd} {dep:Int} {k:Nat} {w:Nat->Int->Option Nat×Int} {R:Option Nat×Int} (hd0:0<=dep) (hd1:dep<=k) (hk:k<g.ns.length) (hx:x=g.ns[k]) (hn:g.ns.length<=2000) (hnx:x.nx.length<4611686018427387904)
 (hok:∀ r m,k+1<=r->r<=g.ns.length->Ok Tryz.prog 65 [.agg g.cells,i64 r,i64 (dep+1),.ptr (.own q 0 0 0 0) 0] (upq H q m++[Qk g]) (.ret (i64 (Qdm (w r m).1))) (upq H q (w r m).2++[Qk g]))
 (hw:∀ r m r',(w r m).1=some r'->r<r'/\r'<=g.ns.length)
 {N:Nat} {K:Wr}
 (hret:R.1=none->∀ env,env.get 8=i64 (-1)->K .ret env (upq H q R.2++[Qk g]))
 (hexit:∀ r',R.1=some r'->∀ env,env.get 9=i64 r'->K (.exit 0) env (upq H q R.2++[Qk g])) :
 ∀ (n i r:Nat) (m:Int) (env:Env),i+n=x.nx.length->k+1<=r->r<=g.ns.length->QaI w (x.nx.drop i) r m=R ->
  env.get 1=i64 k->env.get 2=i64 dep->env.get 3=.ptr (.own q 0 0 0 0) 0->env.get 4=.ptr (.own H.length 0 0 0 0) 0->env.get 9=i64 r->env.get 10=i64 i ->
  LI Tryz.prog N Qb Qhp env (upq H q m++[Qk g]) K:=by
 subst hx;have hgb:∀ m,Qe (upq H q m++[Qk g]) H.length 0=[i64 g.pl,.slc (nds g.ns) g.ns.length,.slc (Qx g.is) g.is.length]:=λm=>by
  have:=QfT (upq H q m) [Qk g] 0;rw[Qdn]at this;rw[this]; rfl
 intro n
 induction n with
 |zero =>
  intro i r m env hi hr hrn hR h1 h2 h3 h4 h9 h10;refine Qc hm Qhp.eq_1 ?_;have e:i=g.ns[k].nx.length:=by omega
  subst e;simp -implicitDefEqProofs[h1,h4,h9,h10,hgb,hk,Qlz hk,QaF];refine⟨by omega,?_⟩;rw[Yt]at hR;subst hR;exact hexit r rfl _ (by simp)
 |succ n ih =>
  intro i r m env hi hr hrn hR h1 h2 h3 h4 h9 h10;refine Qc hm Qhp.eq_1 ?_;have hlt:i<g.ns[k].nx.length:=by omega
  have w2:IntKind.i64.wrap (dep+1)=dep+1:=Qj (by omega) (by omega);rw[Vu hlt]at hR;unfold QaI at hR;by_cases hc:g.ns[k].nx[i]=r
  . rw[Wb hc]at hR;simp -implicitDefEqProofs[h1,h2,h3,h4,h9,h10,hlt,hgb,hk,Qlz hk,QaF,hc,w2];refine⟨by omega,by omega,Qf (hok r m hr hrn) ?_⟩;have hw1:=hw r m
    cases hh:w r m with
    |mk o m1 =>
     rw[hh]at hw1 hR
     cases o with
     |none =>
      subst hR;simp -implicitDefEqProofs[Qdm];exact hret rfl _ (by simp)
     |some r1 =>
      have h1':=hw1 r1 rfl;simp -implicitDefEqProofs[Qdm,h10];refine ih (i+1) r1 m1 _ (by omega) (by omega) h1'.2 hR ?_ ?_ ?_ ?_ ?_ ?_
      . simp[h1]
      . simp[h2]
      . simp[h3]
      . simp[h4]
      . simp
      . simp[QO (show i<9223372036854775807 by omega)]
  . rw[Wa hc]at hR;subst hR;simp -implicitDefEqProofs[h1,h2,h3,h4,h9,h10,hlt,hgb,hk,Qlz hk,QaF,hc];refine⟨by omega,by omega,?_⟩;exact hret rfl _ (by simp)
set_option maxRecDepth 10000 in
theorem ok65 (hn:g.ns.length<=2000) (hnx:∀ x∈g.ns,x.nx.length<4611686018427387904):∀ (f:Nat) (H:Ws) (dep:Int) (k:Nat) (m:Int),q<H.length->k<=g.ns.length->g.ns.length+1<=k+f->0<=dep->dep<=k ->
 Ok Tryz.prog 65 [.agg g.cells,i64 k,i64 dep,.ptr (.own q 0 0 0 0) 0] (upq H q m) (.ret (i64 (Qdm (Qat g.ns f dep k m).1))) (upq H q (Qat g.ns f dep k m).2):=by
 intro f
 induction f with
 |zero=>intro H dep k m hq h1 h2; omega
 |succ f ih =>
  intro H dep k m hq hk hf hd0 hd1;refine Ql hm Tryz.func65 c65 (by simp[Gm.cells]) λhcl => ?_;have hw:∀ m,Qe (upq H q m++[Qk g]) q 0=[i64 m]:=λm=>QnF hq;by_cases hk':k=g.ns.length
  . subst hk';have e:Qat g.ns (f+1) dep g.ns.length m=(none,m):=by simp[Qat]
    rw[e];simp -implicitDefEqProofs[i65,r65,Gm.cells];refine Qg 1 hcl rfl ?_;simp[Qdm]
  . have hlt:k<g.ns.length:=by omega
    have w1:IntKind.i64.wrap ((k:Int)+1)=((k+1:Nat):Int):=QaB (by omega);simp -implicitDefEqProofs[i65,r65,Gm.cells,hlt,QnF hq,show ¬ g.ns.length<=k by omega,w1];have hget:g.ns[k]? = some g.ns[k]:=Vb hlt;have e:Qat g.ns (f+1) dep k m=QaI (Qat g.ns f (dep+1)) g.ns[k].nx (k+1) (max m dep):=by rw[Qat,hget]
    rw[e,QtL (m':=max m dep) hq _ (by rfl)];refine Qu8 (q:=q) (g:=g) hq (x:=g.ns[k]) (dep:=dep) (k:=k) (w:=Qat g.ns f (dep+1)) (R:=QaI (Qat g.ns f (dep+1)) g.ns[k].nx (k+1) (max m dep)) hd0 hd1 hlt rfl hn (hnx _ (Vf hlt))
     (λr m hr hrn => ?_) (λr m r' h=>Qky f (dep+1) r m r' h) (λhR env h8 => ?_) (λr' hR env h9 => ?_)
     g.ns[k].nx.length 0 (k+1) (max m dep) _ (by omega) (by omega) (by omega) (by simp) (by simp) (by simp) (by simp) (by simp[Qdn]) (by simp) (by simp)
    . rw[<-Qmp hq,<- Qmp hq];exact ih (H++[Qk g]) (dep+1) r m (by simp; omega) hrn (by omega) (by omega) (by omega)
    . simp -implicitDefEqProofs[h8];rw[hR];exact Qg 1 (QnZ hcl) (by rw[Qdn,Qdn]) (by simp[Qdm])
    . simp -implicitDefEqProofs[h9];rw[hR];exact Qg 1 (QnZ hcl) (by rw[Qdn,Qdn]) (by simp[Qdm])
end
def slN (l:List Int):SV:=if l=[]then nl else sl l
structure Fam (b:Nat) (L:Ws) (A:List (List Int)) (cs:Wt):Prop where
 len:cs.length=A.length
 at':∀ s (h:s<A.length),(A[s]=[]/\cs[s]? = some nl)\/(A[s]≠[]/\∃ p,cs[s]? = some (.own (b+p) 0 A[s].length 1 A[s].length)/\L[p]? = some ⟨Qa A[s],3,A[s].length,true⟩)
 inj:∀ (s t p m n v w:Nat),s≠t->cs[s]? = some (.own (b+p) 0 m 1 v)->cs[t]? = some (.own (b+p) 0 n 1 w)->False
section
variable {b:Nat} {L L':Ws} {A:List (List Int)} {cs:Wt} {s:Nat} {i:Int}
theorem Fam.zero (b:Nat) (L:Ws) (n:Nat):Fam b L (List.replicate n []) (List.replicate n nl):=by
 refine⟨by simp,λs h=>.inl ?_,λs t p m n v w hst h1 h2 => ?_⟩
 . simp at h; simp[h]
 . rw[ZS]at h1;split at h1<;>cases h1
theorem Fam.mono (h:Fam b L A cs) (L':Ws):Fam b (L++L') A cs:=by
 refine⟨h.len,λs hs => ?_,h.inj⟩;rcases h.at' s hs with h1|⟨h1,p,h2,h3⟩
 . exact .inl h1
 . exact .inr ⟨h1,p,h2,by rw[Vd (Qd h3)]; exact h3⟩
theorem Fam.new (h:Fam b L A cs) (hs:s<A.length) (he:A[s]=[]):Fam b (L++[⟨Qa [i],3,1,true⟩]) (A.set s [i]) (cs.set s (.own (b+L.length) 0 1 1 1)):=by
 have hl:=h.len;have hnew:∀ t (n w:Nat),t<A.length->cs[t]? = some (.own (b+L.length) 0 n 1 w)->False:=by
  intro t n w ht hc;rcases h.at' t ht with ⟨_,h1⟩|⟨_,p,h2,h3⟩
  . rw[h1]at hc; cases hc
  . rw[h2]at hc;have hp:=Qd h3;simp only[Option.some.injEq,SV.own.injEq]at hc;omega
 refine⟨by simp[hl],λt ht => ?_,λt u p m n v w htu h1 h2 => ?_⟩
 . by_cases e:s=t
   . subst e;refine .inr ⟨by simp,L.length,?_,by simp⟩;rw[Vh (by omega)]; simp
   . have ht':t<A.length:=by simpa using ht
     rw[Ve e];simp only[ZT e];rcases h.at' t ht' with h1|⟨h1,p,h2,h3⟩
     . exact .inl h1
     . exact .inr ⟨h1,p,h2,by rw[Vd (Qd h3)]; exact h3⟩
 . by_cases e:s=t
   . subst e;rw[Vh (by omega)]at h1;rw[Ve htu]at h2;have hu:u<A.length:=by have:=Qd h2; omega
     simp only[Option.some.injEq,SV.own.injEq]at h1;have:p=L.length:=by omega
     subst this;exact hnew u _ _ hu h2
   . rw[Ve e]at h1;by_cases e':s=u
     . subst e';rw[Vh (by omega)]at h2;have ht:t<A.length:=by have:=Qd h1; omega
       simp only[Option.some.injEq,SV.own.injEq]at h2;have:p=L.length:=by omega
       subst this;exact hnew t _ _ ht h1
     . rw[Ve e']at h2;exact h.inj t u p m n v w htu h1 h2
theorem Fam.grow (h:Fam b L A cs) (hs:s<A.length) {p:Nat} (hc:cs[s]? = some (.own (b+p) 0 A[s].length 1 A[s].length)) (hp:L[p]? = some ⟨Qa A[s],3,A[s].length,true⟩) :
 Fam b (L.set p ⟨Qa (A[s]++[i]),3,A[s].length+1,true⟩) (A.set s (A[s]++[i])) (cs.set s (.own (b+p) 0 (A[s].length+1) 1 (A[s].length+1))):=by
 have hl:=h.len;have hpl:=Qd hp;refine⟨by simp[hl],λt ht => ?_,λt u q m n v w htu h1 h2 => ?_⟩
 . by_cases e:s=t
   . subst e;refine .inr ⟨by simp,p,?_,?_⟩
     . rw[Vh (by omega)]; simp
     . rw[Vh hpl]; simp
   . have ht':t<A.length:=by simpa using ht
     rw[Ve e];simp only[ZT e];rcases h.at' t ht' with h1|⟨h1,q,h2,h3⟩
     . exact .inl h1
     . refine .inr ⟨h1,q,h2,?_⟩;rw[Ve (λhqp => ?_)]; exact h3;subst hqp;exact h.inj s t p _ _ _ _ e hc h2
 . by_cases e:s=t
   . subst e;rw[Vh (by omega)]at h1;rw[Ve htu]at h2;simp only[Option.some.injEq,SV.own.injEq]at h1;have:q=p:=by omega
     subst this;exact h.inj s u q _ _ _ _ htu hc h2
   . rw[Ve e]at h1;by_cases e':s=u
     . subst e';rw[Vh (by omega)]at h2;simp only[Option.some.injEq,SV.own.injEq]at h2;have:q=p:=by omega
       subst this;exact h.inj s t q _ _ _ _ (λh=>e h) hc h1
     . rw[Ve e']at h2;exact h.inj t u q m n v w htu h1 h2
theorem Fam.fz (h:Fam b L A cs) {n k d:Nat} {F:Ws} (hb:b=n+k) (hF:∀ p,F[k+p]? = L[p]?):cs.map (SV.fz n [] F (d+2))=A.map slN:=by
 apply Vz;intro s;rw[Vn,Vn];by_cases hs:s<A.length
 . rw[Vb hs];rcases h.at' s hs with ⟨h1,h2⟩|⟨h1,p,h2,h3⟩
   . rw[h2]; simp[slN,h1,nl]
   . rw[h2];have e:b+p=n+(k+p):=by omega
     simp only[VS,slN,Wa h1,sl,e,QdR,hF,h3,QX];simp
 . have h1:=h.len;rw[Vq (by omega),Vq (by omega)];rfl
end
def QcJ:List Nd->Nat->List (List Int)->List (List Int)
 |[],_,A=>A
 |x::r,o,A=>QcJ r (o+1) (if x.k=2 then A.set x.i.toNat (A.getD x.i.toNat []++[(o:Int)])else A)
def Gm.sets (g:Gm):List (List Int):=QcJ g.ns 0 (List.replicate g.is.length [])
section
variable {H:Ws} {g:Gm}
set_option maxRecDepth 10000 in
theorem QrC (hg:Gd g) {N:Nat} {K:Wr}
 (hexit:∀ env M cs,Fam (H.length+2) M g.sets cs->env.get 3=.own (H.length+1) 0 g.is.length 1 0->K (.exit 0) env (H++Qk g::⟨cs,45,0,true⟩::M)) :
 ∀ (n i:Nat) (env:Env) (M:Ws) (A:List (List Int)) (cs:Wt),i+n=g.ns.length->A.length=g.is.length->(∀ s (h:s<A.length),A[s].length<=i)->Fam (H.length+2) M A cs->QcJ (g.ns.drop i) i A=g.sets ->
  env.get 1=.ptr (.own H.length 0 0 0 0) 0->env.get 3=.own (H.length+1) 0 g.is.length 1 0->env.get 4=i64 i ->
  LI Tryz.prog N Qb Qh4 env (H++Qk g::⟨cs,45,0,true⟩::M) K:=by
 have hgn:=hg.n;intro n
 induction n with
 |zero =>
  intro i env M A cs hi hA hAl hF hS h1 h3 h4;refine Qc hm Qh4.eq_1 ?_;have e:i=g.ns.length:=by omega
  subst e;rw[Yt]at hS;subst hS;simp -implicitDefEqProofs[h1,h3,h4,Qk];exact hexit _ _ _ hF (by simp[h3])
 |succ n ih =>
  intro i env M A cs hi hA hAl hF hS h1 h3 h4;refine Qc hm Qh4.eq_1 ?_;have hlt:i<g.ns.length:=by omega
  have hx:g.ns[i]∈g.ns:=Vf hlt;have w1:IntKind.i64.wrap ((i:Int)+1)=((i+1:Nat):Int):=QaB (by omega);rw[Vu hlt,QcJ]at hS;by_cases hk:g.ns[i].k=2
  . have hb:=hg.inf hx hk;have hs:g.ns[i].i.toNat<A.length:=by omega
    have hcl:=hF.len;rw[Wb hk,Vm,Vb hs,VQ]at hS;have eset:∀ v:SV,List.take g.ns[i].i.toNat cs++v::List.drop (g.ns[i].i.toNat+1) cs=cs.set g.ns[i].i.toNat v:=λv=>by
     rw[YF,Wb (by omega)]
    have hAl':∀ v:List Int,v.length<=i+1->∀ s (h:s<(A.set g.ns[i].i.toNat v).length),(A.set g.ns[i].i.toNat v)[s].length<=i+1:=λv hv s h=>by
     by_cases e:g.ns[i].i.toNat=s
     . subst e; simpa using hv
     . rw[ZT e];have:=hAl s (by simpa using h); omega
    rcases hF.at' _ hs with ⟨k1,k2⟩|⟨k1,p,k2,k3⟩
    . simp -implicitDefEqProofs[h1,h3,h4,Qk,hlt,Qbt hlt,Qbr hlt,Qbq hlt,hk,sl,k2];refine⟨by omega,by omega,by omega,by omega,?_⟩;have hF':∀ x y:AO,Fam (H.length+2) (M++[x,y,⟨[i64 i],3,1,true⟩]) (A.set g.ns[i].i.toNat [(i:Int)]) (cs.set g.ns[i].i.toNat (.own (H.length+(M.length+4)) 0 1 1 1)):=λx y=>by
       have:=(hF.mono [x,y]).new (i:=(i:Int)) hs k1;rw[show H.length+2+(M++[x,y]).length=H.length+(M.length+4)by simp; omega]at this;simpa[Qa]using this
      rw[k1,V3]at hS;rw[eset,w1];refine ih (i+1) _ _ _ _ (by omega) (by simp[hA]) (hAl' _ (by simp)) (hF' _ _) hS ?_ ?_ ?_
      . simp
      . simp
      . simp
    . rw[show H.length+2+p=H.length+(p+1+1)by omega]at k2;have hp:=Qd k3;have hle:=hAl _ hs;simp -implicitDefEqProofs[h1,h3,h4,Qk,hlt,Qbt hlt,Qbr hlt,Qbq hlt,hk,sl,k2,Qih k3,QlG,Qk5,Qkx k3];refine⟨by omega,by omega,by omega,by omega,by omega,by omega,?_⟩;have hF':∀ x y:AO,Fam (H.length+2) (M.set p ⟨Qa A[g.ns[i].i.toNat]++[i64 i],3,A[g.ns[i].i.toNat].length+1,true⟩++[x,y]) (A.set g.ns[i].i.toNat (A[g.ns[i].i.toNat]++[(i:Int)]))
       (cs.set g.ns[i].i.toNat (.own (H.length+(p+1+1)) 0 (A[g.ns[i].i.toNat].length+1) 1 (A[g.ns[i].i.toNat].length+1))):=λx y=>by
       rw[show H.length+(p+1+1)=H.length+2+p by omega]at k2 ⊢;have:=(hF.grow (i:=(i:Int)) hs k2 k3).mono [x,y];simpa[Qa]using this
      rw[eset,w1];refine ih (i+1) _ _ _ _ (by omega) (by simp[hA]) (hAl' _ (by simp; omega)) (hF' _ _) hS ?_ ?_ ?_
      . simp
      . simp
      . simp
  . simp -implicitDefEqProofs[h1,h3,h4,Qk,hlt,Qbt hlt,Qbr hlt,Qbq hlt,hk,sl];rw[Wa hk]at hS;rw[w1];refine ih (i+1) _ _ A cs (by omega) hA (λs h=>by have:=hAl s h; omega) (hF.mono _) hS ?_ ?_ ?_
    . simp
    . simp
    . simp
theorem Qnf:∀ (l:List Nd) (o:Nat) (A:List (List Int)),(QcJ l o A).length=A.length
 |[],o,A=>rfl
 |x::r,o,A=>by rw[QcJ,Qnf r]; split<;>simp
theorem QbT:g.sets.length=g.is.length:=by simp[Gm.sets,Qnf]
set_option maxRecDepth 10000 in
theorem ok66 (hg:Gd g):Ok Tryz.prog 66 [.agg g.cells] H (.ret (.slc (g.sets.map slN) g.is.length)) H:=by
 have hn:=hg.n;have hi:=hg.i;refine Ql hm Tryz.func66 c66 (by simp) λhcl => ?_;simp -implicitDefEqProofs[i66,r66,Gm.cells];refine⟨by omega,by omega,?_⟩;refine QrC (g:=g) hg (λenv M cs hF h3 => ?_) g.ns.length 0 _ [] (List.replicate g.is.length []) (List.replicate g.is.length nl) (by omega) (by simp) (by simp) (Fam.zero _ _ _) (by simp[Gm.sets]) (by simp) (by simp) (by simp);simp -implicitDefEqProofs[h3];refine Qg 4 hcl rfl ?_;have hl:=hF.len;rw[QbT]at hl;have:=hF.fz (n:=H.length) (k:=2) (d:=1) (F:=Qk g::(⟨cs,45,0,true⟩:AO)::M) rfl (λp=>by rw[show 2+p=p+1+1 by omega]; simp);simp[hl,this];exact VB (by simp[QbT])
end
def Gm.wr (g:Gm):Option Nat×Int:=Qat g.ns (g.ns.length+1) 0 0 0
def QdD (A:List (List Int)):Prop:=∀ k,k<A.length-1->¬ (A.getD (k+1) []).getD 0 0<(A.getD k []).getD 0 0
instance (A:List (List Int)):Decidable (QdD A):=by unfold QdD; infer_instance
def Gm.setsR (g:Gm):Int:=if ∃ x∈g.ns,x.tyBad g then 10 else if []∈g.sets then 18 else if QdD g.sets then 0 else 9
def Gm.formR (g:Gm):Int:=if g.rng then 2 else if Qan g g.ns≠0 then Qan g g.ns else if g.wr.1≠some g.ns.length then 9 else if 40<g.wr.2 then 5 else g.setsR
theorem QpP {l:List (Int×Int)} {k:Nat} (h:k<l.length):(Qx l)[k*2+1]? = some (i64 l[k].2):=by
 rw[<-Vr,Qbo h]; rfl
theorem Qj9 {l:List (Int×Int)} {k:Nat} (h:k<l.length):(Qx l)[k*2]? = some (i64 l[k].1):=by
 rw[show k*2=k*2+0 by omega,<- Vr,Qbo h]; rfl
theorem Qm2 {g:Gm} {x:Nd} (hk:x.k=2) (hb:x.i.toNat<g.is.length):(¬g.is[x.i.toNat].fst=x.p\/¬g.is[x.i.toNat].snd=(x.nx.length:Int))↔x.tyBad g:=by
 unfold Nd.tyBad;rw[Vb hb];simp only[hk,true_and,ne_eq,Option.some.injEq];rw[<-Prod.eta g.is[x.i.toNat],Prod.mk.injEq];constructor
 . rintro(h|h) ⟨h1,h2⟩
   . exact h h1
   . exact h h2
 . intro h;by_cases h1:g.is[x.i.toNat].fst=x.p
   . exact .inr λh2=>h ⟨h1,h2⟩
   . exact .inl h1
section
variable {H:Ws} {g:Gm}
set_option maxRecDepth 10000 in
theorem QsE (g1:1<=g.pl) (g4:g.pl<=4) (g5:g.is.length<=200) (hn:g.ns.length<=2000) {N:Nat} {K:Wr}
 (hret:Qan g g.ns≠0->∀ env,env.get 2=i64 (Qan g g.ns)->K .ret env (H++[Qk g]))
 (hexit:(∀ x∈g.ns,x.err g=0)->Qan g g.ns=0->∀ env,env.get 1=.ptr (.own H.length 0 0 0 0) 0->K (.exit 0) env (H++[Qk g])) :
 ∀ (n i:Nat) (env:Env),i+n=g.ns.length->(∀ k (h:k<g.ns.length),k<i->g.ns[k].err g=0)->Qan g (g.ns.drop i)=Qan g g.ns ->
  env.get 1=.ptr (.own H.length 0 0 0 0) 0->env.get 3=i64 i ->
  LI Tryz.prog N Qb Qja env (H++[Qk g]) K:=by
 intro n
 induction n with
 |zero =>
  intro i env hi hp hE e1 e3;refine Qc hm Qja.eq_1 ?_;have e:i=g.ns.length:=by omega
  subst e;simp -implicitDefEqProofs[e1,e3,Qk];rw[Yt]at hE;refine hexit ?_ hE.symm _ (by simp[e1]);intro x hx;obtain⟨k,hk,rfl⟩:=VG hx;exact hp k hk hk
 |succ n ih =>
  intro i env hi hp hE e1 e3;refine Qc hm Qja.eq_1 ?_;have hlt:i<g.ns.length:=by omega
  have w1:IntKind.i64.wrap ((i:Int)+1)=((i+1:Nat):Int):=QaB (by omega);rw[Vu hlt,Qan]at hE;simp -implicitDefEqProofs[e1,e3,Qk,hlt,Qbt hlt,Qbr hlt,Qbq hlt,sl];have hh:=λH=>ok64 (H:=H) (x:=g.ns[i]) g1 g4 g5;simp only[Gm.cells,Nd.cells,sl]at hh;refine Q3 (λ_=>hh _) ?_;by_cases hc:g.ns[i].err g=0
  . rw[Wb hc]at hE;simp -implicitDefEqProofs[hc,e3];rw[w1];refine ih (i+1) _ (by omega) ?_ hE ?_ ?_
    rotate_left
    . simp[e1]
    . simp
    intro k hk hki;by_cases e:k=i
    . subst e; exact hc
    . exact hp k hk (by omega)
  . rw[Wa hc]at hE;simp -implicitDefEqProofs[hc];refine hret ?_ _ (by simp[hE]);rw[<-hE]; exact hc
set_option maxRecDepth 10000 in
theorem QuW (hg:Gd g) {N:Nat} {K:Wr} {r:AO}
 (hret:(∃ x∈g.ns,x.tyBad g)->∀ env M,env.get 2=i64 10->K .ret env (H++Qk g::r::M))
 (hexit:(¬ ∃ x∈g.ns,x.tyBad g)->∀ env M,env.get 1=.ptr (.own H.length 0 0 0 0) 0->K (.exit 2) env (H++Qk g::r::M)) :
 ∀ (n i:Nat) (env:Env) (M:Ws),i+n=g.ns.length->(∀ k (h:k<g.ns.length),k<i->¬ g.ns[k].tyBad g)->env.get 1=.ptr (.own H.length 0 0 0 0) 0->env.get 6=i64 i ->
  LI Tryz.prog N Qb Qgq env (H++Qk g::r::M) K:=by
 have hn:=hg.n;intro n
 induction n with
 |zero =>
  intro i env M hi hp h1 h6;refine Qc hm Qgq.eq_1 ?_;have e:i=g.ns.length:=by omega
  subst e;simp -implicitDefEqProofs[h1,h6,Qk];refine hexit ?_ _ _ (by simp[h1]);rintro⟨x,hx,hb⟩;obtain⟨k,hk,rfl⟩:=VG hx;exact hp k hk hk hb
 |succ n ih =>
  intro i env M hi hp h1 h6;refine Qc hm Qgq.eq_1 ?_;have hlt:i<g.ns.length:=by omega
  have hx:g.ns[i]∈g.ns:=Vf hlt;have w1:IntKind.i64.wrap ((i:Int)+1)=((i+1:Nat):Int):=QaB (by omega);by_cases hk:g.ns[i].k=2
  . have hb:=hg.inf hx hk;have hb':g.ns[i].i.toNat<g.is.length:=by omega
    simp -implicitDefEqProofs[h1,h6,Qk,hlt,Qbt hlt,Qbr hlt,Qbq hlt,Qbo hb',QpP hb',Qb8,hk,sl];refine⟨by omega,λe=>⟨e,by omega,by omega⟩,λe=>⟨e,by omega⟩,?_⟩;split
    . rename_i hc;exact hret ⟨_,hx,(Qm2 hk hb').1 hc⟩ _ _ (by simp)
    . rename_i hc;rw[w1];refine ih (i+1) _ _ (by omega) ?_ ?_ ?_
      rotate_left
      . simp
      . simp
      intro k hk' hki;by_cases e:k=i
      . subst e; exact λhb=>hc ((Qm2 hk hb').2 hb)
      . exact hp k hk' (by omega)
  . simp -implicitDefEqProofs[h1,h6,Qk,hlt,Qbt hlt,Qbr hlt,Qbq hlt,hk,sl];rw[w1];refine ih (i+1) _ _ (by omega) ?_ ?_ ?_
    rotate_left
    . simp
    . simp
    intro k hk' hki;by_cases e:k=i
    . subst e; exact λhb=>hk hb.1
    . exact hp k hk' (by omega)
theorem QtR:slN []=nl:=rfl
theorem Qfp {l:List Int} (h:l≠[]):slN l=.slc (Qa l) l.length:=by unfold slN; rw[Wa h]; rfl
theorem Qe5 {A:List (List Int)} {k:Nat} (h:k<A.length):(A.map slN).drop k=slN A[k]::(A.drop (k+1)).map slN:=by
 rw[Vu (by simpa using h)]; simp
theorem QoU {A:List (List Int)} {k:Nat} (h:k<A.length):(A.map slN)[k]? = some (slN A[k]):=by simp[h]
set_option maxRecDepth 10000 in
theorem Qrz {A:List (List Int)} (hA:A.length<=200) {N:Nat} {K:Wr}
 (hret:[]∈A->∀ env,env.get 2=i64 18->K .ret env H)
 (hexit:(∀ k (h:k<A.length),A[k]≠[])->∀ env,env.get 8=.slc (A.map slN) A.length->K (.exit 4) env H) :
 ∀ (n i:Nat) (env:Env),i+n=A.length->(∀ k (h:k<A.length),k<i->A[k]≠[])->env.get 8=.slc (A.map slN) A.length->env.get 9=i64 i ->
  LI Tryz.prog N Qb QiY env H K:=by
 intro n
 induction n with
 |zero =>
  intro i env hi hp h8 h9;refine Qc hm QiY.eq_1 ?_;have e:i=A.length:=by omega
  subst e;simp -implicitDefEqProofs[h8,h9];exact hexit (λk h=>hp k h h) _ (by simp[h8])
 |succ n ih =>
  intro i env hi hp h8 h9;refine Qc hm QiY.eq_1 ?_;have hlt:i<A.length:=by omega
  have w1:IntKind.i64.wrap ((i:Int)+1)=((i+1:Nat):Int):=QaB (by omega);by_cases hk:A[i]=[]
  . simp -implicitDefEqProofs[h8,h9,hlt,Qe5 hlt,hk,QtR,show(SV.val (Value.slice none 0 0)).isSl=true by rfl,show(SV.val (Value.slice none 0 0)).slen=0 by rfl];exact hret (by rw[<-hk]; exact Vf hlt) _ (by simp)
  . simp -implicitDefEqProofs[h8,h9,hlt,Qe5 hlt,Qfp hk,hk];rw[w1];refine ih (i+1) _ (by omega) ?_ ?_ ?_
    rotate_left
    . simp
    . simp
    intro k hk' hki;by_cases e:k=i
    . subst e; exact hk
    . exact hp k hk' (by omega)
theorem Qln {A:List (List Int)}:QdD A↔∀ k (h:k+1<A.length),¬ (A[k+1]).getD 0 0<(A[k]).getD 0 0:=by
 constructor
 . intro h k hk;have:=h k (by omega)
   rwa [Vm (l:=A),Vm (l:=A),Vb hk,Vb (show k<A.length by omega),VQ,VQ]at this
 . intro h k hk;rw[Vm (l:=A),Vm (l:=A),Vb (show k+1<A.length by omega),Vb (show k<A.length by omega),VQ,VQ];exact h k (by omega)
theorem Qmv {l:List Int} (h:l≠[]):(Qa l).head? = some (i64 (l.getD 0 0)):=by
 cases l with
 |nil=>exact(h rfl).elim
 |cons x r=>rfl
set_option maxRecDepth 10000 in
theorem Qtx {A:List (List Int)} (hA:A.length<=200) (hne:∀ k (h:k<A.length),A[k]≠[]) {N:Nat} {K:Wr}
 (hret:¬ QdD A->∀ env,env.get 2=i64 9->K .ret env H)
 (hexit:QdD A->∀ env,K (.exit 6) env H) :
 ∀ (n i:Nat) (env:Env),i+n=A.length->(∀ k (h:k+1<A.length),k<i->¬ (A[k+1]).getD 0 0<(A[k]).getD 0 0)->env.get 8=.slc (A.map slN) A.length->env.get 10=i64 ((i:Int)+1) ->
  LI Tryz.prog N Qb QiX env H K:=by
 intro n
 induction n with
 |zero =>
  intro i env hi hp h8 h10;refine Qc hm QiX.eq_1 ?_;have e:i=A.length:=by omega
  subst e;simp -implicitDefEqProofs[h8,h10,show ¬ ((A.length:Int)+1<A.length)by omega];exact hexit (Qln.2 λk h=>hp k h (by omega)) _
 |succ n ih =>
  intro i env hi hp h8 h10;refine Qc hm QiX.eq_1 ?_;have hlt:i<A.length:=by omega
  have w1:IntKind.i64.wrap ((i:Int)+1+1)=((i+1:Nat):Int)+1:=by rw[Qj (by omega) (by omega)]; omega
  have w2:IntKind.i64.wrap (i:Int)=i:=Qck (by omega);by_cases he:i+1=A.length
  . simp -implicitDefEqProofs[h8,h10,show ¬ ((i:Int)+1<A.length)by omega];exact hexit (Qln.2 λk h=>hp k h (by omega)) _
  . have hlt1:i+1<A.length:=by omega
    have m1:=hne _ hlt1;have m0:=hne _ hlt;simp -implicitDefEqProofs[h8,h10,hlt,hlt1,show((i:Int)+1<A.length)by omega,Qe5 hlt,Qe5 hlt1,QoU hlt1,QoU hlt,Qfp m1,Qfp m0,w2,Qmv m1,Qmv m0];have l1:0<A[i+1].length:=List.length_pos_iff.2 m1;have l0:0<A[i].length:=List.length_pos_iff.2 m0;refine⟨by omega,l1,l1,l0,l0,?_⟩;have ec:((A[i+1])[0]?.getD 0<(A[i])[0]?.getD 0)=((A[i+1]).getD 0 0<(A[i]).getD 0 0):=by rw[Vm,Vm]
    split
    . rename_i hc;exact hret (λh=>Qln.1 h i hlt1 (by simpa[Vm]using hc)) _ (by simp)
    . rename_i hc;rw[w1];refine ih (i+1) _ (by omega) ?_ ?_ ?_
      rotate_left
      . simp
      . simp
      intro k hk' hki;by_cases e:k=i
      . subst e; simpa[Vm]using hc
      . exact hp k hk' (by omega)
set_option maxRecDepth 10000 in
theorem ok37:Ok Tryz.prog 37 [.agg g.cells] H (.ret (i64 g.formR)) H:=by
 refine Ql hm Tryz.func37 c37 (by simp) λhcl => ?_;simp -implicitDefEqProofs[i37,r37,Gm.cells];have hR:g.rng=(((((g.pl<1\/4<g.pl)\/(g.ns.length:Int)<1)\/2000<(g.ns.length:Int))\/200<(g.is.length:Int))):=rfl;split
 . rename_i hc;refine Qg 2 hcl rfl ?_;simp[Gm.formR,hR,hc]
 . rename_i hc;have g1:1<=g.pl:=by omega
   have g4:g.pl<=4:=by omega
   have gi:g.is.length<=200:=by omega
   have gn:g.ns.length<=2000:=by omega
   have gn1:1<=g.ns.length:=by omega
   refine QsE (g:=g) g1 g4 gi gn (λhE env e2 => ?_) (λhE hE' env e1 => ?_) g.ns.length 0 _ (by omega) (by omega) (by simp) (by simp) (by simp)
   . simp -implicitDefEqProofs[e2];refine Qg 2 hcl rfl ?_;simp[Gm.formR,hR,hc,hE]
   . have hG:Gd g:=⟨g1,g4,gn1,gn,gi,hE⟩;simp -implicitDefEqProofs[e1,Qk];have hup:∀ m,upq (H++[Qk g,(⟨[i64 0],3,0,true⟩:AO)]) (H.length+1) m=H++[Qk g,(⟨[i64 m],3,0,true⟩:AO)]:=λm=>by simp[upq]
     have hnx:∀ x∈g.ns,x.nx.length<4611686018427387904:=λx hx=>by have:=Qfx (hE x hx); omega
     have ok:=ok65 (g:=g) (q:=H.length+1) gn hnx (g.ns.length+1) (H++[Qk g,(⟨[i64 0],3,0,true⟩:AO)]) 0 0 0 (by simp) (by omega) (by omega) (by omega) (by omega);rw[hup,hup]at ok;have hwr:Qat g.ns (g.ns.length+1) 0 0 0=g.wr:=rfl;rw[hwr]at ok;have hwok:=Qky (ns:=g.ns) (g.ns.length+1) 0 0 0;rw[hwr]at hwok;refine Qf ok ?_;have hF:g.formR=if g.wr.1≠some g.ns.length then 9 else if 40<g.wr.2 then 5 else g.setsR:=by
      unfold Gm.formR;rw[Wa (show ¬ g.rng by rw[hR]; exact hc),Wa (show ¬ Qan g g.ns≠0 by simpa using hE')]
     have hres:Qdm g.wr.1=(g.ns.length:Int)↔g.wr.1=some g.ns.length:=by
      cases h:g.wr.1 with
      |none=>simp[Qdm]
      |some r=>simp[Qdm]; omega
     simp -implicitDefEqProofs[Qk,e1];by_cases hk:g.wr.1=some g.ns.length
     . rw[Wb (hres.2 hk)];rw[hk]at hF;by_cases hm:40<g.wr.2
       . rw[Wb hm];refine Qg 2 hcl rfl ?_;rw[hF]; simp[hm]
       . rw[Wa hm];have hF':g.formR=g.setsR:=by rw[hF]; simp[hm]
         rw[hF'];unfold Gm.setsR;refine QuW (g:=g) (r:=⟨[i64 g.wr.2],3,0,true⟩) hG (λhb env M h2 => ?_) (λhb env M h1 => ?_) g.ns.length 0 _ [] (by omega) (by omega) (by simp[e1]) (by simp)
         . simp -implicitDefEqProofs[h2];refine Qg 2 hcl rfl ?_;rw[Wb hb]; simp
         . rw[Wa hb];simp -implicitDefEqProofs[h1,Qk];have hh:=λH=>ok66 (H:=H) hG;simp only[Gm.cells]at hh;refine Qf (hh _) ?_;have hsl:g.sets.length=g.is.length:=QbT;rw[<-hsl];simp -implicitDefEqProofs;refine Qrz (A:=g.sets) (by omega) (λhz env h2 => ?_) (λhz env h8 => ?_) g.sets.length 0 _ (by omega) (by omega) (by simp) (by simp)
           . simp -implicitDefEqProofs[h2];refine Qg 2 hcl rfl ?_;simp[hz]
           . have hz':¬ []∈g.sets:=λh=>by
              obtain⟨k,hk,e⟩:=VG h;exact hz k hk e
             rw[Wa hz'];simp -implicitDefEqProofs[h8];refine Qtx (A:=g.sets) (by omega) hz (λhs env h2 => ?_) (λhs env => ?_) g.sets.length 0 _ (by omega) (by omega) (by simp[h8]) (by simp)
             . simp -implicitDefEqProofs[h2];refine Qg 2 hcl rfl ?_;simp[hs]
             . simp -implicitDefEqProofs;refine Qg 2 hcl rfl ?_;simp[hs]
     . rw[Wa (λh=>hk (hres.1 h))];refine Qg 2 hcl rfl ?_;rw[hF]; simp[hk]
end
theorem QsQ {l:List Int} (h:0<l.length) {x:Int}:Qb3 l<=x↔∀ i,i<l.length->l.getD i 0<=x:=by
 have hf:∀ (r:List Int) (a:Int),r.foldl max a<=x↔a<=x/\∀ y∈r,y<=x:=by
  intro r
  induction r with
  |nil=>intro a; simp
  |cons y r ih =>
   intro a;rw[ZE,ih];simp only[Vi,Wm];constructor
   . rintro⟨h1,h2⟩; exact⟨by omega,by omega,h2⟩
   . rintro⟨h1,h2,h3⟩; exact⟨by omega,h3⟩
 cases l with
 |nil=>simp at h
 |cons y r =>
  rw[Qb3,List.tail_cons,List.headD_cons,hf];constructor
  . rintro⟨h1,h2⟩ i hi
    cases i with
    |zero=>simpa using h1
    |succ i =>
     have hi':i<r.length:=by simpa using hi
     have:=h2 _ (Vf hi');simpa[Vm,hi']using this
  . intro h1;refine⟨by simpa using h1 0 (by simp),λy hy => ?_⟩;obtain⟨k,hk,rfl⟩:=VG hy;have:=h1 (k+1) (by simpa using hk);simpa[Vm,hk]using this
def MxR (D:List Int) (a b:Nat) (m m':Int):Prop:=∀ x,m'<=x↔(m<=x/\∀ i,a<=i->i<b->D.getD i 0<=x)
theorem QoS {n:Nat} {w:Nat->W3->Option Nat×W3} {v:Nat->Int->Option Nat×Int} (hok:∀ r s,s.ok n->(w r s).2.ok n/\∀ r',(w r s).1=some r'->r<r'/\r'<=n)
 (h:∀ r s m,s.ok n->(w r s).1=(v r m).1/\∀ r',(w r s).1=some r'->(∀ i,i<r->(w r s).2.D.getD i 0=s.D.getD i 0)/\MxR (w r s).2.D r r' m (v r m).2) :
 ∀ (l:List Int) (r:Nat) (s:W3) (m:Int),s.ok n->(QaD w l r s).1=(QaI v l r m).1/\∀ r',(QaD w l r s).1=some r'->(∀ i,i<r->(QaD w l r s).2.D.getD i 0=s.D.getD i 0)/\MxR (QaD w l r s).2.D r r' m (QaI v l r m).2
 |[],r,s,m,hs=>by
  refine⟨rfl,λr' h'=>⟨λ_ _=>rfl,λx => ?_⟩⟩;simp only[QaD,Option.some.injEq]at h';subst h';simp only[QaI];exact⟨λh=>⟨h,λi h1 h2=>by omega⟩,λh=>h.1⟩
 |c::cs,r,s,m,hs=>by
  unfold QaD QaI;by_cases hc:c=r
  . rw[Wb hc,Wb hc];obtain⟨h1,h2⟩:=h r s m hs;have h3:=hok r s hs
    cases hw:w r s with
    |mk o s1 =>
     cases hv:v r m with
     |mk o' m1 =>
      rw[hw,hv]at h1;rw[hw]at h2 h3;rw[hv]at h2;simp only at h1;subst h1
      cases o with
      |none=>exact⟨rfl,λr' h'=>by simp at h'⟩
      |some r1 =>
       obtain⟨h4,h5⟩:=h2 r1 rfl;have h6:=h3.2 r1 rfl;obtain⟨h7,h8⟩:=QoS hok h cs r1 s1 m1 h3.1;refine⟨h7,λr' h' => ?_⟩;obtain⟨h9,h10⟩:=h8 r' h';refine⟨λi hi => ?_,λx => ?_⟩
       . simp only;rw[h9 i (by omega)]; exact h4 i hi
       . simp only;rw[h10 x,h5 x];constructor
         . rintro⟨⟨k1,k2⟩,k3⟩;refine⟨k1,λi h1 h2 => ?_⟩;by_cases hi:i<r1
           . rw[h9 i hi]; exact k2 i h1 hi
           . exact k3 i (by omega) h2
         . rintro⟨k1,k2⟩;have hr':r1<=r':=(Qga (m:=0) (λr s _ hs=>hok r s hs) cs r1 s1 (by omega) h6.2 h3.1).2 r' h' |>.1;refine⟨⟨k1,λi h1 h2 => ?_⟩,λi h1 h2=>k2 i (by omega) h2⟩;have:=k2 i h1 (by omega)
           rwa [h9 i h2]at this
  . rw[Wa hc,Wa hc];exact⟨rfl,λr' h'=>by simp at h'⟩
theorem Qjy {l:List Int} {i k:Nat} {v:Int} (h:i≠k):(l.set k v).getD i 0=l.getD i 0:=by
 rw[Vm,Vm,Ve (λe=>h e.symm)]
theorem QkK {l:List Int} {k:Nat} {v:Int} (h:k<l.length):(l.set k v).getD k 0=v:=by
 rw[Vm,Vh h]; rfl
theorem QgB {ns:List Nd}:∀ (f:Nat) (par dep:Int) (k:Nat) (s:W3) (m:Int),s.ok ns.length ->
 (QW ns f par dep k s).1=(Qat ns f dep k m).1/\∀ r,(QW ns f par dep k s).1=some r ->
  ((∀ i,i<k->(QW ns f par dep k s).2.D.getD i 0=s.D.getD i 0)/\MxR (QW ns f par dep k s).2.D k r m (Qat ns f dep k m).2)/\(QW ns f par dep k s).2.D.getD k 0=dep
 |0,par,dep,k,s,m,hs=>⟨rfl,λr h=>by simp[QW]at h⟩
 |f+1,par,dep,k,s,m,hs=>by
  unfold QW Qat
  cases hk:ns[k]? with
  |none=>exact⟨rfl,λr h=>by simp at h⟩
  |some x =>
   have hlt:=Qd hk;have hs':W3.ok ⟨s.P.set k par,s.D.set k dep,s.L⟩ ns.length:=⟨by simpa using hs.1,by simpa using hs.2.1,hs.2.2⟩;have hr:=QoS (n:=ns.length) (w:=QW ns f k (dep+1)) (v:=Qat ns f (dep+1)) (λr s hs=>Qc0 f k (dep+1) r s hs)
    (λr s m hs=>⟨(QgB f k (dep+1) r s m hs).1,λr' h=>((QgB f k (dep+1) r s m hs).2 r' h).1⟩) x.nx (k+1) ⟨s.P.set k par,s.D.set k dep,s.L⟩ (max m dep) hs'
   have hk2:=Qga (n:=ns.length) (w:=QW ns f k (dep+1)) (m:=0) (λr s _ hs=>Qc0 f k (dep+1) r s hs) x.nx (k+1) ⟨s.P.set k par,s.D.set k dep,s.L⟩ (by omega) (by omega) hs';simp only
   cases hh:QaD (QW ns f k (dep+1)) x.nx (k+1) ⟨s.P.set k par,s.D.set k dep,s.L⟩with
   |mk o s1 =>
    cases hv:QaI (Qat ns f (dep+1)) x.nx (k+1) (max m dep)with
    |mk o' m1 =>
     rw[hh,hv]at hr;rw[hh]at hk2;obtain⟨h1,h2⟩:=hr;simp only at h1;subst h1
     cases o with
     |none=>exact⟨rfl,λr' h'=>by simp at h'⟩
     |some r1 =>
      obtain⟨h3,h4⟩:=h2 r1 rfl;have hr1:=hk2.2 r1 rfl;have hD:s.D.length=ns.length:=hs.2.1;have hk0:s1.D.getD k 0=dep:=by rw[h3 k (by omega)]; exact QkK (by omega)
      refine⟨rfl,λr h' => ?_⟩;simp only[Option.some.injEq]at h';subst h';refine⟨⟨λi hi => ?_,λx => ?_⟩,hk0⟩
      . show s1.D.getD i 0=_;rw[h3 i (by omega)]; exact Qjy (by omega)
      . show m1<=x↔_;rw[h4 x];constructor
        . rintro⟨k1,k2⟩;refine⟨by omega,λi h1 h2 => ?_⟩;by_cases e:i=k
          . subst e; show s1.D.getD i 0<=x; rw[hk0]; omega
          . exact k2 i (by omega) h2
        . rintro⟨k1,k2⟩;have:=k2 k (by omega) (by omega);have this:s1.D.getD k 0<=x:=this;rw[hk0]at this;exact⟨by omega,λi h1 h2=>k2 i (by omega) h2⟩
def occ (s:Nat):List Nd->Nat->List Int
 |[],_=>[]
 |x::r,o=>if x.k=2/\x.i.toNat=s then(o:Int)::occ s r (o+1)else occ s r (o+1)
theorem QiC {s:Nat}:∀ {l:List Nd} {o:Nat} {a:Int},a∈occ s l o->0<=a
 |[],o,a,h=>by simp[occ]at h
 |x::r,o,a,h=>by
  unfold occ at h;split at h
  . rcases Vi.1 h with rfl|h
    . omega
    . exact QiC h
  . exact QiC h
theorem Qka {s:Nat}:∀ (l:List Nd) (o:Nat) (A:List (List Int)),s<A.length->(QcJ l o A).getD s []=A.getD s []++occ s l o
 |[],o,A,h=>by simp[QcJ,occ]
 |x::r,o,A,h=>by
  unfold QcJ occ;by_cases hk:x.k=2
  . rw[Wb hk,Qka r (o+1) _ (by simpa using h)];by_cases e:x.i.toNat=s
    . rw[Wb ⟨hk,e⟩,e];simp[Vm,h]
    . rw[Wa (λh=>e h.2)];simp[Vm,Ve e]
  . rw[Wa hk,Wa (λh=>hk h.1),Qka r (o+1) A h]
theorem Qkq {s:Nat} {z:List Int} (hz:s<z.length):∀ (l:List Nd) (o:Nat),(Qbs l o z).getD s 0=(match occ s l o with|[]=>z.getD s 0|a::_=>a+1)
 |[],o=>by simp[Qbs,occ]
 |x::r,o=>by
  unfold Qbs occ;by_cases hk:x.k=2
  . rw[Wb hk];by_cases e:x.i.toNat=s
    . rw[Wb ⟨hk,e⟩,e,QkK (by simpa using hz)]
    . rw[Wa (λh=>e h.2),Qjy (λh=>e h.symm)];exact Qkq hz r (o+1)
  . rw[Wa hk,Wa (λh=>hk h.1)];exact Qkq hz r (o+1)
section
variable {g:Gm}
theorem Qf4 {s:Nat} (hs:s<g.is.length):g.sets.getD s []=occ s g.ns 0:=by
 rw[Gm.sets,Qka _ _ _ (by simpa using hs)];simp[Vm,hs]
theorem QlF {s:Nat} (hs:s<g.is.length):g.firsts.getD s 0=(match g.sets.getD s []with|[]=>0|a::_=>a+1):=by
 rw[Gm.firsts,Qkq (by simpa using hs),Qf4 hs];simp[Vm,hs]
theorem QmX:(0:Int)∈g.firsts↔[]∈g.sets:=by
 have hl:g.sets.length=g.is.length:=QbT;have hf:g.firsts.length=g.is.length:=by simp[Gm.firsts]
 constructor
 . intro h;obtain⟨s,hs,e⟩:=VG h;have:=QlF (g:=g) (s:=s) (by omega);rw[Vm,Vb hs,VQ,e]at this;have hs':s<g.sets.length:=by omega
   have h2:g.sets.getD s []=g.sets[s]:=by rw[Vm,Vb hs']; rfl
   cases hc:g.sets.getD s []with
   |nil=>rw[<-hc,h2]; exact Vf hs'
   |cons a r =>
    rw[hc]at this;have h3:0<=a:=QiC (s:=s) (l:=g.ns) (o:=0) (by rw[<-Qf4 (by omega),hc]; simp);simp only at this; omega
 . intro h;obtain⟨s,hs,e⟩:=VG h;have:=QlF (g:=g) (s:=s) (by omega);rw[Vm (l:=g.sets),Vb hs,VQ,e]at this;have hs':s<g.firsts.length:=by omega
   rw[Vm,Vb hs',VQ]at this;simp only at this;rw[<-this]; exact Vf hs'
theorem Qo4 (h:¬ []∈g.sets):Srt g.firsts↔QdD g.sets:=by
 have hl:g.sets.length=g.is.length:=QbT;have hf:g.firsts.length=g.is.length:=by simp[Gm.firsts]
 have hv:∀ s,s<g.is.length->g.firsts.getD s 0=(g.sets.getD s []).getD 0 0+1:=by
  intro s hs;rw[QlF hs]
  cases hc:g.sets.getD s []with
  |nil =>
   exfalso; apply h;have hs':s<g.sets.length:=by omega
   rw[Vm,Vb hs',VQ]at hc;rw[<-hc]; exact Vf hs'
  |cons a r=>simp
 unfold Srt QdD;rw[hf,hl];constructor
 . intro h1 k hk;have:=h1 k hk;rw[hv _ (by omega),hv _ (by omega)]at this;omega
 . intro h1 k hk;have:=h1 k hk;rw[hv _ (by omega),hv _ (by omega)];omega
theorem Qos:g.setsE=g.setsR:=by
 unfold Gm.setsE Gm.setsR;by_cases hb:∃ x∈g.ns,x.tyBad g
 . rw[Wb hb,Wb hb]
 . rw[Wa hb,Wa hb];by_cases h0:[]∈g.sets
   . rw[Wb h0,Wb (QmX.2 h0)]
   . rw[Wa h0,Wa (λh=>h0 (QmX.1 h))];by_cases hs:QdD g.sets
     . rw[Wb hs,Wb ((Qo4 h0).2 hs)]
     . rw[Wa hs,Wa (λh=>hs ((Qo4 h0).1 h))]
def Gm.formE (g:Gm):Int:=if g.err0≠0 then g.err0 else g.setsE
theorem QeC:g.w0.ok g.ns.length:=⟨by simp[Gm.w0],by simp[Gm.w0],by simp[Gm.w0]⟩
theorem QoT:g.wk.1=g.wr.1:=(QgB (ns:=g.ns) (g.ns.length+1) (-1) 0 0 g.w0 0 QeC).1
theorem QtH (h1:1<=g.ns.length) (h:g.wk.1=some g.ns.length):Qb3 g.wk.2.D=g.wr.2:=by
 have hr:=(QgB (ns:=g.ns) (g.ns.length+1) (-1) 0 0 g.w0 0 QeC).2 g.ns.length h;have hok:=(Qc0 (ns:=g.ns) (g.ns.length+1) (-1) 0 0 g.w0 QeC).1;have hD:g.wk.2.D.length=g.ns.length:=hok.2.1;have hx:∀ x,Qb3 g.wk.2.D<=x↔g.wr.2<=x:=by
  intro x;rw[QsQ (by omega)];have:=hr.1.2 x;have h0:g.wk.2.D.getD 0 0=0:=hr.2;show _↔(Qat g.ns (g.ns.length+1) 0 0 0).2<=x;rw[this,hD];constructor
  . intro k;have:=k 0 (by omega);rw[h0]at this;exact⟨this,λi _ hi=>k i hi⟩
  . rintro⟨_,k⟩ i hi;exact k i (by omega) hi
 have:=(hx (Qb3 g.wk.2.D)).1 (V8 _);have:=(hx g.wr.2).2 (V8 _);omega
theorem QmG:g.formE=g.formR:=by
 have hR:g.rng=(((((g.pl<1\/4<g.pl)\/(g.ns.length:Int)<1)\/2000<(g.ns.length:Int))\/200<(g.is.length:Int))):=rfl;unfold Gm.formE Gm.err0 Gm.formR;by_cases hr:g.rng
 . simp[hr]
 . rw[Wa hr,Wa hr];by_cases hn:Qan g g.ns=0
   . have hn':¬ Qan g g.ns≠0:=by simpa using hn
     rw[Wa hn',Wa hn',QoT];by_cases hk:g.wr.1=some g.ns.length
     . have hk':¬ g.wr.1≠some g.ns.length:=by simpa using hk
       rw[Wa hk',Wa hk'];rw[hR]at hr;rw[QtH (by omega) (by rw[QoT]; exact hk),Qos];by_cases hm:40<g.wr.2
       . simp[hm]
       . simp[hm]
     . simp[hk]
   . simp[hn]
end
def NO (b:Nat) (M:Ws):List Nd->Wt->Prop
 |[],cs=>cs=[]
 |x::r,cs=>∃ p1 p2 p3 rest,cs=i64 x.k::i64 x.p::i64 x.i::.own (b+p1) 0 x.nx.length 1 2::.own (b+p2) 0 x.ws.length 1 2::.own (b+p3) 0 x.ps.length 1 2::rest /\
  M[p1]? = some (⟨Qa x.nx,3,2,true⟩:AO)/\M[p2]? = some (⟨Qa x.ws,3,2,true⟩:AO)/\M[p3]? = some (⟨Qa x.ps,3,2,true⟩:AO)/\NO b M r rest
theorem NO.mono {b:Nat} {M M':Ws} (h:∀ (p:Nat) (l:List Int),M[p]? = some (⟨Qa l,3,2,true⟩:AO)->M'[p]? = some (⟨Qa l,3,2,true⟩:AO)):∀ {l:List Nd} {cs:Wt},NO b M l cs->NO b M' l cs
 |[],cs,hn=>hn
 |x::r,cs,⟨p1,p2,p3,rest,h0,h1,h2,h3,h4⟩=>⟨p1,p2,p3,rest,h0,h _ _ h1,h _ _ h2,h _ _ h3,NO.mono h h4⟩
theorem NO.snoc {b:Nat} {M:Ws} {x:Nd} {p1 p2 p3:Nat} (h1:M[p1]? = some ⟨Qa x.nx,3,2,true⟩) (h2:M[p2]? = some ⟨Qa x.ws,3,2,true⟩) (h3:M[p3]? = some ⟨Qa x.ps,3,2,true⟩) :
 ∀ {l:List Nd} {cs:Wt},NO b M l cs->NO b M (l++[x]) (cs++[i64 x.k,i64 x.p,i64 x.i,.own (b+p1) 0 x.nx.length 1 2,.own (b+p2) 0 x.ws.length 1 2,.own (b+p3) 0 x.ps.length 1 2])
 |[],cs,hn=>by
  cases hn
  exact⟨p1,p2,p3,[],rfl,h1,h2,h3,rfl⟩
 |y::r,cs,⟨q1,q2,q3,rest,h0,k1,k2,k3,h4⟩=>by
  subst h0;exact⟨q1,q2,q3,_,rfl,k1,k2,k3,NO.snoc h1 h2 h3 h4⟩
theorem NO.len {b:Nat} {M:Ws}:∀ {l:List Nd} {cs:Wt},NO b M l cs->cs.length=6*l.length
 |[],cs,hn=>by cases hn; rfl
 |x::r,cs,⟨p1,p2,p3,rest,h0,h1,h2,h3,h4⟩=>by subst h0; simp[NO.len h4]; omega
theorem NO.cell {b:Nat} {M:Ws}:∀ {l:List Nd} {cs:Wt},NO b M l cs->Qy cs
 |[],cs,hn=>by cases hn; intro s hs; simp at hs
 |x::r,cs,⟨p1,p2,p3,rest,h0,h1,h2,h3,h4⟩=>by
  subst h0;intro s hs;simp only[Vi]at hs;rcases hs with rfl|rfl|rfl|rfl|rfl|rfl|hs
  . rfl
  . rfl
  . rfl
  . rfl
  . rfl
  . rfl
  . exact NO.cell h4 s hs
theorem NO.fz {b n k d:Nat} {M F:Ws} (hb:b=n+k) (hF:∀ p,F[k+p]? = M[p]?):∀ {l:List Nd} {cs:Wt},NO b M l cs->cs.map (SV.fz n [] F (d+2))=nds l
 |[],cs,hn=>by cases hn; rfl
 |x::r,cs,⟨p1,p2,p3,rest,h0,h1,h2,h3,h4⟩=>by
  subst h0;have e:∀ p,b+p=n+(k+p):=λp=>by omega
  simp only[Vs,NO.fz hb hF h4,nds,Nd.cells,e,QdR,hF,h1,h2,h3,QX,Qcd];simp[sl]
section
variable {H:Ws} {g:Gm}
theorem QqF (H:Ws) (k n:Nat):H.length+k+n=H.length+(k+n):=Yd ..
end
section
variable {H:Ws} {x y:SV} {l m:List Int}
theorem QuM (hx:IsI H x l) (hy:IsI H y m) (hl:l.length<4611686018427387904) (hlm:l.length=m.length) {N:Nat} {K:Wr}
 (hret:l≠m->∀ env,env.get 4=bl false->K .ret env H) (hexit:l=m->∀ env,K (.exit 0) env H) :
 ∀ (n i:Nat) (env:Env),i+n=l.length->(∀ k (h:k<l.length),k<i->l[k]=m[k]'(by omega))->env.get 0=x->env.get 1=y->env.get 5=i64 i ->
  LI Tryz.prog N Qb QgT env H K:=by
 intro n
 induction n with
 |zero =>
  intro i env hi hp h0 h1 h5;refine Qc hm QgT.eq_1 ?_;have e:i=l.length:=by omega
  subst e;simp -implicitDefEqProofs[h0,h1,h5,hx.vd,hx.ug,hx.sl,hx.len];exact hexit (List.ext_getElem hlm λk h1 h2=>hp k h1 h1) _
 |succ n ih =>
  intro i env hi hp h0 h1 h5;refine Qc hm QgT.eq_1 ?_;have hlt:i<l.length:=by omega
  have hlt':i<m.length:=by omega
  simp -implicitDefEqProofs[h0,h1,h5,hlt,hlt',hx.vd,hx.ug,hx.sl,hx.len,hx.v hlt,hx.ok hlt,hy.vd,hy.ug,hy.sl,hy.len,hy.v hlt',hy.ok hlt'];by_cases hc:l[i]=m[i]
  . rw[Wb hc];refine ih (i+1) _ (by omega) ?_ ?_ ?_ ?_
    rotate_left
    . simp[h0]
    . simp[h1]
    . simp[QO (show i<9223372036854775807 by omega)]
    intro k hk hki;by_cases e:k=i
    . subst e; exact hc
    . exact hp k hk (by omega)
  . rw[Wa hc];exact hret (λe=>hc (by subst e; rfl)) _ (by simp)
theorem ok40 (hx:IsI H x l) (hy:IsI H y m) (hl:l.length<4611686018427387904):Ok Tryz.prog 40 [x,y] H (.ret (bl (decide (l=m)))) H:=by
 refine Ql hm Tryz.func40 c40 (by simp) λhcl => ?_;by_cases hlm:l.length=m.length
 . simp -implicitDefEqProofs[i40,r40,hx.vd,hx.ug,hx.sl,hx.len,hy.vd,hy.ug,hy.sl,hy.len,hlm];refine QuM hx hy hl hlm (λhne env h4 => ?_) (λhe env => ?_) l.length 0 _ (by omega) (by omega) (by simp) (by simp) (by simp)
   . simp -implicitDefEqProofs[h4,hne];exact Qn
   . simp -implicitDefEqProofs[he];exact Qn
 . simp -implicitDefEqProofs[i40,r40,hx.vd,hx.ug,hx.sl,hx.len,hy.vd,hy.ug,hy.sl,hy.len,show ¬ ((l.length:Int)=m.length)by omega,hlm];have:l≠m:=λe=>hlm (by rw[e]);simp[this];exact Qn
theorem Qur (hx:IsI H x l) (hy:IsI H y l) (hl:l.length<4611686018427387904):Ok Tryz.prog 40 [x,y] H (.ret (bl true)) H:=by simpa using ok40 hx hy hl
end
section
variable {H:Ws} {g:Gm} {x:Nd} {is:List (Int×Int)}
theorem isc (H:Ws) (l:List Int):IsI H (.slc (Qa l) l.length) l:=IsI.slc H l
def Nd.big (x:Nd):Prop:=(80<x.nx.length\/80<x.ws.length)\/80<x.ps.length
instance (x:Nd):Decidable x.big:=by unfold Nd.big; infer_instance
def Gm.large (g:Gm):Prop:=(∃ x∈g.ns.take 81,x.big)\/80<g.ns.length\/80<g.is.length
instance (g:Gm):Decidable g.large:=by unfold Gm.large; infer_instance
theorem ok51:Ok Tryz.prog 51 [.agg g.cells] H (.ret (i64 g.formE)) H:=by
 refine Ql hm Tryz.func51 c51 (by simp) λhcl => ?_;simp -implicitDefEqProofs[i51,r51,Gm.cells];have hh:=λH=>ok83 (H:=H) (g:=g);simp only[Gm.cells]at hh;refine Qf (hh _) ?_;unfold Gm.walked Gm.formE;by_cases h:g.err0=0
 . simp -implicitDefEqProofs[h];exact Qg 1 hcl rfl (by simp)
 . simp -implicitDefEqProofs[h];exact Qg 1 hcl rfl (by simp)
end
theorem hm':Tryz.prog.follows .mixedOrders=true:=Tryz.checked.mixed
structure Gh where
 lv:Nat
 sn:List (List Int)
def QeJ (a b:List (List Int)) (pl:Int) (k:Int):Prop:=b.length=a.length/\∀ (q:Nat) (h:q<a.length),∃ e:Int,b[q]? = some (a[q]++[e])/\((q:Int)=pl->e=k)
def Nd.mvr (x:Nd):Int:=if x.k=2 then x.p else -1
structure Rcl (g:Gm) (lvs:Nat->Int) (V:Nat->Option (Int×Int×List Int)) (gs:List Gh):Prop where
 len:gs.length=g.ns.length
 root:gs[0]? = some ⟨0,List.replicate g.pl.toNat []⟩
 edge:∀ (j:Nat) (x:Nd) (y:Gh),g.ns[j]? = some x->gs[j]? = some y->∀ (k:Nat) (c:Int),x.nx[k]? = some c->∃ (m:Nat) (z:Gh),c=(m:Int)/\gs[m]? = some z/\QeJ y.sn z.sn x.mvr k/\z.lv=y.lv+1
 fit:∀ (j:Nat) (x:Nd) (y:Gh),g.ns[j]? = some x->gs[j]? = some y->(x.k=2->lvs y.lv=x.p/\0<=x.i/\0<=x.p/\∃ s,y.sn[x.p.toNat]? = some s/\V x.i.toNat=some (x.p,(y.lv:Int),s))/\(x.k=1->lvs y.lv<0)
 un:∀ (i j:Nat) (u:Int×Int×List Int),V i=some u->V j=some u->i=j
def QcS (a b:List (List Int)) (pl:Int) (k:Int):Prop:=∀ (q:Nat) (h:q<b.length),∃ (e:Int) (h':q<a.length),b[q]=a[q]++[e]/\((q:Int)=pl->e=k)
theorem QcS.nil (a:List (List Int)) (pl k:Int):QcS a [] pl k:=λq h=>by simp at h
theorem QcS.snoc {a b:List (List Int)} {pl k e:Int} (h:QcS a b pl k) (hl:b.length<a.length) (he:(b.length:Int)=pl->e=k):QcS a (b++[a[b.length]++[e]]) pl k:=by
 intro q hq;by_cases h1:q<b.length
 . obtain⟨e',h',h2,h3⟩:=h q h1;exact⟨e',h',by rw[Zr h1]; exact h2,h3⟩
 . have:q=b.length:=by simp at hq; omega
   subst this;exact⟨e,hl,by simp,he⟩
theorem QcS.full {a b:List (List Int)} {pl k:Int} (h:QcS a b pl k) (hl:b.length=a.length):QeJ a b pl k:=by
 refine⟨hl,λq hq => ?_⟩;obtain⟨e,h',h1,h2⟩:=h q (by omega);exact⟨e,by rw[Vb (show q<b.length by omega),h1],h2⟩
end Go.Proofs.YtogjmpkehjfecaaGreatDoor.Rc
namespace Go.Proofs.YtogjmpkehjfecaaGreatDoor.Rc
open Go.Ab Go.Ab.Lm
def u32 (n:Nat):SV:=.val (.int .u32 n)
def us (l:List Nat):Wt:=l.map u32
def nS (a:Nat):SV:=.slc (us (lim a)) (lim a).length
theorem QP (l:List Nat):(us l).length=l.length:=by simp[us]
theorem QbE (n:Nat) (l:List Nat):SV.underL n (us l)=true:=by
 induction l with
 |nil=>rfl
 |cons x r ih=>simp only[us,Vs,SV.underL,Va]at ih ⊢; exact⟨rfl,ih⟩
theorem QaX {l:List Nat} {i:Nat} (h:i<l.length):(us l)[i]?.getD .any=u32 l[i]:=by simp[us,h]
theorem QbI {l:List Nat} {i:Nat} (h:i<l.length) (h':i<(us l).length):(us l)[i]'h'=u32 l[i]:=by simp[us]
section
variable {H:Ws} {l:List Nat}
set_option maxRecDepth 10000 in
theorem QpR {N:Nat} {K:Wr} (hexit:∀ env,env.get 0=.slc (us (Qz l)) (Qz l).length->K (.exit 0) env H) :
 ∀ (k:Nat) (m:List Nat) (env:Env),k<1000000->m.length=k->Qz m=Qz l->env.get 0=.slc (us m) m.length->LI Tryz.prog N Qb Qdk env H K:=by
 intro k
 induction k with
 |zero =>
  intro m env hk hm0 ht h0;refine Qc hm Qdk.eq_1 ?_;have:m=[]:=Vx hm0;subst this;simp -implicitDefEqProofs[h0];refine hexit _ ?_;rw[<-ht]; simp[Qz]
 |succ k ih =>
  intro m env hk hml ht h0;refine Qc hm Qdk.eq_1 ?_;obtain⟨m',y,rfl⟩:∃ m' y,m=m'++[y]:=⟨m.dropLast,m.getLast (by intro e; rw[e]at hml; simp at hml),(List.dropLast_concat_getLast _).symm⟩;have hm':m'.length=k:=by simp at hml; exact hml
  have w1:IntKind.i64.wrap (k:Int)=k:=Qck (by omega);have e1:us (m'++[y])=us m'++[u32 y]:=by simp[us]
  have e2:(us m').length=k:=by rw[QP,hm']
  rw[e1]at h0;by_cases hy:y=0
  . subst hy;simp -implicitDefEqProofs[h0,w1,hm',e2,u32];repeat (refine⟨by omega,?_⟩)
    refine ih m' _ (by omega) hm' (by rw[<-ht,QfV]) ?_;simp[hm',e2,YV]
  . have hy':¬ (y:Int)=0:=by omega
    simp -implicitDefEqProofs[h0,w1,hm',e2,u32,hy,hy'];repeat (refine⟨by omega,?_⟩)
    refine hexit _ ?_;rw[<-ht,Qg6 hy,e1];simp[hm',u32]
theorem Qvm (hl:l.length<1000000):Ok Tryz.prog 130 [.slc (us l) l.length] H (.ret (.slc (us (Qz l)) (Qz l).length)) H:=by
 refine Ql hm Tryz.func130 Qlf (by simp[QbE]) λhcl => ?_;simp -implicitDefEqProofs[Qhw,QiG];refine QpR (λenv h0 => ?_) l.length l _ hl rfl rfl (by simp);simp -implicitDefEqProofs[h0];exact Qn
end
def Qam (a b:Nat):Int:=if a<b then -1 else if b<a then 1 else 0
section
variable {H:Ws} {a b:Nat}
set_option maxRecDepth 10000 in
theorem QrP {x y:List Nat} (hx:Dig x) (hy:Dig y) (hxl:x.length<1000000) (hl:x.length=y.length) {N:Nat} {K:Wr}
 (hret:∀ env,Qam (val x) (val y)≠0->env.get 4=i64 (Qam (val x) (val y))->K .ret env H) (hexit:x=y->∀ env,K (.exit 0) env H) :
 ∀ (k:Nat) (env:Env),k<=x.length->x.drop k=y.drop k->env.get 0=.slc (us x) x.length->env.get 1=.slc (us y) y.length->env.get 5=i64 ((k:Int)-1)->LI Tryz.prog N Qb Qi3 env H K:=by
 intro k
 induction k with
 |zero =>
  intro env hk hd h0 h1 h5;refine Qc hm Qi3.eq_1 ?_;simp -implicitDefEqProofs[h0,h1,h5];refine hexit ?_ _;simpa using hd
 |succ k ih =>
  intro env hk hd h0 h1 h5;refine Qc hm Qi3.eq_1 ?_;have hkx:k<x.length:=by omega
  have hky:k<y.length:=by omega
  have e5:((k+1:Nat):Int)-1=k:=by omega
  rw[e5]at h5;have w1:IntKind.i64.wrap ((k:Int)-1)=(k:Int)-1:=Qj (by omega) (by omega);have dx:=Yn k x;have dy:=Yn k y;rw[Vu hkx]at dx;rw[Vu hky,<- hd]at dy;have tx:(x.take k).length=k:=by simp; omega
  have ty:(y.take k).length=k:=by simp; omega
  have dgx:Dig (x.take k):=λz hz=>hx z (V7 hz);have dgy:Dig (y.take k):=λz hz=>hy z (V7 hz);have g0:(us x)[k]?.getD .any=.val (.int .u32 x[k]):=QaX hkx;have g1:(us y)[k]?.getD .any=.val (.int .u32 y[k]):=QaX hky;have g0':∀ h,(us x)[k]'h=.val (.int .u32 x[k]):=λh=>QbI hkx h;have g1':∀ h,(us y)[k]'h=.val (.int .u32 y[k]):=λh=>QbI hky h;by_cases c1:x[k]<y[k]
  . have hlt:val x<val y:=by rw[<-dx,<- dy]; exact Qnk tx ty dgx dgy c1 _
    have eo:Qam (val x) (val y) = -1:=by unfold Qam; rw[Wb hlt]
    simp -implicitDefEqProofs[h0,h1,h5,hkx,hky,QP,g0,g1,g0',g1',c1,show(x[k]:Int)<(y[k]:Int)by omega];repeat (refine⟨by omega,?_⟩)
    exact hret _ (by rw[eo]; decide) (by rw[eo]; simp)
  . by_cases c2:y[k]<x[k]
    . have hlt:val y<val x:=by rw[<-dx,<- dy]; exact Qnk ty tx dgy dgx c2 _
      have eo:Qam (val x) (val y)=1:=by unfold Qam; rw[Wa (by omega),Wb hlt]
      simp -implicitDefEqProofs[h0,h1,h5,hkx,hky,QP,g0,g1,g0',g1',c1,c2,show ¬ (x[k]:Int)<(y[k]:Int)by omega,show(y[k]:Int)<(x[k]:Int)by omega];repeat (refine⟨by omega,?_⟩)
      exact hret _ (by rw[eo]; decide) (by rw[eo]; simp)
    . simp -implicitDefEqProofs[h0,h1,h5,hkx,hky,QP,g0,g1,g0',g1',c1,c2,show ¬ (x[k]:Int)<(y[k]:Int)by omega,show ¬ (y[k]:Int)<(x[k]:Int)by omega];repeat (refine⟨by omega,?_⟩)
      refine ih _ (by omega) ?_ ?_ ?_ ?_
      . rw[Vu hkx,Vu hky,hd];congr 1; omega
      . simp[h0]
      . simp[h1]
      . simp[w1]
theorem QeY (ha:(lim a).length<1000000) (hb:(lim b).length<1000000):Ok Tryz.prog 105 [nS a,nS b] H (.ret (i64 (Qam a b))) H:=by
 refine Ql hm Tryz.func105 c105 (by simp[nS,QbE]) λhcl => ?_;by_cases hl:(lim a).length=(lim b).length
 . simp -implicitDefEqProofs[Qhz,Qhc,nS,hl];have w1:IntKind.i64.wrap (((lim b).length:Int)-1)=((lim b).length:Int)-1:=Qj (by omega) (by omega);rw[w1];refine QrP (x:=lim a) (y:=lim b) (QaO a) (QaO b) ha hl (λenv hne h4 => ?_) (λhe env => ?_) (lim b).length _ (by omega) ?_ ?_ ?_ ?_
   . rw[Qcb,Qcb]at h4;simp -implicitDefEqProofs[h4];exact Qn
   . have:a=b:=by rw[<-Qcb a,<- Qcb b,he]
     simp -implicitDefEqProofs;rw[show Qam a b=0 by unfold Qam; rw[Wa (by omega),Wa (by omega)]];exact Qn
   . rw[<-hl,Yt,hl,Yt]
   . simp[hl]
   . simp
   . simp
 . have hl':¬ ((lim a).length:Int)=(lim b).length:=by omega
   by_cases hlt:(lim a).length<(lim b).length
   . have:a<b:=by
      apply Zs;intro hc;have:=QcP hc;omega
     simp -implicitDefEqProofs[Qhz,Qhc,nS,hl,hl',hlt,show((lim a).length:Int)<(lim b).length by omega];rw[show Qam a b = -1 by unfold Qam; rw[Wb this]];exact Qn
   . have:b<a:=by
      apply Zs;intro hc;have:=QcP hc;omega
     simp -implicitDefEqProofs[Qhz,Qhc,nS,hl,hl',hlt,show ¬ ((lim a).length:Int)<(lim b).length by omega];rw[show Qam a b=1 by unfold Qam; rw[Wa (by omega),Wb this]];exact Qn
end
theorem QaW {n:Nat} (h:n<4294967296):IntKind.u32.wrap (n:Int)=n:=by
 show((n:Int)) % 4294967296=n;omega
theorem Q0 {n:Nat} (h:n<18446744073709551616):IntKind.u64.wrap (n:Int)=n:=by
 show((n:Int)) % 18446744073709551616=n;omega
def Qa4:List Nat->List Nat->Nat->List Nat
 |[],[],c=>if c=0 then []else [c]
 |x::r,[],c=>((c+x) % B)::Qa4 r [] ((c+x) / B)
 |[],y::s,c=>((c+y) % B)::Qa4 [] s ((c+y) / B)
 |x::r,y::s,c=>((c+x+y) % B)::Qa4 r s ((c+x+y) / B)
theorem QrW:∀ (a b c:Nat),c<=1->Qa4 (lim a) (lim b) c=lim (a+b+c):=by
 intro a
 induction a using Nat.strongRecOn with
 |ind a iha =>
  intro b
  induction b using Nat.strongRecOn with
  |ind b ihb =>
   intro c hc;have hB:B=1000000000:=rfl;by_cases ha:a=0
   . by_cases hb:b=0
     . subst ha; subst hb;rw[Q8];have:c=0\/c=1:=by omega
       rcases this with rfl|rfl
       . simp[Qa4,Q8]
       . rw[QaQ (by omega)];simp[Qa4,hB,Q8]
     . subst ha;rw[Q8,QaQ hb,QaQ (show 0+b+c≠0 by omega)];have h1:=ihb (b / B) (YH (YW hb) (by decide)) ((c+b % B) / B) (by rw[hB]; omega);rw[Q8]at h1;simp only[Qa4,h1];congr 1
       . rw[hB]; omega
       . congr 1; rw[hB]; omega
   . by_cases hb:b=0
     . subst hb;rw[Q8,QaQ ha,QaQ (show a+0+c≠0 by omega)];have h1:=iha (a / B) (YH (YW ha) (by decide)) 0 ((c+a % B) / B) (by rw[hB]; omega);rw[Q8]at h1;simp only[Qa4,h1];congr 1
       . rw[hB]; omega
       . congr 1; rw[hB]; omega
     . rw[QaQ ha,QaQ hb,QaQ (show a+b+c≠0 by omega)];have h1:=iha (a / B) (YH (YW ha) (by decide)) (b / B) ((c+a % B+b % B) / B) (by rw[hB]; omega);simp only[Qa4,h1];congr 1
       . rw[hB]; omega
       . congr 1; rw[hB]; omega
section
variable {H:Ws} {a b:Nat}
set_option maxRecDepth 10000 in
theorem Qvp {x y z:List Nat} (hx:Dig x) (hy:Dig y) (hxl:x.length<1000000) (hyl:y.length<1000000) (hzl:z.length<1000000) {N:Nat} {K:Wr}
 (hexit:∀ env G,env.get 5=.own H.length 0 z.length 1 z.length->K (.exit 0) env (H++⟨us z,114,z.length,true⟩::G)) :
 ∀ (m:Nat) (p:List Nat) (c:Nat) (env:Env) (G:Ws),p.length+m=z.length->c<=1->p++Qa4 (x.drop p.length) (y.drop p.length) c=z ->
  env.get 0=.slc (us x) x.length->env.get 1=.slc (us y) y.length->env.get 5=.own H.length 0 p.length 1 p.length->env.get 6=u32 c->env.get 7=i64 p.length ->
  LI Tryz.prog N Qb QfX env (H++⟨us p,114,p.length,true⟩::G) K:=by
 intro m
 induction m with
 |zero =>
  intro p c env G hm hc hz h0 h1 h5 h6 h7;refine Qc hm' QfX.eq_1 ?_;have hr:Qa4 (x.drop p.length) (y.drop p.length) c=[]:=by
   have:=Wj List.length hz;simp only[Vt]at this;exact Vx (by omega)
  obtain⟨ex,ey,c0⟩:x.drop p.length=[]/\y.drop p.length=[]/\c=0:=by
   generalize x.drop p.length=u at hr;generalize y.drop p.length=v at hr
   cases u<;>cases v<;>simp[Qa4]at hr ⊢
   exact hr
  subst c0;have cx:¬ p.length<x.length:=by have:=Wj List.length ex; simp at this; omega
  have cy:¬ p.length<y.length:=by have:=Wj List.length ey; simp at this; omega
  rw[hr,VV]at hz;subst hz;simp -implicitDefEqProofs[h0,h1,h5,h6,h7,cx,cy,u32,show ¬ (p.length:Int)<x.length by omega,show ¬ (p.length:Int)<y.length by omega];exact hexit _ G (by simp[h5])
 |succ m ih =>
  intro p c env G hm hc hz h0 h1 h5 h6 h7;refine Qc hm' QfX.eq_1 ?_;have w1:IntKind.i64.wrap ((p.length:Int)+1)=((p.length+1:Nat):Int):=QaB (by omega);have step:∀ (t q:Nat),q=t / B->Qa4 (x.drop p.length) (y.drop p.length) c=(t % B)::Qa4 (x.drop (p.length+1)) (y.drop (p.length+1)) q->q<=1->∀ (env:Env) (G:Ws),env.get 0=.slc (us x) x.length->env.get 1=.slc (us y) y.length->env.get 5=.own H.length 0 (p.length+1) 1 (p.length+1)->env.get 6=u32 q->env.get 7=i64 ((p.length+1:Nat):Int) ->
   LI Tryz.prog N Qb QfX env (H++⟨us p++[u32 (t % B)],114,p.length+1,true⟩::G) K:=by
   intro t q hq hpl hq1 env G k0 k1 k5 k6 k7;have e:us p++[u32 (t % B)]=us (p++[t % B]):=by simp[us]
   have el:p.length+1=(p++[t % B]).length:=by simp
   rw[e];rw[el]at k5 k7 ⊢;refine ih (p++[t % B]) q env G (by simp; omega) hq1 ?_ k0 k1 k5 k6 k7;rw[<-el,VC,Zm,<- hpl];exact hz
  have hB:B=1000000000:=rfl;simp only[hB]at step;have tm:∀ t:Nat,((t:Int)).tmod 1000000000=((t % 1000000000:Nat):Int):=λt=>rfl;have td:∀ t:Nat,((t:Int)).tdiv 1000000000=((t / 1000000000:Nat):Int):=λt=>rfl;by_cases cx:p.length<x.length
  . have dx:=hx _ (Vf cx);have gx:(us x)[p.length]?.getD .any=.val (.int .u32 x[p.length]):=QaX cx;have gx':∀ h,(us x)[p.length]'h=.val (.int .u32 x[p.length]):=λh=>QbI cx h;by_cases cy:p.length<y.length
    . have dy:=hy _ (Vf cy);have gy:(us y)[p.length]?.getD .any=.val (.int .u32 y[p.length]):=QaX cy;have gy':∀ h,(us y)[p.length]'h=.val (.int .u32 y[p.length]):=λh=>QbI cy h;obtain⟨t,ht⟩:∃ t,t=c+x[p.length]+y[p.length]:=⟨_,rfl⟩;obtain⟨q,hq⟩:∃ q,q=t / 1000000000:=⟨_,rfl⟩;have e:IntKind.u32.wrap (IntKind.u32.wrap ((c:Int)+(x[p.length]:Nat))+(y[p.length]:Nat))=(t:Int):=by
       rw[show(c:Int)+(x[p.length]:Nat)=((c+x[p.length]:Nat):Int)by omega,QaW (by omega),show((c+x[p.length]:Nat):Int)+(y[p.length]:Nat)=((t:Nat):Int)by omega,QaW (by omega)]
      have hs:=step t q hq (by rw[Vu cx,Vu cy,Qa4,<- ht,hB,<- hq]) (by omega);simp only[u32]at hs;have eq0:((t / 1000000000:Nat):Int)=(q:Int):=by rw[hq]
      obtain⟨r,hr⟩:∃ r,r=t % 1000000000:=⟨_,rfl⟩;have er:((t % 1000000000:Nat):Int)=(r:Int):=by rw[hr]
      rw[<-hr]at hs;simp -implicitDefEqProofs[h0,h1,h5,h6,h7,cx,cy,QP,gx,gy,gx',gy',u32,show(p.length:Int)<x.length by omega,show(p.length:Int)<y.length by omega,e,tm,td,er,eq0,QaW (show q<4294967296 by omega)];repeat (refine⟨by omega,?_⟩)
      refine⟨⟨rfl,rfl,rfl⟩,rfl,?_⟩;repeat (refine⟨by omega,?_⟩)
      exact hs _ _ (by simp[h0]) (by simp[h1]) (by simp) (by simp) (by simp[w1])
    . obtain⟨t,ht⟩:∃ t,t=c+x[p.length]:=⟨_,rfl⟩;obtain⟨q,hq⟩:∃ q,q=t / 1000000000:=⟨_,rfl⟩;have e:IntKind.u32.wrap ((c:Int)+(x[p.length]:Nat))=(t:Int):=by
       rw[show(c:Int)+(x[p.length]:Nat)=((t:Nat):Int)by omega,QaW (by omega)]
      have ey:y.drop p.length=[]:=Yk (by omega);have ey1:y.drop (p.length+1)=[]:=Yk (by omega);have hs:=step t q hq (by rw[Vu cx,ey,ey1,Qa4,<- ht,hB,<- hq]) (by omega);simp only[u32]at hs;have eq0:((t / 1000000000:Nat):Int)=(q:Int):=by rw[hq]
      obtain⟨r,hr⟩:∃ r,r=t % 1000000000:=⟨_,rfl⟩;have er:((t % 1000000000:Nat):Int)=(r:Int):=by rw[hr]
      rw[<-hr]at hs;simp -implicitDefEqProofs[h0,h1,h5,h6,h7,cx,cy,QP,gx,gx',u32,show(p.length:Int)<x.length by omega,show ¬ (p.length:Int)<y.length by omega,e,tm,td,er,eq0,QaW (show q<4294967296 by omega)];repeat (refine⟨by omega,?_⟩)
      refine⟨⟨rfl,rfl,rfl⟩,rfl,?_⟩;repeat (refine⟨by omega,?_⟩)
      exact hs _ _ (by simp[h0]) (by simp[h1]) (by simp) (by simp) (by simp[w1])
  . have ex:x.drop p.length=[]:=Yk (by omega);have ex1:x.drop (p.length+1)=[]:=Yk (by omega);by_cases cy:p.length<y.length
    . have dy:=hy _ (Vf cy);have gy:(us y)[p.length]?.getD .any=.val (.int .u32 y[p.length]):=QaX cy;have gy':∀ h,(us y)[p.length]'h=.val (.int .u32 y[p.length]):=λh=>QbI cy h;obtain⟨t,ht⟩:∃ t,t=c+y[p.length]:=⟨_,rfl⟩;obtain⟨q,hq⟩:∃ q,q=t / 1000000000:=⟨_,rfl⟩;have e:IntKind.u32.wrap ((c:Int)+(y[p.length]:Nat))=(t:Int):=by
       rw[show(c:Int)+(y[p.length]:Nat)=((t:Nat):Int)by omega,QaW (by omega)]
      have hs:=step t q hq (by rw[Vu cy,ex,ex1,Qa4,<- ht,hB,<- hq]) (by omega);simp only[u32]at hs;have eq0:((t / 1000000000:Nat):Int)=(q:Int):=by rw[hq]
      obtain⟨r,hr⟩:∃ r,r=t % 1000000000:=⟨_,rfl⟩;have er:((t % 1000000000:Nat):Int)=(r:Int):=by rw[hr]
      rw[<-hr]at hs;simp -implicitDefEqProofs[h0,h1,h5,h6,h7,cx,cy,QP,gy,gy',u32,show ¬ (p.length:Int)<x.length by omega,show(p.length:Int)<y.length by omega,e,tm,td,er,eq0,QaW (show q<4294967296 by omega)];repeat (refine⟨by omega,?_⟩)
      refine⟨⟨rfl,rfl,rfl⟩,rfl,?_⟩;repeat (refine⟨by omega,?_⟩)
      exact hs _ _ (by simp[h0]) (by simp[h1]) (by simp) (by simp) (by simp[w1])
    . have ey:y.drop p.length=[]:=Yk (by omega);have ey1:y.drop (p.length+1)=[]:=Yk (by omega);by_cases c0:c=0
      . subst c0;rw[ex,ey]at hz;simp[Qa4]at hz;subst hz;omega
      . obtain⟨t,ht⟩:∃ t,t=c:=⟨_,rfl⟩;obtain⟨q,hq⟩:∃ q,q=t / 1000000000:=⟨_,rfl⟩;have hs:=step t q hq (by
         have h1:q=0:=by omega
         have h2:c=1:=by omega
         rw[ex,ey,ex1,ey1,h1,ht,h2];simp[Qa4]) (by omega)
        simp only[u32]at hs;have eq0:((t / 1000000000:Nat):Int)=(q:Int):=by rw[hq]
        obtain⟨r,hr⟩:∃ r,r=t % 1000000000:=⟨_,rfl⟩;have er:((t % 1000000000:Nat):Int)=(r:Int):=by rw[hr]
        rw[<-hr]at hs;have c1:0<c:=by omega
        rw[<-ht]at c1 h6;simp -implicitDefEqProofs[h0,h1,h5,h6,h7,cx,cy,u32,QP,c1,show ¬ (p.length:Int)<x.length by omega,show ¬ (p.length:Int)<y.length by omega,tm,td,er,eq0,QaW (show q<4294967296 by omega)];repeat (refine⟨by omega,?_⟩)
        refine⟨⟨rfl,rfl,rfl⟩,rfl,?_⟩;repeat (refine⟨by omega,?_⟩)
        exact hs _ _ (by simp[h0]) (by simp[h1]) (by simp) (by simp) (by simp[w1])
theorem Qq4 (ha:(lim a).length<1000000) (hb:(lim b).length<1000000) (hab:(lim (a+b)).length<1000000):Ok Tryz.prog 104 [nS a,nS b] H (.ret (nS (a+b))) H:=by
 refine Ql hm Tryz.func104 c104 (by simp[nS,QbE]) λhcl => ?_;simp -implicitDefEqProofs[i104,r104,nS];refine Qvp (H:=H) (z:=lim (a+b)) (QaO a) (QaO b) ha hb hab (λenv G h5 => ?_) (lim (a+b)).length [] 0 _ [] (by simp) (by omega) ?_ ?_ ?_ ?_ ?_ ?_
 . simp -implicitDefEqProofs[h5];refine Qg 2 hcl rfl ?_;simp[QP,Qc5,QbE];exact VB (by rw[QP]; omega)
 . simpa using QrW a b 0 (by omega)
 . simp
 . simp
 . simp
 . simp[u32]
 . simp
end
section
variable {H X:Ws} {l:List Nat}
set_option maxRecDepth 10000 in
theorem Qqp {k v:Nat} (hk:X[k]? = some ⟨us l,114,v,true⟩) {N:Nat} {K:Wr} (hexit:∀ env,env.get 0=.own k 0 (Qz l).length 1 v->K (.exit 0) env X) :
 ∀ (n:Nat) (m:List Nat) (env:Env) (s:List Nat),n<1000000->m.length=n->m++s=l->Qz m=Qz l->env.get 0=.own k 0 m.length 1 v->LI Tryz.prog N Qb Qdk env X K:=by
 intro n
 induction n with
 |zero =>
  intro m env s hn hm0 hs ht h0;refine Qc hm' Qdk.eq_1 ?_;have:m=[]:=Vx hm0;subst this;simp -implicitDefEqProofs[h0];refine hexit _ ?_;rw[<-ht]; simp[Qz]
 |succ n ih =>
  intro m env s hn hml hs ht h0;refine Qc hm' Qdk.eq_1 ?_;obtain⟨m',y,rfl⟩:∃ m' y,m=m'++[y]:=⟨m.dropLast,m.getLast (by intro e; rw[e]at hml; simp at hml),(List.dropLast_concat_getLast _).symm⟩;have hm':m'.length=n:=by simp at hml; exact hml
  have w1:IntKind.i64.wrap (n:Int)=n:=Qck (by omega);have hc:=Qaw (o:=⟨us l,114,v,true⟩) hk rfl;have hln:n<l.length:=by rw[<-hs]; simp; omega
  have e2:(us l)[n]?.getD .any=.val (.int .u32 y):=by
   rw[QaX hln];have:l[n]=y:=by subst hs; simp[List.getElem_append,hm']
   rw[this]; rfl
  have e2':∀ h,(us l)[n]'h=.val (.int .u32 y):=λh=>by
   have:=e2;rw[Vb h]at this;simpa using this
  have hll:(us l).length=l.length:=QP l;by_cases hy:y=0
  . subst hy;simp -implicitDefEqProofs[h0,w1,hm',hc,e2,e2',hll];repeat (refine⟨by omega,?_⟩)
    refine ih m' _ ([0]++s) (by omega) hm' (by rw[<-hs]; simp) (by rw[<-ht,QfV]) ?_;simp[hm']
  . have hy':¬ (y:Int)=0:=by omega
    simp -implicitDefEqProofs[h0,w1,hm',hc,e2,e2',hll,hy,hy'];repeat (refine⟨by omega,?_⟩)
    refine hexit _ ?_;rw[<-ht,Qg6 hy];simp[hm']
theorem Qjn {k v:Nat} (hk:X[k]? = some ⟨us l,114,v,true⟩) (hl:l.length<1000000):OkP Tryz.prog 130 [.own k 0 l.length 1 v] X λo X'=>o=.ret (.own k 0 (Qz l).length 1 v)/\X'=X:=by
 have hlt:=Qd hk;refine QaY hm' Tryz.func130 Qlf (by simp[hlt]) λhcl => ?_;simp -implicitDefEqProofs[Qhw,QiG];refine Qqp hk (λenv h0 => ?_) l.length l _ [] hl rfl (by simp) rfl (by simp);simp -implicitDefEqProofs[h0];exact⟨_,_,⟨rfl,rfl⟩,Qn⟩
end
def QaE:List Nat->List Nat->Nat->List Nat
 |[],_,_=>[]
 |x::r,[],w=>if x<w then(x+B-w)::QaE r [] 1 else(x-w)::QaE r [] 0
 |x::r,y::s,w=>if x<w+y then(x+B-w-y)::QaE r s 1 else(x-w-y)::QaE r s 0
theorem QkU:∀ (x y:List Nat) (w:Nat),(QaE x y w).length=x.length
 |[],_,_=>rfl
 |x::r,[],w=>by unfold QaE; split<;>simp[QkU r]
 |x::r,y::s,w=>by unfold QaE; split<;>simp[QkU r]
theorem Qfh:∀ {x y:List Nat} {w:Nat},Dig x->Dig y->w<=1->Dig (QaE x y w)
 |[],_,_,_,_,_=>λz hz=>by simp[QaE]at hz
 |x::r,[],w,hx,hy,hw=>by
  have h0:=hx x (by simp);have hB:B=1000000000:=rfl;unfold QaE;split
  . intro z hz;rcases Vi.1 hz with rfl|hz
    . omega
    . exact Qfh hx.tail hy (by omega) z hz
  . intro z hz;rcases Vi.1 hz with rfl|hz
    . omega
    . exact Qfh hx.tail hy (by omega) z hz
 |x::r,y::s,w,hx,hy,hw=>by
  have h0:=hx x (by simp);have hB:B=1000000000:=rfl;unfold QaE;split
  . intro z hz;rcases Vi.1 hz with rfl|hz
    . omega
    . exact Qfh hx.tail hy.tail (by omega) z hz
  . intro z hz;rcases Vi.1 hz with rfl|hz
    . omega
    . exact Qfh hx.tail hy.tail (by omega) z hz
theorem QfS:∀ {x y:List Nat} {w:Nat},Dig x->Dig y->w<=1->val y+w<=val x->val (QaE x y w)=val x-val y-w
 |[],y,w,_,_,_,h=>by simp only[QaE,val]at h ⊢; omega
 |x::r,[],w,hx,hy,hw,h=>by
  have h0:=hx x (by simp);have hB:B=1000000000:=rfl;simp only[val]at h;unfold QaE;split
  . have hr:1<=val r:=by
     rcases Yu (val r)with e|e
     . rw[e]at h; omega
     . exact e
    have ih:=QfS (y:=[]) (w:=1) hx.tail hy (by omega) (by simpa[val]using hr);simp only[val]at ih ⊢;rw[ih,hB];omega
  . have ih:=QfS (y:=[]) (w:=0) hx.tail hy (by omega) (by simp[val]);simp only[val]at ih ⊢;rw[ih,hB];omega
 |x::r,y::s,w,hx,hy,hw,h=>by
  have h0:=hx x (by simp);have h1:=hy y (by simp);have hB:B=1000000000:=rfl;simp only[val]at h;rw[hB]at h h0 h1;unfold QaE;split
  . have hr:val s+1<=val r:=by omega
    have ih:=QfS (w:=1) hx.tail hy.tail (by omega) hr;simp only[val];rw[ih,hB];omega
  . have hr:val s+0<=val r:=by omega
    have ih:=QfS (w:=0) hx.tail hy.tail (by omega) hr;simp only[val];rw[ih,hB];omega
end Go.Proofs.YtogjmpkehjfecaaGreatDoor.Rc
namespace Go.Ab
section
variable [QK] [QE] [QF]
theorem OkP.cvP {P:Wx} {f:Wz} {args:Wt} {H:Ws} {Pt Pt':Out->Ws->Prop} (h:OkP P f args H Pt) (hr:∀ r H1,Pt (.ret r) H1->∃ r' H',Pt' (.ret r') H'/\Cv H.length r H1 r' H')
 (hp:∀ x H1,Pt (.pan x) H1->Pt' (.pan x) H1):OkP P f args H Pt':=by
 refine⟨h.1,λS vs hH hS hv=>(h.2 S vs hH hS hv).mono ?_⟩;rintro e w' ⟨out,H1,v,ρ',h0,h1,h2,h3⟩;subst hH
 cases out with
 |ret r =>
  obtain⟨r',H',k1,k2⟩:=hr r H1 h0;obtain⟨ρ2,g1,g2,g3⟩:=k2 ⟨ρ',H1,w'⟩ v rfl h2 h3.2;exact⟨.ret r',H',v,ρ2,k1,h1.trans g1,g2,h3.1,g3⟩
 |pan x=>exact⟨.pan x,H1,v,ρ',hp x H1 h0,h1,h2,h3⟩
theorem OkP.closed {P:Wx} {f:Wz} {args:Wt} {H:Ws} {Pt:Out->Ws->Prop} (h0:∀ (vs:Array Value) (w:Wy),(callFunc f vs).run P w=.ok (.enter f vs) w) (h:Go.Ab.closed H->OkP P f args H Pt):OkP P f args H Pt :=
 ⟨h0,λS vs hH hS hv=>(h (by rw[<-hH]; exact hS.closed)).2 S vs hH hS hv⟩
end
end Go.Ab
namespace Go.Proofs.YtogjmpkehjfecaaGreatDoor.Rc
open Go.Ab Go.Ab.Lm
section
variable {H:Ws} {a b:Nat}
set_option maxRecDepth 10000 in
theorem QrG {x y z:List Nat} (hx:Dig x) (hy:Dig y) (hxl:x.length<1000000) (hyl:y.length<1000000) (hzl:z.length=x.length) {N:Nat} {K:Wr}
 (hexit:∀ env G,env.get 5=.own H.length 0 z.length 1 z.length->K (.exit 0) env (H++⟨us z,114,z.length,true⟩::G)) :
 ∀ (m:Nat) (p:List Nat) (w:Nat) (env:Env) (G:Ws),p.length+m=x.length->w<=1->p++QaE (x.drop p.length) (y.drop p.length) w=z ->
  env.get 0=.slc (us x) x.length->env.get 1=.slc (us y) y.length->env.get 5=.own H.length 0 p.length 1 p.length->env.get 6=i64 w->env.get 7=i64 p.length ->
  LI Tryz.prog N Qb Qfi env (H++⟨us p,114,p.length,true⟩::G) K:=by
 intro m
 induction m with
 |zero =>
  intro p w env G hm hw hz h0 h1 h5 h6 h7;refine Qc hm' Qfi.eq_1 ?_;have hpx:p.length=x.length:=by omega
  have ex:x.drop p.length=[]:=Yk (by omega);rw[ex]at hz;simp[QaE]at hz;subst hz;simp -implicitDefEqProofs[h0,h1,h5,h6,h7,hpx];rw[<-hpx];exact hexit _ G (by simp[h5])
 |succ m ih =>
  intro p w env G hm hw hz h0 h1 h5 h6 h7;refine Qc hm' Qfi.eq_1 ?_;have w1:IntKind.i64.wrap ((p.length:Int)+1)=((p.length+1:Nat):Int):=QaB (by omega);have hB:B=1000000000:=rfl;have step:∀ (r q:Nat),QaE (x.drop p.length) (y.drop p.length) w=r::QaE (x.drop (p.length+1)) (y.drop (p.length+1)) q->q<=1->∀ (env:Env) (G:Ws),env.get 0=.slc (us x) x.length->env.get 1=.slc (us y) y.length->env.get 5=.own H.length 0 (p.length+1) 1 (p.length+1)->env.get 6=i64 q->env.get 7=i64 ((p.length+1:Nat):Int) ->
   LI Tryz.prog N Qb Qfi env (H++⟨us p++[.val (.int .u32 r)],114,p.length+1,true⟩::G) K:=by
   intro r q hpl hq1 env G k0 k1 k5 k6 k7;have e:us p++[.val (.int .u32 (r:Int))]=us (p++[r]):=by simp[us,u32]
   have el:p.length+1=(p++[r]).length:=by simp
   rw[e];rw[el]at k5 k7 ⊢;refine ih (p++[r]) q env G (by simp; omega) hq1 ?_ k0 k1 k5 k6 k7;rw[<-el,VC,Zm,<- hpl];exact hz
  have cx:p.length<x.length:=by omega
  have dx:=hx _ (Vf cx);have gx:(us x)[p.length]?.getD .any=.val (.int .u32 x[p.length]):=QaX cx;have gx':∀ h,(us x)[p.length]'h=.val (.int .u32 x[p.length]):=λh=>QbI cx h;have wa:IntKind.i64.wrap ((x[p.length]:Nat):Int)=(x[p.length]:Nat):=Qck (by omega);have wb:IntKind.i64.wrap (((x[p.length]:Nat):Int)-w)=((x[p.length]:Nat):Int)-w:=Qj (by omega) (by omega);by_cases cy:p.length<y.length
  . have dy:=hy _ (Vf cy);have gy:(us y)[p.length]?.getD .any=.val (.int .u32 y[p.length]):=QaX cy;have gy':∀ h,(us y)[p.length]'h=.val (.int .u32 y[p.length]):=λh=>QbI cy h;have wc:IntKind.i64.wrap ((y[p.length]:Nat):Int)=(y[p.length]:Nat):=Qck (by omega);have wd:IntKind.i64.wrap (((x[p.length]:Nat):Int)-w-(y[p.length]:Nat))=((x[p.length]:Nat):Int)-w-(y[p.length]:Nat):=Qj (by omega) (by omega);by_cases hd:x[p.length]<w+y[p.length]
    . have we:IntKind.i64.wrap (((x[p.length]:Nat):Int)-w-(y[p.length]:Nat)+1000000000)=((x[p.length]+B-w-y[p.length]:Nat):Int):=by rw[Qj (by omega) (by omega)]; omega
      have wf:=QaW (n:=x[p.length]+B-w-y[p.length]) (by omega);have hs:=step _ 1 (by rw[Vu cx,Vu cy,QaE,Wb hd]) (by omega);generalize x[p.length]+B-w-y[p.length]=r at *;simp -implicitDefEqProofs[h0,h1,h5,h6,h7,cx,cy,QP,gx,gx',gy,gy',wa,wb,wc,wd,we,wf,show(p.length:Int)<x.length by omega,show(p.length:Int)<y.length by omega,show((x[p.length]:Nat):Int)-w-(y[p.length]:Nat)<0 by omega];repeat (refine⟨by omega,?_⟩)
      refine⟨⟨rfl,rfl,rfl⟩,rfl,?_⟩;repeat (refine⟨by omega,?_⟩)
      exact hs _ _ (by simp[h0]) (by simp[h1]) (by simp) (by simp) (by simp[w1])
    . have we:((x[p.length]:Nat):Int)-w-(y[p.length]:Nat)=((x[p.length] - w-y[p.length]:Nat):Int):=by omega
      have wf:=QaW (n:=x[p.length] - w-y[p.length]) (by omega);have hs:=step _ 0 (by rw[Vu cx,Vu cy,QaE,Wa hd]) (by omega);have hnn:¬ ((x[p.length] - w-y[p.length]:Nat):Int)<0:=by omega
      rw[we]at wd;generalize x[p.length] - w-y[p.length]=r at *;simp -implicitDefEqProofs[h0,h1,h5,h6,h7,cx,cy,QP,gx,gx',gy,gy',wa,wb,wc,wd,we,wf,hnn,show(p.length:Int)<x.length by omega,show(p.length:Int)<y.length by omega];repeat (refine⟨by omega,?_⟩)
      refine⟨⟨rfl,rfl,rfl⟩,rfl,?_⟩;repeat (refine⟨by omega,?_⟩)
      exact hs _ _ (by simp[h0]) (by simp[h1]) (by simp) (by simp) (by simp[w1])
  . have ey:y.drop p.length=[]:=Yk (by omega);have ey1:y.drop (p.length+1)=[]:=Yk (by omega);by_cases hd:x[p.length]<w
    . have we:IntKind.i64.wrap (((x[p.length]:Nat):Int)-w+1000000000)=((x[p.length]+B-w:Nat):Int):=by rw[Qj (by omega) (by omega)]; omega
      have wf:=QaW (n:=x[p.length]+B-w) (by omega);have hs:=step _ 1 (by rw[Vu cx,ey,ey1,QaE,Wb hd]) (by omega);generalize x[p.length]+B-w=r at *;simp -implicitDefEqProofs[h0,h1,h5,h6,h7,cx,cy,QP,gx,gx',wa,wb,we,wf,show(p.length:Int)<x.length by omega,show ¬ (p.length:Int)<y.length by omega,show((x[p.length]:Nat):Int)-w<0 by omega];repeat (refine⟨by omega,?_⟩)
      refine⟨⟨rfl,rfl,rfl⟩,rfl,?_⟩;repeat (refine⟨by omega,?_⟩)
      exact hs _ _ (by simp[h0]) (by simp[h1]) (by simp) (by simp) (by simp[w1])
    . have we:((x[p.length]:Nat):Int)-w=((x[p.length] - w:Nat):Int):=by omega
      have wf:=QaW (n:=x[p.length] - w) (by omega);have hs:=step _ 0 (by rw[Vu cx,ey,ey1,QaE,Wa hd]) (by omega);have hnn:¬ ((x[p.length] - w:Nat):Int)<0:=by omega
      rw[we]at wb;generalize x[p.length] - w=r at *;simp -implicitDefEqProofs[h0,h1,h5,h6,h7,cx,cy,QP,gx,gx',wa,wb,we,wf,hnn,show(p.length:Int)<x.length by omega,show ¬ (p.length:Int)<y.length by omega];repeat (refine⟨by omega,?_⟩)
      refine⟨⟨rfl,rfl,rfl⟩,rfl,?_⟩;repeat (refine⟨by omega,?_⟩)
      exact hs _ _ (by simp[h0]) (by simp[h1]) (by simp) (by simp) (by simp[w1])
theorem QmA (hab:b<=a) (ha:(lim a).length<1000000) (hb:(lim b).length<1000000):OkP Tryz.prog 106 [nS a,nS b] H λo H'=>∃ z G,o=.ret (.own H.length 0 (lim (a-b)).length 1 z.length)/\H'=H++⟨us z,114,z.length,true⟩::G/\Qz z=lim (a-b)/\z.length=(lim a).length:=by
 refine QaY hm' Tryz.func106 c106 (by simp[nS,QbE]) λhcl => ?_;have hz:=QfS (QaO a) (QaO b) (w:=0) (by omega) (by rw[Qcb,Qcb]; omega);have hd:=Qfh (QaO a) (QaO b) (w:=0) (by omega);have hl:=QkU (lim a) (lim b) 0;have ht:=QdX hd;rw[hz,Qcb,Qcb,Nat.sub_zero]at ht;simp -implicitDefEqProofs[i106,r106,nS];refine QrG (H:=H) (z:=QaE (lim a) (lim b) 0) (QaO a) (QaO b) ha hb hl (λenv G h5 => ?_) (lim a).length [] 0 _ [] (by simp) (by omega) ?_ ?_ ?_ ?_ ?_ ?_
 . generalize QaE (lim a) (lim b) 0=z at *;simp -implicitDefEqProofs[h5];have h69:=Qjn (X:=H++⟨us z,114,z.length,true⟩::G) (l:=z) (k:=H.length) (v:=z.length) (by simp) (by omega);refine Q4 h69 ?_;rintro o G' ⟨rfl,hG⟩;rw[hG];simp -implicitDefEqProofs[ht];exact⟨_,_,⟨z,rfl,⟨G,rfl⟩,ht,hl⟩,Qn⟩
 . simp
 . simp
 . simp
 . simp
 . simp
 . simp
theorem QhO:∀ l:List Nat,l.take (Qz l).length=Qz l
 |[]=>rfl
 |x::r=>by
  have ih:=QhO r;by_cases h:Qz r=[]/\x=0
  . have e:Qz (x::r)=[]:=by unfold Qz; rw[Wb h]
    rw[e]; rfl
  . have e:Qz (x::r)=x::Qz r:=by conv=>lhs; unfold Qz; rw[Wa h]
    rw[e]; simp[ih]
theorem Qk2 {n:Nat} {L:Ws} {z:List Nat} {k d v:Nat} (h:L[k]? = some ⟨us z,114,v,true⟩):SV.fz n [] L (d+2) (.own (n+k) 0 (Qz z).length 1 v)=.slc (us (Qz z)) (Qz z).length:=by
 have hl:=Qjf z;have e:(us z).take (Qz z).length=us (Qz z):=by
  unfold us;rw[<-ZU,QhO]
 rw[QdR,h];simp[QX,QP,Qc5,QbE,e,hl]
theorem QmL (hab:b<=a) (ha:(lim a).length<1000000) (hb:(lim b).length<1000000):Ok Tryz.prog 106 [nS a,nS b] H (.ret (nS (a-b))) H:=by
 have h:=QmA (H:=H) hab ha hb;refine OkP.toOk (OkP.closed h.1 λhcl=>OkP.cvP h ?_ ?_)
 . rintro r H1 ⟨z,G,hr,rfl,ht,hl⟩
   cases hr
   refine⟨_,H,⟨rfl,rfl⟩,Qg 2 hcl rfl ?_⟩;have:=Qk2 (n:=H.length) (L:=⟨us z,114,z.length,true⟩::G) (z:=z) (k:=0) (d:=0) (v:=z.length) (by simp);rw[ht,Yf]at this;exact this
 . rintro x H1 ⟨z,G,hr,_⟩
   cases hr
end
end Go.Proofs.YtogjmpkehjfecaaGreatDoor.Rc
namespace Go.Ab.Shr
def Qbc (r:Nat->Int) (x:Nat):List Nat->List Nat
 |[]=>[x]
 |y::l=>if r y<r x then x::y::l else y::Qbc r x l
def QaL (r:Nat->Int):Nat->List Nat
 |0=>[]
 |n+1=>Qbc r n (QaL r n)
def Ord (r:Nat->Int):List Nat->Prop
 |[]=>True
 |x::l=>(∀ y∈l,r y<r x\/(r y=r x/\x<y))/\Ord r l
theorem Qkp {r:Nat->Int} {x y:Nat}:∀ {l:List Nat},y∈Qbc r x l↔y=x\/y∈l
 |[]=>by simp[Qbc]
 |z::l=>by
  simp only[Qbc];split
  . simp
  . simp only[Vi,Qkp (l:=l)];constructor
    . rintro(h|h|h); exact .inr (.inl h); exact .inl h; exact .inr (.inr h)
    . rintro(h|h|h); exact .inr (.inl h); exact .inl h; exact .inr (.inr h)
theorem Qo8 {r:Nat->Int} {x:Nat}:∀ {l:List Nat},(Qbc r x l).length=l.length+1
 |[]=>rfl
 |z::l=>by
  simp only[Qbc];split
  . rfl
  . simp only[VT,Qo8 (l:=l)]
theorem QpI {r:Nat->Int} {x:Nat}:∀ {l:List Nat},Ord r l->(∀ y∈l,y<x)->Ord r (Qbc r x l)
 |[],_,_=>by simp[Qbc,Ord]
 |z::l,h,hx=>by
  simp only[Qbc];obtain⟨h1,h2⟩:=h;split
  . rename_i hlt;refine⟨λy hy => ?_,h1,h2⟩;rcases Vi.1 hy with rfl|hy
    . exact .inl hlt
    . rcases h1 y hy with h|h
      . exact .inl (by omega)
      . exact .inl (by omega)
  . rename_i hge;refine⟨λy hy => ?_,QpI h2 λy hy=>hx y (VI _ hy)⟩;rcases Qkp.1 hy with rfl|hy
    . have:=hx z (by simp); omega
    . exact h1 y hy
theorem Qf0 {r:Nat->Int}:∀ {n x:Nat},x∈QaL r n↔x<n
 |0,x=>by simp[QaL]
 |n+1,x=>by
  simp only[QaL,Qkp,Qf0 (n:=n)];omega
theorem Qhk {r:Nat->Int}:∀ n:Nat,(QaL r n).length=n
 |0=>rfl
 |n+1=>by simp only[QaL,Qo8,Qhk n]
theorem Qny {r:Nat->Int}:∀ n:Nat,Ord r (QaL r n)
 |0=>trivial
 |n+1=>QpI (Qny n) λy hy=>Qf0.1 hy
def top (r:Nat->Int):Nat->Nat
 |0=>0
 |n+1=>if n=0 then 0 else if r (top r n)<r n then n else top r n
def put (f:Nat->Int) (k:Nat) (v:Int):Nat->Int:=λi=>if i=k then v else f i
def Qbw (f:Nat->Int):List Nat->Nat->Int
 |[],i=>f i
 |x::l,i=>Qbw (put f x (f x+1)) l i
end Go.Ab.Shr
namespace Go.Proofs.YtogjmpkehjfecaaGreatDoor.Rc
open Go.Ab Go.Ab.Shr
def QaV (l:List Nat):Wt:=Qa (l.map λ(n:Nat)=>(n:Int))
@[simp] theorem QnM (l:List Nat):(QaV l).length=l.length:=by simp[QaV]
def bkI (r:Nat->Int) (x:Nat):List Nat->List Nat->List Nat
 |[],B=>x::B
 |y::A,B=>if r y<r x then bkI r x A (y::B)else(y::A).reverse++x::B
theorem QoN {r:Nat->Int} {x:Nat}:∀ (B:List Nat),(∀ y∈B,r y<r x)->Qbc r x B=x::B
 |[],_=>rfl
 |y::B,h=>by simp only[Qbc]; rw[Wb (h y (by simp))]
theorem Qo2 {r:Nat->Int} {x:Nat}:∀ (A B:List Nat),(∀ y∈A,¬ r y<r x)->Qbc r x (A++B)=A++Qbc r x B
 |[],B,_=>rfl
 |y::A,B,h=>by
  show Qbc r x (y::(A++B))=y::(A++Qbc r x B);simp only[Qbc];rw[Wa (h y (by simp)),Qo2 A B λz hz=>h z (VI _ hz)]
theorem Ql3 {r:Nat->Int} {x:Nat}:∀ (A B:List Nat),(A.Pairwise λa b=>r a<=r b)->(∀ y∈B,r y<r x)->bkI r x A B=Qbc r x (A.reverse++B)
 |[],B,_,hB=>by simp only[bkI,List.reverse_nil,V3,QoN B hB]
 |y::A,B,hA,hB=>by
  rw[Yz]at hA;simp only[bkI];split
  . rename_i h;rw[Ql3 A (y::B) hA.2 λz hz=>by
     rcases Vi.1 hz with rfl|hz
     . exact h
     . exact hB z hz]
    simp
  . rename_i h;rw[Qo2 _ _ λz hz => ?_,QoN B hB];rw[List.mem_reverse]at hz;rcases Vi.1 hz with rfl|hz
    . exact h
    . have:=hA.1 z hz; omega
theorem QmC {r:Nat->Int}:∀ {l:List Nat},Ord r l->l.Pairwise λa b=>r b<=r a
 |[],_=>.nil
 |x::l,h=>by
  rw[Yz];refine⟨λy hy => ?_,QmC h.2⟩;rcases h.1 y hy with h|h<;>omega
theorem Qq3 {r:Nat->Int} (n:Nat):bkI r n (QaL r n).reverse []=QaL r (n+1):=by
 rw[Ql3 _ _ (by rw[List.pairwise_reverse]; exact QmC (Qny n)) (by simp)];simp[QaL]
def oN (C:Wt) (l:List Nat) (D:Wt) (T:Ww) (v:Nat):AO:=⟨C++(QaV l++D),T,v,true⟩
section
variable {H:Ws} {k v:Nat} {C D:Wt} {T:Ww} {vf:SV} {r:Nat->Int} {n:Nat}
def oS (H:Ws) (k:Nat) (C D:Wt) (T:Ww) (v:Nat) (l:List Nat):Ws:=H.set k (oN C l D T v)
theorem QhF (hk:k<H.length) (l:List Nat):Qe (oS H k C D T v l) k v=C++(QaV l++D):=by
 have:=Qq5 hk [] (C++(QaV l++D)) T v;simpa[oS,oN]using this
theorem QtD (hk:k<H.length) (l:List Nat) (f:AO->AO):Ab.setObj (oS H k C D T v l) k f=H.set k (f (oN C l D T v)):=by
 have:=Qp7 hk [] (oN C l D T v) f;simpa[oS]using this
theorem Qtb {l:List Nat} {j:Nat} (hj:j<l.length) (x:Nat):(C++(QaV l++D)).take (C.length+j)++i64 (x:Int)::(C++(QaV l++D)).drop (C.length+j+1)=C++(QaV (l.set j x)++D):=by
 rw[ZV,Zl];have e1:C.length+j-C.length=j:=by omega
 have e2:C.length+j+1-C.length=j+1:=by omega
 rw[e1,e2,VB (by omega),Yk (by omega),ZV,Zl];have e3:j-(QaV l).length=0:=by simp; omega
 have e4:j+1-(QaV l).length=0:=by simp; omega
 rw[e3,e4];simp only[Yl,VV,Y7,V3,VC,List.append_cancel_left_eq];have:(QaV l).take j++i64 (x:Int)::(QaV l).drop (j+1)=QaV (l.set j x):=by
  have:=Qa7 (l:=l.map λ(n:Nat)=>(n:Int)) (k:=j) (by simpa using hj) (x:Int);simpa[QaV,List.map_set]using this
 rw[<-this];simp
theorem QmZ (hk:k<H.length) {l:List Nat} {j:Nat} (hj:j<l.length):(Qe (oS H k C D T v l) k v)[C.length+j]?.getD .any=i64 (l[j]:Nat):=by
 rw[QhF hk,Vg (by omega),Vd (by simp; omega)];simp[QaV,Qa,hj]
theorem QnG (hk:k<H.length) {l:List Nat} {j:Nat} (hj:j<l.length) (x:Nat) :
 Ab.setObj (oS H k C D T v l) k (λo=>{ cells:=List.take (C.length+j) o.cells++i64 (x:Int)::List.drop (C.length+j+1) o.cells,ty:=o.ty,ver:=o.ver,live:=o.live })=oS H k C D T v (l.set j x):=by
 rw[QtD hk];simp only[oS,oN];rw[Qtb hj]
set_option maxRecDepth 10000 in
theorem Quh (hk:k<H.length) (hvf:vf.vd=true/\vf.ug=vf) (hn:n<4611686018427387904)
 (hcmp:∀ (l:List Nat) (a b:Nat),a<n->b<n->OkC Tryz.prog vf [i64 a,i64 b] (oS H k C D T v l) (.ret (i64 (r b-r a))) (oS H k C D T v l))
 {x b i:Nat} (hx:x<n) {R F:List Nat} {N:Nat} {K:Wr}
 (hexit:∀ env,env.get 0=.own k C.length n 1 v->env.get 1=i64 0->env.get 2=i64 b->env.get 3=vf->env.get 8=i64 i->K (.exit 2) env (oS H k C D T v (F++R))) :
 ∀ (A B:List Nat) (env:Env),(A.length+1+B.length+R.length=n)->(∀ y∈A,y<n)->bkI r x A B=F ->
  env.get 0=.own k C.length n 1 v->env.get 1=i64 0->env.get 2=i64 b->env.get 3=vf->env.get 8=i64 i->env.get 9=i64 A.length ->
  LI Tryz.prog N Qb Qgz env (oS H k C D T v (A.reverse++x::B++R)) K:=by
 intro A
 induction A with
 |nil =>
  intro B env hl hA hF h0 h1 h2 h3 h8 h9;refine Qc hm Qgz.eq_1 ?_;subst hF;have hc:=QhF (C:=C) (D:=D) (T:=T) (v:=v) hk (bkI r x [] B++R);simp only[Yx]at h9;simp -implicitDefEqProofs[h0,h1,h2,h3,h8,h9,hvf.1,hvf.2];exact hexit _ (by simp[h0]) (by simp[h1]) (by simp[h2]) (by simp[h3]) (by simp[h8])
 |cons y A ih =>
  intro B env hl hA hF h0 h1 h2 h3 h8 h9;refine Qc hm Qgz.eq_1 ?_;simp only[VT]at hl h9;have hLl:(A.reverse++y::x::(B++R)).length=n:=by simp; omega
  have e1:(Qe (oS H k C D T v (A.reverse++y::x::(B++R))) k v)[C.length+(A.length+1)]?.getD .any=i64 (x:Int):=by rw[QmZ hk (by simp)]; simp
  have e2:(Qe (oS H k C D T v (A.reverse++y::x::(B++R))) k v)[C.length+A.length]?.getD .any=i64 (y:Int):=by rw[QmZ hk (by simp)]; simp
  have e3:(Qe (oS H k C D T v (A.reverse++y::x::(B++R))) k v).length=C.length+n+D.length:=by rw[QhF hk]; simp only[Vt,QnM]; simp only[Vt]at hLl; omega
  have w1:IntKind.i64.wrap (A.length:Int)=A.length:=Qj (by omega) (by omega);have e4:=QnG (C:=C) (D:=D) (T:=T) (v:=v) hk (l:=A.reverse++y::x::(B++R)) (j:=A.length+1) (by simp) y;have e5:(A.reverse++y::x::(B++R)).set (A.length+1) y=A.reverse++y::y::(B++R):=by simp[List.set_append]
  have e6:=QnG (C:=C) (D:=D) (T:=T) (v:=v) hk (l:=A.reverse++y::y::(B++R)) (j:=A.length) (by simp) x;have e7:(A.reverse++y::y::(B++R)).set A.length x=A.reverse++x::y::(B++R):=by simp[List.set_append]
  have e8:(Qe (oS H k C D T v (A.reverse++y::y::(B++R))) k v).length=C.length+n+D.length:=by rw[QhF hk]; simp only[Vt,QnM,VT]; simp only[Vt,VT]at hLl; omega
  rw[e5]at e4;rw[e7]at e6;simp -implicitDefEqProofs[h0,h1,h2,h3,h8,h9,hvf.1,hvf.2,e1,e2,e3,w1];refine⟨by omega,by omega,by omega,by omega,Qjm (hcmp _ x y hx (hA y (by simp))).toP λout H' hP => ?_⟩;obtain⟨rfl,rfl⟩:=hP;simp only[bkI]at hF;by_cases hc:r y<r x
  . rw[Wb hc]at hF;have hc':r y-r x<0:=by omega
    simp -implicitDefEqProofs[hc',h0,h9,e1,e2,e3,w1,e4,e6,e8];refine⟨by omega,by omega,by omega,by omega,by omega,by omega,by omega,by omega,?_⟩;have e9:A.reverse++x::(y::B)++R=A.reverse++x::y::(B++R):=by simp
    rw[<-e9];refine ih (y::B) _ (by simp; omega) (λz hz=>hA z (VI _ hz)) hF ?_ ?_ ?_ ?_ ?_ ?_
    . simp
    . simp[h1]
    . simp[h2]
    . simp[h3]
    . simp[h8]
    . simp
  . rw[Wa hc]at hF;have hc':¬ r y-r x<0:=by omega
    subst hF;simp -implicitDefEqProofs[hc'];have e9:(y::A).reverse++x::B++R=A.reverse++y::x::(B++R):=by simp
    rw[e9]at hexit;exact hexit _ (by simp[h0]) (by simp[h1]) (by simp[h2]) (by simp[h3]) (by simp[h8])
set_option maxRecDepth 10000 in
theorem Qsh (hk:k<H.length) (hvf:vf.vd=true/\vf.ug=vf) (hn:n<4611686018427387904)
 (hcmp:∀ (l:List Nat) (a b:Nat),a<n->b<n->OkC Tryz.prog vf [i64 a,i64 b] (oS H k C D T v l) (.ret (i64 (r b-r a))) (oS H k C D T v l))
 {N:Nat} {K:Wr} (hexit:∀ env,K (.exit 0) env (oS H k C D T v (QaL r n))) :
 ∀ (m i:Nat) (env:Env),i+m=n->env.get 0=.own k C.length n 1 v->env.get 1=i64 0->env.get 2=i64 n->env.get 3=vf->env.get 8=i64 i ->
  LI Tryz.prog N Qb QfH env (oS H k C D T v (QaL r i++List.range' i m)) K:=by
 intro m
 induction m with
 |zero =>
  intro i env hi h0 h1 h2 h3 h8;refine Qc hm QfH.eq_1 ?_;have e:i=n:=by omega
  subst e;simp -implicitDefEqProofs[h0,h1,h2,h3,h8];exact hexit _
 |succ m ih =>
  intro i env hi h0 h1 h2 h3 h8;refine Qc hm QfH.eq_1 ?_;have hlt:i<n:=by omega
  simp -implicitDefEqProofs[h0,h1,h2,h3,h8,hlt];have e1:QaL r i++List.range' i (m+1)=((QaL r i).reverse).reverse++i::[]++List.range' (i+1) m:=by
   rw[Y1]; simp
  rw[e1];have hl:(QaL r i).length=i:=Qhk i;refine Quh (r:=r) (n:=n) (i:=i) (b:=n) (R:=List.range' (i+1) m) (F:=QaL r (i+1)) hk hvf hn hcmp hlt (λenv g0 g1 g2 g3 g8 => ?_) (QaL r i).reverse [] _ (by simp[hl]; omega) (λy hy => ?_) (Qq3 i) ?_ ?_ ?_ ?_ ?_ ?_
  . simp -implicitDefEqProofs[g8];refine ih (i+1) _ (by omega) ?_ ?_ ?_ ?_ ?_
    . simp[g0]
    . simp[g1]
    . simp[g2]
    . simp[g3]
    . simp[QO (show i<9223372036854775807 by omega)]
  . rw[List.mem_reverse,Qf0]at hy; omega
  . simp
  . simp
  . simp
  . simp
  . simp
  . simp[hl]
theorem QtT (hk:k<H.length) (hvf:vf.vd=true/\vf.ug=vf) (hvu:vf.under H.length=true) (hn:n<4611686018427387904)
 (hcmp:∀ (l:List Nat) (a b:Nat),a<n->b<n->OkC Tryz.prog vf [i64 a,i64 b] (oS H k C D T v l) (.ret (i64 (r b-r a))) (oS H k C D T v l)) :
 Ok Tryz.prog 117 [.own k C.length n 1 v,i64 0,i64 n,vf] (oS H k C D T v (List.range n)) (.ret (.tup [])) (oS H k C D T v (QaL r n)):=by
 have hlen:∀ l,(oS H k C D T v l).length=H.length:=λl=>by simp[oS]
 refine Ql hm Tryz.func117 c117 (by simp[hlen,hk,hvu]) λhcl => ?_;simp -implicitDefEqProofs[i117,r117];by_cases h0:n=0
 . subst h0;refine Qc hm QfH.eq_1 ?_;simp -implicitDefEqProofs;exact Qn
 . have e1:List.range n=QaL r 1++List.range' 1 (n-1):=by
    rw[Zj,show n=(n-1)+1 by omega,Y1]; rfl
   rw[e1];refine Qsh (r:=r) hk hvf hn hcmp (λenv => ?_) (n-1) 1 _ (by omega) ?_ ?_ ?_ ?_ ?_
   . simp -implicitDefEqProofs;exact Qn
   . simp
   . simp
   . simp
   . simp
   . simp[Qj (show(-9223372036854775808:Int)<=1 by omega) (show(1:Int)<=9223372036854775807 by omega)]
end
section
variable {H:Ws} {k v:Nat} {C D:Wt} {T:Ww} {vf:SV} {r:Nat->Int} {n:Nat}
set_option maxRecDepth 10000 in
theorem ok88 (hk:k<H.length) (hvf:vf.vd=true/\vf.ug=vf/\vf.strip=vf) (hvu:vf.under H.length=true) (hn:n<=10)
 (hcmp:∀ (l:List Nat) (a b:Nat),a<n->b<n->OkC Tryz.prog vf [i64 a,i64 b] (oS H k C D T v l) (.ret (i64 (r b-r a))) (oS H k C D T v l)) :
 Ok Tryz.prog 88 [.own k C.length n 1 v,i64 n,vf] (oS H k C D T v (List.range n)) (.ret (.tup [])) (oS H k C D T v (QaL r n)):=by
 have hlen:∀ l,(oS H k C D T v l).length=H.length:=λl=>by simp[oS]
 refine Ql hm Tryz.func88 c88 (by simp[hlen,hk,hvu]) λhcl => ?_;simp -implicitDefEqProofs[i88,r88];refine Qc hm Qno.eq_1 ?_;simp -implicitDefEqProofs[show ¬ (20:Int)<=(n:Int)by omega];refine Qf (QtT hk ⟨hvf.1,hvf.2.1⟩ hvu (by omega) hcmp) ?_;simp -implicitDefEqProofs;refine Qc hm Qo6.eq_1 ?_;simp -implicitDefEqProofs[show ¬ (20:Int)<(n:Int)by omega];exact Qn
theorem ok54 (hk:k<H.length) (hvf:vf.vd=true/\vf.ug=vf/\vf.strip=vf) (hvu:vf.under H.length=true) (hn:n<=10)
 (hcmp:∀ (l:List Nat) (a b:Nat),a<n->b<n->OkC Tryz.prog vf [i64 a,i64 b] (oS H k C D T v l) (.ret (i64 (r b-r a))) (oS H k C D T v l)) :
 Ok Tryz.prog 54 [.own k C.length n 1 v,vf] (oS H k C D T v (List.range n)) (.ret (.tup [])) (oS H k C D T v (QaL r n)):=by
 have hlen:∀ l,(oS H k C D T v l).length=H.length:=λl=>by simp[oS]
 refine Ql hm Tryz.func54 c54 (by simp[hlen,hk,hvu]) λhcl => ?_;simp -implicitDefEqProofs[i54,r54];refine Qf (ok88 hk hvf hvu hn hcmp) ?_;simp -implicitDefEqProofs;exact Qn
end
def Qbv (x:Int):Int:=max x 0
def QbG (l:List Int) (tot:Int) (i:Nat):Int:=(65536*Qbv (l.getD i 0)) % tot
section
variable {H:Ws} {x:SV} {l:List Int} {b t p:Nat}
structure ClS (H:Ws) (x:SV) (l:List Int) (tot:Int) (b t p:Nat):Prop where
 hb:Qe H b 0=[x]
 ht:Qe H t 0=[i64 tot]
 hp:Qe H p 0=[.fn (.func 53) [] [.ptr (.own b 0 0 0 0) 0,.ptr (.own t 0 0 0 0) 0]]
 lb:b<H.length
 lt:t<H.length
 lp:p<H.length
 hx:IsI H x l
theorem ok53 {tot:Int} (h:ClS H x l tot b t p) (hl:l.length<=10) (hr:∀ v∈l,-70368744177664<=v/\v<=70368744177664) (h0:0<tot) (h1:tot<4611686018427387904) {i:Nat} (hi:i<l.length) :
 Ok Tryz.prog 53 [i64 i,.ptr (.own b 0 0 0 0) 0,.ptr (.own t 0 0 0 0) 0] H (.ret (i64 (QbG l tot i))) H:=by
 have hx:=h.hx;refine Ql hm Tryz.func53 c53 (by simp[h.lb,h.lt]) λhcl => ?_;have hv:=hr _ (Vf hi);have e:QbG l tot i=(65536*max l[i] 0) % tot:=by simp[QbG,Qbv,hi]
 have w1:IntKind.i64.wrap (65536*max l[i] 0)=65536*max l[i] 0:=Qj (by omega) (by omega);have w2:(65536*max l[i] 0).tmod tot=65536*max l[i] 0 % tot:=Int.tmod_eq_emod_of_nonneg (by omega);rw[e];simp -implicitDefEqProofs[i53,r53,h.hb,h.ht,hx.vd,hx.ug,hx.sl,hx.len,hi,hx.ok hi,hx.v hi,w1,w2,show ¬ tot=0 by omega];exact Qn
theorem QpC {tot:Int} (h0:0<tot) (i:Nat):0<=QbG l tot i/\QbG l tot i<tot:=⟨ZX _ (by omega),Zt _ h0⟩
theorem ok55 {tot:Int} (h:ClS H x l tot b t p) (hl:l.length<=10) (hr:∀ v∈l,-70368744177664<=v/\v<=70368744177664) (h0:0<tot) (h1:tot<4611686018427387904) {i j:Nat} (hi:i<l.length) (hj:j<l.length) :
 Ok Tryz.prog 55 [i64 i,i64 j,.ptr (.own p 0 0 0 0) 0] H (.ret (i64 (QbG l tot j-QbG l tot i))) H:=by
 refine Ql hm Tryz.func55 c55 (by simp[h.lp]) λhcl => ?_;have r1:=QpC (l:=l) h0 i;have r2:=QpC (l:=l) h0 j;have w1:IntKind.i64.wrap (QbG l tot j-QbG l tot i)=QbG l tot j-QbG l tot i:=Qj (by omega) (by omega);simp -implicitDefEqProofs[i55,r55,h.hp];refine QkG (out:=.ret (i64 (QbG l tot j))) (H':=H) (by simpa using ok53 h hl hr h0 h1 hj) ?_;simp -implicitDefEqProofs[h.hp];refine QkG (out:=.ret (i64 (QbG l tot i))) (H':=H) (by simpa using ok53 h hl hr h0 h1 hi) ?_;simp -implicitDefEqProofs[h.hp,w1];exact Qn
end
def G2 (H:Ws) (a k:Nat) (o p:AO):Ws:=(H.set a o).set k p
section
variable {H L:Ws} {a k:Nat} {o p:AO}
@[simp] theorem Qfw:(G2 H a k o p).length=H.length:=by simp[G2]
theorem QiK (ha:a<H.length) (hk:a≠k):(G2 H a k o p++L)[a]? = some o:=by
 rw[Vd (by simpa using ha)];unfold G2;rw[Ve (Ne.symm hk),Vh ha]
theorem QiE (hk:k<H.length):(G2 H a k o p++L)[k]? = some p:=by
 rw[Vd (by simpa using hk)];unfold G2;rw[Vh (by simpa using hk)]
theorem QhT (ha:a<H.length) (hk:a≠k) {c:Wt} {T:Ww} {v:Nat}:Qe (G2 H a k ⟨c,T,v,true⟩ p++L) a v=c:=Qaw (o:=⟨c,T,v,true⟩) (QiK ha hk) rfl
theorem Qgn (hk:k<H.length) {c:Wt} {T:Ww} {v:Nat}:Qe (G2 H a k o ⟨c,T,v,true⟩++L) k v=c:=Qaw (o:=⟨c,T,v,true⟩) (QiE hk) rfl
theorem Qc3 (v:Nat):Qe (G2 H a k o p++L) H.length v=Qe L 0 v:=by
 have:=QfT (G2 H a k o p) L v; rwa [Qfw]at this
theorem QcQ (j v:Nat):Qe (G2 H a k o p++L) (H.length+j) v=Qe L j v:=by
 have:=QdM (G2 H a k o p) L j v; rwa [Qfw]at this
theorem QcT (j:Nat) (f:AO->AO):Ab.setObj (G2 H a k o p++L) (H.length+j) f=G2 H a k o p++Ab.setObj L j f:=by
 have:=QsD (G2 H a k o p) L j f; rwa [Qfw]at this
theorem Qg7 (ha:a<H.length) (hk:a≠k) (f:AO->AO):Ab.setObj (G2 H a k o p++L) a f=G2 H a k (f o) p++L:=by
 rw[QS (QiK ha hk),Yo _ _ (by simpa using ha)];unfold G2;rw[Zq _ _ (Ne.symm hk),Yi]
theorem Qlc (hk:k<H.length) (f:AO->AO):Ab.setObj (G2 H a k o p++L) k f=G2 H a k o (f p)++L:=by
 rw[QS (QiE hk),Yo _ _ (by simpa using hk)];unfold G2;rw[Yi]
theorem Qoy (hcl:closed H) (ho:SV.underL H.length o.cells=true) (hp:SV.underL H.length p.cells=true):closed (G2 H a k o p):=by
 unfold G2;exact QcD (QcD hcl a ho) k (by simpa using hp)
end
def oI (C:Wt) (l:List Int) (D:Wt) (T:Ww) (v:Nat):AO:=⟨C++(Qa l++D),T,v,true⟩
theorem Qvn {C D:Wt} {l:List Int} {j:Nat} (hj:j<l.length) (x:Int):(C++(Qa l++D)).take (C.length+j)++i64 x::(C++(Qa l++D)).drop (C.length+j+1)=C++(Qa (l.set j x)++D):=by
 rw[ZV,Zl];have e1:C.length+j-C.length=j:=by omega
 have e2:C.length+j+1-C.length=j+1:=by omega
 rw[e1,e2,VB (by omega),Yk (by omega),ZV,Zl];have e3:j-(Qa l).length=0:=by simp; omega
 have e4:j+1-(Qa l).length=0:=by simp; omega
 rw[e3,e4];simp only[Yl,VV,Y7,V3,VC,List.append_cancel_left_eq];rw[<-Qa7 hj x];simp
theorem Qrk {C D:Wt} {l:List Int}:(C++(Qa l++D)).length=C.length+l.length+D.length:=by simp; omega
def Qo (f:Nat->Int):Nat->Int
 |0=>0
 |n+1=>Qo f n+f n
def Qdi (l:List Int) (k:Nat):Int:=Qo (λi=>Qbv (l.getD i 0)) k
def Qt (l:List Int):Int:=Qdi l l.length
def QL (l:List Int) (tot:Int) (i:Nat):Int:=if tot=0 then 65536 / (l.length:Int)else if 0<l.getD i 0 then 65536*l.getD i 0 / tot else 0
def QbK (l:List Int) (k:Nat):Int:=65536-Qo (QL l (Qt l)) k
def Qad (l:List Int):Int:=QbK l l.length
def QQ (l:List Int):List Nat:=if 0<Qt l/\0<Qad l then QaL (QbG l (Qt l)) l.length else List.range l.length
def Qab (l:List Int):List Int:=(List.range l.length).map (Qbw (QL l (Qt l)) ((QQ l).take (Qad l).toNat))
theorem QmQ (l:List Int):(Qab l).length=l.length:=by simp[Qab]
theorem Qt3 (x:Int):0<=Qbv x:=by unfold Qbv; omega
theorem Qkr {f:Nat->Int} (h:∀ i,0<=f i):∀ n,0<=Qo f n
 |0=>V8 _
 |n+1=>by have:=Qkr h n; have:=h n; simp only[Qo]; omega
theorem Qmk {f:Nat->Int} {c:Int}:∀ n,(∀ i,i<n->f i<=c)->Qo f n<=n*c
 |0,_=>by simp[Qo]
 |n+1,h=>by
  have h1:=Qmk n λi hi=>h i (by omega);have h2:=h n (by omega);simp only[Qo];have:((n+1:Nat):Int)*c=n*c+c:=by rw[Int.natCast_succ,Int.add_mul,Int.one_mul]
  omega
theorem Qji (c:Int):∀ n,Qo (λ_=>c) n=n*c
 |0=>by simp[Qo]
 |n+1=>by
  simp only[Qo,Qji c n];rw[Int.natCast_succ,Int.add_mul,Int.one_mul]
theorem QkX (f:Nat->Int) (c:Int):∀ n,Qo (λi=>c*f i) n=c*Qo f n
 |0=>by simp[Qo]
 |n+1=>by simp only[Qo,QkX f c n,Int.mul_add]
theorem QkB {f g:Nat->Int}:∀ n,(∀ i,i<n->f i<=g i)->Qo f n<=Qo g n
 |0,_=>V8 _
 |n+1,h=>by
  have h1:=QkB n λi hi=>h i (by omega);have h2:=h n (by omega);simp only[Qo]; omega
theorem Qov (f g:Nat->Int):∀ n,Qo (λi=>f i+g i) n=Qo f n+Qo g n
 |0=>rfl
 |n+1=>by simp only[Qo,Qov f g n]; omega
theorem Qnn {f g:Nat->Int}:∀ n,(∀ i,i<n->f i=g i)->Qo f n=Qo g n
 |0,_=>rfl
 |n+1,h=>by simp only[Qo]; rw[Qnn n λi hi=>h i (by omega),h n (by omega)]
theorem QoB (l:List Int) (k:Nat):0<=Qdi l k:=Qkr (λi=>Qt3 _) _
theorem QiV (l:List Int):0<=Qt l:=QoB l _
theorem Qsx {l:List Int} {i:Nat} (h:i<l.length):Qdi l (i+1)=Qdi l i+max l[i] 0:=by simp[Qdi,Qo,Qbv,h]
theorem QnJ {l:List Int} (hl:l.length<=10) (hr:∀ v∈l,v<=70368744177664):∀ k,k<=l.length->Qdi l k<=k*70368744177664:=λk hk =>
 Qmk k λi hi=>by
  have h:i<l.length:=by omega
  have:=hr _ (Vf h);simp only[Qbv,Vm,Vb h,VQ]; omega
theorem Qes (l:List Int) (i:Nat):0<=QL l (Qt l) i:=by
 have:=QiV l;unfold QL;split
 . exact ZY (by omega) (by omega)
 . split
   . exact ZY (by omega) this
   . exact V8 _
theorem QpD {l:List Int} (h:Qt l≠0) (i:Nat):QL l (Qt l) i=65536*Qbv (l.getD i 0) / Qt l:=by
 unfold QL;rw[Wa h];split
 . have:Qbv (l.getD i 0)=l.getD i 0:=by unfold Qbv; omega
   rw[this]
 . have:Qbv (l.getD i 0)=0:=by unfold Qbv; omega
   rw[this]; simp
theorem QiW {l:List Int} (hn:0<l.length):0<=Qad l/\Qad l<l.length:=by
 have h0:=QiV l;unfold Qad QbK;by_cases h:Qt l=0
 . have e:Qo (QL l (Qt l)) l.length=l.length*(65536 / (l.length:Int)):=by
    rw[<-Qji];exact Qnn _ λi _=>by unfold QL; rw[Wb h]
   rw[e];have h1:=Int.emod_add_mul_ediv 65536 (l.length:Int);have h2:=ZX 65536 (b:=(l.length:Int)) (by omega);have h3:=Zt 65536 (b:=(l.length:Int)) (by omega);omega
 . have hp:0<Qt l:=by omega
   have e1:Qo (λi=>Qt l*QL l (Qt l) i) l.length=Qt l*Qo (QL l (Qt l)) l.length:=QkX _ _ _;have e2:Qo (λi=>65536*Qbv (l.getD i 0)) l.length=65536*Qt l:=QkX _ _ _;have h1:Qo (λi=>Qt l*QL l (Qt l) i) l.length<=Qo (λi=>65536*Qbv (l.getD i 0)) l.length:=QkB _ λi _=>by
    rw[QpD h]; exact Int.mul_ediv_self_le (by omega)
   have h2:Qo (λi=>65536*Qbv (l.getD i 0)) l.length<=Qo (λi=>Qt l*QL l (Qt l) i+(Qt l-1)) l.length:=QkB _ λi _=>by
    rw[QpD h];have:=Int.emod_add_mul_ediv (65536*Qbv (l.getD i 0)) (Qt l);have:=Zt (65536*Qbv (l.getD i 0)) hp;omega
   rw[Qov,Qji]at h2;rw[e1,e2]at h1 h2;generalize Qo (QL l (Qt l)) l.length=s at *;generalize Qt l=t at *;constructor
   . have:t*s<=t*65536:=by rw[Zu t 65536]; exact h1
     have:=Int.le_of_mul_le_mul_left this hp;omega
   . have h3:t*65536<t*s+l.length*t:=by
      have:(l.length:Int)*(t-1)<l.length*t:=Int.mul_lt_mul_of_pos_left (by omega) (by omega);rw[Zu t 65536]; omega
     have h4:t*65536<t*(s+l.length):=by rw[Int.mul_add,Zu t l.length]; exact h3
     have:=Int.lt_of_mul_lt_mul_left h4 (by omega);omega
section
variable {H:Ws} {a k va v n:Nat} {C D:Wt} {T:Ww} {x:SV} {l:List Int}
def S6 (H:Ws) (a k va v:Nat) (C D:Wt) (T:Ww) (x:SV) (o p:List Int) (t:Int):Ws :=
 G2 H a k ⟨Qa o,3,va,true⟩ (oI C p D T v)++[⟨[x],45,0,true⟩,⟨[i64 t],3,0,true⟩]
structure P2 (H:Ws) (a k:Nat):Prop where
 la:a<H.length
 lk:k<H.length
 ne:a≠k
set_option maxRecDepth 10000 in
theorem Qs0 (hP:P2 H a k) {o p:List Int} (hx:∀ L,IsI (G2 H a k ⟨Qa o,3,va,true⟩ (oI C p D T v)++L) x l) (hl:l.length<=10) (hr:∀ v∈l,v<=70368744177664) {N:Nat} {K:Wr} {x1 x2:SV}
 (hexit:∀ env,env.get 1=x1->env.get 2=x2->env.get 3=.ptr (.own H.length 0 0 0 0) 0->env.get 6=.ptr (.own (H.length+1) 0 0 0 0) 0->K (.exit 0) env (S6 H a k va v C D T x o p (Qt l))) :
 ∀ (m i:Nat) (env:Env),i+m=l.length->env.get 1=x1->env.get 2=x2->env.get 3=.ptr (.own H.length 0 0 0 0) 0->env.get 6=.ptr (.own (H.length+1) 0 0 0 0) 0 ->
  env.get 15=x->env.get 16=i64 l.length->env.get 17=i64 i->LI Tryz.prog N Qb Qgs env (S6 H a k va v C D T x o p (Qdi l i)) K:=by
 intro m
 induction m with
 |zero =>
  intro i env hi h1 h2 h3 h6 h15 h16 h17;refine Qc hm Qgs.eq_1 ?_;have e:i=l.length:=by omega
  subst e;simp -implicitDefEqProofs[h16,h17];exact hexit _ (by simp[h1]) (by simp[h2]) (by simp[h3]) (by simp[h6])
 |succ m ih =>
  intro i env hi h1 h2 h3 h6 h15 h16 h17;refine Qc hm Qgs.eq_1 ?_;have hlt:i<l.length:=by omega
  have hx':=hx [⟨[x],45,0,true⟩,⟨[i64 (Qdi l i)],3,0,true⟩];have b1:=QnJ hl hr i (by omega);have b2:=QoB l i;have hv:=hr _ (Vf hlt);have w1:IntKind.i64.wrap (Qdi l i+max l[i] 0)=Qdi l (i+1):=by rw[Qsx hlt]; exact Qj (by omega) (by omega)
  simp -implicitDefEqProofs[S6,h1,h2,h3,h6,h15,h16,h17,hlt,hx'.vd,hx'.ug,hx'.sl,hx'.len,hx'.ok hlt,hx'.v hlt,QcQ,QcT,w1];refine ih (i+1) _ (by omega) ?_ ?_ ?_ ?_ ?_ ?_ ?_
  . simp
  . simp
  . simp
  . simp
  . simp
  . simp
  . simp[QO (show i<9223372036854775807 by omega)]
end
end Go.Proofs.YtogjmpkehjfecaaGreatDoor.Rc
