/-
  Steps of the proof: contracts of functions and plain facts that the statement rests on.
-/
import Derived.Test.YtogjmpkehjfecaaGreatDoorIr29z
import Derived.Test.YtogjmpkehjfecaaGreatDoorCore4
import Derived.Test.YtogjmpkehjfecaaGreatDoorCore5
import Derived.Test.YtogjmpkehjfecaaGreatDoorPart1
set_option linter.all false
namespace Go.Proofs.YtogjmpkehjfecaaGreatDoor.Rc
open Go.Ab
theorem hm:Tryz.prog.follows .mixedOrders=true:=Tryz.checked.mixed
section
variable {x:SV} {H:List AO} {l:List Int}
def bx (H:List AO) (a:Nat) (n:Int):Prop:=objCells H a 0=[i64 n]∧a<H.length
def outR (lo hi n:Int):Bool:=decide (n<lo)||decide (hi<n)
theorem ok112 {a b:Nat} {lo hi:Int} (ha:bx H a lo) (hb:bx H b hi) (n:Int) :
 Ok Tryz.prog 112 [i64 n,.ptr (.own a 0 0 0 0) 0,.ptr (.own b 0 0 0 0) 0] H (.ret (bl (outR lo hi n))) H:=by
 refine ok_fn hm Tryz.func112 c112 (by simp[ha.2,hb.2]) fun hcl => ?_
 by_cases h1:n<lo
 · simp -implicitDefEqProofs[i112,r112,ha.1,hb.1,h1,outR]
   exact cv_id
 · simp -implicitDefEqProofs[i112,r112,ha.1,hb.1,h1,outR]
   exact cv_id
def fstOut (lo hi:Int) (l:List Int):Int:=match l.findIdx? (outR lo hi)with | some i=>i | none => -1
theorem fstOut_ge {lo hi:Int} {l:List Int}:(0≤fstOut lo hi l)=(l.any (outR lo hi)=true):=by
 unfold fstOut
 cases h:l.findIdx? (outR lo hi)with
 | some i =>
  simp only[Int.natCast_nonneg]
  refine(eq_true ?_).symm
  obtain⟨hi,h1,h2⟩:=List.findIdx?_eq_some_iff_getElem.1 h
  exact List.any_eq_true.2 ⟨_,List.getElem_mem hi,h1⟩
 | none =>
  rw[List.findIdx?_eq_none_iff]at h
  have:l.any (outR lo hi)=false:=by
   rw[List.any_eq_false]; intro x hx; simpa using h x hx
  simp[this]
theorem loop88 (hx:IsI H x l) (hl:l.length<4611686018427387904) {a b:Nat} {lo up:Int} (ha:bx H a lo) (hb:bx H b up) {N:Nat} {K:XE->Env->List AO->Prop}
 (hret:∀ env (i:Nat),l.findIdx? (outR lo up)=some i->env.get 4=i64 i->K .ret env H) (hexit:l.findIdx? (outR lo up)=none->∀ env,K (.exit 0) env H) :
 ∀ (n i:Nat) (env:Env),i+n=l.length->(∀ j (h:j<l.length),j<i->outR lo up l[j]=false)->env.get 0=x->env.get 1=.fn (.func 112) [] [.ptr (.own a 0 0 0 0) 0,.ptr (.own b 0 0 0 0) 0]->env.get 7=i64 l.length->env.get 8=i64 i →
  LI Tryz.prog N drawB l137_0 env H K:=by
 intro n
 induction n with
 | zero =>
  intro i env hi hp h0 h1 h7 h8
  refine li_go hm l137_0.eq_1 ?_
  have e:i=l.length:=by omega
  simp -implicitDefEqProofs[h7,h8,e]
  refine hexit ?_ _
  rw[List.findIdx?_eq_none_iff]
  intro y hy
  obtain⟨j,hj,rfl⟩:=List.getElem_of_mem hy
  exact hp j hj (by omega)
 | succ n ih =>
  intro i env hi hp h0 h1 h7 h8
  refine li_go hm l137_0.eq_1 ?_
  have hlt:i<l.length:=by omega
  simp -implicitDefEqProofs[h0,h1,h7,h8,hlt,hx.vd,hx.ug,hx.sl,hx.len,hx.v hlt,hx.ok hlt]
  refine call_go (ok112 ha hb _) ?_
  cases ho:outR lo up l[i]with
  | true =>
   simp -implicitDefEqProofs
   refine hret _ i ?_ (by simp)
   rw[List.findIdx?_eq_some_iff_getElem]
   exact⟨hlt,ho,fun j hj=>by simp[hp j (by omega) hj]⟩
  | false =>
   simp -implicitDefEqProofs[h8]
   refine ih (i+1) _ (by omega) ?_ ?_ ?_ ?_ ?_
   rotate_left
   · simp[h0]
   · simp[h1]
   · simp[h7]
   · simp[h8,wrap_suc (show i<9223372036854775807 by omega)]
   intro j hj hji
   by_cases e:j=i
   · subst e; exact ho
   · exact hp j hj (by omega)
theorem ok137 (hx:IsI H x l) (hl:l.length<4611686018427387904) {a b:Nat} {lo up:Int} (ha:bx H a lo) (hb:bx H b up) :
 Ok Tryz.prog 137 [x,.fn (.func 112) [] [.ptr (.own a 0 0 0 0) 0,.ptr (.own b 0 0 0 0) 0]] H (.ret (i64 (fstOut lo up l))) H:=by
 refine ok_fn hm Tryz.func137 c137 (by simp[ha.2,hb.2,hx.und]) fun hcl => ?_
 simp -implicitDefEqProofs[i137,r137,hx.vd,hx.ug,hx.sl,hx.len]
 refine loop88 hx hl ha hb (fun env i h1 h2 => ?_) (fun h1 env => ?_) l.length 0 _ (by omega) (by omega) (by simp) (by simp) (by simp) (by simp)
 · simp[h2,fstOut,h1]
   exact cv_id
 · simp[fstOut,h1]
   exact cv_id
theorem ok111 (hx:IsI H x l) (hl:l.length<4611686018427387904) {a b:Nat} {lo up:Int} (ha:bx H a lo) (hb:bx H b up) :
 Ok Tryz.prog 111 [x,.fn (.func 112) [] [.ptr (.own a 0 0 0 0) 0,.ptr (.own b 0 0 0 0) 0]] H (.ret (bl (l.any (outR lo up)))) H:=by
 refine ok_fn hm Tryz.func111 c111 (by simp[ha.2,hb.2,hx.und]) fun hcl => ?_
 simp -implicitDefEqProofs[i111,r111,hx.vd,hx.ug,hx.sl,hx.len]
 refine call_go (ok137 hx hl ha hb) ?_
 have e:decide (0≤fstOut lo up l)=l.any (outR lo up):=by
  rw[Bool.eq_iff_iff,decide_eq_true_iff,fstOut_ge]
 simp -implicitDefEqProofs
 rw[e]
 exact cv_id
def within (lo hi:Int) (l:List Int):Int:=if l.any (outR lo hi)then 2 else 0
theorem ok84 (hx:IsI H x l) (hl:l.length<4611686018427387904) (lo hi:Int) :
 Ok Tryz.prog 84 [i64 lo,i64 hi,x] H (.ret (i64 (within lo hi l))) H:=by
 refine ok_fn hm Tryz.func84 c84 (by simp[hx.und]) fun hcl => ?_
 simp -implicitDefEqProofs[i84,r84,hx.vd,hx.ug,hx.sl,hx.len]
 refine call_go (ok111 (hx.app _) hl (a:=H.length) (b:=H.length+1) (lo:=lo) (up:=hi) ⟨by simp,by simp⟩ ⟨by simp,by simp⟩) ?_
 by_cases h:l.any (outR lo hi)=true
 · simp -implicitDefEqProofs[h,within]
   exact cv_fz 1 hcl rfl (by simp)
 · simp -implicitDefEqProofs[h,within]
   exact cv_fz 1 hcl rfl (by simp)
end
end Go.Proofs.YtogjmpkehjfecaaGreatDoor.Rc
namespace Go.Proofs.YtogjmpkehjfecaaGreatDoor.Rc
open Go.Ab
structure Nd where
 k:Int
 p:Int
 i:Int
 nx:List Int
 ws:List Int
 ps:List Int
def sl (l:List Int):SV:=.slc (ints l) l.length
def Nd.cells (x:Nd):List SV:=[i64 x.k,i64 x.p,i64 x.i,sl x.nx,sl x.ws,sl x.ps]
def nds:List Nd->List SV
 | []=>[]
 | x::r=>x.cells++nds r
def infs:List (Int×Int)->List SV
 | []=>[]
 | x::r=>i64 x.1::i64 x.2::infs r
structure Gm where
 pl:Int
 ns:List Nd
 is:List (Int×Int)
def Gm.cells (g:Gm):List SV:=[i64 g.pl,.slc (nds g.ns) g.ns.length,.slc (infs g.is) g.is.length]
structure Wk (H:List AO) (j:Nat) (g:Gm) (a b c:SV):Prop where
 o:objCells H j 0=[i64 g.pl,.slc (nds g.ns) g.ns.length,.slc (infs g.is) g.is.length,a,b,c]
 lt:j<H.length
theorem Wk.app {H:List AO} {j:Nat} {g:Gm} {a b c:SV} (h:Wk H j g a b c) (L:List AO):Wk (H++L) j g a b c:=⟨by rw[objCells_app L h.lt]; exact h.o,by have:=h.lt; simp; omega⟩
def Nd.chance (x:Nd):Int:=if x.p≠0∨x.i≠0∨0<x.ps.length∨x.nx.length<1∨60<x.nx.length∨x.ws.length≠x.nx.length then 3 else within 1 1000 x.ws
def Nd.move (g:Gm) (x:Nd):Int:=if 0<x.ws.length∨0<x.ps.length∨x.nx.length<1∨10<x.nx.length then 3 else
 if within 0 (g.pl-1) [x.p]≠0 then within 0 (g.pl-1) [x.p]else within 0 (g.is.length-1) [x.i]
def Nd.end (g:Gm) (x:Nd):Int:=if x.p≠0∨x.i≠0∨0<x.nx.length∨0<x.ws.length∨(x.ps.length:Int)≠g.pl then 3 else within (-1000000) 1000000 x.ps
def Nd.err (g:Gm) (x:Nd):Int:=if x.k<1∨3<x.k then 3 else if x.k=1 then x.chance else if x.k=2 then x.move g else x.end g
section
variable {x:Nd} {H:List AO} {j:Nat} {g:Gm} {a b c:SV}
theorem isl (H:List AO) (l:List Int):IsI H (sl l) l:=IsI.slc H l
theorem ok132 (h:j<H.length):Ok Tryz.prog 132 [.ptr (.own j 0 0 0 0) 0,.agg x.cells] H (.ret (i64 x.chance)) H:=by
 refine ok_fn hm Tryz.func132 c132 (by simp[Nd.cells,sl,h]) fun hcl => ?_
 simp -implicitDefEqProofs[i132,r132,Nd.cells,sl]
 have e:x.chance=if(((((¬x.p=0∨¬x.i=0)∨0<x.ps.length)∨(x.nx.length:Int)<1)∨60<(x.nx.length:Int))∨¬(x.ws.length:Int)=x.nx.length)then 3 else within 1 1000 x.ws:=by
  unfold Nd.chance
  congr 1
  simp only[eq_iff_iff]; omega
 rw[e]
 split
 · exact cv_fz 1 hcl rfl (by simp)
 · rename_i hc
   refine call_go (ok84 (IsI.slc _ _) (by omega) 1 1000) ?_
   simp -implicitDefEqProofs
   exact cv_fz 1 hcl rfl (by simp)
theorem ok134 (h:Wk H j g a b c) (h4:g.pl≤4):Ok Tryz.prog 134 [.ptr (.own j 0 0 0 0) 0,.agg x.cells] H (.ret (i64 (x.end g))) H:=by
 have ho:=h.o
 refine ok_fn hm Tryz.func134 c134 (by simp[Nd.cells,sl,h.lt]) fun hcl => ?_
 simp -implicitDefEqProofs[i134,r134,Nd.cells,sl,(h.app _).o]
 have e:x.end g=if((((¬x.p=0∨¬x.i=0)∨0<x.nx.length)∨0<x.ws.length)∨¬(x.ps.length:Int)=g.pl)then 3 else within (-1000000) 1000000 x.ps:=by
  unfold Nd.end
  congr 1
  simp only[eq_iff_iff]; omega
 rw[e]
 split
 · exact cv_fz 1 hcl rfl (by simp)
 · rename_i hc
   refine call_go (ok84 (IsI.slc _ _) (by omega) (-1000000) 1000000) ?_
   simp -implicitDefEqProofs
   exact cv_fz 1 hcl rfl (by simp)
theorem ok133 (h:Wk H j g a b c) (h1:1≤g.pl) (h4:g.pl≤4) (h5:g.is.length≤200):Ok Tryz.prog 133 [.ptr (.own j 0 0 0 0) 0,.agg x.cells] H (.ret (i64 (x.move g))) H:=by
 refine ok_fn hm Tryz.func133 c133 (by simp[Nd.cells,sl,h.lt]) fun hcl => ?_
 have w1:IntKind.i64.wrap (g.pl-1)=g.pl-1:=wrap_id (by omega) (by omega)
 have w2:IntKind.i64.wrap ((g.is.length:Int)-1)=(g.is.length:Int)-1:=wrap_id (by omega) (by omega)
 simp -implicitDefEqProofs[i133,r133,Nd.cells,sl,(h.app _).o,w1,w2]
 have e:x.move g=if((0<x.ws.length∨0<x.ps.length)∨(x.nx.length:Int)<1)∨10<(x.nx.length:Int)then 3 else
  if within 0 (g.pl-1) [x.p]≠0 then within 0 (g.pl-1) [x.p]else within 0 (g.is.length-1) [x.i]:=by
  unfold Nd.move
  congr 1
  simp only[eq_iff_iff]; omega
 rw[e]
 split
 · exact cv_fz 1 hcl rfl (by simp)
 · rename_i hc
   refine callq_go (fun _=>ok84 (IsI.own0 H _ 1 0 [x.p] [] 3 rfl) (by simp) 0 (g.pl-1)) ?_
   by_cases hw:within 0 (g.pl-1) [x.p]=0
   · simp -implicitDefEqProofs[hw,(h.app _).o,w2]
     refine callq_go (fun _=>ok84 (IsI.own0 H _ 2 0 [x.i] [] 3 rfl) (by simp) 0 (g.is.length-1)) ?_
     simp -implicitDefEqProofs
     exact cv_fz 1 hcl rfl (by simp[hw])
   · simp -implicitDefEqProofs[hw]
     exact cv_fz 1 hcl rfl (by simp[hw])
theorem ok107 (h:Wk H j g a b c) (h1:1≤g.pl) (h4:g.pl≤4) (h5:g.is.length≤200):Ok Tryz.prog 107 [.ptr (.own j 0 0 0 0) 0,.agg x.cells] H (.ret (i64 (x.err g))) H:=by
 refine ok_fn hm Tryz.func107 c107 (by simp[Nd.cells,sl,h.lt]) fun hcl => ?_
 simp -implicitDefEqProofs[i107,r107,Nd.cells,sl,(h.app _).o]
 unfold Nd.err
 split
 · exact⟨rfl,cv_fz 1 hcl rfl (by rfl)⟩
 · rename_i hc
   have hk:x.k=1∨x.k=2∨x.k=3:=by omega
   rcases hk with hk | hk | hk
   · simp -implicitDefEqProofs[hk]
     refine⟨rfl,call_go (by rw[←hk]; exact ok132 (x:=x) (by simp; have:=h.lt; omega)) ?_⟩
     simp -implicitDefEqProofs
     exact cv_fz 1 hcl rfl (by simp[hk])
   · simp -implicitDefEqProofs[hk]
     refine⟨rfl,call_go (by rw[←hk]; exact ok133 (x:=x) (h.app _) h1 h4 h5) ?_⟩
     simp -implicitDefEqProofs
     exact cv_fz 1 hcl rfl (by simp[hk])
   · simp -implicitDefEqProofs[hk]
     refine⟨rfl,call_go (by rw[←hk]; exact ok134 (x:=x) (h.app _) h4) ?_⟩
     simp -implicitDefEqProofs
     exact cv_fz 1 hcl rfl (by simp[hk])
end
end Go.Proofs.YtogjmpkehjfecaaGreatDoor.Rc
namespace Go.Proofs.YtogjmpkehjfecaaGreatDoor.Rc
open Go.Ab
theorem within_no {lo hi:Int} {l:List Int} (h:∀ j (h:j<l.length),j<l.length->outR lo hi l[j]=false):within lo hi l=0:=by
 unfold within; rw[if_neg]
 rw[List.any_eq_true]
 rintro⟨y,hy,h1⟩
 obtain⟨j,hj,rfl⟩:=List.getElem_of_mem hy
 rw[h j hj hj]at h1; cases h1
theorem within_yes {lo hi:Int} {l:List Int} {j:Nat} (hj:j<l.length) (h:outR lo hi l[j]=true):within lo hi l=2:=by
 unfold within; rw[if_pos]
 exact List.any_eq_true.2 ⟨_,List.getElem_mem hj,h⟩
theorem within1 {lo hi n:Int}:within lo hi [n]=if n<lo∨hi<n then 2 else 0:=by
 unfold within; congr 1; simp[outR]
section
variable {x:Nd} {H:List AO} {q:Nat} {g:Gm}
theorem loop39_0 (hq:objCells H q 0=[i64 x.k,i64 x.p,i64 x.i,.slc (ints x.nx) x.nx.length,.slc (ints x.ws) x.ws.length,.slc (ints x.ps) x.ps.length]) (hl:x.ws.length<4611686018427387904) {N:Nat} {K:XE->Env->List AO->Prop}
 (hret:within 1 1000 x.ws=2->∀ env,env.get 4=i64 2->K .ret env H) (hexit:within 1 1000 x.ws=0->∀ env,K (.exit 1) env H) :
 ∀ (n i:Nat) (env:Env),i+n=x.ws.length->(∀ j (h:j<x.ws.length),j<i->outR 1 1000 x.ws[j]=false)->env.get 3=.ptr (.own q 0 0 0 0) 0->env.get 5=i64 i->LI Tryz.prog N drawB l64_0 env H K:=by
 intro n
 induction n with
 | zero =>
  intro i env hi hp h3 h5
  refine li_go hm l64_0.eq_1 ?_
  have e:i=x.ws.length:=by omega
  subst e
  simp -implicitDefEqProofs[h3,h5,hq]
  exact hexit (within_no hp) _
 | succ n ih =>
  intro i env hi hp h3 h5
  refine li_go hm l64_0.eq_1 ?_
  have hlt:i<x.ws.length:=by omega
  simp -implicitDefEqProofs[h3,h5,hq,hlt]
  split
  · rename_i hc
    refine⟨by omega,by omega,?_⟩
    exact hret (within_yes hlt (by simp[outR]; omega)) _ (by simp)
  · rename_i hc
    refine⟨by omega,by omega,?_⟩
    refine ih (i+1) _ (by omega) ?_ ?_ ?_
    rotate_left
    · simp[h3]
    · simp[wrap_suc (show i<9223372036854775807 by omega)]
    intro j hj hji
    by_cases e:j=i
    · subst e; simp[outR]; omega
    · exact hp j hj (by omega)
theorem loop39_1 (hq:objCells H q 0=[i64 x.k,i64 x.p,i64 x.i,.slc (ints x.nx) x.nx.length,.slc (ints x.ws) x.ws.length,.slc (ints x.ps) x.ps.length]) (hl:x.ps.length<4611686018427387904) {N:Nat} {K:XE->Env->List AO->Prop}
 (hret:within (-1000000) 1000000 x.ps=2->∀ env,env.get 4=i64 2->K .ret env H) (hexit:within (-1000000) 1000000 x.ps=0->∀ env,K (.exit 3) env H) :
 ∀ (n i:Nat) (env:Env),i+n=x.ps.length->(∀ j (h:j<x.ps.length),j<i->outR (-1000000) 1000000 x.ps[j]=false)->env.get 3=.ptr (.own q 0 0 0 0) 0->env.get 6=i64 i->LI Tryz.prog N drawB l64_1 env H K:=by
 intro n
 induction n with
 | zero =>
  intro i env hi hp h3 h5
  refine li_go hm l64_1.eq_1 ?_
  have e:i=x.ps.length:=by omega
  subst e
  simp -implicitDefEqProofs[h3,h5,hq]
  exact hexit (within_no hp) _
 | succ n ih =>
  intro i env hi hp h3 h5
  refine li_go hm l64_1.eq_1 ?_
  have hlt:i<x.ps.length:=by omega
  simp -implicitDefEqProofs[h3,h5,hq,hlt]
  split
  · rename_i hc
    refine⟨by omega,by omega,?_⟩
    exact hret (within_yes hlt (by simp[outR]; omega)) _ (by simp)
  · rename_i hc
    refine⟨by omega,by omega,?_⟩
    refine ih (i+1) _ (by omega) ?_ ?_ ?_
    rotate_left
    · simp[h3]
    · simp[wrap_suc (show i<9223372036854775807 by omega)]
    intro j hj hji
    by_cases e:j=i
    · subst e; simp[outR]; omega
    · exact hp j hj (by omega)
set_option maxRecDepth 10000 in
theorem ok64 (h1:1≤g.pl) (h4:g.pl≤4) (h5:g.is.length≤200):Ok Tryz.prog 64 [.agg g.cells,.agg x.cells] H (.ret (i64 (x.err g))) H:=by
 refine ok_fn hm Tryz.func64 c64 (by simp[Nd.cells,sl,Gm.cells]) fun hcl => ?_
 by_cases k1:x.k=1
 · have e:x.err g=if(((((¬x.p=0∨¬x.i=0)∨0<x.ps.length)∨(x.nx.length:Int)<1)∨60<(x.nx.length:Int))∨¬(x.ws.length:Int)=x.nx.length)then 3 else within 1 1000 x.ws:=by
    unfold Nd.err Nd.chance
    rw[if_neg (by omega),if_pos k1]
    congr 1
    simp only[eq_iff_iff]; omega
   rw[e]
   simp -implicitDefEqProofs[i64x,r64,Nd.cells,sl,Gm.cells,k1]
   split
   · exact cv_fz 1 hcl rfl (by simp)
   · refine loop39_0 (q:=H.length+1) (x:=x) (by simp[k1]) (by omega) (fun e1 env e2 => ?_) (fun e1 env => ?_) x.ws.length 0 _ (by omega) (by omega) (by simp) (by simp)
     · simp -implicitDefEqProofs[e1,e2]
       exact cv_fz 1 hcl rfl (by simp)
     · simp -implicitDefEqProofs[e1]
       exact cv_fz 1 hcl rfl (by simp)
 by_cases k2:x.k=2
 · have e:x.err g=if(((0<x.ps.length∨0<x.ws.length)∨(x.nx.length:Int)<1)∨10<(x.nx.length:Int))then 3 else if((x.p<0∨g.pl≤x.p)∨x.i<0)∨g.is.length≤x.i then 2 else 0:=by
    unfold Nd.err Nd.move
    rw[if_neg (by omega),if_neg k1,if_pos k2]
    rw[within1,within1]
    by_cases hA:0<x.ws.length∨0<x.ps.length∨x.nx.length<1∨10<x.nx.length
    · rw[if_pos hA,if_pos (by omega)]
    · rw[if_neg hA,if_neg (show ¬ (((0<x.ps.length∨0<x.ws.length)∨(x.nx.length:Int)<1)∨10<(x.nx.length:Int))by omega)]
      by_cases hp:x.p<0∨g.pl-1<x.p
      · rw[if_pos hp,if_pos (by decide),if_pos (by omega)]
      · rw[if_neg hp,if_neg (by decide)]
        by_cases hi:x.i<0∨g.is.length-1<x.i
        · rw[if_pos hi,if_pos (by omega)]
        · rw[if_neg hi,if_neg (by omega)]
   rw[e]
   simp -implicitDefEqProofs[i64x,r64,Nd.cells,sl,Gm.cells,k1,k2]
   split
   · exact cv_fz 1 hcl rfl (by simp)
   · split
     · exact cv_fz 1 hcl rfl (by simp)
     · exact cv_fz 1 hcl rfl (by simp)
 by_cases k3:x.k=3
 · have e:x.err g=if((((¬x.p=0∨¬x.i=0)∨0<x.nx.length)∨0<x.ws.length)∨¬(x.ps.length:Int)=g.pl)then 3 else within (-1000000) 1000000 x.ps:=by
    unfold Nd.err Nd.end
    rw[if_neg (by omega),if_neg k1,if_neg k2]
    congr 1
    simp only[eq_iff_iff]; omega
   rw[e]
   simp -implicitDefEqProofs[i64x,r64,Nd.cells,sl,Gm.cells,k3]
   split
   · exact cv_fz 1 hcl rfl (by simp)
   · refine loop39_1 (q:=H.length+1) (x:=x) (by simp[k3]) (by omega) (fun e1 env e2 => ?_) (fun e1 env => ?_) x.ps.length 0 _ (by omega) (by omega) (by simp) (by simp)
     · simp -implicitDefEqProofs[e1,e2]
       exact cv_fz 1 hcl rfl (by simp)
     · simp -implicitDefEqProofs[e1]
       exact cv_fz 1 hcl rfl (by simp)
 have e:x.err g=3:=by
  unfold Nd.err
  rw[if_pos (by omega)]
 rw[e]
 simp -implicitDefEqProofs[i64x,r64,Nd.cells,sl,Gm.cells,k1,k2,k3]
 exact cv_fz 1 hcl rfl (by simp)
end
end Go.Proofs.YtogjmpkehjfecaaGreatDoor.Rc
namespace Go.Proofs.YtogjmpkehjfecaaGreatDoor.Rc
open Go.Ab
structure W3 where
 P:List Int
 D:List Int
 L:List Int
def kids (w:Nat->W3->Option Nat×W3):List Int->Nat->W3->Option Nat×W3
 | [],r,s=>(some r,s)
 | c::cs,r,s=>if c=r then(match w r s with | (none,s)=>(none,s) | (some r,s)=>kids w cs r s)else(none,s)
def walkS (ns:List Nd):Nat->Int->Int->Nat->W3->Option Nat×W3
 | 0,_,_,_,s=>(none,s)
 | f+1,par,dep,k,s =>
  match ns[k]? with
  | none=>(none,s)
  | some x =>
   match kids (walkS ns f k (dep+1)) x.nx (k+1) ⟨s.P.set k par,s.D.set k dep,s.L⟩with
   | (none,s)=>(none,s)
   | (some r,s)=>(some r,⟨s.P,s.D,s.L.set k (r-1)⟩)
def rr (l:List Int):AO:=⟨ints l,3,1,true⟩
def upd (H:List AO) (a b c:Nat) (s:W3):List AO:=((H.set a (rr s.P)).set b (rr s.D)).set c (rr s.L)
section
variable {H:List AO} {a b c j:Nat} {s t:W3} {g:Gm}
theorem upd_len:(upd H a b c s).length=H.length:=by simp[upd]
theorem objCells_get {H H':List AO} {j:Nat} (h:H'[j]? = H[j]?) (v:Nat):objCells H' j v=objCells H j v:=by unfold objCells; rw[h]
structure P3 (H:List AO) (a b c:Nat):Prop where
 ab:a<b
 bc:b<c
 lt:c<H.length
theorem upd_a (h:P3 H a b c):objCells (upd H a b c s) a 1=ints s.P:=by
 have:=h.ab; have:=h.bc; have:=h.lt
 refine objCells_of (o:=rr s.P) ?_ rfl
 unfold upd
 rw[List.getElem?_set_ne (by omega),List.getElem?_set_ne (by omega),List.getElem?_set_self (by omega)]
theorem upd_b (h:P3 H a b c):objCells (upd H a b c s) b 1=ints s.D:=by
 have:=h.ab; have:=h.bc; have:=h.lt
 refine objCells_of (o:=rr s.D) ?_ rfl
 unfold upd
 rw[List.getElem?_set_ne (by omega),List.getElem?_set_self (by simp; omega)]
theorem upd_c (h:P3 H a b c):objCells (upd H a b c s) c 1=ints s.L:=by
 have:=h.ab; have:=h.bc; have:=h.lt
 refine objCells_of (o:=rr s.L) ?_ rfl
 unfold upd
 rw[List.getElem?_set_self (by simp; omega)]
theorem upd_o (h1:j≠a) (h2:j≠b) (h3:j≠c):objCells (upd H a b c s) j 0=objCells H j 0:=by
 refine objCells_get ?_ 0
 unfold upd
 rw[List.getElem?_set_ne (by omega),List.getElem?_set_ne (by omega),List.getElem?_set_ne (by omega)]
theorem upd_sa (h:P3 H a b c) (f:AO->AO) (l:List Int) (hf:f (rr s.P)=rr l):Ab.setObj (upd H a b c s) a f=upd H a b c ⟨l,s.D,s.L⟩:=by
 have:=h.ab; have:=h.bc; have:=h.lt
 rw[setObj_some (o:=rr s.P),hf]
 · unfold upd
   rw[List.set_comm _ _ (show c≠a by omega),List.set_comm _ _ (show b≠a by omega),List.set_set]
 · unfold upd
   rw[List.getElem?_set_ne (by omega),List.getElem?_set_ne (by omega),List.getElem?_set_self (by omega)]
theorem upd_sb (h:P3 H a b c) (f:AO->AO) (l:List Int) (hf:f (rr s.D)=rr l):Ab.setObj (upd H a b c s) b f=upd H a b c ⟨s.P,l,s.L⟩:=by
 have:=h.ab; have:=h.bc; have:=h.lt
 rw[setObj_some (o:=rr s.D),hf]
 · unfold upd
   rw[List.set_comm _ _ (show c≠b by omega),List.set_set]
 · unfold upd
   rw[List.getElem?_set_ne (by omega),List.getElem?_set_self (by simp; omega)]
theorem upd_sc (h:P3 H a b c) (f:AO->AO) (l:List Int) (hf:f (rr s.L)=rr l):Ab.setObj (upd H a b c s) c f=upd H a b c ⟨s.P,s.D,l⟩:=by
 have:=h.ab; have:=h.bc; have:=h.lt
 rw[setObj_some (o:=rr s.L),hf]
 · unfold upd
   rw[List.set_set]
 · unfold upd
   rw[List.getElem?_set_self (by simp; omega)]
theorem nds_drop {ns:List Nd} {k:Nat} (h:k<ns.length):nds (ns.drop k)=ns[k].cells++nds (ns.drop (k+1)):=by
 rw[List.drop_eq_getElem_cons h]; rfl
theorem nds_len:∀ ns:List Nd,(nds ns).length=6*ns.length
 | []=>rfl
 | x::r=>by simp[nds,nds_len r,Nd.cells]; omega
end
end Go.Proofs.YtogjmpkehjfecaaGreatDoor.Rc
namespace Go.Proofs.YtogjmpkehjfecaaGreatDoor.Rc
open Go.Ab
def resW (ns:List Nd):Option Nat->SV
 | none=>.tup [.val (.slice none 0 0),bl false]
 | some r=>.tup [.slc (nds (ns.drop r)) (ns.length-r),bl true]
def W3.ok (s:W3) (n:Nat):Prop:=s.P.length=n∧s.D.length=n∧s.L.length=n
theorem kids_ok {n:Nat} {w:Nat->W3->Option Nat×W3} {m:Nat} (hw:∀ r s,m≤r->s.ok n->(w r s).2.ok n∧∀ r',(w r s).1=some r'->r<r'∧r'≤n) :
 ∀ (l:List Int) (r:Nat) (s:W3),m≤r->r≤n->s.ok n->(kids w l r s).2.ok n∧∀ r',(kids w l r s).1=some r'->r≤r'∧r'≤n
 | [],r,s,hr,hn,hs=>⟨hs,fun r' h=>by simp[kids]at h; omega⟩
 | c::cs,r,s,hr,hn,hs=>by
  unfold kids
  by_cases hc:c=r
  · rw[if_pos hc]
    have h:=hw r s hr hs
    cases hh:w r s with
    | mk o s1 =>
     rw[hh]at h
     cases o with
     | none=>exact⟨h.1,fun r' h'=>by simp at h'⟩
     | some r1 =>
      have h1:=h.2 r1 rfl
      have h2:=kids_ok hw cs r1 s1 (by omega) h1.2 h.1
      exact⟨h2.1,fun r' h'=>by have:=h2.2 r' h'; omega⟩
  · rw[if_neg hc]
    exact⟨hs,fun r' h=>by simp at h⟩
theorem walkS_ok {ns:List Nd}:∀ (f:Nat) (par dep:Int) (k:Nat) (s:W3),s.ok ns.length →
 (walkS ns f par dep k s).2.ok ns.length∧∀ r,(walkS ns f par dep k s).1=some r->k<r∧r≤ns.length
 | 0,par,dep,k,s,hs=>⟨hs,fun r h=>by simp[walkS]at h⟩
 | f+1,par,dep,k,s,hs=>by
  unfold walkS
  cases hk:ns[k]? with
  | none=>exact⟨hs,fun r h=>by simp at h⟩
  | some x =>
   have hlt:=getElem?_lt hk
   have h:=kids_ok (n:=ns.length) (w:=walkS ns f k (dep+1)) (m:=0) (fun r s _ hs=>walkS_ok f k (dep+1) r s hs) x.nx (k+1) ⟨s.P.set k par,s.D.set k dep,s.L⟩ (by omega) (by omega)
    ⟨by simpa using hs.1,by simpa using hs.2.1,hs.2.2⟩
   simp only
   cases hh:kids (walkS ns f k (dep+1)) x.nx (k+1) ⟨s.P.set k par,s.D.set k dep,s.L⟩with
   | mk o s1 =>
    rw[hh]at h
    cases o with
    | none=>exact⟨h.1,fun r' h'=>by simp at h'⟩
    | some r1 =>
     refine⟨⟨h.1.1,h.1.2.1,by simpa using h.1.2.2⟩,fun r' h' => ?_⟩
     have:=h.2 r1 rfl
     simp at h'; omega
section
variable {H:List AO} {a b c j:Nat} {g:Gm}
structure Wh (H:List AO) (j:Nat) (g:Gm) (a b c:Nat):Prop where
 w:Wk H j g (.own a 0 g.ns.length 1 1) (.own b 0 g.ns.length 1 1) (.own c 0 g.ns.length 1 1)
 p:P3 H a b c
 ja:j≠a
 jb:j≠b
 jc:j≠c
 n:g.ns.length≤2000
 nx:∀ x∈g.ns,x.nx.length<4611686018427387904
theorem Wh.cells (h:Wh H j g a b c) (s:W3):objCells (upd H a b c s) j 0=[i64 g.pl,.slc (nds g.ns) g.ns.length,.slc (infs g.is) g.is.length,.own a 0 g.ns.length 1 1,.own b 0 g.ns.length 1 1,.own c 0 g.ns.length 1 1]:=by
 rw[upd_o h.ja h.jb h.jc]; exact h.w.o
set_option maxRecDepth 10000 in
theorem loop51 (h:Wh H j g a b c) {x:Nd} {dep:Int} {k:Nat} {w:Nat->W3->Option Nat×W3} {R:Option Nat×W3} (hd0:0≤dep) (hd1:dep≤k) (hk:k<g.ns.length) (hnx:x.nx.length<4611686018427387904)
 (hok:∀ r s,k+1≤r->r≤g.ns.length->s.ok g.ns.length->Ok Tryz.prog 108 [.ptr (.own j 0 0 0 0) 0,i64 k,i64 (dep+1),.slc (nds (g.ns.drop r)) (g.ns.length-r)] (upd H a b c s) (.ret (resW g.ns (w r s).1)) (upd H a b c (w r s).2))
 (hw:∀ r s,k+1≤r->s.ok g.ns.length->(w r s).2.ok g.ns.length∧∀ r',(w r s).1=some r'->r<r'∧r'≤g.ns.length)
 {N:Nat} {K:XE->Env->List AO->Prop}
 (hret:R.1=none->∀ env,env.get 8=.val (.slice none 0 0)->env.get 9=bl false->K .ret env (upd H a b c R.2))
 (hexit:∀ r',R.1=some r'->r'≤g.ns.length->R.2.ok g.ns.length->∀ env,env.get 0=.ptr (.own j 0 0 0 0) 0->env.get 10=i64 k->env.get 11=.slc (nds (g.ns.drop r')) (g.ns.length-r')->K (.exit 0) env (upd H a b c R.2)) :
 ∀ (m i r:Nat) (s:W3) (env:Env),i+m=x.nx.length->k+1≤r->r≤g.ns.length->s.ok g.ns.length->kids w (x.nx.drop i) r s=R →
  env.get 0=.ptr (.own j 0 0 0 0) 0->env.get 2=i64 dep->env.get 10=i64 k->env.get 11=.slc (nds (g.ns.drop r)) (g.ns.length-r)->env.get 46=.slc (ints x.nx) x.nx.length->env.get 47=i64 x.nx.length->env.get 48=i64 i →
  LI Tryz.prog N drawB l108_0 env (upd H a b c s) K:=by
 have hn:=h.n
 intro m
 induction m with
 | zero =>
  intro i r s env hi hr hrn hs hR h0 h2 h10 h11 h46 h47 h48
  refine li_go hm l108_0.eq_1 ?_
  have e:i=x.nx.length:=by omega
  subst e
  simp -implicitDefEqProofs[h47,h48]
  rw[List.drop_length]at hR
  subst hR
  exact hexit r rfl hrn hs _ (by simp[h0]) (by simp[h10]) (by simp[h11])
 | succ m ih =>
  intro i r s env hi hr hrn hs hR h0 h2 h10 h11 h46 h47 h48
  refine li_go hm l108_0.eq_1 ?_
  have hlt:i<x.nx.length:=by omega
  have w1:IntKind.i64.wrap ((g.ns.length:Int)-((g.ns.length-r:Nat):Int))=r:=by rw[wrap_id (by omega) (by omega)]; omega
  have w2:IntKind.i64.wrap (dep+1)=dep+1:=wrap_id (by omega) (by omega)
  rw[List.drop_eq_getElem_cons hlt]at hR
  unfold kids at hR
  by_cases hc:x.nx[i]=r
  · rw[if_pos hc]at hR
    simp -implicitDefEqProofs[h0,h2,h10,h11,h46,h47,h48,hlt,h.cells,w1,hc,w2]
    refine⟨by omega,call_go (hok r s hr hrn hs) ?_⟩
    have hw1:=hw r s hr hs
    cases hh:w r s with
    | mk o s1 =>
     rw[hh]at hw1 hR
     cases o with
     | none =>
      subst hR
      simp -implicitDefEqProofs[resW]
      exact hret rfl _ (by simp) (by simp)
     | some r1 =>
      have h1:=hw1.2 r1 rfl
      simp -implicitDefEqProofs[resW,h48]
      refine ih (i+1) r1 s1 _ (by omega) (by omega) h1.2 hw1.1 hR ?_ ?_ ?_ ?_ ?_ ?_ ?_
      · simp[h0]
      · simp[h2]
      · simp[h10]
      · simp
      · simp[h46]
      · simp[h47]
      · simp[wrap_suc (show i<9223372036854775807 by omega)]
  · rw[if_neg hc]at hR
    subst hR
    simp -implicitDefEqProofs[h0,h2,h10,h11,h46,h47,h48,hlt,h.cells,w1,hc]
    refine⟨by omega,?_⟩
    exact hret rfl _ (by simp) (by simp)
set_option maxRecDepth 10000 in
theorem ok108 (h:Wh H j g a b c):∀ (f:Nat) (par dep:Int) (k:Nat) (s:W3),k≤g.ns.length->g.ns.length+1≤k+f->0≤dep->dep≤k->s.ok g.ns.length →
 Ok Tryz.prog 108 [.ptr (.own j 0 0 0 0) 0,i64 par,i64 dep,.slc (nds (g.ns.drop k)) (g.ns.length-k)] (upd H a b c s)
  (.ret (resW g.ns (walkS g.ns f par dep k s).1)) (upd H a b c (walkS g.ns f par dep k s).2):=by
 have ab:=h.p.ab; have bc:=h.p.bc; have lt:=h.p.lt
 have hj:=h.w.lt
 have hn:=h.n
 intro f
 induction f with
 | zero=>intro par dep k s h1 h2; omega
 | succ f ih =>
  intro par dep k s hk hf hd0 hd1 hs
  refine ok_fn hm Tryz.func108 c108 (by simp[upd_len,hj]) fun hcl => ?_
  by_cases hk':k=g.ns.length
  · subst hk'
    simp -implicitDefEqProofs[i108,r108,walkS,resW]
    exact cv_id
  · have hlt:k<g.ns.length:=by omega
    have w1:IntKind.i64.wrap ((g.ns.length:Int)-((g.ns.length-k:Nat):Int))=k:=by rw[wrap_id (by omega) (by omega)]; omega
    have e1:∀ (s:W3) (v:Int),k<s.P.length->Ab.setObj (upd H a b c s) a (fun o=>{ cells:=List.take k o.cells++i64 v::List.drop (k+1) o.cells,ty:=o.ty,ver:=o.ver,live:=o.live })=upd H a b c ⟨s.P.set k v,s.D,s.L⟩ :=
     fun s v hv=>upd_sa h.p _ _ (by simp[rr,ints_set hv])
    have e2:∀ (s:W3) (v:Int),k<s.D.length->Ab.setObj (upd H a b c s) b (fun o=>{ cells:=List.take k o.cells++i64 v::List.drop (k+1) o.cells,ty:=o.ty,ver:=o.ver,live:=o.live })=upd H a b c ⟨s.P,s.D.set k v,s.L⟩ :=
     fun s v hv=>upd_sb h.p _ _ (by simp[rr,ints_set hv])
    have e3:∀ (s:W3) (v:Int),k<s.L.length->Ab.setObj (upd H a b c s) c (fun o=>{ cells:=List.take k o.cells++i64 v::List.drop (k+1) o.cells,ty:=o.ty,ver:=o.ver,live:=o.live })=upd H a b c ⟨s.P,s.D,s.L.set k v⟩ :=
     fun s v hv=>upd_sc h.p _ _ (by simp[rr,ints_set hv])
    have e4:List.take ((g.ns.length-k-1)*6) (nds (g.ns.drop (k+1)))=nds (g.ns.drop (k+1)):=List.take_of_length_le (by rw[nds_len]; simp; omega)
    have k1:=hs.1; have k2:=hs.2.1; have k3:=hs.2.2
    rw[nds_drop hlt]
    simp -implicitDefEqProofs[i108,r108,h.cells,upd_len,show ¬ g.ns.length-k=0 by omega,show((g.ns.length-k:Nat):Int)≠0 by omega,w1,upd_a h.p,upd_b h.p,upd_c h.p,e1,e2,k1,k2,k3,hlt,Nd.cells,sl,e4]
    refine⟨by omega,by omega,by omega,?_⟩
    have hget:g.ns[k]? = some g.ns[k]:=List.getElem?_eq_getElem hlt
    have hs':W3.ok ⟨s.P.set k par,s.D.set k dep,s.L⟩ g.ns.length:=⟨by simpa using k1,by simpa using k2,k3⟩
    refine loop51 h (x:=g.ns[k]) (dep:=dep) (k:=k) (w:=walkS g.ns f k (dep+1)) (R:=kids (walkS g.ns f k (dep+1)) g.ns[k].nx (k+1) ⟨s.P.set k par,s.D.set k dep,s.L⟩) hd0 hd1 hlt (h.nx _ (List.getElem_mem hlt))
     (fun r s hr hrn hs=>ih k (dep+1) r s hrn (by omega) (by omega) (by omega) hs) (fun r s _ hs=>walkS_ok f k (dep+1) r s hs) (fun hR env h8 h9 => ?_) (fun r' hR hr' hs1 env h0 h10 h11 => ?_)
     g.ns[k].nx.length 0 (k+1) _ _ (by omega) (by omega) (by omega) hs' (by simp) (by simp) (by simp) (by simp) (by simp; omega) (by simp) (by simp) (by simp)
    · simp -implicitDefEqProofs[h8,h9]
      unfold walkS
      rw[hget]
      revert hR
      simp only
      generalize kids (walkS g.ns f k (dep+1)) g.ns[k].nx (k+1) ⟨s.P.set k par,s.D.set k dep,s.L⟩=R
      obtain⟨o,s2⟩:=R
      rintro rfl
      simp[resW]
      exact cv_id
    · have w2:IntKind.i64.wrap ((g.ns.length:Int)-((g.ns.length-r':Nat):Int))=r':=by rw[wrap_id (by omega) (by omega)]; omega
      have w3:IntKind.i64.wrap ((r':Int)-1)=(r':Int)-1:=wrap_id (by omega) (by omega)
      unfold walkS
      rw[hget]
      revert hR hs1
      simp only
      generalize kids (walkS g.ns f k (dep+1)) g.ns[k].nx (k+1) ⟨s.P.set k par,s.D.set k dep,s.L⟩=R
      obtain⟨o,s2⟩:=R
      rintro hR hs1
      cases hR
      have k4:=hs1.2.2
      simp only at k4
      simp -implicitDefEqProofs[h0,h10,h11,h.cells,upd_len,w2,w3,upd_c h.p,e3,k4,hlt]
      refine⟨by omega,?_⟩
      exact cv_id
end
end Go.Proofs.YtogjmpkehjfecaaGreatDoor.Rc
namespace Go.Proofs.YtogjmpkehjfecaaGreatDoor.Rc
open Go.Ab
def maxL (l:List Int):Int:=l.tail.foldl max (l.headD 0)
section
variable {x:SV} {H:List AO} {l:List Int}
theorem loop52 (hx:IsI H x l) (hl:l.length<4611686018427387904) {N:Nat} {K:XE->Env->List AO->Prop}
 (hexit:∀ env,env.get 3=i64 (maxL l)->K (.exit 0) env H) :
 ∀ (n i:Nat) (acc:Int) (env:Env),i+n=l.length->(l.drop i).foldl max acc=maxL l->env.get 0=x->env.get 3=i64 acc->env.get 4=i64 i->LI Tryz.prog N drawB l109_0 env H K:=by
 intro n
 induction n with
 | zero =>
  intro i acc env hi ha h0 h3 h4
  refine li_go hm l109_0.eq_1 ?_
  have e:i=l.length:=by omega
  subst e
  simp -implicitDefEqProofs[h0,h3,h4,hx.vd,hx.ug,hx.sl,hx.len]
  rw[List.drop_length]at ha
  exact hexit _ (by simp[h3]; exact congrArg i64 ha)
 | succ n ih =>
  intro i acc env hi ha h0 h3 h4
  refine li_go hm l109_0.eq_1 ?_
  have hlt:i<l.length:=by omega
  rw[List.drop_eq_getElem_cons hlt,List.foldl_cons]at ha
  simp -implicitDefEqProofs[h0,h3,h4,hlt,hx.vd,hx.ug,hx.sl,hx.len,hx.v hlt,hx.ok hlt]
  refine ih (i+1) (max acc l[i]) _ (by omega) ha ?_ ?_ ?_
  · simp[h0]
  · simp
  · simp[wrap_suc (show i<9223372036854775807 by omega)]
theorem ok109 (hx:IsI H x l) (hl:l.length<4611686018427387904) (hne:0<l.length):Ok Tryz.prog 109 [x] H (.ret (i64 (maxL l))) H:=by
 refine ok_fn hm Tryz.func109 c109 (by simp[hx.und]) fun hcl => ?_
 simp -implicitDefEqProofs[i109,r109,hx.vd,hx.ug,hx.sl,hx.len,show ¬ (l.length:Int)<1 by omega,hx.v hne,hx.ok hne]
 refine⟨by omega,?_⟩
 refine loop52 hx hl (fun env h3 => ?_) (l.length-1) 1 l[0] _ (by omega) ?_ (by simp) (by simp) (by simp)
 · simp -implicitDefEqProofs[h3]
   exact cv_id
 · cases l with
   | nil=>simp at hne
   | cons y r=>rfl
def fstAt (v:Int) (l:List Int):Int:=match l.findIdx? (· == v)with | some i=>i | none => -1
theorem loop129 (hx:IsI H x l) (hl:l.length<4611686018427387904) {v:Int} {N:Nat} {K:XE->Env->List AO->Prop}
 (hret:∀ env (i:Nat),l.findIdx? (· == v)=some i->env.get 4=i64 i->K .ret env H) (hexit:l.findIdx? (· == v)=none->∀ env,K (.exit 0) env H) :
 ∀ (n i:Nat) (env:Env),i+n=l.length->(∀ j (h:j<l.length),j<i->¬ l[j]=v)->env.get 0=x->env.get 1=i64 v->env.get 7=i64 l.length->env.get 8=i64 i →
  LI Tryz.prog N drawB l140_0 env H K:=by
 intro n
 induction n with
 | zero =>
  intro i env hi hp h0 h1 h7 h8
  refine li_go hm l140_0.eq_1 ?_
  have e:i=l.length:=by omega
  simp -implicitDefEqProofs[h7,h8,e]
  refine hexit ?_ _
  rw[List.findIdx?_eq_none_iff]
  intro y hy
  obtain⟨j,hj,rfl⟩:=List.getElem_of_mem hy
  simpa using hp j hj (by omega)
 | succ n ih =>
  intro i env hi hp h0 h1 h7 h8
  refine li_go hm l140_0.eq_1 ?_
  have hlt:i<l.length:=by omega
  by_cases ho:l[i]=v
  · simp -implicitDefEqProofs[h0,h1,h7,h8,hlt,hx.vd,hx.ug,hx.sl,hx.len,hx.v hlt,hx.ok hlt,ho]
    refine hret _ i ?_ (by simp)
    rw[List.findIdx?_eq_some_iff_getElem]
    exact⟨hlt,by simpa using ho,fun j hj=>by simpa using hp j (by omega) hj⟩
  · simp -implicitDefEqProofs[h0,h1,h7,h8,hlt,hx.vd,hx.ug,hx.sl,hx.len,hx.v hlt,hx.ok hlt,show ¬ v=l[i]from fun e=>ho e.symm]
    refine ih (i+1) _ (by omega) ?_ ?_ ?_ ?_ ?_
    rotate_left
    · simp[h0]
    · simp[h1]
    · simp[h7]
    · simp[h8,wrap_suc (show i<9223372036854775807 by omega)]
    intro j hj hji
    by_cases e:j=i
    · subst e; exact ho
    · exact hp j hj (by omega)
theorem ok140 (hx:IsI H x l) (hl:l.length<4611686018427387904) (v:Int):Ok Tryz.prog 140 [x,i64 v] H (.ret (i64 (fstAt v l))) H:=by
 refine ok_fn hm Tryz.func140 c140 (by simp[hx.und]) fun hcl => ?_
 simp -implicitDefEqProofs[i140,r140,hx.vd,hx.ug,hx.sl,hx.len]
 refine loop129 hx hl (v:=v) (fun env i h1 h2 => ?_) (fun h1 env => ?_) l.length 0 _ (by omega) (by omega) (by simp) (by simp) (by simp) (by simp)
 · simp[h2,fstAt,h1]
   exact cv_id
 · simp[fstAt,h1]
   exact cv_id
theorem fstAt_ge {v:Int} {l:List Int}:decide (0≤fstAt v l)=decide (v∈l):=by
 rw[Bool.eq_iff_iff,decide_eq_true_iff,decide_eq_true_iff]
 unfold fstAt
 cases h:l.findIdx? (· == v)with
 | some i =>
  simp only[Int.natCast_nonneg,true_iff]
  obtain⟨hi,h1,h2⟩:=List.findIdx?_eq_some_iff_getElem.1 h
  rw[←eq_of_beq h1]; exact List.getElem_mem hi
 | none =>
  rw[List.findIdx?_eq_none_iff]at h
  have:v∉l:=fun hv=>by simpa using h v hv
  simp[this]
theorem ok135 (hx:IsI H x l) (hl:l.length<4611686018427387904) (v:Int):Ok Tryz.prog 135 [x,i64 v] H (.ret (bl (decide (v∈l)))) H:=by
 refine ok_fn hm Tryz.func135 c135 (by simp[hx.und]) fun hcl => ?_
 simp -implicitDefEqProofs[i135,r135,hx.vd,hx.ug,hx.sl,hx.len]
 refine call_go (ok140 hx hl v) ?_
 simp -implicitDefEqProofs
 rw[fstAt_ge]
 exact cv_id
theorem ok153 (n:Int):Ok Tryz.prog 153 [i64 n] H (.ret (bl false)) H:=by
 refine ok_fn hm Tryz.func153 c153 (by simp) fun hcl => ?_
 simp -implicitDefEqProofs[i153,r153]
 exact cv_id
theorem ok151 (m n:Int):Ok Tryz.prog 151 [i64 m,i64 n] H (.ret (bl (decide (m<n)))) H:=by
 refine ok_fn hm Tryz.func151 c151 (by simp) fun hcl => ?_
 simp -implicitDefEqProofs[i151,r151]
 refine call_go (ok153 m) ?_
 simp -implicitDefEqProofs
 refine callq_off _ _ _ _ ?_
 simp -implicitDefEqProofs
 exact cv_id
def Srt (l:List Int):Prop:=∀ k,k<l.length-1->¬ l.getD (k+1) 0<l.getD k 0
instance (l:List Int):Decidable (Srt l):=by unfold Srt; infer_instance
theorem srt_iff {l:List Int}:Srt l↔∀ k (h:k+1<l.length),¬ l[k+1]<l[k]:=by
 constructor
 · intro h k hk
   have:=h k (by omega)
   simpa only[List.getD_eq_getElem?_getD,List.getElem?_eq_getElem hk,List.getElem?_eq_getElem (show k<l.length by omega),Option.getD_some]using this
 · intro h k hk
   simp only[List.getD_eq_getElem?_getD,List.getElem?_eq_getElem (show k+1<l.length by omega),List.getElem?_eq_getElem (show k<l.length by omega),Option.getD_some]
   exact h k (by omega)
theorem loop87 (hx:IsI H x l) (hl:l.length<4611686018427387904) {N:Nat} {K:XE->Env->List AO->Prop}
 (hret:¬ Srt l->∀ env,env.get 2=bl false->K .ret env H) (hexit:Srt l->∀ env,K (.exit 0) env H) :
 ∀ (n:Nat) (env:Env),n<l.length->(∀ k (h:k+1<l.length),n≤k->¬ l[k+1]<l[k])->env.get 0=x->env.get 3=i64 n->LI Tryz.prog N drawB l136_0 env H K:=by
 intro n
 induction n with
 | zero =>
  intro env hi hp h0 h3
  refine li_go hm l136_0.eq_1 ?_
  simp -implicitDefEqProofs[h0,h3]
  exact hexit (srt_iff.2 fun k hk=>hp k hk (by omega)) _
 | succ n ih =>
  intro env hi hp h0 h3
  refine li_go hm l136_0.eq_1 ?_
  have w1:IntKind.i64.wrap (n:Int)=n:=wrap_nat (by omega)
  have hlt:n<l.length:=by omega
  simp -implicitDefEqProofs[h0,h3,hi,hlt,w1,hx.vd,hx.ug,hx.sl,hx.len,hx.v hlt,hx.ok hlt,hx.v hi,hx.ok hi]
  refine⟨by omega,?_⟩
  refine callq_go (fun _=>ok151 _ _) ?_
  by_cases hc:l[n+1]<l[n]
  · simp -implicitDefEqProofs[hc]
    exact hret (fun h=>srt_iff.1 h n hi hc) _ (by simp)
  · simp -implicitDefEqProofs[hc,h3,w1]
    refine ih _ (by omega) ?_ ?_ ?_
    rotate_left
    · simp[h0]
    · simp
    intro k hk hnk
    by_cases e:k=n
    · subst e; exact hc
    · exact hp k hk (by omega)
theorem ok136 (hx:IsI H x l) (hl:l.length<4611686018427387904):Ok Tryz.prog 136 [x] H (.ret (bl (decide (Srt l)))) H:=by
 refine ok_fn hm Tryz.func136 c136 (by simp[hx.und]) fun hcl => ?_
 by_cases h0:l.length=0
 · have:l=[]:=List.eq_nil_of_length_eq_zero h0
   subst this
   simp -implicitDefEqProofs[i136,r136,hx.vd,hx.ug,hx.sl,hx.len,show IntKind.i64.wrap (-1) = -1 by rfl]
   refine li_go hm l136_0.eq_1 ?_
   simp -implicitDefEqProofs[show Srt []from srt_iff.2 (fun k h=>by simp at h)]
   exact cv_id
 · have w1:IntKind.i64.wrap ((l.length:Int)-1)=((l.length-1:Nat):Int):=by rw[wrap_id (by omega) (by omega)]; omega
   simp -implicitDefEqProofs[i136,r136,hx.vd,hx.ug,hx.sl,hx.len,w1]
   refine loop87 hx hl (fun h1 env h2 => ?_) (fun h1 env => ?_) (l.length-1) _ (by omega) (by omega) (by simp) (by simp)
   · simp -implicitDefEqProofs[h2,h1]
     exact cv_id
   · simp -implicitDefEqProofs[h1]
     exact cv_id
end
end Go.Proofs.YtogjmpkehjfecaaGreatDoor.Rc
namespace Go.Proofs.YtogjmpkehjfecaaGreatDoor.Rc
open Go.Ab
def fst1:List Nd->Nat->List Int->List Int
 | [],_,z=>z
 | x::r,o,z=>if x.k=2 then(fst1 r (o+1) z).set x.i.toNat (o+1)else fst1 r (o+1) z
@[simp] theorem fst1_len (z:List Int):∀ (l:List Nd) (o:Nat),(fst1 l o z).length=z.length
 | [],o=>rfl
 | x::r,o=>by unfold fst1; split<;>simp[fst1_len z r (o+1)]
def ro (l:List Int):AO:=⟨ints l,3,0,true⟩
def Nd.tyBad (g:Gm) (x:Nd):Prop:=x.k=2∧g.is[x.i.toNat]? ≠ some (x.p,(x.nx.length:Int))
instance (g:Gm) (x:Nd):Decidable (x.tyBad g):=by unfold Nd.tyBad; infer_instance
def Gm.firsts (g:Gm):List Int:=fst1 g.ns 0 (List.replicate g.is.length 0)
def Gm.setsE (g:Gm):Int:=if ∃ x∈g.ns,x.tyBad g then 10 else if 0∈g.firsts then 18 else if Srt g.firsts then 0 else 9
structure Gd (g:Gm):Prop where
 p1:1≤g.pl
 p4:g.pl≤4
 n1:1≤g.ns.length
 n:g.ns.length≤2000
 i:g.is.length≤200
 e:∀ x∈g.ns,x.err g=0
theorem Gd.inf {g:Gm} (h:Gd g) {x:Nd} (hx:x∈g.ns) (hk:x.k=2):0≤x.i∧x.i<g.is.length:=by
 have:=h.e x hx
 unfold Nd.err Nd.move at this
 rw[if_neg (by omega),if_neg (by omega),if_pos hk]at this
 split at this
 · omega
 · rw[within1,within1]at this
   split at this
   · split at this<;>omega
   · split at this<;>omega
theorem infs_drop:∀ {l:List (Int×Int)} {k:Nat} (h:k<l.length),(infs l).drop (2*k)=i64 l[k].1::i64 l[k].2::infs (l.drop (k+1))
 | [],k,h=>by simp at h
 | x::r,0,h=>rfl
 | x::r,k+1,h=>by
  rw[show 2*(k+1)=2*k+2 by omega]
  simp only[infs,List.drop_succ_cons]
  rw[infs_drop (l:=r) (k:=k) (by simpa using h)]
  simp
theorem nds_drop':∀ {l:List Nd} {k:Nat} (h:k<l.length),(nds l).drop (6*k)=l[k].cells++nds (l.drop (k+1))
 | [],k,h=>by simp at h
 | x::r,0,h=>rfl
 | x::r,k+1,h=>by
  rw[show 6*(k+1)=6*k+6 by omega]
  simp only[nds,Nd.cells,List.drop_succ_cons,List.cons_append,List.nil_append]
  rw[nds_drop' (l:=r) (k:=k) (by simpa using h)]
  simp[Nd.cells]
theorem infs_len:∀ l:List (Int×Int),(infs l).length=2*l.length
 | []=>rfl
 | x::r=>by simp[infs,infs_len r]; omega
theorem nds_at {l:List Nd} {k:Nat} (h:k<l.length):(nds l).drop (k*6)=i64 l[k].k::i64 l[k].p::i64 l[k].i::sl l[k].nx::sl l[k].ws::sl l[k].ps::nds (l.drop (k+1)):=by
 rw[Nat.mul_comm,nds_drop' h]; rfl
theorem nds_min {l:List Nd} {k:Nat} (h:k<l.length):min 6 ((nds l).length-k*6)=6:=by rw[nds_len]; omega
theorem nds_ge {l:List Nd} {k:Nat} (h:k<l.length):6≤(nds l).length-k*6:=by rw[nds_len]; omega
theorem infs_at {l:List (Int×Int)} {k:Nat} (h:k<l.length):(infs l).drop (k*2)=i64 l[k].1::i64 l[k].2::infs (l.drop (k+1)):=by
 rw[Nat.mul_comm,infs_drop h]
theorem infs_min {l:List (Int×Int)} {k:Nat} (h:k<l.length):min 2 ((infs l).length-k*2)=2:=by rw[infs_len]; omega
theorem infs_ge {l:List (Int×Int)} {k:Nat} (h:k<l.length):2≤(infs l).length-k*2:=by rw[infs_len]; omega
section
variable {H:List AO} {j:Nat} {g:Gm} {a b c:SV}
set_option maxRecDepth 10000 in
theorem loop53_0 (h:Wk H j g a b c) (hg:Gd g) {N:Nat} {K:XE->Env->List AO->Prop}
 (hexit:∀ env M,env.get 0=.ptr (.own j 0 0 0 0) 0->env.get 3=.own H.length 0 g.is.length 1 0->K (.exit 0) env (H++ro g.firsts::M)) :
 ∀ (n:Nat) (env:Env) (M:List AO),n≤g.ns.length->env.get 0=.ptr (.own j 0 0 0 0) 0->env.get 3=.own H.length 0 g.is.length 1 0->env.get 4=i64 ((n:Int)-1) →
  LI Tryz.prog N drawB l110_0 env (H++ro (fst1 (g.ns.drop n) n (List.replicate g.is.length 0))::M) K:=by
 intro n
 induction n with
 | zero =>
  intro env M hi h0 h3 h4
  refine li_go hm l110_0.eq_1 ?_
  simp -implicitDefEqProofs[h0,h3,h4]
  exact hexit _ _ (by simp[h0]) (by simp[h3])
 | succ n ih =>
  intro env M hi h0 h3 h4
  refine li_go hm l110_0.eq_1 ?_
  have hn:=hg.n
  have hx:g.ns[n]∈g.ns:=List.getElem_mem hi
  have w1:IntKind.i64.wrap (n:Int)=n:=wrap_nat (by omega)
  have e:((n+1:Nat):Int)-1=n:=by omega
  rw[e]at h4
  have w2:IntKind.i64.wrap ((n:Int)+1)=((n+1:Nat):Int):=wrap_succ (by omega)
  have w3:IntKind.i64.wrap ((n:Int)-1)=(n:Int)-1:=wrap_id (by omega) (by omega)
  by_cases hk:g.ns[n].k=2
  · have hb:=hg.inf hx hk
    have e7:fst1 (g.ns.drop n) n (List.replicate g.is.length 0)=(fst1 (g.ns.drop (n+1)) (n+1) (List.replicate g.is.length 0)).set g.ns[n].i.toNat ((n+1:Nat):Int):=by
     rw[List.drop_eq_getElem_cons hi,fst1,if_pos hk]; rfl
    rw[e7]at ih
    simp -implicitDefEqProofs[h0,h3,h4,(h.app _).o,hi,nds_at hi,nds_min hi,nds_ge hi,hk,sl,ro]
    refine⟨by omega,by omega,by omega,?_⟩
    rw[w2,ints_set (by simp; omega),w3]
    refine ih _ _ (by omega) ?_ ?_ ?_
    · simp
    · simp
    · simp
  · have e7:fst1 (g.ns.drop n) n (List.replicate g.is.length 0)=fst1 (g.ns.drop (n+1)) (n+1) (List.replicate g.is.length 0):=by
     rw[List.drop_eq_getElem_cons hi,fst1,if_neg hk]
    rw[e7]at ih
    simp -implicitDefEqProofs[h0,h3,h4,(h.app _).o,hi,nds_at hi,nds_min hi,nds_ge hi,hk,sl]
    refine⟨by omega,?_⟩
    rw[w3]
    refine ih _ _ (by omega) ?_ ?_ ?_
    · simp
    · simp
    · simp
set_option maxRecDepth 10000 in
theorem loop53_1 (h:Wk H j g a b c) (hg:Gd g) {N:Nat} {K:XE->Env->List AO->Prop} {r:AO}
 (hret:(∃ x∈g.ns,x.tyBad g)->∀ env M,env.get 2=i64 10->K .ret env (H++r::M))
 (hexit:(¬ ∃ x∈g.ns,x.tyBad g)->∀ env M,env.get 3=.own H.length 0 g.is.length 1 0->K (.exit 2) env (H++r::M)) :
 ∀ (n i:Nat) (env:Env) (M:List AO),i+n=g.ns.length->(∀ k (h:k<g.ns.length),k<i->¬ g.ns[k].tyBad g)->env.get 0=.ptr (.own j 0 0 0 0) 0->env.get 3=.own H.length 0 g.is.length 1 0 →
  env.get 47=.slc (nds g.ns) g.ns.length->env.get 48=i64 g.ns.length->env.get 49=i64 i->LI Tryz.prog N drawB l110_1 env (H++r::M) K:=by
 have hn:=hg.n
 intro n
 induction n with
 | zero =>
  intro i env M hi hp h0 h3 h47 h48 h49
  refine li_go hm l110_1.eq_1 ?_
  have e:i=g.ns.length:=by omega
  subst e
  simp -implicitDefEqProofs[h0,h3,h48,h49]
  refine hexit ?_ _ _ (by simp[h3])
  rintro⟨x,hx,hb⟩
  obtain⟨k,hk,rfl⟩:=List.getElem_of_mem hx
  exact hp k hk hk hb
 | succ n ih =>
  intro i env M hi hp h0 h3 h47 h48 h49
  refine li_go hm l110_1.eq_1 ?_
  have hlt:i<g.ns.length:=by omega
  have hx:g.ns[i]∈g.ns:=List.getElem_mem hlt
  have w1:IntKind.i64.wrap ((i:Int)+1)=((i+1:Nat):Int):=wrap_succ (by omega)
  by_cases hk:g.ns[i].k=2
  · have hb:=hg.inf hx hk
    have hb':g.ns[i].i.toNat<g.is.length:=by omega
    simp -implicitDefEqProofs[h0,h3,h47,h48,h49,(h.app _).o,hlt,nds_at hlt,nds_min hlt,nds_ge hlt,infs_at hb',infs_min hb',infs_ge hb',hk,sl]
    refine⟨by omega,?_⟩
    have hbad:(¬g.is[g.ns[i].i.toNat].fst=g.ns[i].p∨¬g.is[g.ns[i].i.toNat].snd=(g.ns[i].nx.length:Int))↔g.ns[i].tyBad g:=by
     unfold Nd.tyBad
     rw[List.getElem?_eq_getElem hb']
     simp only[hk,true_and,ne_eq,Option.some.injEq]
     rw[←Prod.eta g.is[g.ns[i].i.toNat],Prod.mk.injEq]
     constructor
     · rintro(h | h) ⟨h1,h2⟩
       · exact h h1
       · exact h h2
     · intro h
       by_cases h1:g.is[g.ns[i].i.toNat].fst=g.ns[i].p
       · exact .inr fun h2=>h ⟨h1,h2⟩
       · exact .inl h1
    split
    · rename_i hc
      exact hret ⟨_,hx,hbad.1 hc⟩ _ _ (by simp)
    · rename_i hc
      rw[w1]
      refine ih (i+1) _ _ (by omega) ?_ ?_ ?_ ?_ ?_ ?_
      rotate_left
      · simp
      · simp
      · simp
      · simp
      · simp
      intro k hk hki
      by_cases e:k=i
      · subst e; exact fun hb=>hc (hbad.2 hb)
      · exact hp k hk (by omega)
  · simp -implicitDefEqProofs[h0,h3,h47,h48,h49,(h.app _).o,hlt,nds_at hlt,nds_min hlt,nds_ge hlt,hk,sl]
    rw[w1]
    refine ih (i+1) _ _ (by omega) ?_ ?_ ?_ ?_ ?_ ?_
    rotate_left
    · simp
    · simp
    · simp
    · simp
    · simp
    intro k hk' hki
    by_cases e:k=i
    · subst e; exact fun hb=>hk hb.1
    · exact hp k hk' (by omega)
set_option maxRecDepth 10000 in
theorem ok110 (h:Wk H j g a b c) (hg:Gd g):Ok Tryz.prog 110 [.ptr (.own j 0 0 0 0) 0] H (.ret (i64 g.setsE)) H:=by
 have hn:=hg.n
 have hi:=hg.i
 have w1:IntKind.i64.wrap ((g.ns.length:Int)-1)=(g.ns.length:Int)-1:=wrap_id (by omega) (by omega)
 refine ok_fn hm Tryz.func110 c110 (by simp[h.lt]) fun hcl => ?_
 simp -implicitDefEqProofs[i110,r110,h.o,(h.app _).o,w1]
 refine⟨by omega,by omega,?_⟩
 have e0:[(⟨List.replicate g.is.length (i64 0),3,0,true⟩:AO)]=ro (fst1 (g.ns.drop g.ns.length) g.ns.length (List.replicate g.is.length 0))::[]:=by
  simp[ro,fst1,ints]
 rw[e0]
 refine loop53_0 h hg (fun env M h0 h3 => ?_) g.ns.length _ _ (Nat.le_refl _) (by simp) (by simp) (by simp)
 simp -implicitDefEqProofs[h0,h3,(h.app _).o]
 have hF:g.firsts.length=g.is.length:=by simp[Gm.firsts]
 refine loop53_1 h hg (fun hb env M h2 => ?_) (fun hb env M h3 => ?_) g.ns.length 0 _ _ (by omega) (by omega) (by simp[h0]) (by simp[h3]) (by simp) (by simp) (by simp)
 · simp -implicitDefEqProofs[h2]
   refine cv_fz 1 hcl rfl ?_
   simp[Gm.setsE,if_pos hb]
 · have hI:∀ M,IsI (H++ro g.firsts::M) (.own H.length 0 g.is.length 1 0) g.firsts:=fun M=>by
    have:=IsI.own0 H (ro g.firsts::M) 0 0 g.firsts [] 3 (by simp[ro])
    rwa [hF]at this
   simp -implicitDefEqProofs[h3]
   refine call_go (ok135 (hI M) (by omega) 0) ?_
   by_cases h0:0∈g.firsts
   · simp -implicitDefEqProofs[h0]
     refine cv_fz 1 hcl rfl ?_
     simp[Gm.setsE,if_neg hb,h0]
   · simp -implicitDefEqProofs[h0,h3]
     refine call_go (ok136 (hI M) (by omega)) ?_
     by_cases h1:Srt g.firsts
     · simp -implicitDefEqProofs[h1]
       refine cv_fz 1 hcl rfl ?_
       simp[Gm.setsE,if_neg hb,h0,h1]
     · simp -implicitDefEqProofs[h1]
       refine cv_fz 1 hcl rfl ?_
       simp[Gm.setsE,if_neg hb,h0,h1]
end
end Go.Proofs.YtogjmpkehjfecaaGreatDoor.Rc
namespace Go.Proofs.YtogjmpkehjfecaaGreatDoor.Rc
open Go.Ab
def Gm.rng (g:Gm):Prop:=((((g.pl<1∨4<g.pl)∨(g.ns.length:Int)<1)∨2000<(g.ns.length:Int))∨200<(g.is.length:Int))
instance (g:Gm):Decidable g.rng:=by unfold Gm.rng; infer_instance
def nodesE (g:Gm):List Nd->Int
 | []=>0
 | x::r=>if x.err g=0 then nodesE g r else x.err g
def Gm.w0 (g:Gm):W3:=⟨List.replicate g.ns.length 0,List.replicate g.ns.length 0,List.replicate g.ns.length 0⟩
def Gm.wk (g:Gm):Option Nat×W3:=walkS g.ns (g.ns.length+1) (-1) 0 0 g.w0
def Gm.err0 (g:Gm):Int:=if g.rng then 2 else if nodesE g g.ns≠0 then nodesE g g.ns else if g.wk.1≠some g.ns.length then 9 else if 40<maxL g.wk.2.D then 5 else 0
def Gm.wp (g:Gm):SV:=.ptr (.slc [i64 g.pl,.slc (nds g.ns) g.ns.length,.slc (infs g.is) g.is.length,sl g.wk.2.P,sl g.wk.2.D,sl g.wk.2.L] 0) 0
def Gm.walked (g:Gm):SV:=if g.err0≠0 then .tup [.val (.pointer none),i64 g.err0]else .tup [g.wp,i64 g.setsE]
def gbox (g:Gm):AO:=⟨[i64 g.pl,.slc (nds g.ns) g.ns.length,.slc (infs g.is) g.is.length],26,0,true⟩
def wbox (g:Gm) (a b c:SV):AO:=⟨[i64 g.pl,.slc (nds g.ns) g.ns.length,.slc (infs g.is) g.is.length,a,b,c],139,0,true⟩
abbrev nl:SV:=.val (.slice none 0 0)
theorem nds_under (n:Nat):∀ l:List Nd,SV.underL n (nds l)=true
 | []=>rfl
 | x::r=>by rw[nds,SV.underL_append,nds_under n r]; simp[Nd.cells,sl]
theorem infs_under (n:Nat):∀ l:List (Int×Int),SV.underL n (infs l)=true
 | []=>rfl
 | x::r=>by simp[infs,infs_under n r]
theorem fz_mapU {n:Nat} {ks:List Nat} {L:List AO} {d:Nat} {l:List SV} (h:SV.underL n l=true):l.map (SV.fz n ks L (d+1))=l:=by
 rw[SV.underL_iff]at h
 conv=>rhs; rw[←List.map_id l]
 exact List.map_congr_left fun x hx=>fz_under (h x hx)
@[simp] theorem fz_nds (n:Nat) (ks:List Nat) (L:List AO) (d:Nat) (l:List Nd):(nds l).map (SV.fz n ks L (d+1))=nds l:=fz_mapU (nds_under n l)
@[simp] theorem fz_infs (n:Nat) (ks:List Nat) (L:List AO) (d:Nat) (l:List (Int×Int)):(infs l).map (SV.fz n ks L (d+1))=infs l:=fz_mapU (infs_under n l)
section
variable {H:List AO} {g:Gm}
theorem wk_box {M:List AO} {a b c:SV}:Wk (H++gbox g::wbox g a b c::M) (H.length+1) g a b c:=⟨by simp[wbox],by simp⟩
set_option maxRecDepth 10000 in
theorem loop31_0 (h1:1≤g.pl) (h4:g.pl≤4) (h5:g.is.length≤200) (hn:g.ns.length≤2000) {N:Nat} {K:XE->Env->List AO->Prop}
 (hret:nodesE g g.ns≠0->∀ env M,env.get 2=.val (.pointer none)->env.get 3=i64 (nodesE g g.ns)->K .ret env (H++gbox g::wbox g nl nl nl::M))
 (hexit:(∀ x∈g.ns,x.err g=0)->nodesE g g.ns=0->∀ env M,env.get 1=.ptr (.own H.length 0 0 0 0) 0->env.get 4=.ptr (.own (H.length+1) 0 0 0 0) 0->K (.exit 0) env (H++gbox g::wbox g nl nl nl::M)) :
 ∀ (n i:Nat) (env:Env) (M:List AO),i+n=g.ns.length->(∀ k (h:k<g.ns.length),k<i->g.ns[k].err g=0)->nodesE g (g.ns.drop i)=nodesE g g.ns →
  env.get 1=.ptr (.own H.length 0 0 0 0) 0->env.get 4=.ptr (.own (H.length+1) 0 0 0 0) 0->env.get 40=.slc (nds g.ns) g.ns.length->env.get 41=i64 g.ns.length->env.get 42=i64 i →
  LI Tryz.prog N drawB l83_0 env (H++gbox g::wbox g nl nl nl::M) K:=by
 intro n
 induction n with
 | zero =>
  intro i env M hi hp hE h1 h4 h40 h41 h42
  refine li_go hm l83_0.eq_1 ?_
  have e:i=g.ns.length:=by omega
  subst e
  simp -implicitDefEqProofs[h41,h42]
  rw[List.drop_length]at hE
  refine hexit ?_ hE.symm _ _ (by simp[h1]) (by simp[h4])
  intro x hx
  obtain⟨k,hk,rfl⟩:=List.getElem_of_mem hx
  exact hp k hk hk
 | succ n ih =>
  intro i env M hi hp hE e1 e4 h40 h41 h42
  refine li_go hm l83_0.eq_1 ?_
  have hlt:i<g.ns.length:=by omega
  have w1:IntKind.i64.wrap ((i:Int)+1)=((i+1:Nat):Int):=wrap_succ (by omega)
  rw[List.drop_eq_getElem_cons hlt,nodesE]at hE
  simp -implicitDefEqProofs[e1,e4,h40,h41,h42,hlt,nds_at hlt,nds_min hlt,nds_ge hlt,sl]
  refine call_go (ok107 (x:=g.ns[i]) (wk_box (g:=g) (a:=nl) (b:=nl) (c:=nl)) h1 h4 h5) ?_
  by_cases hc:g.ns[i].err g=0
  · rw[if_pos hc]at hE
    simp -implicitDefEqProofs[hc,h42]
    rw[w1]
    refine ih (i+1) _ _ (by omega) ?_ hE ?_ ?_ ?_ ?_ ?_
    rotate_left
    · simp[e1]
    · simp[e4]
    · simp[h40]
    · simp[h41]
    · simp
    intro k hk hki
    by_cases e:k=i
    · subst e; exact hc
    · exact hp k hk (by omega)
  · rw[if_neg hc]at hE
    simp -implicitDefEqProofs[hc]
    refine hret ?_ _ _ (by simp) (by simp[hE])
    rw[←hE]; exact hc
theorem nx_of {x:Nd} (h:x.err g=0):x.nx.length≤60:=by
 unfold Nd.err at h
 split at h
 · omega
 · split at h
   · unfold Nd.chance at h
     split at h<;>omega
   · split at h
     · unfold Nd.move at h
       split at h<;>omega
     · unfold Nd.end at h
       split at h<;>omega
theorem upd_rows {M:List AO} {A B x y z:AO} {s:W3} :
 upd (H++A::B::(M++[x,y,z])) (H.length+(M.length+1+1)) (H.length+(M.length+1+1+1)) (H.length+(M.length+1+1+1+1)) s=H++A::B::(M++[rr s.P,rr s.D,rr s.L]):=by
 simp[upd]
set_option maxRecDepth 10000 in
theorem ok83:Ok Tryz.prog 83 [.agg g.cells] H (.ret g.walked) H:=by
 refine ok_fn hm Tryz.func83 c83 (by simp[Gm.cells]) fun hcl => ?_
 simp -implicitDefEqProofs[i83,r83,Gm.cells]
 have hR:g.rng=(((((g.pl<1∨4<g.pl)∨(g.ns.length:Int)<1)∨2000<(g.ns.length:Int))∨200<(g.is.length:Int))):=rfl
 split
 · rename_i hc
   refine cv_fz 2 hcl rfl ?_
   simp[Gm.walked,Gm.err0,hR,hc]
 · rename_i hc
   refine⟨rfl,?_⟩
   have g1:1≤g.pl:=by omega
   have g4:g.pl≤4:=by omega
   have gi:g.is.length≤200:=by omega
   have gn:g.ns.length≤2000:=by omega
   have gn1:1≤g.ns.length:=by omega
   refine loop31_0 (g:=g) g1 g4 gi gn (fun hE env M e2 e3 => ?_) (fun hE hE' env M e1 e4 => ?_) g.ns.length 0 _ [] (by omega) (by omega) (by simp) (by simp) (by simp) (by simp) (by simp) (by simp)
   · simp -implicitDefEqProofs[e2,e3]
     refine cv_fz 2 hcl rfl ?_
     simp[Gm.walked,Gm.err0,hR,hc,hE]
   · have hG:Gd g:=⟨g1,g4,gn1,gn,gi,hE⟩
     simp -implicitDefEqProofs[e1,e4,gbox,wbox]
     refine⟨by omega,by omega,by omega,by omega,by omega,by omega,?_⟩
     have ez:(⟨List.replicate g.ns.length (i64 0),3,1,true⟩:AO)=rr (List.replicate g.ns.length 0):=by simp[rr,ints]
     rw[ez]
     generalize hHx:H++(⟨[i64 g.pl,SV.slc (nds g.ns) g.ns.length,SV.slc (infs g.is) g.is.length],26,0,true⟩:AO)::(⟨[i64 g.pl,SV.slc (nds g.ns) g.ns.length,SV.slc (infs g.is) g.is.length,
      SV.own (H.length+(M.length+1+1)) 0 g.ns.length 1 1,SV.own (H.length+(M.length+1+1+1)) 0 g.ns.length 1 1,SV.own (H.length+(M.length+1+1+1+1)) 0 g.ns.length 1 1],139,0,true⟩:AO) ::
       (M++[rr (List.replicate g.ns.length 0),rr (List.replicate g.ns.length 0),rr (List.replicate g.ns.length 0)])=Hx
     have hup:∀ s,upd Hx (H.length+(M.length+1+1)) (H.length+(M.length+1+1+1)) (H.length+(M.length+1+1+1+1)) s =
      H++gbox g::wbox g (.own (H.length+(M.length+1+1)) 0 g.ns.length 1 1) (.own (H.length+(M.length+1+1+1)) 0 g.ns.length 1 1) (.own (H.length+(M.length+1+1+1+1)) 0 g.ns.length 1 1)::(M++[rr s.P,rr s.D,rr s.L]) :=
      fun s=>by rw[←hHx]; exact upd_rows
     have h0:upd Hx (H.length+(M.length+1+1)) (H.length+(M.length+1+1+1)) (H.length+(M.length+1+1+1+1)) g.w0=Hx:=by rw[hup,<- hHx]; rfl
     have hWh:Wh Hx (H.length+1) g (H.length+(M.length+1+1)) (H.length+(M.length+1+1+1)) (H.length+(M.length+1+1+1+1)):=by
      refine⟨⟨by rw[←hHx]; simp,by rw[←hHx]; simp⟩,⟨by omega,by omega,by rw[←hHx]; simp⟩,by omega,by omega,by omega,gn,fun x hx => ?_⟩
      have:=nx_of (hE x hx); omega
     have ok:=ok108 hWh (g.ns.length+1) (-1) 0 0 g.w0 (by omega) (by omega) (by omega) (by omega) ⟨by simp[Gm.w0],by simp[Gm.w0],by simp[Gm.w0]⟩
     have hwok:=walkS_ok (ns:=g.ns) (g.ns.length+1) (-1) 0 0 g.w0 ⟨by simp[Gm.w0],by simp[Gm.w0],by simp[Gm.w0]⟩
     rw[h0]at ok
     refine call_go ok ?_
     have hW:walkS g.ns (g.ns.length+1) (-1) 0 0 g.w0=g.wk:=rfl
     rw[hW]at hwok ⊢
     have hwp:g.walked=if(if g.wk.1≠some g.ns.length then(9:Int)else if 40<maxL g.wk.2.D then 5 else 0)≠0 then .tup [.val (.pointer none),i64 (if g.wk.1≠some g.ns.length then(9:Int)else if 40<maxL g.wk.2.D then 5 else 0)]else .tup [g.wp,i64 g.setsE]:=by
      unfold Gm.walked Gm.err0
      rw[if_neg (show ¬ g.rng by rw[hR]; exact hc),if_neg (show ¬ nodesE g g.ns≠0 by simpa using hE')]
     cases hk:g.wk.1 with
     | none =>
      rw[hk]at hwp
      simp -implicitDefEqProofs[resW]
      rw[hup]
      refine cv_fz 2 hcl rfl ?_
      rw[hwp]; simp
     | some r =>
      rw[hk]at hwp hwok
      have hr:=hwok.2 r rfl
      by_cases hrn:r=g.ns.length
      · subst hrn
        simp -implicitDefEqProofs[resW,nds,e1,e4,hWh.cells]
        have hI:IsI (upd Hx (H.length+(M.length+1+1)) (H.length+(M.length+1+1+1)) (H.length+(M.length+1+1+1+1)) g.wk.2) (.own (H.length+(M.length+1+1+1)) 0 g.ns.length 1 1) g.wk.2.D:=by
         rw[hup]
         have:=IsI.own0 H (gbox g::wbox g (.own (H.length+(M.length+1+1)) 0 g.ns.length 1 1) (.own (H.length+(M.length+1+1+1)) 0 g.ns.length 1 1) (.own (H.length+(M.length+1+1+1+1)) 0 g.ns.length 1 1)::(M++[rr g.wk.2.P,rr g.wk.2.D,rr g.wk.2.L])) (M.length+1+1+1) 1 g.wk.2.D [] 3 (by simp[rr])
         rwa [hwok.1.2.1]at this
        refine call_go (ok109 hI (by rw[hwok.1.2.1]; omega) (by rw[hwok.1.2.1]; omega)) ?_
        by_cases hm40:40<maxL g.wk.2.D
        · simp -implicitDefEqProofs[hm40]
          rw[hup]
          refine cv_fz 2 hcl rfl ?_
          rw[hwp]; simp[hm40]
        · simp -implicitDefEqProofs[hm40,e1,e4]
          have hWk:Wk (upd Hx (H.length+(M.length+1+1)) (H.length+(M.length+1+1+1)) (H.length+(M.length+1+1+1+1)) g.wk.2) (H.length+1) g _ _ _:=⟨hWh.cells _,by rw[upd_len]; exact hWh.w.lt⟩
          refine call_go (ok110 hWk hG) ?_
          simp -implicitDefEqProofs
          rw[hup]
          refine cv_fz 4 hcl rfl ?_
          rw[hwp]
          have k1:=hwok.1.1
          have k2:=hwok.1.2.1
          have k3:=hwok.1.2.2
          simp[hm40,gbox,wbox,rr,Gm.wp,sl,k1,k2,k3]
      · simp -implicitDefEqProofs[resW,show ¬ g.ns.length-r=0 by omega,show 0<g.ns.length-r by omega]
        rw[hup]
        refine cv_fz 2 hcl rfl ?_
        rw[hwp]; simp[hrn]
end
end Go.Proofs.YtogjmpkehjfecaaGreatDoor.Rc
namespace Go.Proofs.YtogjmpkehjfecaaGreatDoor.Rc
open Go.Ab
def kidsR (w:Nat->Int->Option Nat×Int):List Int->Nat->Int->Option Nat×Int
 | [],r,m=>(some r,m)
 | c::cs,r,m=>if c=r then(match w r m with | (none,m)=>(none,m) | (some r,m)=>kidsR w cs r m)else(none,m)
def walkR (ns:List Nd):Nat->Int->Nat->Int->Option Nat×Int
 | 0,_,_,m=>(none,m)
 | f+1,dep,k,m =>
  match ns[k]? with
  | none=>(none,m)
  | some x=>kidsR (walkR ns f (dep+1)) x.nx (k+1) (max m dep)
theorem kidsR_ok {n:Nat} {w:Nat->Int->Option Nat×Int} (hw:∀ r m r',(w r m).1=some r'->r<r'∧r'≤n) :
 ∀ (l:List Int) (r:Nat) (m:Int),r≤n->∀ r',(kidsR w l r m).1=some r'->r≤r'∧r'≤n
 | [],r,m,hn=>fun r' h=>by simp[kidsR]at h; omega
 | c::cs,r,m,hn=>by
  unfold kidsR
  by_cases hc:c=r
  · rw[if_pos hc]
    have h:=hw r m
    cases hh:w r m with
    | mk o m1 =>
     rw[hh]at h
     cases o with
     | none=>exact fun r' h'=>by simp at h'
     | some r1 =>
      have h1:=h r1 rfl
      have h2:=kidsR_ok hw cs r1 m1 h1.2
      exact fun r' h'=>by have:=h2 r' h'; omega
  · rw[if_neg hc]
    exact fun r' h=>by simp at h
theorem walkR_ok {ns:List Nd}:∀ (f:Nat) (dep:Int) (k:Nat) (m:Int) (r:Nat),(walkR ns f dep k m).1=some r->k<r∧r≤ns.length
 | 0,dep,k,m=>fun r h=>by simp[walkR]at h
 | f+1,dep,k,m=>by
  unfold walkR
  cases hk:ns[k]? with
  | none=>exact fun r h=>by simp at h
  | some x =>
   have hlt:=getElem?_lt hk
   intro r h
   have:=kidsR_ok (n:=ns.length) (w:=walkR ns f (dep+1)) (fun r m r' h=>walkR_ok f (dep+1) r m r' h) x.nx (k+1) (max m dep) (by omega) r h
   omega
def upq (H:List AO) (q:Nat) (m:Int):List AO:=H.set q ⟨[i64 m],3,0,true⟩
def resR:Option Nat->Int
 | none => -1
 | some r=>r
section
variable {H L:List AO} {g:Gm} {q j:Nat} {m m':Int}
theorem upq_len:(upq H q m).length=H.length:=by simp[upq]
theorem upq_app (h:q<H.length):upq (H++L) q m=upq H q m++L:=by
 unfold upq; rw[List.set_append_left _ _ h]
theorem upq_get (h:q<H.length):(upq H q m)[q]? = some ⟨[i64 m],3,0,true⟩:=by unfold upq; rw[List.getElem?_set_self h]
theorem upq_c (h:q<H.length):objCells (upq H q m) q 0=[i64 m]:=objCells_of (o:=⟨[i64 m],3,0,true⟩) (upq_get h) rfl
theorem upq_cA (h:q<H.length):objCells (upq H q m++L) q 0=[i64 m]:=by rw[objCells_app L (by rw[upq_len]; exact h),upq_c h]
theorem upq_sA (h:q<H.length) (f:AO->AO) (hf:f ⟨[i64 m],3,0,true⟩=⟨[i64 m'],3,0,true⟩):Ab.setObj (upq H q m++L) q f=upq H q m'++L:=by
 rw[setObj_some (o:=⟨[i64 m],3,0,true⟩) (by rw[List.getElem?_append_left (by rw[upq_len]; exact h)]; exact upq_get h),hf]
 unfold upq
 rw[List.set_append_left _ _ (by simpa using h),List.set_set]
theorem upq_closed (h:closed (upq H q m)):closed (upq H q m'):=by
 intro i o ho s hs
 by_cases e:i=q
 · subst e
   unfold upq at ho
   rw[List.getElem?_set]at ho
   simp only[if_true]at ho
   split at ho
   · cases ho
     simp only[List.mem_singleton]at hs
     subst hs; rfl
   · cases ho
 · unfold upq at ho
   rw[List.getElem?_set_ne (fun h=>e h.symm)]at ho
   have:=h i o (by unfold upq; rw[List.getElem?_set_ne (fun h=>e h.symm)]; exact ho) s hs
   simpa[upq_len]using this
theorem nds_get {l:List Nd} {k t:Nat} (h:k<l.length) (ht:t<6):(nds l)[k*6+t]? = l[k].cells[t]? := by
 rw[←List.getElem?_drop,Nat.mul_comm,nds_drop' h,List.getElem?_append_left (by simpa[Nd.cells]using ht)]
theorem nds_g3 {l:List Nd} {k:Nat} (h:k<l.length):(nds l)[k*6+3]? = some (.slc (ints l[k].nx) l[k].nx.length):=by rw[nds_get h (by omega)]; rfl
set_option maxRecDepth 10000 in
theorem loop70 (hq:q<H.length) {x:Nd} {dep:Int} {k:Nat} {w:Nat->Int->Option Nat×Int} {R:Option Nat×Int} (hd0:0≤dep) (hd1:dep≤k) (hk:k<g.ns.length) (hx:x=g.ns[k]) (hn:g.ns.length≤2000) (hnx:x.nx.length<4611686018427387904)
 (hok:∀ r m,k+1≤r->r≤g.ns.length->Ok Tryz.prog 65 [.agg g.cells,i64 r,i64 (dep+1),.ptr (.own q 0 0 0 0) 0] (upq H q m++[gbox g]) (.ret (i64 (resR (w r m).1))) (upq H q (w r m).2++[gbox g]))
 (hw:∀ r m r',(w r m).1=some r'->r<r'∧r'≤g.ns.length)
 {N:Nat} {K:XE->Env->List AO->Prop}
 (hret:R.1=none->∀ env,env.get 8=i64 (-1)->K .ret env (upq H q R.2++[gbox g]))
 (hexit:∀ r',R.1=some r'->∀ env,env.get 9=i64 r'->K (.exit 0) env (upq H q R.2++[gbox g])) :
 ∀ (n i r:Nat) (m:Int) (env:Env),i+n=x.nx.length->k+1≤r->r≤g.ns.length->kidsR w (x.nx.drop i) r m=R →
  env.get 1=i64 k->env.get 2=i64 dep->env.get 3=.ptr (.own q 0 0 0 0) 0->env.get 4=.ptr (.own H.length 0 0 0 0) 0->env.get 9=i64 r->env.get 10=i64 i →
  LI Tryz.prog N drawB l65_0 env (upq H q m++[gbox g]) K:=by
 subst hx
 have hgb:∀ m,objCells (upq H q m++[gbox g]) H.length 0=[i64 g.pl,.slc (nds g.ns) g.ns.length,.slc (infs g.is) g.is.length]:=fun m=>by
  have:=objCells_new0 (upq H q m) [gbox g] 0
  rw[upq_len]at this
  rw[this]; rfl
 intro n
 induction n with
 | zero =>
  intro i r m env hi hr hrn hR h1 h2 h3 h4 h9 h10
  refine li_go hm l65_0.eq_1 ?_
  have e:i=g.ns[k].nx.length:=by omega
  subst e
  simp -implicitDefEqProofs[h1,h4,h9,h10,hgb,hk,nds_g3 hk,nds_len]
  refine⟨by omega,?_⟩
  rw[List.drop_length]at hR
  subst hR
  exact hexit r rfl _ (by simp)
 | succ n ih =>
  intro i r m env hi hr hrn hR h1 h2 h3 h4 h9 h10
  refine li_go hm l65_0.eq_1 ?_
  have hlt:i<g.ns[k].nx.length:=by omega
  have w2:IntKind.i64.wrap (dep+1)=dep+1:=wrap_id (by omega) (by omega)
  rw[List.drop_eq_getElem_cons hlt]at hR
  unfold kidsR at hR
  by_cases hc:g.ns[k].nx[i]=r
  · rw[if_pos hc]at hR
    simp -implicitDefEqProofs[h1,h2,h3,h4,h9,h10,hlt,hgb,hk,nds_g3 hk,nds_len,hc,w2]
    refine⟨by omega,by omega,call_go (hok r m hr hrn) ?_⟩
    have hw1:=hw r m
    cases hh:w r m with
    | mk o m1 =>
     rw[hh]at hw1 hR
     cases o with
     | none =>
      subst hR
      simp -implicitDefEqProofs[resR]
      exact hret rfl _ (by simp)
     | some r1 =>
      have h1':=hw1 r1 rfl
      simp -implicitDefEqProofs[resR,h10]
      refine ih (i+1) r1 m1 _ (by omega) (by omega) h1'.2 hR ?_ ?_ ?_ ?_ ?_ ?_
      · simp[h1]
      · simp[h2]
      · simp[h3]
      · simp[h4]
      · simp
      · simp[wrap_suc (show i<9223372036854775807 by omega)]
  · rw[if_neg hc]at hR
    subst hR
    simp -implicitDefEqProofs[h1,h2,h3,h4,h9,h10,hlt,hgb,hk,nds_g3 hk,nds_len,hc]
    refine⟨by omega,by omega,?_⟩
    exact hret rfl _ (by simp)
set_option maxRecDepth 10000 in
theorem ok65 (hn:g.ns.length≤2000) (hnx:∀ x∈g.ns,x.nx.length<4611686018427387904):∀ (f:Nat) (H:List AO) (dep:Int) (k:Nat) (m:Int),q<H.length->k≤g.ns.length->g.ns.length+1≤k+f->0≤dep->dep≤k →
 Ok Tryz.prog 65 [.agg g.cells,i64 k,i64 dep,.ptr (.own q 0 0 0 0) 0] (upq H q m) (.ret (i64 (resR (walkR g.ns f dep k m).1))) (upq H q (walkR g.ns f dep k m).2):=by
 intro f
 induction f with
 | zero=>intro H dep k m hq h1 h2; omega
 | succ f ih =>
  intro H dep k m hq hk hf hd0 hd1
  refine ok_fn hm Tryz.func65 c65 (by simp[Gm.cells]) fun hcl => ?_
  have hw:∀ m,objCells (upq H q m++[gbox g]) q 0=[i64 m]:=fun m=>upq_cA hq
  by_cases hk':k=g.ns.length
  · subst hk'
    have e:walkR g.ns (f+1) dep g.ns.length m=(none,m):=by simp[walkR]
    rw[e]
    simp -implicitDefEqProofs[i65,r65,Gm.cells]
    refine cv_fz 1 hcl rfl ?_
    simp[resR]
  · have hlt:k<g.ns.length:=by omega
    have w1:IntKind.i64.wrap ((k:Int)+1)=((k+1:Nat):Int):=wrap_succ (by omega)
    simp -implicitDefEqProofs[i65,r65,Gm.cells,hlt,upq_cA hq,show ¬ g.ns.length≤k by omega,w1]
    have hget:g.ns[k]? = some g.ns[k]:=List.getElem?_eq_getElem hlt
    have e:walkR g.ns (f+1) dep k m=kidsR (walkR g.ns f (dep+1)) g.ns[k].nx (k+1) (max m dep):=by rw[walkR,hget]
    rw[e,upq_sA (m':=max m dep) hq _ (by rfl)]
    refine loop70 (q:=q) (g:=g) hq (x:=g.ns[k]) (dep:=dep) (k:=k) (w:=walkR g.ns f (dep+1)) (R:=kidsR (walkR g.ns f (dep+1)) g.ns[k].nx (k+1) (max m dep)) hd0 hd1 hlt rfl hn (hnx _ (List.getElem_mem hlt))
     (fun r m hr hrn => ?_) (fun r m r' h=>walkR_ok f (dep+1) r m r' h) (fun hR env h8 => ?_) (fun r' hR env h9 => ?_)
     g.ns[k].nx.length 0 (k+1) (max m dep) _ (by omega) (by omega) (by omega) (by simp) (by simp) (by simp) (by simp) (by simp[upq_len]) (by simp) (by simp)
    · rw[←upq_app hq,<- upq_app hq]
      exact ih (H++[gbox g]) (dep+1) r m (by simp; omega) hrn (by omega) (by omega) (by omega)
    · simp -implicitDefEqProofs[h8]
      rw[hR]
      exact cv_fz 1 (upq_closed hcl) (by rw[upq_len,upq_len]) (by simp[resR])
    · simp -implicitDefEqProofs[h9]
      rw[hR]
      exact cv_fz 1 (upq_closed hcl) (by rw[upq_len,upq_len]) (by simp[resR])
end
end Go.Proofs.YtogjmpkehjfecaaGreatDoor.Rc
namespace Go.Proofs.YtogjmpkehjfecaaGreatDoor.Rc
open Go.Ab
def slN (l:List Int):SV:=if l=[]then nl else sl l
structure Fam (b:Nat) (L:List AO) (A:List (List Int)) (cs:List SV):Prop where
 len:cs.length=A.length
 at':∀ s (h:s<A.length),(A[s]=[]∧cs[s]? = some nl)∨(A[s]≠[]∧∃ p,cs[s]? = some (.own (b+p) 0 A[s].length 1 A[s].length)∧L[p]? = some ⟨ints A[s],3,A[s].length,true⟩)
 inj:∀ (s t p m n v w:Nat),s≠t->cs[s]? = some (.own (b+p) 0 m 1 v)->cs[t]? = some (.own (b+p) 0 n 1 w)->False
section
variable {b:Nat} {L L':List AO} {A:List (List Int)} {cs:List SV} {s:Nat} {i:Int}
theorem Fam.zero (b:Nat) (L:List AO) (n:Nat):Fam b L (List.replicate n []) (List.replicate n nl):=by
 refine⟨by simp,fun s h=>.inl ?_,fun s t p m n v w hst h1 h2 => ?_⟩
 · simp at h; simp[h]
 · rw[List.getElem?_replicate]at h1
   split at h1<;>cases h1
theorem Fam.mono (h:Fam b L A cs) (L':List AO):Fam b (L++L') A cs:=by
 refine⟨h.len,fun s hs => ?_,h.inj⟩
 rcases h.at' s hs with h1 | ⟨h1,p,h2,h3⟩
 · exact .inl h1
 · exact .inr ⟨h1,p,h2,by rw[List.getElem?_append_left (getElem?_lt h3)]; exact h3⟩
theorem Fam.new (h:Fam b L A cs) (hs:s<A.length) (he:A[s]=[]):Fam b (L++[⟨ints [i],3,1,true⟩]) (A.set s [i]) (cs.set s (.own (b+L.length) 0 1 1 1)):=by
 have hl:=h.len
 have hnew:∀ t (n w:Nat),t<A.length->cs[t]? = some (.own (b+L.length) 0 n 1 w)->False:=by
  intro t n w ht hc
  rcases h.at' t ht with ⟨_,h1⟩ | ⟨_,p,h2,h3⟩
  · rw[h1]at hc; cases hc
  · rw[h2]at hc
    have hp:=getElem?_lt h3
    simp only[Option.some.injEq,SV.own.injEq]at hc
    omega
 refine⟨by simp[hl],fun t ht => ?_,fun t u p m n v w htu h1 h2 => ?_⟩
 · by_cases e:s=t
   · subst e
     refine .inr ⟨by simp,L.length,?_,by simp⟩
     rw[List.getElem?_set_self (by omega)]; simp
   · have ht':t<A.length:=by simpa using ht
     rw[List.getElem?_set_ne e]
     simp only[List.getElem_set_ne e]
     rcases h.at' t ht' with h1 | ⟨h1,p,h2,h3⟩
     · exact .inl h1
     · exact .inr ⟨h1,p,h2,by rw[List.getElem?_append_left (getElem?_lt h3)]; exact h3⟩
 · by_cases e:s=t
   · subst e
     rw[List.getElem?_set_self (by omega)]at h1
     rw[List.getElem?_set_ne htu]at h2
     have hu:u<A.length:=by have:=getElem?_lt h2; omega
     simp only[Option.some.injEq,SV.own.injEq]at h1
     have:p=L.length:=by omega
     subst this
     exact hnew u _ _ hu h2
   · rw[List.getElem?_set_ne e]at h1
     by_cases e':s=u
     · subst e'
       rw[List.getElem?_set_self (by omega)]at h2
       have ht:t<A.length:=by have:=getElem?_lt h1; omega
       simp only[Option.some.injEq,SV.own.injEq]at h2
       have:p=L.length:=by omega
       subst this
       exact hnew t _ _ ht h1
     · rw[List.getElem?_set_ne e']at h2
       exact h.inj t u p m n v w htu h1 h2
theorem Fam.grow (h:Fam b L A cs) (hs:s<A.length) {p:Nat} (hc:cs[s]? = some (.own (b+p) 0 A[s].length 1 A[s].length)) (hp:L[p]? = some ⟨ints A[s],3,A[s].length,true⟩) :
 Fam b (L.set p ⟨ints (A[s]++[i]),3,A[s].length+1,true⟩) (A.set s (A[s]++[i])) (cs.set s (.own (b+p) 0 (A[s].length+1) 1 (A[s].length+1))):=by
 have hl:=h.len
 have hpl:=getElem?_lt hp
 refine⟨by simp[hl],fun t ht => ?_,fun t u q m n v w htu h1 h2 => ?_⟩
 · by_cases e:s=t
   · subst e
     refine .inr ⟨by simp,p,?_,?_⟩
     · rw[List.getElem?_set_self (by omega)]; simp
     · rw[List.getElem?_set_self hpl]; simp
   · have ht':t<A.length:=by simpa using ht
     rw[List.getElem?_set_ne e]
     simp only[List.getElem_set_ne e]
     rcases h.at' t ht' with h1 | ⟨h1,q,h2,h3⟩
     · exact .inl h1
     · refine .inr ⟨h1,q,h2,?_⟩
       rw[List.getElem?_set_ne (fun hqp => ?_)]; exact h3
       subst hqp
       exact h.inj s t p _ _ _ _ e hc h2
 · by_cases e:s=t
   · subst e
     rw[List.getElem?_set_self (by omega)]at h1
     rw[List.getElem?_set_ne htu]at h2
     simp only[Option.some.injEq,SV.own.injEq]at h1
     have:q=p:=by omega
     subst this
     exact h.inj s u q _ _ _ _ htu hc h2
   · rw[List.getElem?_set_ne e]at h1
     by_cases e':s=u
     · subst e'
       rw[List.getElem?_set_self (by omega)]at h2
       simp only[Option.some.injEq,SV.own.injEq]at h2
       have:q=p:=by omega
       subst this
       exact h.inj s t q _ _ _ _ (fun h=>e h) hc h1
     · rw[List.getElem?_set_ne e']at h2
       exact h.inj t u q m n v w htu h1 h2
theorem Fam.fz (h:Fam b L A cs) {n k d:Nat} {F:List AO} (hb:b=n+k) (hF:∀ p,F[k+p]? = L[p]?):cs.map (SV.fz n [] F (d+2))=A.map slN:=by
 apply List.ext_getElem?
 intro s
 rw[List.getElem?_map,List.getElem?_map]
 by_cases hs:s<A.length
 · rw[List.getElem?_eq_getElem hs]
   rcases h.at' s hs with ⟨h1,h2⟩ | ⟨h1,p,h2,h3⟩
   · rw[h2]; simp[slN,h1,nl]
   · rw[h2]
     have e:b+p=n+(k+p):=by omega
     simp only[Option.map_some,slN,if_neg h1,sl,e,fz_own,hF,h3,placeOf]
     simp
 · have h1:=h.len
   rw[List.getElem?_eq_none (by omega),List.getElem?_eq_none (by omega)]
   rfl
end
def setsA:List Nd->Nat->List (List Int)->List (List Int)
 | [],_,A=>A
 | x::r,o,A=>setsA r (o+1) (if x.k=2 then A.set x.i.toNat (A.getD x.i.toNat []++[(o:Int)])else A)
def Gm.sets (g:Gm):List (List Int):=setsA g.ns 0 (List.replicate g.is.length [])
section
variable {H:List AO} {g:Gm}
set_option maxRecDepth 10000 in
theorem loop71 (hg:Gd g) {N:Nat} {K:XE->Env->List AO->Prop}
 (hexit:∀ env M cs,Fam (H.length+2) M g.sets cs->env.get 3=.own (H.length+1) 0 g.is.length 1 0->K (.exit 0) env (H++gbox g::⟨cs,45,0,true⟩::M)) :
 ∀ (n i:Nat) (env:Env) (M:List AO) (A:List (List Int)) (cs:List SV),i+n=g.ns.length->A.length=g.is.length->(∀ s (h:s<A.length),A[s].length≤i)->Fam (H.length+2) M A cs->setsA (g.ns.drop i) i A=g.sets →
  env.get 1=.ptr (.own H.length 0 0 0 0) 0->env.get 3=.own (H.length+1) 0 g.is.length 1 0->env.get 4=i64 i →
  LI Tryz.prog N drawB l66_0 env (H++gbox g::⟨cs,45,0,true⟩::M) K:=by
 have hgn:=hg.n
 intro n
 induction n with
 | zero =>
  intro i env M A cs hi hA hAl hF hS h1 h3 h4
  refine li_go hm l66_0.eq_1 ?_
  have e:i=g.ns.length:=by omega
  subst e
  rw[List.drop_length]at hS
  subst hS
  simp -implicitDefEqProofs[h1,h3,h4,gbox]
  exact hexit _ _ _ hF (by simp[h3])
 | succ n ih =>
  intro i env M A cs hi hA hAl hF hS h1 h3 h4
  refine li_go hm l66_0.eq_1 ?_
  have hlt:i<g.ns.length:=by omega
  have hx:g.ns[i]∈g.ns:=List.getElem_mem hlt
  have w1:IntKind.i64.wrap ((i:Int)+1)=((i+1:Nat):Int):=wrap_succ (by omega)
  rw[List.drop_eq_getElem_cons hlt,setsA]at hS
  by_cases hk:g.ns[i].k=2
  · have hb:=hg.inf hx hk
    have hs:g.ns[i].i.toNat<A.length:=by omega
    have hcl:=hF.len
    rw[if_pos hk,List.getD_eq_getElem?_getD,List.getElem?_eq_getElem hs,Option.getD_some]at hS
    have eset:∀ v:SV,List.take g.ns[i].i.toNat cs++v::List.drop (g.ns[i].i.toNat+1) cs=cs.set g.ns[i].i.toNat v:=fun v=>by
     rw[List.set_eq_take_append_cons_drop,if_pos (by omega)]
    have hAl':∀ v:List Int,v.length≤i+1->∀ s (h:s<(A.set g.ns[i].i.toNat v).length),(A.set g.ns[i].i.toNat v)[s].length≤i+1:=fun v hv s h=>by
     by_cases e:g.ns[i].i.toNat=s
     · subst e; simpa using hv
     · rw[List.getElem_set_ne e]
       have:=hAl s (by simpa using h); omega
    rcases hF.at' _ hs with ⟨k1,k2⟩ | ⟨k1,p,k2,k3⟩
    · simp -implicitDefEqProofs[h1,h3,h4,gbox,hlt,nds_at hlt,nds_min hlt,nds_ge hlt,hk,sl,k2]
      refine⟨by omega,by omega,by omega,by omega,?_⟩
      have hF':∀ x y:AO,Fam (H.length+2) (M++[x,y,⟨[i64 i],3,1,true⟩]) (A.set g.ns[i].i.toNat [(i:Int)]) (cs.set g.ns[i].i.toNat (.own (H.length+(M.length+4)) 0 1 1 1)):=fun x y=>by
       have:=(hF.mono [x,y]).new (i:=(i:Int)) hs k1
       rw[show H.length+2+(M++[x,y]).length=H.length+(M.length+4)by simp; omega]at this
       simpa[ints]using this
      rw[k1,List.nil_append]at hS
      rw[eset,w1]
      refine ih (i+1) _ _ _ _ (by omega) (by simp[hA]) (hAl' _ (by simp)) (hF' _ _) hS ?_ ?_ ?_
      · simp
      · simp
      · simp
    · rw[show H.length+2+p=H.length+(p+1+1)by omega]at k2
      have hp:=getElem?_lt k3
      have hle:=hAl _ hs
      simp -implicitDefEqProofs[h1,h3,h4,gbox,hlt,nds_at hlt,nds_min hlt,nds_ge hlt,hk,sl,k2,setObj_old k3,objCells_set0,objCells_setk,objIs_old k3]
      refine⟨by omega,by omega,by omega,by omega,by omega,by omega,?_⟩
      have hF':∀ x y:AO,Fam (H.length+2) (M.set p ⟨ints A[g.ns[i].i.toNat]++[i64 i],3,A[g.ns[i].i.toNat].length+1,true⟩++[x,y]) (A.set g.ns[i].i.toNat (A[g.ns[i].i.toNat]++[(i:Int)]))
       (cs.set g.ns[i].i.toNat (.own (H.length+(p+1+1)) 0 (A[g.ns[i].i.toNat].length+1) 1 (A[g.ns[i].i.toNat].length+1))):=fun x y=>by
       rw[show H.length+(p+1+1)=H.length+2+p by omega]at k2 ⊢
       have:=(hF.grow (i:=(i:Int)) hs k2 k3).mono [x,y]
       simpa[ints]using this
      rw[eset,w1]
      refine ih (i+1) _ _ _ _ (by omega) (by simp[hA]) (hAl' _ (by simp; omega)) (hF' _ _) hS ?_ ?_ ?_
      · simp
      · simp
      · simp
  · simp -implicitDefEqProofs[h1,h3,h4,gbox,hlt,nds_at hlt,nds_min hlt,nds_ge hlt,hk,sl]
    rw[if_neg hk]at hS
    rw[w1]
    refine ih (i+1) _ _ A cs (by omega) hA (fun s h=>by have:=hAl s h; omega) (hF.mono _) hS ?_ ?_ ?_
    · simp
    · simp
    · simp
theorem setsA_len:∀ (l:List Nd) (o:Nat) (A:List (List Int)),(setsA l o A).length=A.length
 | [],o,A=>rfl
 | x::r,o,A=>by rw[setsA,setsA_len r]; split<;>simp
theorem sets_len:g.sets.length=g.is.length:=by simp[Gm.sets,setsA_len]
set_option maxRecDepth 10000 in
theorem ok66 (hg:Gd g):Ok Tryz.prog 66 [.agg g.cells] H (.ret (.slc (g.sets.map slN) g.is.length)) H:=by
 have hn:=hg.n
 have hi:=hg.i
 refine ok_fn hm Tryz.func66 c66 (by simp) fun hcl => ?_
 simp -implicitDefEqProofs[i66,r66,Gm.cells]
 refine⟨by omega,by omega,?_⟩
 refine loop71 (g:=g) hg (fun env M cs hF h3 => ?_) g.ns.length 0 _ [] (List.replicate g.is.length []) (List.replicate g.is.length nl) (by omega) (by simp) (by simp) (Fam.zero _ _ _) (by simp[Gm.sets]) (by simp) (by simp) (by simp)
 simp -implicitDefEqProofs[h3]
 refine cv_fz 4 hcl rfl ?_
 have hl:=hF.len
 rw[sets_len]at hl
 have:=hF.fz (n:=H.length) (k:=2) (d:=1) (F:=gbox g::(⟨cs,45,0,true⟩:AO)::M) rfl (fun p=>by rw[show 2+p=p+1+1 by omega]; simp)
 simp[hl,this]
 exact List.take_of_length_le (by simp[sets_len])
end
end Go.Proofs.YtogjmpkehjfecaaGreatDoor.Rc
namespace Go.Proofs.YtogjmpkehjfecaaGreatDoor.Rc
open Go.Ab
def Gm.wr (g:Gm):Option Nat×Int:=walkR g.ns (g.ns.length+1) 0 0 0
def SrtS (A:List (List Int)):Prop:=∀ k,k<A.length-1->¬ (A.getD (k+1) []).getD 0 0<(A.getD k []).getD 0 0
instance (A:List (List Int)):Decidable (SrtS A):=by unfold SrtS; infer_instance
def Gm.setsR (g:Gm):Int:=if ∃ x∈g.ns,x.tyBad g then 10 else if []∈g.sets then 18 else if SrtS g.sets then 0 else 9
def Gm.formR (g:Gm):Int:=if g.rng then 2 else if nodesE g g.ns≠0 then nodesE g g.ns else if g.wr.1≠some g.ns.length then 9 else if 40<g.wr.2 then 5 else g.setsR
theorem infs_g1 {l:List (Int×Int)} {k:Nat} (h:k<l.length):(infs l)[k*2+1]? = some (i64 l[k].2):=by
 rw[←List.getElem?_drop,infs_at h]; rfl
theorem infs_g0 {l:List (Int×Int)} {k:Nat} (h:k<l.length):(infs l)[k*2]? = some (i64 l[k].1):=by
 rw[show k*2=k*2+0 by omega,<- List.getElem?_drop,infs_at h]; rfl
theorem bad_iff {g:Gm} {x:Nd} (hk:x.k=2) (hb:x.i.toNat<g.is.length):(¬g.is[x.i.toNat].fst=x.p∨¬g.is[x.i.toNat].snd=(x.nx.length:Int))↔x.tyBad g:=by
 unfold Nd.tyBad
 rw[List.getElem?_eq_getElem hb]
 simp only[hk,true_and,ne_eq,Option.some.injEq]
 rw[←Prod.eta g.is[x.i.toNat],Prod.mk.injEq]
 constructor
 · rintro(h | h) ⟨h1,h2⟩
   · exact h h1
   · exact h h2
 · intro h
   by_cases h1:g.is[x.i.toNat].fst=x.p
   · exact .inr fun h2=>h ⟨h1,h2⟩
   · exact .inl h1
section
variable {H:List AO} {g:Gm}
set_option maxRecDepth 10000 in
theorem loop8_0 (g1:1≤g.pl) (g4:g.pl≤4) (g5:g.is.length≤200) (hn:g.ns.length≤2000) {N:Nat} {K:XE->Env->List AO->Prop}
 (hret:nodesE g g.ns≠0->∀ env,env.get 2=i64 (nodesE g g.ns)->K .ret env (H++[gbox g]))
 (hexit:(∀ x∈g.ns,x.err g=0)->nodesE g g.ns=0->∀ env,env.get 1=.ptr (.own H.length 0 0 0 0) 0->K (.exit 0) env (H++[gbox g])) :
 ∀ (n i:Nat) (env:Env),i+n=g.ns.length->(∀ k (h:k<g.ns.length),k<i->g.ns[k].err g=0)->nodesE g (g.ns.drop i)=nodesE g g.ns →
  env.get 1=.ptr (.own H.length 0 0 0 0) 0->env.get 3=i64 i →
  LI Tryz.prog N drawB l37_0 env (H++[gbox g]) K:=by
 intro n
 induction n with
 | zero =>
  intro i env hi hp hE e1 e3
  refine li_go hm l37_0.eq_1 ?_
  have e:i=g.ns.length:=by omega
  subst e
  simp -implicitDefEqProofs[e1,e3,gbox]
  rw[List.drop_length]at hE
  refine hexit ?_ hE.symm _ (by simp[e1])
  intro x hx
  obtain⟨k,hk,rfl⟩:=List.getElem_of_mem hx
  exact hp k hk hk
 | succ n ih =>
  intro i env hi hp hE e1 e3
  refine li_go hm l37_0.eq_1 ?_
  have hlt:i<g.ns.length:=by omega
  have w1:IntKind.i64.wrap ((i:Int)+1)=((i+1:Nat):Int):=wrap_succ (by omega)
  rw[List.drop_eq_getElem_cons hlt,nodesE]at hE
  simp -implicitDefEqProofs[e1,e3,gbox,hlt,nds_at hlt,nds_min hlt,nds_ge hlt,sl]
  have hh:=fun H=>ok64 (H:=H) (x:=g.ns[i]) g1 g4 g5
  simp only[Gm.cells,Nd.cells,sl]at hh
  refine callq_go (fun _=>hh _) ?_
  by_cases hc:g.ns[i].err g=0
  · rw[if_pos hc]at hE
    simp -implicitDefEqProofs[hc,e3]
    rw[w1]
    refine ih (i+1) _ (by omega) ?_ hE ?_ ?_
    rotate_left
    · simp[e1]
    · simp
    intro k hk hki
    by_cases e:k=i
    · subst e; exact hc
    · exact hp k hk (by omega)
  · rw[if_neg hc]at hE
    simp -implicitDefEqProofs[hc]
    refine hret ?_ _ (by simp[hE])
    rw[←hE]; exact hc
set_option maxRecDepth 10000 in
theorem loop8_1 (hg:Gd g) {N:Nat} {K:XE->Env->List AO->Prop} {r:AO}
 (hret:(∃ x∈g.ns,x.tyBad g)->∀ env M,env.get 2=i64 10->K .ret env (H++gbox g::r::M))
 (hexit:(¬ ∃ x∈g.ns,x.tyBad g)->∀ env M,env.get 1=.ptr (.own H.length 0 0 0 0) 0->K (.exit 2) env (H++gbox g::r::M)) :
 ∀ (n i:Nat) (env:Env) (M:List AO),i+n=g.ns.length->(∀ k (h:k<g.ns.length),k<i->¬ g.ns[k].tyBad g)->env.get 1=.ptr (.own H.length 0 0 0 0) 0->env.get 6=i64 i →
  LI Tryz.prog N drawB l37_1 env (H++gbox g::r::M) K:=by
 have hn:=hg.n
 intro n
 induction n with
 | zero =>
  intro i env M hi hp h1 h6
  refine li_go hm l37_1.eq_1 ?_
  have e:i=g.ns.length:=by omega
  subst e
  simp -implicitDefEqProofs[h1,h6,gbox]
  refine hexit ?_ _ _ (by simp[h1])
  rintro⟨x,hx,hb⟩
  obtain⟨k,hk,rfl⟩:=List.getElem_of_mem hx
  exact hp k hk hk hb
 | succ n ih =>
  intro i env M hi hp h1 h6
  refine li_go hm l37_1.eq_1 ?_
  have hlt:i<g.ns.length:=by omega
  have hx:g.ns[i]∈g.ns:=List.getElem_mem hlt
  have w1:IntKind.i64.wrap ((i:Int)+1)=((i+1:Nat):Int):=wrap_succ (by omega)
  by_cases hk:g.ns[i].k=2
  · have hb:=hg.inf hx hk
    have hb':g.ns[i].i.toNat<g.is.length:=by omega
    simp -implicitDefEqProofs[h1,h6,gbox,hlt,nds_at hlt,nds_min hlt,nds_ge hlt,infs_at hb',infs_g1 hb',infs_len,hk,sl]
    refine⟨by omega,fun e=>⟨e,by omega,by omega⟩,fun e=>⟨e,by omega⟩,?_⟩
    split
    · rename_i hc
      exact hret ⟨_,hx,(bad_iff hk hb').1 hc⟩ _ _ (by simp)
    · rename_i hc
      rw[w1]
      refine ih (i+1) _ _ (by omega) ?_ ?_ ?_
      rotate_left
      · simp
      · simp
      intro k hk' hki
      by_cases e:k=i
      · subst e; exact fun hb=>hc ((bad_iff hk hb').2 hb)
      · exact hp k hk' (by omega)
  · simp -implicitDefEqProofs[h1,h6,gbox,hlt,nds_at hlt,nds_min hlt,nds_ge hlt,hk,sl]
    rw[w1]
    refine ih (i+1) _ _ (by omega) ?_ ?_ ?_
    rotate_left
    · simp
    · simp
    intro k hk' hki
    by_cases e:k=i
    · subst e; exact fun hb=>hk hb.1
    · exact hp k hk' (by omega)
theorem slN_nil:slN []=nl:=rfl
theorem slN_ne {l:List Int} (h:l≠[]):slN l=.slc (ints l) l.length:=by unfold slN; rw[if_neg h]; rfl
theorem slN_at {A:List (List Int)} {k:Nat} (h:k<A.length):(A.map slN).drop k=slN A[k]::(A.drop (k+1)).map slN:=by
 rw[List.drop_eq_getElem_cons (by simpa using h)]; simp
theorem slN_g {A:List (List Int)} {k:Nat} (h:k<A.length):(A.map slN)[k]? = some (slN A[k]):=by simp[h]
set_option maxRecDepth 10000 in
theorem loop8_2 {A:List (List Int)} (hA:A.length≤200) {N:Nat} {K:XE->Env->List AO->Prop}
 (hret:[]∈A->∀ env,env.get 2=i64 18->K .ret env H)
 (hexit:(∀ k (h:k<A.length),A[k]≠[])->∀ env,env.get 8=.slc (A.map slN) A.length->K (.exit 4) env H) :
 ∀ (n i:Nat) (env:Env),i+n=A.length->(∀ k (h:k<A.length),k<i->A[k]≠[])->env.get 8=.slc (A.map slN) A.length->env.get 9=i64 i →
  LI Tryz.prog N drawB l37_2 env H K:=by
 intro n
 induction n with
 | zero =>
  intro i env hi hp h8 h9
  refine li_go hm l37_2.eq_1 ?_
  have e:i=A.length:=by omega
  subst e
  simp -implicitDefEqProofs[h8,h9]
  exact hexit (fun k h=>hp k h h) _ (by simp[h8])
 | succ n ih =>
  intro i env hi hp h8 h9
  refine li_go hm l37_2.eq_1 ?_
  have hlt:i<A.length:=by omega
  have w1:IntKind.i64.wrap ((i:Int)+1)=((i+1:Nat):Int):=wrap_succ (by omega)
  by_cases hk:A[i]=[]
  · simp -implicitDefEqProofs[h8,h9,hlt,slN_at hlt,hk,slN_nil,show(SV.val (Value.slice none 0 0)).isSl=true by rfl,show(SV.val (Value.slice none 0 0)).slen=0 by rfl]
    exact hret (by rw[←hk]; exact List.getElem_mem hlt) _ (by simp)
  · simp -implicitDefEqProofs[h8,h9,hlt,slN_at hlt,slN_ne hk,hk]
    rw[w1]
    refine ih (i+1) _ (by omega) ?_ ?_ ?_
    rotate_left
    · simp
    · simp
    intro k hk' hki
    by_cases e:k=i
    · subst e; exact hk
    · exact hp k hk' (by omega)
theorem srtS_iff {A:List (List Int)}:SrtS A↔∀ k (h:k+1<A.length),¬ (A[k+1]).getD 0 0<(A[k]).getD 0 0:=by
 constructor
 · intro h k hk
   have:=h k (by omega)
   rwa [List.getD_eq_getElem?_getD (l:=A),List.getD_eq_getElem?_getD (l:=A),List.getElem?_eq_getElem hk,List.getElem?_eq_getElem (show k<A.length by omega),Option.getD_some,Option.getD_some]at this
 · intro h k hk
   rw[List.getD_eq_getElem?_getD (l:=A),List.getD_eq_getElem?_getD (l:=A),List.getElem?_eq_getElem (show k+1<A.length by omega),List.getElem?_eq_getElem (show k<A.length by omega),Option.getD_some,Option.getD_some]
   exact h k (by omega)
theorem ints_h {l:List Int} (h:l≠[]):(ints l).head? = some (i64 (l.getD 0 0)):=by
 cases l with
 | nil=>exact(h rfl).elim
 | cons x r=>rfl
set_option maxRecDepth 10000 in
theorem loop8_3 {A:List (List Int)} (hA:A.length≤200) (hne:∀ k (h:k<A.length),A[k]≠[]) {N:Nat} {K:XE->Env->List AO->Prop}
 (hret:¬ SrtS A->∀ env,env.get 2=i64 9->K .ret env H)
 (hexit:SrtS A->∀ env,K (.exit 6) env H) :
 ∀ (n i:Nat) (env:Env),i+n=A.length->(∀ k (h:k+1<A.length),k<i->¬ (A[k+1]).getD 0 0<(A[k]).getD 0 0)->env.get 8=.slc (A.map slN) A.length->env.get 10=i64 ((i:Int)+1) →
  LI Tryz.prog N drawB l37_3 env H K:=by
 intro n
 induction n with
 | zero =>
  intro i env hi hp h8 h10
  refine li_go hm l37_3.eq_1 ?_
  have e:i=A.length:=by omega
  subst e
  simp -implicitDefEqProofs[h8,h10,show ¬ ((A.length:Int)+1<A.length)by omega]
  exact hexit (srtS_iff.2 fun k h=>hp k h (by omega)) _
 | succ n ih =>
  intro i env hi hp h8 h10
  refine li_go hm l37_3.eq_1 ?_
  have hlt:i<A.length:=by omega
  have w1:IntKind.i64.wrap ((i:Int)+1+1)=((i+1:Nat):Int)+1:=by rw[wrap_id (by omega) (by omega)]; omega
  have w2:IntKind.i64.wrap (i:Int)=i:=wrap_nat (by omega)
  by_cases he:i+1=A.length
  · simp -implicitDefEqProofs[h8,h10,show ¬ ((i:Int)+1<A.length)by omega]
    exact hexit (srtS_iff.2 fun k h=>hp k h (by omega)) _
  · have hlt1:i+1<A.length:=by omega
    have m1:=hne _ hlt1
    have m0:=hne _ hlt
    simp -implicitDefEqProofs[h8,h10,hlt,hlt1,show((i:Int)+1<A.length)by omega,slN_at hlt,slN_at hlt1,slN_g hlt1,slN_g hlt,slN_ne m1,slN_ne m0,w2,ints_h m1,ints_h m0]
    have l1:0<A[i+1].length:=List.length_pos_iff.2 m1
    have l0:0<A[i].length:=List.length_pos_iff.2 m0
    refine⟨by omega,l1,l1,l0,l0,?_⟩
    have ec:((A[i+1])[0]?.getD 0<(A[i])[0]?.getD 0)=((A[i+1]).getD 0 0<(A[i]).getD 0 0):=by rw[List.getD_eq_getElem?_getD,List.getD_eq_getElem?_getD]
    split
    · rename_i hc
      exact hret (fun h=>srtS_iff.1 h i hlt1 (by simpa[List.getD_eq_getElem?_getD]using hc)) _ (by simp)
    · rename_i hc
      rw[w1]
      refine ih (i+1) _ (by omega) ?_ ?_ ?_
      rotate_left
      · simp
      · simp
      intro k hk' hki
      by_cases e:k=i
      · subst e; simpa[List.getD_eq_getElem?_getD]using hc
      · exact hp k hk' (by omega)
set_option maxRecDepth 10000 in
theorem ok37:Ok Tryz.prog 37 [.agg g.cells] H (.ret (i64 g.formR)) H:=by
 refine ok_fn hm Tryz.func37 c37 (by simp) fun hcl => ?_
 simp -implicitDefEqProofs[i37,r37,Gm.cells]
 have hR:g.rng=(((((g.pl<1∨4<g.pl)∨(g.ns.length:Int)<1)∨2000<(g.ns.length:Int))∨200<(g.is.length:Int))):=rfl
 split
 · rename_i hc
   refine cv_fz 2 hcl rfl ?_
   simp[Gm.formR,hR,hc]
 · rename_i hc
   have g1:1≤g.pl:=by omega
   have g4:g.pl≤4:=by omega
   have gi:g.is.length≤200:=by omega
   have gn:g.ns.length≤2000:=by omega
   have gn1:1≤g.ns.length:=by omega
   refine loop8_0 (g:=g) g1 g4 gi gn (fun hE env e2 => ?_) (fun hE hE' env e1 => ?_) g.ns.length 0 _ (by omega) (by omega) (by simp) (by simp) (by simp)
   · simp -implicitDefEqProofs[e2]
     refine cv_fz 2 hcl rfl ?_
     simp[Gm.formR,hR,hc,hE]
   · have hG:Gd g:=⟨g1,g4,gn1,gn,gi,hE⟩
     simp -implicitDefEqProofs[e1,gbox]
     have hup:∀ m,upq (H++[gbox g,(⟨[i64 0],3,0,true⟩:AO)]) (H.length+1) m=H++[gbox g,(⟨[i64 m],3,0,true⟩:AO)]:=fun m=>by simp[upq]
     have hnx:∀ x∈g.ns,x.nx.length<4611686018427387904:=fun x hx=>by have:=nx_of (hE x hx); omega
     have ok:=ok65 (g:=g) (q:=H.length+1) gn hnx (g.ns.length+1) (H++[gbox g,(⟨[i64 0],3,0,true⟩:AO)]) 0 0 0 (by simp) (by omega) (by omega) (by omega) (by omega)
     rw[hup,hup]at ok
     have hwr:walkR g.ns (g.ns.length+1) 0 0 0=g.wr:=rfl
     rw[hwr]at ok
     have hwok:=walkR_ok (ns:=g.ns) (g.ns.length+1) 0 0 0
     rw[hwr]at hwok
     refine call_go ok ?_
     have hF:g.formR=if g.wr.1≠some g.ns.length then 9 else if 40<g.wr.2 then 5 else g.setsR:=by
      unfold Gm.formR
      rw[if_neg (show ¬ g.rng by rw[hR]; exact hc),if_neg (show ¬ nodesE g g.ns≠0 by simpa using hE')]
     have hres:resR g.wr.1=(g.ns.length:Int)↔g.wr.1=some g.ns.length:=by
      cases h:g.wr.1 with
      | none=>simp[resR]
      | some r=>simp[resR]; omega
     simp -implicitDefEqProofs[gbox,e1]
     by_cases hk:g.wr.1=some g.ns.length
     · rw[if_pos (hres.2 hk)]
       rw[hk]at hF
       by_cases hm:40<g.wr.2
       · rw[if_pos hm]
         refine cv_fz 2 hcl rfl ?_
         rw[hF]; simp[hm]
       · rw[if_neg hm]
         have hF':g.formR=g.setsR:=by rw[hF]; simp[hm]
         rw[hF']
         unfold Gm.setsR
         refine loop8_1 (g:=g) (r:=⟨[i64 g.wr.2],3,0,true⟩) hG (fun hb env M h2 => ?_) (fun hb env M h1 => ?_) g.ns.length 0 _ [] (by omega) (by omega) (by simp[e1]) (by simp)
         · simp -implicitDefEqProofs[h2]
           refine cv_fz 2 hcl rfl ?_
           rw[if_pos hb]; simp
         · rw[if_neg hb]
           simp -implicitDefEqProofs[h1,gbox]
           have hh:=fun H=>ok66 (H:=H) hG
           simp only[Gm.cells]at hh
           refine call_go (hh _) ?_
           have hsl:g.sets.length=g.is.length:=sets_len
           rw[←hsl]
           simp -implicitDefEqProofs
           refine loop8_2 (A:=g.sets) (by omega) (fun hz env h2 => ?_) (fun hz env h8 => ?_) g.sets.length 0 _ (by omega) (by omega) (by simp) (by simp)
           · simp -implicitDefEqProofs[h2]
             refine cv_fz 2 hcl rfl ?_
             simp[hz]
           · have hz':¬ []∈g.sets:=fun h=>by
              obtain⟨k,hk,e⟩:=List.getElem_of_mem h
              exact hz k hk e
             rw[if_neg hz']
             simp -implicitDefEqProofs[h8]
             refine loop8_3 (A:=g.sets) (by omega) hz (fun hs env h2 => ?_) (fun hs env => ?_) g.sets.length 0 _ (by omega) (by omega) (by simp[h8]) (by simp)
             · simp -implicitDefEqProofs[h2]
               refine cv_fz 2 hcl rfl ?_
               simp[hs]
             · simp -implicitDefEqProofs
               refine cv_fz 2 hcl rfl ?_
               simp[hs]
     · rw[if_neg (fun h=>hk (hres.1 h))]
       refine cv_fz 2 hcl rfl ?_
       rw[hF]; simp[hk]
end
end Go.Proofs.YtogjmpkehjfecaaGreatDoor.Rc
namespace Go.Proofs.YtogjmpkehjfecaaGreatDoor.Rc
open Go.Ab
theorem getD_set_ne {l:List Int} {i k:Nat} {v:Int} (h:i≠k):(l.set k v).getD i 0=l.getD i 0:=by
 rw[List.getD_eq_getElem?_getD,List.getD_eq_getElem?_getD,List.getElem?_set_ne (fun e=>h e.symm)]
theorem getD_set_eq {l:List Int} {k:Nat} {v:Int} (h:k<l.length):(l.set k v).getD k 0=v:=by
 rw[List.getD_eq_getElem?_getD,List.getElem?_set_self h]; rfl
def occ (s:Nat):List Nd->Nat->List Int
 | [],_=>[]
 | x::r,o=>if x.k=2∧x.i.toNat=s then(o:Int)::occ s r (o+1)else occ s r (o+1)
theorem occ_ge {s:Nat}:∀ {l:List Nd} {o:Nat} {a:Int},a∈occ s l o->0≤a
 | [],o,a,h=>by simp[occ]at h
 | x::r,o,a,h=>by
  unfold occ at h
  split at h
  · rcases List.mem_cons.1 h with rfl | h
    · omega
    · exact occ_ge h
  · exact occ_ge h
theorem setsA_at {s:Nat}:∀ (l:List Nd) (o:Nat) (A:List (List Int)),s<A.length->(setsA l o A).getD s []=A.getD s []++occ s l o
 | [],o,A,h=>by simp[setsA,occ]
 | x::r,o,A,h=>by
  unfold setsA occ
  by_cases hk:x.k=2
  · rw[if_pos hk,setsA_at r (o+1) _ (by simpa using h)]
    by_cases e:x.i.toNat=s
    · rw[if_pos ⟨hk,e⟩,e]
      simp[List.getD_eq_getElem?_getD,h]
    · rw[if_neg (fun h=>e h.2)]
      simp[List.getD_eq_getElem?_getD,List.getElem?_set_ne e]
  · rw[if_neg hk,if_neg (fun h=>hk h.1),setsA_at r (o+1) A h]
theorem fst1_at {s:Nat} {z:List Int} (hz:s<z.length):∀ (l:List Nd) (o:Nat),(fst1 l o z).getD s 0=(match occ s l o with | []=>z.getD s 0 | a::_=>a+1)
 | [],o=>by simp[fst1,occ]
 | x::r,o=>by
  unfold fst1 occ
  by_cases hk:x.k=2
  · rw[if_pos hk]
    by_cases e:x.i.toNat=s
    · rw[if_pos ⟨hk,e⟩,e,getD_set_eq (by simpa using hz)]
    · rw[if_neg (fun h=>e h.2),getD_set_ne (fun h=>e h.symm)]
      exact fst1_at hz r (o+1)
  · rw[if_neg hk,if_neg (fun h=>hk h.1)]
    exact fst1_at hz r (o+1)
section
variable {g:Gm}
theorem sets_at {s:Nat} (hs:s<g.is.length):g.sets.getD s []=occ s g.ns 0:=by
 rw[Gm.sets,setsA_at _ _ _ (by simpa using hs)]
 simp[List.getD_eq_getElem?_getD,hs]
theorem firsts_at {s:Nat} (hs:s<g.is.length):g.firsts.getD s 0=(match g.sets.getD s []with | []=>0 | a::_=>a+1):=by
 rw[Gm.firsts,fst1_at (by simpa using hs),sets_at hs]
 simp[List.getD_eq_getElem?_getD,hs]
theorem none_iff:(0:Int)∈g.firsts↔[]∈g.sets:=by
 have hl:g.sets.length=g.is.length:=sets_len
 have hf:g.firsts.length=g.is.length:=by simp[Gm.firsts]
 constructor
 · intro h
   obtain⟨s,hs,e⟩:=List.getElem_of_mem h
   have:=firsts_at (g:=g) (s:=s) (by omega)
   rw[List.getD_eq_getElem?_getD,List.getElem?_eq_getElem hs,Option.getD_some,e]at this
   have hs':s<g.sets.length:=by omega
   have h2:g.sets.getD s []=g.sets[s]:=by rw[List.getD_eq_getElem?_getD,List.getElem?_eq_getElem hs']; rfl
   cases hc:g.sets.getD s []with
   | nil=>rw[←hc,h2]; exact List.getElem_mem hs'
   | cons a r =>
    rw[hc]at this
    have h3:0≤a:=occ_ge (s:=s) (l:=g.ns) (o:=0) (by rw[←sets_at (by omega),hc]; simp)
    simp only at this; omega
 · intro h
   obtain⟨s,hs,e⟩:=List.getElem_of_mem h
   have:=firsts_at (g:=g) (s:=s) (by omega)
   rw[List.getD_eq_getElem?_getD (l:=g.sets),List.getElem?_eq_getElem hs,Option.getD_some,e]at this
   have hs':s<g.firsts.length:=by omega
   rw[List.getD_eq_getElem?_getD,List.getElem?_eq_getElem hs',Option.getD_some]at this
   simp only at this
   rw[←this]; exact List.getElem_mem hs'
theorem srt_same (h:¬ []∈g.sets):Srt g.firsts↔SrtS g.sets:=by
 have hl:g.sets.length=g.is.length:=sets_len
 have hf:g.firsts.length=g.is.length:=by simp[Gm.firsts]
 have hv:∀ s,s<g.is.length->g.firsts.getD s 0=(g.sets.getD s []).getD 0 0+1:=by
  intro s hs
  rw[firsts_at hs]
  cases hc:g.sets.getD s []with
  | nil =>
   exfalso; apply h
   have hs':s<g.sets.length:=by omega
   rw[List.getD_eq_getElem?_getD,List.getElem?_eq_getElem hs',Option.getD_some]at hc
   rw[←hc]; exact List.getElem_mem hs'
  | cons a r=>simp
 unfold Srt SrtS
 rw[hf,hl]
 constructor
 · intro h1 k hk
   have:=h1 k hk
   rw[hv _ (by omega),hv _ (by omega)]at this
   omega
 · intro h1 k hk
   have:=h1 k hk
   rw[hv _ (by omega),hv _ (by omega)]
   omega
theorem setsE_eq:g.setsE=g.setsR:=by
 unfold Gm.setsE Gm.setsR
 by_cases hb:∃ x∈g.ns,x.tyBad g
 · rw[if_pos hb,if_pos hb]
 · rw[if_neg hb,if_neg hb]
   by_cases h0:[]∈g.sets
   · rw[if_pos h0,if_pos (none_iff.2 h0)]
   · rw[if_neg h0,if_neg (fun h=>h0 (none_iff.1 h))]
     by_cases hs:SrtS g.sets
     · rw[if_pos hs,if_pos ((srt_same h0).2 hs)]
     · rw[if_neg hs,if_neg (fun h=>hs ((srt_same h0).1 h))]
def Gm.formE (g:Gm):Int:=if g.err0≠0 then g.err0 else g.setsE
theorem w0_ok:g.w0.ok g.ns.length:=⟨by simp[Gm.w0],by simp[Gm.w0],by simp[Gm.w0]⟩
end
end Go.Proofs.YtogjmpkehjfecaaGreatDoor.Rc
namespace Go.Proofs.YtogjmpkehjfecaaGreatDoor.Rc
open Go.Ab
def NO (b:Nat) (M:List AO):List Nd->List SV->Prop
 | [],cs=>cs=[]
 | x::r,cs=>∃ p1 p2 p3 rest,cs=i64 x.k::i64 x.p::i64 x.i::.own (b+p1) 0 x.nx.length 1 2::.own (b+p2) 0 x.ws.length 1 2::.own (b+p3) 0 x.ps.length 1 2::rest ∧
  M[p1]? = some (⟨ints x.nx,3,2,true⟩:AO)∧M[p2]? = some (⟨ints x.ws,3,2,true⟩:AO)∧M[p3]? = some (⟨ints x.ps,3,2,true⟩:AO)∧NO b M r rest
theorem NO.mono {b:Nat} {M M':List AO} (h:∀ (p:Nat) (l:List Int),M[p]? = some (⟨ints l,3,2,true⟩:AO)->M'[p]? = some (⟨ints l,3,2,true⟩:AO)):∀ {l:List Nd} {cs:List SV},NO b M l cs->NO b M' l cs
 | [],cs,hn=>hn
 | x::r,cs,⟨p1,p2,p3,rest,h0,h1,h2,h3,h4⟩=>⟨p1,p2,p3,rest,h0,h _ _ h1,h _ _ h2,h _ _ h3,NO.mono h h4⟩
theorem NO.len {b:Nat} {M:List AO}:∀ {l:List Nd} {cs:List SV},NO b M l cs->cs.length=6*l.length
 | [],cs,hn=>by cases hn; rfl
 | x::r,cs,⟨p1,p2,p3,rest,h0,h1,h2,h3,h4⟩=>by subst h0; simp[NO.len h4]; omega
theorem NO.cell {b:Nat} {M:List AO}:∀ {l:List Nd} {cs:List SV},NO b M l cs->cellsOk cs
 | [],cs,hn=>by cases hn; intro s hs; simp at hs
 | x::r,cs,⟨p1,p2,p3,rest,h0,h1,h2,h3,h4⟩=>by
  subst h0
  intro s hs
  simp only[List.mem_cons]at hs
  rcases hs with rfl | rfl | rfl | rfl | rfl | rfl | hs
  · rfl
  · rfl
  · rfl
  · rfl
  · rfl
  · rfl
  · exact NO.cell h4 s hs
theorem NO.fz {b n k d:Nat} {M F:List AO} (hb:b=n+k) (hF:∀ p,F[k+p]? = M[p]?):∀ {l:List Nd} {cs:List SV},NO b M l cs->cs.map (SV.fz n [] F (d+2))=nds l
 | [],cs,hn=>by cases hn; rfl
 | x::r,cs,⟨p1,p2,p3,rest,h0,h1,h2,h3,h4⟩=>by
  subst h0
  have e:∀ p,b+p=n+(k+p):=fun p=>by omega
  simp only[List.map_cons,NO.fz hb hF h4,nds,Nd.cells,e,fz_own,hF,h1,h2,h3,placeOf,fz_i64]
  simp[sl]
section
variable {H:List AO} {g:Gm}
theorem len_addn (H:List AO) (k n:Nat):H.length+k+n=H.length+(k+n):=Nat.add_assoc ..
end
end Go.Proofs.YtogjmpkehjfecaaGreatDoor.Rc
namespace Go.Proofs.YtogjmpkehjfecaaGreatDoor.Rc
open Go.Ab
section
variable {H:List AO} {x y:SV} {l m:List Int}
theorem loop81 (hx:IsI H x l) (hy:IsI H y m) (hl:l.length<4611686018427387904) (hlm:l.length=m.length) {N:Nat} {K:XE->Env->List AO->Prop}
 (hret:l≠m->∀ env,env.get 4=bl false->K .ret env H) (hexit:l=m->∀ env,K (.exit 0) env H) :
 ∀ (n i:Nat) (env:Env),i+n=l.length->(∀ k (h:k<l.length),k<i->l[k]=m[k]'(by omega))->env.get 0=x->env.get 1=y->env.get 5=i64 i →
  LI Tryz.prog N drawB l40_0 env H K:=by
 intro n
 induction n with
 | zero =>
  intro i env hi hp h0 h1 h5
  refine li_go hm l40_0.eq_1 ?_
  have e:i=l.length:=by omega
  subst e
  simp -implicitDefEqProofs[h0,h1,h5,hx.vd,hx.ug,hx.sl,hx.len]
  exact hexit (List.ext_getElem hlm fun k h1 h2=>hp k h1 h1) _
 | succ n ih =>
  intro i env hi hp h0 h1 h5
  refine li_go hm l40_0.eq_1 ?_
  have hlt:i<l.length:=by omega
  have hlt':i<m.length:=by omega
  simp -implicitDefEqProofs[h0,h1,h5,hlt,hlt',hx.vd,hx.ug,hx.sl,hx.len,hx.v hlt,hx.ok hlt,hy.vd,hy.ug,hy.sl,hy.len,hy.v hlt',hy.ok hlt']
  by_cases hc:l[i]=m[i]
  · rw[if_pos hc]
    refine ih (i+1) _ (by omega) ?_ ?_ ?_ ?_
    rotate_left
    · simp[h0]
    · simp[h1]
    · simp[wrap_suc (show i<9223372036854775807 by omega)]
    intro k hk hki
    by_cases e:k=i
    · subst e; exact hc
    · exact hp k hk (by omega)
  · rw[if_neg hc]
    exact hret (fun e=>hc (by subst e; rfl)) _ (by simp)
theorem ok40 (hx:IsI H x l) (hy:IsI H y m) (hl:l.length<4611686018427387904):Ok Tryz.prog 40 [x,y] H (.ret (bl (decide (l=m)))) H:=by
 refine ok_fn hm Tryz.func40 c40 (by simp) fun hcl => ?_
 by_cases hlm:l.length=m.length
 · simp -implicitDefEqProofs[i40,r40,hx.vd,hx.ug,hx.sl,hx.len,hy.vd,hy.ug,hy.sl,hy.len,hlm]
   refine loop81 hx hy hl hlm (fun hne env h4 => ?_) (fun he env => ?_) l.length 0 _ (by omega) (by omega) (by simp) (by simp) (by simp)
   · simp -implicitDefEqProofs[h4,hne]
     exact cv_id
   · simp -implicitDefEqProofs[he]
     exact cv_id
 · simp -implicitDefEqProofs[i40,r40,hx.vd,hx.ug,hx.sl,hx.len,hy.vd,hy.ug,hy.sl,hy.len,show ¬ ((l.length:Int)=m.length)by omega,hlm]
   have:l≠m:=fun e=>hlm (by rw[e])
   simp[this]
   exact cv_id
theorem ok40s (hx:IsI H x l) (hy:IsI H y l) (hl:l.length<4611686018427387904):Ok Tryz.prog 40 [x,y] H (.ret (bl true)) H:=by simpa using ok40 hx hy hl
end
section
variable {H:List AO} {g:Gm} {x:Nd} {is:List (Int×Int)}
def Nd.big (x:Nd):Prop:=(80<x.nx.length∨80<x.ws.length)∨80<x.ps.length
instance (x:Nd):Decidable x.big:=by unfold Nd.big; infer_instance
def Gm.large (g:Gm):Prop:=(∃ x∈g.ns.take 81,x.big)∨80<g.ns.length∨80<g.is.length
instance (g:Gm):Decidable g.large:=by unfold Gm.large; infer_instance
theorem ok51:Ok Tryz.prog 51 [.agg g.cells] H (.ret (i64 g.formE)) H:=by
 refine ok_fn hm Tryz.func51 c51 (by simp) fun hcl => ?_
 simp -implicitDefEqProofs[i51,r51,Gm.cells]
 have hh:=fun H=>ok83 (H:=H) (g:=g)
 simp only[Gm.cells]at hh
 refine call_go (hh _) ?_
 unfold Gm.walked Gm.formE
 by_cases h:g.err0=0
 · simp -implicitDefEqProofs[h]
   exact cv_fz 1 hcl rfl (by simp)
 · simp -implicitDefEqProofs[h]
   exact cv_fz 1 hcl rfl (by simp)
end
end Go.Proofs.YtogjmpkehjfecaaGreatDoor.Rc
namespace Go.Proofs.YtogjmpkehjfecaaGreatDoor.Rc
open Go.Ab
theorem hm':Tryz.prog.follows .mixedOrders=true:=Tryz.checked.mixed
def NowQ (a b:List (List Int)) (pl:Int) (k:Int):Prop:=∀ (q:Nat) (h:q<b.length),∃ (e:Int) (h':q<a.length),b[q]=a[q]++[e]∧((q:Int)=pl->e=k)
theorem NowQ.nil (a:List (List Int)) (pl k:Int):NowQ a [] pl k:=fun q h=>by simp at h
end Go.Proofs.YtogjmpkehjfecaaGreatDoor.Rc
namespace Go.Proofs.YtogjmpkehjfecaaGreatDoor.Rc
open Go.Ab Go.Ab.Lm
def u32 (n:Nat):SV:=.val (.int .u32 n)
def us (l:List Nat):List SV:=l.map u32
def nS (a:Nat):SV:=.slc (us (lim a)) (lim a).length
theorem us_len (l:List Nat):(us l).length=l.length:=by simp[us]
theorem us_under (n:Nat) (l:List Nat):SV.underL n (us l)=true:=by
 induction l with
 | nil=>rfl
 | cons x r ih=>simp only[us,List.map_cons,SV.underL,Bool.and_eq_true]at ih ⊢; exact⟨rfl,ih⟩
theorem us_at {l:List Nat} {i:Nat} (h:i<l.length):(us l)[i]?.getD .any=u32 l[i]:=by simp[us,h]
theorem us_get {l:List Nat} {i:Nat} (h:i<l.length) (h':i<(us l).length):(us l)[i]'h'=u32 l[i]:=by simp[us]
section
variable {H:List AO} {l:List Nat}
set_option maxRecDepth 10000 in
theorem qlp69 {N:Nat} {K:XE->Env->List AO->Prop} (hexit:∀ env,env.get 0=.slc (us (trimL l)) (trimL l).length->K (.exit 0) env H) :
 ∀ (k:Nat) (m:List Nat) (env:Env),k<1000000->m.length=k->trimL m=trimL l->env.get 0=.slc (us m) m.length->LI Tryz.prog N drawB l130_0 env H K:=by
 intro k
 induction k with
 | zero =>
  intro m env hk hm0 ht h0
  refine li_go hm l130_0.eq_1 ?_
  have:m=[]:=List.eq_nil_of_length_eq_zero hm0
  subst this
  simp -implicitDefEqProofs[h0]
  refine hexit _ ?_
  rw[←ht]; simp[trimL]
 | succ k ih =>
  intro m env hk hml ht h0
  refine li_go hm l130_0.eq_1 ?_
  obtain⟨m',y,rfl⟩:∃ m' y,m=m'++[y]:=⟨m.dropLast,m.getLast (by intro e; rw[e]at hml; simp at hml),(List.dropLast_concat_getLast _).symm⟩
  have hm':m'.length=k:=by simp at hml; exact hml
  have w1:IntKind.i64.wrap (k:Int)=k:=wrap_nat (by omega)
  have e1:us (m'++[y])=us m'++[u32 y]:=by simp[us]
  have e2:(us m').length=k:=by rw[us_len,hm']
  rw[e1]at h0
  by_cases hy:y=0
  · subst hy
    simp -implicitDefEqProofs[h0,w1,hm',e2,u32]
    repeat (refine⟨by omega,?_⟩)
    refine ih m' _ (by omega) hm' (by rw[←ht,trim_snoc0]) ?_
    simp[hm',e2,List.take_append_of_le_length]
  · have hy':¬ (y:Int)=0:=by omega
    simp -implicitDefEqProofs[h0,w1,hm',e2,u32,hy,hy']
    repeat (refine⟨by omega,?_⟩)
    refine hexit _ ?_
    rw[←ht,trim_snoc hy,e1]
    simp[hm',u32]
theorem ok130 (hl:l.length<1000000):Ok Tryz.prog 130 [.slc (us l) l.length] H (.ret (.slc (us (trimL l)) (trimL l).length)) H:=by
 refine ok_fn hm Tryz.func130 c130 (by simp[us_under]) fun hcl => ?_
 simp -implicitDefEqProofs[i130,r130]
 refine qlp69 (fun env h0 => ?_) l.length l _ hl rfl rfl (by simp)
 simp -implicitDefEqProofs[h0]
 exact cv_id
end
def ordN (a b:Nat):Int:=if a<b then -1 else if b<a then 1 else 0
section
variable {H:List AO} {a b:Nat}
set_option maxRecDepth 10000 in
theorem qlp44 {x y:List Nat} (hx:Dig x) (hy:Dig y) (hxl:x.length<1000000) (hl:x.length=y.length) {N:Nat} {K:XE->Env->List AO->Prop}
 (hret:∀ env,ordN (val x) (val y)≠0->env.get 4=i64 (ordN (val x) (val y))->K .ret env H) (hexit:x=y->∀ env,K (.exit 0) env H) :
 ∀ (k:Nat) (env:Env),k≤x.length->x.drop k=y.drop k->env.get 0=.slc (us x) x.length->env.get 1=.slc (us y) y.length->env.get 5=i64 ((k:Int)-1)->LI Tryz.prog N drawB l105_0 env H K:=by
 intro k
 induction k with
 | zero =>
  intro env hk hd h0 h1 h5
  refine li_go hm l105_0.eq_1 ?_
  simp -implicitDefEqProofs[h0,h1,h5]
  refine hexit ?_ _
  simpa using hd
 | succ k ih =>
  intro env hk hd h0 h1 h5
  refine li_go hm l105_0.eq_1 ?_
  have hkx:k<x.length:=by omega
  have hky:k<y.length:=by omega
  have e5:((k+1:Nat):Int)-1=k:=by omega
  rw[e5]at h5
  have w1:IntKind.i64.wrap ((k:Int)-1)=(k:Int)-1:=wrap_id (by omega) (by omega)
  have dx:=List.take_append_drop k x
  have dy:=List.take_append_drop k y
  rw[List.drop_eq_getElem_cons hkx]at dx
  rw[List.drop_eq_getElem_cons hky,<- hd]at dy
  have tx:(x.take k).length=k:=by simp; omega
  have ty:(y.take k).length=k:=by simp; omega
  have dgx:Dig (x.take k):=fun z hz=>hx z (List.mem_of_mem_take hz)
  have dgy:Dig (y.take k):=fun z hz=>hy z (List.mem_of_mem_take hz)
  have g0:(us x)[k]?.getD .any=.val (.int .u32 x[k]):=us_at hkx
  have g1:(us y)[k]?.getD .any=.val (.int .u32 y[k]):=us_at hky
  have g0':∀ h,(us x)[k]'h=.val (.int .u32 x[k]):=fun h=>us_get hkx h
  have g1':∀ h,(us y)[k]'h=.val (.int .u32 y[k]):=fun h=>us_get hky h
  by_cases c1:x[k]<y[k]
  · have hlt:val x<val y:=by rw[←dx,<- dy]; exact val_cmp tx ty dgx dgy c1 _
    have eo:ordN (val x) (val y) = -1:=by unfold ordN; rw[if_pos hlt]
    simp -implicitDefEqProofs[h0,h1,h5,hkx,hky,us_len,g0,g1,g0',g1',c1,show(x[k]:Int)<(y[k]:Int)by omega]
    repeat (refine⟨by omega,?_⟩)
    exact hret _ (by rw[eo]; decide) (by rw[eo]; simp)
  · by_cases c2:y[k]<x[k]
    · have hlt:val y<val x:=by rw[←dx,<- dy]; exact val_cmp ty tx dgy dgx c2 _
      have eo:ordN (val x) (val y)=1:=by unfold ordN; rw[if_neg (by omega),if_pos hlt]
      simp -implicitDefEqProofs[h0,h1,h5,hkx,hky,us_len,g0,g1,g0',g1',c1,c2,show ¬ (x[k]:Int)<(y[k]:Int)by omega,show(y[k]:Int)<(x[k]:Int)by omega]
      repeat (refine⟨by omega,?_⟩)
      exact hret _ (by rw[eo]; decide) (by rw[eo]; simp)
    · simp -implicitDefEqProofs[h0,h1,h5,hkx,hky,us_len,g0,g1,g0',g1',c1,c2,show ¬ (x[k]:Int)<(y[k]:Int)by omega,show ¬ (y[k]:Int)<(x[k]:Int)by omega]
      repeat (refine⟨by omega,?_⟩)
      refine ih _ (by omega) ?_ ?_ ?_ ?_
      · rw[List.drop_eq_getElem_cons hkx,List.drop_eq_getElem_cons hky,hd]
        congr 1; omega
      · simp[h0]
      · simp[h1]
      · simp[w1]
theorem ok105 (ha:(lim a).length<1000000) (hb:(lim b).length<1000000):Ok Tryz.prog 105 [nS a,nS b] H (.ret (i64 (ordN a b))) H:=by
 refine ok_fn hm Tryz.func105 c105 (by simp[nS,us_under]) fun hcl => ?_
 by_cases hl:(lim a).length=(lim b).length
 · simp -implicitDefEqProofs[i105,r105,nS,hl]
   have w1:IntKind.i64.wrap (((lim b).length:Int)-1)=((lim b).length:Int)-1:=wrap_id (by omega) (by omega)
   rw[w1]
   refine qlp44 (x:=lim a) (y:=lim b) (lim_dig a) (lim_dig b) ha hl (fun env hne h4 => ?_) (fun he env => ?_) (lim b).length _ (by omega) ?_ ?_ ?_ ?_
   · rw[val_lim,val_lim]at h4
     simp -implicitDefEqProofs[h4]
     exact cv_id
   · have:a=b:=by rw[←val_lim a,<- val_lim b,he]
     simp -implicitDefEqProofs
     rw[show ordN a b=0 by unfold ordN; rw[if_neg (by omega),if_neg (by omega)]]
     exact cv_id
   · rw[←hl,List.drop_length,hl,List.drop_length]
   · simp[hl]
   · simp
   · simp
 · have hl':¬ ((lim a).length:Int)=(lim b).length:=by omega
   by_cases hlt:(lim a).length<(lim b).length
   · have:a<b:=by
      apply Nat.lt_of_not_le
      intro hc
      have:=lim_mono hc
      omega
     simp -implicitDefEqProofs[i105,r105,nS,hl,hl',hlt,show((lim a).length:Int)<(lim b).length by omega]
     rw[show ordN a b = -1 by unfold ordN; rw[if_pos this]]
     exact cv_id
   · have:b<a:=by
      apply Nat.lt_of_not_le
      intro hc
      have:=lim_mono hc
      omega
     simp -implicitDefEqProofs[i105,r105,nS,hl,hl',hlt,show ¬ ((lim a).length:Int)<(lim b).length by omega]
     rw[show ordN a b=1 by unfold ordN; rw[if_neg (by omega),if_pos this]]
     exact cv_id
end
end Go.Proofs.YtogjmpkehjfecaaGreatDoor.Rc
namespace Go.Proofs.YtogjmpkehjfecaaGreatDoor.Rc
open Go.Ab Go.Ab.Lm
theorem wu32 {n:Nat} (h:n<4294967296):IntKind.u32.wrap (n:Int)=n:=by
 show((n:Int)) % 4294967296=n
 omega
theorem wu64 {n:Nat} (h:n<18446744073709551616):IntKind.u64.wrap (n:Int)=n:=by
 show((n:Int)) % 18446744073709551616=n
 omega
end Go.Proofs.YtogjmpkehjfecaaGreatDoor.Rc
namespace Go.Proofs.YtogjmpkehjfecaaGreatDoor.Rc
open Go.Ab Go.Ab.Lm
section
variable {H X:List AO} {l:List Nat}
set_option maxRecDepth 10000 in
theorem qlp69k {k v:Nat} (hk:X[k]? = some ⟨us l,114,v,true⟩) {N:Nat} {K:XE->Env->List AO->Prop} (hexit:∀ env,env.get 0=.own k 0 (trimL l).length 1 v->K (.exit 0) env X) :
 ∀ (n:Nat) (m:List Nat) (env:Env) (s:List Nat),n<1000000->m.length=n->m++s=l->trimL m=trimL l->env.get 0=.own k 0 m.length 1 v->LI Tryz.prog N drawB l130_0 env X K:=by
 intro n
 induction n with
 | zero =>
  intro m env s hn hm0 hs ht h0
  refine li_go hm' l130_0.eq_1 ?_
  have:m=[]:=List.eq_nil_of_length_eq_zero hm0
  subst this
  simp -implicitDefEqProofs[h0]
  refine hexit _ ?_
  rw[←ht]; simp[trimL]
 | succ n ih =>
  intro m env s hn hml hs ht h0
  refine li_go hm' l130_0.eq_1 ?_
  obtain⟨m',y,rfl⟩:∃ m' y,m=m'++[y]:=⟨m.dropLast,m.getLast (by intro e; rw[e]at hml; simp at hml),(List.dropLast_concat_getLast _).symm⟩
  have hm':m'.length=n:=by simp at hml; exact hml
  have w1:IntKind.i64.wrap (n:Int)=n:=wrap_nat (by omega)
  have hc:=objCells_of (o:=⟨us l,114,v,true⟩) hk rfl
  have hln:n<l.length:=by rw[←hs]; simp; omega
  have e2:(us l)[n]?.getD .any=.val (.int .u32 y):=by
   rw[us_at hln]
   have:l[n]=y:=by subst hs; simp[List.getElem_append,hm']
   rw[this]; rfl
  have e2':∀ h,(us l)[n]'h=.val (.int .u32 y):=fun h=>by
   have:=e2
   rw[List.getElem?_eq_getElem h]at this
   simpa using this
  have hll:(us l).length=l.length:=us_len l
  by_cases hy:y=0
  · subst hy
    simp -implicitDefEqProofs[h0,w1,hm',hc,e2,e2',hll]
    repeat (refine⟨by omega,?_⟩)
    refine ih m' _ ([0]++s) (by omega) hm' (by rw[←hs]; simp) (by rw[←ht,trim_snoc0]) ?_
    simp[hm']
  · have hy':¬ (y:Int)=0:=by omega
    simp -implicitDefEqProofs[h0,w1,hm',hc,e2,e2',hll,hy,hy']
    repeat (refine⟨by omega,?_⟩)
    refine hexit _ ?_
    rw[←ht,trim_snoc hy]
    simp[hm']
theorem ok130k {k v:Nat} (hk:X[k]? = some ⟨us l,114,v,true⟩) (hl:l.length<1000000):OkP Tryz.prog 130 [.own k 0 l.length 1 v] X fun o X'=>o=.ret (.own k 0 (trimL l).length 1 v)∧X'=X:=by
 have hlt:=getElem?_lt hk
 refine okP_fn hm' Tryz.func130 c130 (by simp[hlt]) fun hcl => ?_
 simp -implicitDefEqProofs[i130,r130]
 refine qlp69k hk (fun env h0 => ?_) l.length l _ [] hl rfl (by simp) rfl (by simp)
 simp -implicitDefEqProofs[h0]
 exact⟨_,_,⟨rfl,rfl⟩,cv_id⟩
end
def minusL:List Nat->List Nat->Nat->List Nat
 | [],_,_=>[]
 | x::r,[],w=>if x<w then(x+B-w)::minusL r [] 1 else(x-w)::minusL r [] 0
 | x::r,y::s,w=>if x<w+y then(x+B-w-y)::minusL r s 1 else(x-w-y)::minusL r s 0
theorem minus_len:∀ (x y:List Nat) (w:Nat),(minusL x y w).length=x.length
 | [],_,_=>rfl
 | x::r,[],w=>by unfold minusL; split<;>simp[minus_len r]
 | x::r,y::s,w=>by unfold minusL; split<;>simp[minus_len r]
theorem minus_dig:∀ {x y:List Nat} {w:Nat},Dig x->Dig y->w≤1->Dig (minusL x y w)
 | [],_,_,_,_,_=>fun z hz=>by simp[minusL]at hz
 | x::r,[],w,hx,hy,hw=>by
  have h0:=hx x (by simp)
  have hB:B=1000000000:=rfl
  unfold minusL
  split
  · intro z hz
    rcases List.mem_cons.1 hz with rfl | hz
    · omega
    · exact minus_dig hx.tail hy (by omega) z hz
  · intro z hz
    rcases List.mem_cons.1 hz with rfl | hz
    · omega
    · exact minus_dig hx.tail hy (by omega) z hz
 | x::r,y::s,w,hx,hy,hw=>by
  have h0:=hx x (by simp)
  have hB:B=1000000000:=rfl
  unfold minusL
  split
  · intro z hz
    rcases List.mem_cons.1 hz with rfl | hz
    · omega
    · exact minus_dig hx.tail hy.tail (by omega) z hz
  · intro z hz
    rcases List.mem_cons.1 hz with rfl | hz
    · omega
    · exact minus_dig hx.tail hy.tail (by omega) z hz
theorem minus_val:∀ {x y:List Nat} {w:Nat},Dig x->Dig y->w≤1->val y+w≤val x->val (minusL x y w)=val x-val y-w
 | [],y,w,_,_,_,h=>by simp only[minusL,val]at h ⊢; omega
 | x::r,[],w,hx,hy,hw,h=>by
  have h0:=hx x (by simp)
  have hB:B=1000000000:=rfl
  simp only[val]at h
  unfold minusL
  split
  · have hr:1≤val r:=by
     rcases Nat.eq_zero_or_pos (val r)with e | e
     · rw[e]at h; omega
     · exact e
    have ih:=minus_val (y:=[]) (w:=1) hx.tail hy (by omega) (by simpa[val]using hr)
    simp only[val]at ih ⊢
    rw[ih,hB]
    omega
  · have ih:=minus_val (y:=[]) (w:=0) hx.tail hy (by omega) (by simp[val])
    simp only[val]at ih ⊢
    rw[ih,hB]
    omega
 | x::r,y::s,w,hx,hy,hw,h=>by
  have h0:=hx x (by simp)
  have h1:=hy y (by simp)
  have hB:B=1000000000:=rfl
  simp only[val]at h
  rw[hB]at h h0 h1
  unfold minusL
  split
  · have hr:val s+1≤val r:=by omega
    have ih:=minus_val (w:=1) hx.tail hy.tail (by omega) hr
    simp only[val]
    rw[ih,hB]
    omega
  · have hr:val s+0≤val r:=by omega
    have ih:=minus_val (w:=0) hx.tail hy.tail (by omega) hr
    simp only[val]
    rw[ih,hB]
    omega
end Go.Proofs.YtogjmpkehjfecaaGreatDoor.Rc
namespace Go.Ab
variable [GlobEnv] [FrEnv] [KnEnv]
theorem OkP.closed {P:Program} {f:FuncId} {args:List SV} {H:List AO} {Pt:Out->List AO->Prop} (h0:∀ (vs:Array Value) (w:World),(callFunc f vs).run P w=.ok (.enter f vs) w) (h:Go.Ab.closed H->OkP P f args H Pt):OkP P f args H Pt :=
 ⟨h0,fun S vs hH hS hv=>(h (by rw[←hH]; exact hS.closed)).2 S vs hH hS hv⟩
end Go.Ab
namespace Go.Proofs.YtogjmpkehjfecaaGreatDoor.Rc
open Go.Ab Go.Ab.Lm
section
variable {H:List AO} {a b:Nat}
set_option maxRecDepth 10000 in
theorem qlp45 {x y z:List Nat} (hx:Dig x) (hy:Dig y) (hxl:x.length<1000000) (hyl:y.length<1000000) (hzl:z.length=x.length) {N:Nat} {K:XE->Env->List AO->Prop}
 (hexit:∀ env G,env.get 5=.own H.length 0 z.length 1 z.length->K (.exit 0) env (H++⟨us z,114,z.length,true⟩::G)) :
 ∀ (m:Nat) (p:List Nat) (w:Nat) (env:Env) (G:List AO),p.length+m=x.length->w≤1->p++minusL (x.drop p.length) (y.drop p.length) w=z →
  env.get 0=.slc (us x) x.length->env.get 1=.slc (us y) y.length->env.get 5=.own H.length 0 p.length 1 p.length->env.get 6=i64 w->env.get 7=i64 p.length →
  LI Tryz.prog N drawB l106_0 env (H++⟨us p,114,p.length,true⟩::G) K:=by
 intro m
 induction m with
 | zero =>
  intro p w env G hm hw hz h0 h1 h5 h6 h7
  refine li_go hm' l106_0.eq_1 ?_
  have hpx:p.length=x.length:=by omega
  have ex:x.drop p.length=[]:=List.drop_eq_nil_of_le (by omega)
  rw[ex]at hz
  simp[minusL]at hz
  subst hz
  simp -implicitDefEqProofs[h0,h1,h5,h6,h7,hpx]
  rw[←hpx]
  exact hexit _ G (by simp[h5])
 | succ m ih =>
  intro p w env G hm hw hz h0 h1 h5 h6 h7
  refine li_go hm' l106_0.eq_1 ?_
  have w1:IntKind.i64.wrap ((p.length:Int)+1)=((p.length+1:Nat):Int):=wrap_succ (by omega)
  have hB:B=1000000000:=rfl
  have step:∀ (r q:Nat),minusL (x.drop p.length) (y.drop p.length) w=r::minusL (x.drop (p.length+1)) (y.drop (p.length+1)) q->q≤1->∀ (env:Env) (G:List AO),env.get 0=.slc (us x) x.length->env.get 1=.slc (us y) y.length->env.get 5=.own H.length 0 (p.length+1) 1 (p.length+1)->env.get 6=i64 q->env.get 7=i64 ((p.length+1:Nat):Int) →
   LI Tryz.prog N drawB l106_0 env (H++⟨us p++[.val (.int .u32 r)],114,p.length+1,true⟩::G) K:=by
   intro r q hpl hq1 env G k0 k1 k5 k6 k7
   have e:us p++[.val (.int .u32 (r:Int))]=us (p++[r]):=by simp[us,u32]
   have el:p.length+1=(p++[r]).length:=by simp
   rw[e]
   rw[el]at k5 k7 ⊢
   refine ih (p++[r]) q env G (by simp; omega) hq1 ?_ k0 k1 k5 k6 k7
   rw[←el,List.append_assoc,List.singleton_append,<- hpl]
   exact hz
  have cx:p.length<x.length:=by omega
  have dx:=hx _ (List.getElem_mem cx)
  have gx:(us x)[p.length]?.getD .any=.val (.int .u32 x[p.length]):=us_at cx
  have gx':∀ h,(us x)[p.length]'h=.val (.int .u32 x[p.length]):=fun h=>us_get cx h
  have wa:IntKind.i64.wrap ((x[p.length]:Nat):Int)=(x[p.length]:Nat):=wrap_nat (by omega)
  have wb:IntKind.i64.wrap (((x[p.length]:Nat):Int)-w)=((x[p.length]:Nat):Int)-w:=wrap_id (by omega) (by omega)
  by_cases cy:p.length<y.length
  · have dy:=hy _ (List.getElem_mem cy)
    have gy:(us y)[p.length]?.getD .any=.val (.int .u32 y[p.length]):=us_at cy
    have gy':∀ h,(us y)[p.length]'h=.val (.int .u32 y[p.length]):=fun h=>us_get cy h
    have wc:IntKind.i64.wrap ((y[p.length]:Nat):Int)=(y[p.length]:Nat):=wrap_nat (by omega)
    have wd:IntKind.i64.wrap (((x[p.length]:Nat):Int)-w-(y[p.length]:Nat))=((x[p.length]:Nat):Int)-w-(y[p.length]:Nat):=wrap_id (by omega) (by omega)
    by_cases hd:x[p.length]<w+y[p.length]
    · have we:IntKind.i64.wrap (((x[p.length]:Nat):Int)-w-(y[p.length]:Nat)+1000000000)=((x[p.length]+B-w-y[p.length]:Nat):Int):=by rw[wrap_id (by omega) (by omega)]; omega
      have wf:=wu32 (n:=x[p.length]+B-w-y[p.length]) (by omega)
      have hs:=step _ 1 (by rw[List.drop_eq_getElem_cons cx,List.drop_eq_getElem_cons cy,minusL,if_pos hd]) (by omega)
      generalize x[p.length]+B-w-y[p.length]=r at *
      simp -implicitDefEqProofs[h0,h1,h5,h6,h7,cx,cy,us_len,gx,gx',gy,gy',wa,wb,wc,wd,we,wf,show(p.length:Int)<x.length by omega,show(p.length:Int)<y.length by omega,show((x[p.length]:Nat):Int)-w-(y[p.length]:Nat)<0 by omega]
      repeat (refine⟨by omega,?_⟩)
      refine⟨⟨rfl,rfl,rfl⟩,rfl,?_⟩
      repeat (refine⟨by omega,?_⟩)
      exact hs _ _ (by simp[h0]) (by simp[h1]) (by simp) (by simp) (by simp[w1])
    · have we:((x[p.length]:Nat):Int)-w-(y[p.length]:Nat)=((x[p.length] - w-y[p.length]:Nat):Int):=by omega
      have wf:=wu32 (n:=x[p.length] - w-y[p.length]) (by omega)
      have hs:=step _ 0 (by rw[List.drop_eq_getElem_cons cx,List.drop_eq_getElem_cons cy,minusL,if_neg hd]) (by omega)
      have hnn:¬ ((x[p.length] - w-y[p.length]:Nat):Int)<0:=by omega
      rw[we]at wd
      generalize x[p.length] - w-y[p.length]=r at *
      simp -implicitDefEqProofs[h0,h1,h5,h6,h7,cx,cy,us_len,gx,gx',gy,gy',wa,wb,wc,wd,we,wf,hnn,show(p.length:Int)<x.length by omega,show(p.length:Int)<y.length by omega]
      repeat (refine⟨by omega,?_⟩)
      refine⟨⟨rfl,rfl,rfl⟩,rfl,?_⟩
      repeat (refine⟨by omega,?_⟩)
      exact hs _ _ (by simp[h0]) (by simp[h1]) (by simp) (by simp) (by simp[w1])
  · have ey:y.drop p.length=[]:=List.drop_eq_nil_of_le (by omega)
    have ey1:y.drop (p.length+1)=[]:=List.drop_eq_nil_of_le (by omega)
    by_cases hd:x[p.length]<w
    · have we:IntKind.i64.wrap (((x[p.length]:Nat):Int)-w+1000000000)=((x[p.length]+B-w:Nat):Int):=by rw[wrap_id (by omega) (by omega)]; omega
      have wf:=wu32 (n:=x[p.length]+B-w) (by omega)
      have hs:=step _ 1 (by rw[List.drop_eq_getElem_cons cx,ey,ey1,minusL,if_pos hd]) (by omega)
      generalize x[p.length]+B-w=r at *
      simp -implicitDefEqProofs[h0,h1,h5,h6,h7,cx,cy,us_len,gx,gx',wa,wb,we,wf,show(p.length:Int)<x.length by omega,show ¬ (p.length:Int)<y.length by omega,show((x[p.length]:Nat):Int)-w<0 by omega]
      repeat (refine⟨by omega,?_⟩)
      refine⟨⟨rfl,rfl,rfl⟩,rfl,?_⟩
      repeat (refine⟨by omega,?_⟩)
      exact hs _ _ (by simp[h0]) (by simp[h1]) (by simp) (by simp) (by simp[w1])
    · have we:((x[p.length]:Nat):Int)-w=((x[p.length] - w:Nat):Int):=by omega
      have wf:=wu32 (n:=x[p.length] - w) (by omega)
      have hs:=step _ 0 (by rw[List.drop_eq_getElem_cons cx,ey,ey1,minusL,if_neg hd]) (by omega)
      have hnn:¬ ((x[p.length] - w:Nat):Int)<0:=by omega
      rw[we]at wb
      generalize x[p.length] - w=r at *
      simp -implicitDefEqProofs[h0,h1,h5,h6,h7,cx,cy,us_len,gx,gx',wa,wb,we,wf,hnn,show(p.length:Int)<x.length by omega,show ¬ (p.length:Int)<y.length by omega]
      repeat (refine⟨by omega,?_⟩)
      refine⟨⟨rfl,rfl,rfl⟩,rfl,?_⟩
      repeat (refine⟨by omega,?_⟩)
      exact hs _ _ (by simp[h0]) (by simp[h1]) (by simp) (by simp) (by simp[w1])
theorem ok106k (hab:b≤a) (ha:(lim a).length<1000000) (hb:(lim b).length<1000000):OkP Tryz.prog 106 [nS a,nS b] H fun o H'=>∃ z G,o=.ret (.own H.length 0 (lim (a-b)).length 1 z.length)∧H'=H++⟨us z,114,z.length,true⟩::G∧trimL z=lim (a-b)∧z.length=(lim a).length:=by
 refine okP_fn hm' Tryz.func106 c106 (by simp[nS,us_under]) fun hcl => ?_
 have hz:=minus_val (lim_dig a) (lim_dig b) (w:=0) (by omega) (by rw[val_lim,val_lim]; omega)
 have hd:=minus_dig (lim_dig a) (lim_dig b) (w:=0) (by omega)
 have hl:=minus_len (lim a) (lim b) 0
 have ht:=trim_lim hd
 rw[hz,val_lim,val_lim,Nat.sub_zero]at ht
 simp -implicitDefEqProofs[i106,r106,nS]
 refine qlp45 (H:=H) (z:=minusL (lim a) (lim b) 0) (lim_dig a) (lim_dig b) ha hb hl (fun env G h5 => ?_) (lim a).length [] 0 _ [] (by simp) (by omega) ?_ ?_ ?_ ?_ ?_ ?_
 · generalize minusL (lim a) (lim b) 0=z at *
   simp -implicitDefEqProofs[h5]
   have h69:=ok130k (X:=H++⟨us z,114,z.length,true⟩::G) (l:=z) (k:=H.length) (v:=z.length) (by simp) (by omega)
   refine call_goP h69 ?_
   rintro o G' ⟨rfl,hG⟩
   rw[hG]
   simp -implicitDefEqProofs[ht]
   exact⟨_,_,⟨z,rfl,⟨G,rfl⟩,ht,hl⟩,cv_id⟩
 · simp
 · simp
 · simp
 · simp
 · simp
 · simp
theorem trim_take:∀ l:List Nat,l.take (trimL l).length=trimL l
 | []=>rfl
 | x::r=>by
  have ih:=trim_take r
  by_cases h:trimL r=[]∧x=0
  · have e:trimL (x::r)=[]:=by unfold trimL; rw[if_pos h]
    rw[e]; rfl
  · have e:trimL (x::r)=x::trimL r:=by conv=>lhs; unfold trimL; rw[if_neg h]
    rw[e]; simp[ih]
theorem fz_trim {n:Nat} {L:List AO} {z:List Nat} {k d v:Nat} (h:L[k]? = some ⟨us z,114,v,true⟩):SV.fz n [] L (d+2) (.own (n+k) 0 (trimL z).length 1 v)=.slc (us (trimL z)) (trimL z).length:=by
 have hl:=trim_len z
 have e:(us z).take (trimL z).length=us (trimL z):=by
  unfold us
  rw[←List.map_take,trim_take]
 rw[fz_own,h]
 simp[placeOf,us_len,map_fz_under,us_under,e,hl]
end
end Go.Proofs.YtogjmpkehjfecaaGreatDoor.Rc
namespace Go.Ab.Shr
def insN (r:Nat->Int) (x:Nat):List Nat->List Nat
 | []=>[x]
 | y::l=>if r y<r x then x::y::l else y::insN r x l
def srtN (r:Nat->Int):Nat->List Nat
 | 0=>[]
 | n+1=>insN r n (srtN r n)
def Ord (r:Nat->Int):List Nat->Prop
 | []=>True
 | x::l=>(∀ y∈l,r y<r x∨(r y=r x∧x<y))∧Ord r l
theorem mem_ins {r:Nat->Int} {x y:Nat}:∀ {l:List Nat},y∈insN r x l↔y=x∨y∈l
 | []=>by simp[insN]
 | z::l=>by
  simp only[insN]
  split
  · simp
  · simp only[List.mem_cons,mem_ins (l:=l)]
    constructor
    · rintro(h | h | h); exact .inr (.inl h); exact .inl h; exact .inr (.inr h)
    · rintro(h | h | h); exact .inr (.inl h); exact .inl h; exact .inr (.inr h)
theorem len_ins {r:Nat->Int} {x:Nat}:∀ {l:List Nat},(insN r x l).length=l.length+1
 | []=>rfl
 | z::l=>by
  simp only[insN]
  split
  · rfl
  · simp only[List.length_cons,len_ins (l:=l)]
theorem ord_ins {r:Nat->Int} {x:Nat}:∀ {l:List Nat},Ord r l->(∀ y∈l,y<x)->Ord r (insN r x l)
 | [],_,_=>by simp[insN,Ord]
 | z::l,h,hx=>by
  simp only[insN]
  obtain⟨h1,h2⟩:=h
  split
  · rename_i hlt
    refine⟨fun y hy => ?_,h1,h2⟩
    rcases List.mem_cons.1 hy with rfl | hy
    · exact .inl hlt
    · rcases h1 y hy with h | h
      · exact .inl (by omega)
      · exact .inl (by omega)
  · rename_i hge
    refine⟨fun y hy => ?_,ord_ins h2 fun y hy=>hx y (List.mem_cons_of_mem _ hy)⟩
    rcases mem_ins.1 hy with rfl | hy
    · have:=hx z (by simp); omega
    · exact h1 y hy
theorem mem_srt {r:Nat->Int}:∀ {n x:Nat},x∈srtN r n↔x<n
 | 0,x=>by simp[srtN]
 | n+1,x=>by
  simp only[srtN,mem_ins,mem_srt (n:=n)]
  omega
theorem len_srt {r:Nat->Int}:∀ n:Nat,(srtN r n).length=n
 | 0=>rfl
 | n+1=>by simp only[srtN,len_ins,len_srt n]
theorem ord_srt {r:Nat->Int}:∀ n:Nat,Ord r (srtN r n)
 | 0=>trivial
 | n+1=>ord_ins (ord_srt n) fun y hy=>mem_srt.1 hy
def top (r:Nat->Int):Nat->Nat
 | 0=>0
 | n+1=>if n=0 then 0 else if r (top r n)<r n then n else top r n
def put (f:Nat->Int) (k:Nat) (v:Int):Nat->Int:=fun i=>if i=k then v else f i
def addL (f:Nat->Int):List Nat->Nat->Int
 | [],i=>f i
 | x::l,i=>addL (put f x (f x+1)) l i
end Go.Ab.Shr
namespace Go.Proofs.YtogjmpkehjfecaaGreatDoor.Rc
open Go.Ab Go.Ab.Shr
def nats (l:List Nat):List SV:=ints (l.map fun(n:Nat)=>(n:Int))
@[simp] theorem nats_len (l:List Nat):(nats l).length=l.length:=by simp[nats]
def bkI (r:Nat->Int) (x:Nat):List Nat->List Nat->List Nat
 | [],B=>x::B
 | y::A,B=>if r y<r x then bkI r x A (y::B)else(y::A).reverse++x::B
theorem ins_all {r:Nat->Int} {x:Nat}:∀ (B:List Nat),(∀ y∈B,r y<r x)->insN r x B=x::B
 | [],_=>rfl
 | y::B,h=>by simp only[insN]; rw[if_pos (h y (by simp))]
theorem ins_app {r:Nat->Int} {x:Nat}:∀ (A B:List Nat),(∀ y∈A,¬ r y<r x)->insN r x (A++B)=A++insN r x B
 | [],B,_=>rfl
 | y::A,B,h=>by
  show insN r x (y::(A++B))=y::(A++insN r x B)
  simp only[insN]
  rw[if_neg (h y (by simp)),ins_app A B fun z hz=>h z (List.mem_cons_of_mem _ hz)]
theorem bk_ins {r:Nat->Int} {x:Nat}:∀ (A B:List Nat),(A.Pairwise fun a b=>r a≤r b)->(∀ y∈B,r y<r x)->bkI r x A B=insN r x (A.reverse++B)
 | [],B,_,hB=>by simp only[bkI,List.reverse_nil,List.nil_append,ins_all B hB]
 | y::A,B,hA,hB=>by
  rw[List.pairwise_cons]at hA
  simp only[bkI]
  split
  · rename_i h
    rw[bk_ins A (y::B) hA.2 fun z hz=>by
     rcases List.mem_cons.1 hz with rfl | hz
     · exact h
     · exact hB z hz]
    simp
  · rename_i h
    rw[ins_app _ _ fun z hz => ?_,ins_all B hB]
    rw[List.mem_reverse]at hz
    rcases List.mem_cons.1 hz with rfl | hz
    · exact h
    · have:=hA.1 z hz; omega
theorem ord_pw {r:Nat->Int}:∀ {l:List Nat},Ord r l->l.Pairwise fun a b=>r b≤r a
 | [],_=>.nil
 | x::l,h=>by
  rw[List.pairwise_cons]
  refine⟨fun y hy => ?_,ord_pw h.2⟩
  rcases h.1 y hy with h | h<;>omega
theorem bk_srt {r:Nat->Int} (n:Nat):bkI r n (srtN r n).reverse []=srtN r (n+1):=by
 rw[bk_ins _ _ (by rw[List.pairwise_reverse]; exact ord_pw (ord_srt n)) (by simp)]
 simp[srtN]
end Go.Proofs.YtogjmpkehjfecaaGreatDoor.Rc
namespace Go.Proofs.YtogjmpkehjfecaaGreatDoor.Rc
open Go.Ab Go.Ab.Shr
def oN (C:List SV) (l:List Nat) (D:List SV) (T:TypeId) (v:Nat):AO:=⟨C++(nats l++D),T,v,true⟩
section
variable {H:List AO} {k v:Nat} {C D:List SV} {T:TypeId} {vf:SV} {r:Nat->Int} {n:Nat}
def oS (H:List AO) (k:Nat) (C D:List SV) (T:TypeId) (v:Nat) (l:List Nat):List AO:=H.set k (oN C l D T v)
theorem oS_cells (hk:k<H.length) (l:List Nat):objCells (oS H k C D T v l) k v=C++(nats l++D):=by
 have:=objCells_hS hk [] (C++(nats l++D)) T v
 simpa[oS,oN]using this
theorem oS_put (hk:k<H.length) (l:List Nat) (f:AO->AO):Ab.setObj (oS H k C D T v l) k f=H.set k (f (oN C l D T v)):=by
 have:=setObj_hS hk [] (oN C l D T v) f
 simpa[oS]using this
theorem nats_set {l:List Nat} {j:Nat} (hj:j<l.length) (x:Nat):(C++(nats l++D)).take (C.length+j)++i64 (x:Int)::(C++(nats l++D)).drop (C.length+j+1)=C++(nats (l.set j x)++D):=by
 rw[List.take_append,List.drop_append]
 have e1:C.length+j-C.length=j:=by omega
 have e2:C.length+j+1-C.length=j+1:=by omega
 rw[e1,e2,List.take_of_length_le (by omega),List.drop_eq_nil_of_le (by omega),List.take_append,List.drop_append]
 have e3:j-(nats l).length=0:=by simp; omega
 have e4:j+1-(nats l).length=0:=by simp; omega
 rw[e3,e4]
 simp only[List.take_zero,List.append_nil,List.drop_zero,List.nil_append,List.append_assoc,List.append_cancel_left_eq]
 have:(nats l).take j++i64 (x:Int)::(nats l).drop (j+1)=nats (l.set j x):=by
  have:=ints_set (l:=l.map fun(n:Nat)=>(n:Int)) (k:=j) (by simpa using hj) (x:Int)
  simpa[nats,List.map_set]using this
 rw[←this]
 simp
theorem oS_at (hk:k<H.length) {l:List Nat} {j:Nat} (hj:j<l.length):(objCells (oS H k C D T v l) k v)[C.length+j]?.getD .any=i64 (l[j]:Nat):=by
 rw[oS_cells hk,List.getElem?_append_right (by omega),List.getElem?_append_left (by simp; omega)]
 simp[nats,ints,hj]
theorem oS_st (hk:k<H.length) {l:List Nat} {j:Nat} (hj:j<l.length) (x:Nat) :
 Ab.setObj (oS H k C D T v l) k (fun o=>{ cells:=List.take (C.length+j) o.cells++i64 (x:Int)::List.drop (C.length+j+1) o.cells,ty:=o.ty,ver:=o.ver,live:=o.live })=oS H k C D T v (l.set j x):=by
 rw[oS_put hk]
 simp only[oS,oN]
 rw[nats_set hj]
set_option maxRecDepth 10000 in
theorem tlp98_1 (hk:k<H.length) (hvf:vf.vd=true∧vf.ug=vf) (hn:n<4611686018427387904)
 (hcmp:∀ (l:List Nat) (a b:Nat),a<n->b<n->OkC Tryz.prog vf [i64 a,i64 b] (oS H k C D T v l) (.ret (i64 (r b-r a))) (oS H k C D T v l))
 {x b i:Nat} (hx:x<n) {R F:List Nat} {N:Nat} {K:XE->Env->List AO->Prop}
 (hexit:∀ env,env.get 0=.own k C.length n 1 v->env.get 1=i64 0->env.get 2=i64 b->env.get 3=vf->env.get 8=i64 i->K (.exit 2) env (oS H k C D T v (F++R))) :
 ∀ (A B:List Nat) (env:Env),(A.length+1+B.length+R.length=n)->(∀ y∈A,y<n)->bkI r x A B=F →
  env.get 0=.own k C.length n 1 v->env.get 1=i64 0->env.get 2=i64 b->env.get 3=vf->env.get 8=i64 i->env.get 9=i64 A.length →
  LI Tryz.prog N drawB l117_1 env (oS H k C D T v (A.reverse++x::B++R)) K:=by
 intro A
 induction A with
 | nil =>
  intro B env hl hA hF h0 h1 h2 h3 h8 h9
  refine li_go hm l117_1.eq_1 ?_
  subst hF
  have hc:=oS_cells (C:=C) (D:=D) (T:=T) (v:=v) hk (bkI r x [] B++R)
  simp only[List.length_nil]at h9
  simp -implicitDefEqProofs[h0,h1,h2,h3,h8,h9,hvf.1,hvf.2]
  exact hexit _ (by simp[h0]) (by simp[h1]) (by simp[h2]) (by simp[h3]) (by simp[h8])
 | cons y A ih =>
  intro B env hl hA hF h0 h1 h2 h3 h8 h9
  refine li_go hm l117_1.eq_1 ?_
  simp only[List.length_cons]at hl h9
  have hLl:(A.reverse++y::x::(B++R)).length=n:=by simp; omega
  have e1:(objCells (oS H k C D T v (A.reverse++y::x::(B++R))) k v)[C.length+(A.length+1)]?.getD .any=i64 (x:Int):=by rw[oS_at hk (by simp)]; simp
  have e2:(objCells (oS H k C D T v (A.reverse++y::x::(B++R))) k v)[C.length+A.length]?.getD .any=i64 (y:Int):=by rw[oS_at hk (by simp)]; simp
  have e3:(objCells (oS H k C D T v (A.reverse++y::x::(B++R))) k v).length=C.length+n+D.length:=by rw[oS_cells hk]; simp only[List.length_append,nats_len]; simp only[List.length_append]at hLl; omega
  have w1:IntKind.i64.wrap (A.length:Int)=A.length:=wrap_id (by omega) (by omega)
  have e4:=oS_st (C:=C) (D:=D) (T:=T) (v:=v) hk (l:=A.reverse++y::x::(B++R)) (j:=A.length+1) (by simp) y
  have e5:(A.reverse++y::x::(B++R)).set (A.length+1) y=A.reverse++y::y::(B++R):=by simp[List.set_append]
  have e6:=oS_st (C:=C) (D:=D) (T:=T) (v:=v) hk (l:=A.reverse++y::y::(B++R)) (j:=A.length) (by simp) x
  have e7:(A.reverse++y::y::(B++R)).set A.length x=A.reverse++x::y::(B++R):=by simp[List.set_append]
  have e8:(objCells (oS H k C D T v (A.reverse++y::y::(B++R))) k v).length=C.length+n+D.length:=by rw[oS_cells hk]; simp only[List.length_append,nats_len,List.length_cons]; simp only[List.length_append,List.length_cons]at hLl; omega
  rw[e5]at e4
  rw[e7]at e6
  simp -implicitDefEqProofs[h0,h1,h2,h3,h8,h9,hvf.1,hvf.2,e1,e2,e3,w1]
  refine⟨by omega,by omega,by omega,by omega,call_gd (hcmp _ x y hx (hA y (by simp))).toP fun out H' hP => ?_⟩
  obtain⟨rfl,rfl⟩:=hP
  simp only[bkI]at hF
  by_cases hc:r y<r x
  · rw[if_pos hc]at hF
    have hc':r y-r x<0:=by omega
    simp -implicitDefEqProofs[hc',h0,h9,e1,e2,e3,w1,e4,e6,e8]
    refine⟨by omega,by omega,by omega,by omega,by omega,by omega,by omega,by omega,?_⟩
    have e9:A.reverse++x::(y::B)++R=A.reverse++x::y::(B++R):=by simp
    rw[←e9]
    refine ih (y::B) _ (by simp; omega) (fun z hz=>hA z (List.mem_cons_of_mem _ hz)) hF ?_ ?_ ?_ ?_ ?_ ?_
    · simp
    · simp[h1]
    · simp[h2]
    · simp[h3]
    · simp[h8]
    · simp
  · rw[if_neg hc]at hF
    have hc':¬ r y-r x<0:=by omega
    subst hF
    simp -implicitDefEqProofs[hc']
    have e9:(y::A).reverse++x::B++R=A.reverse++y::x::(B++R):=by simp
    rw[e9]at hexit
    exact hexit _ (by simp[h0]) (by simp[h1]) (by simp[h2]) (by simp[h3]) (by simp[h8])
set_option maxRecDepth 10000 in
theorem tlp98_0 (hk:k<H.length) (hvf:vf.vd=true∧vf.ug=vf) (hn:n<4611686018427387904)
 (hcmp:∀ (l:List Nat) (a b:Nat),a<n->b<n->OkC Tryz.prog vf [i64 a,i64 b] (oS H k C D T v l) (.ret (i64 (r b-r a))) (oS H k C D T v l))
 {N:Nat} {K:XE->Env->List AO->Prop} (hexit:∀ env,K (.exit 0) env (oS H k C D T v (srtN r n))) :
 ∀ (m i:Nat) (env:Env),i+m=n->env.get 0=.own k C.length n 1 v->env.get 1=i64 0->env.get 2=i64 n->env.get 3=vf->env.get 8=i64 i →
  LI Tryz.prog N drawB l117_0 env (oS H k C D T v (srtN r i++List.range' i m)) K:=by
 intro m
 induction m with
 | zero =>
  intro i env hi h0 h1 h2 h3 h8
  refine li_go hm l117_0.eq_1 ?_
  have e:i=n:=by omega
  subst e
  simp -implicitDefEqProofs[h0,h1,h2,h3,h8]
  exact hexit _
 | succ m ih =>
  intro i env hi h0 h1 h2 h3 h8
  refine li_go hm l117_0.eq_1 ?_
  have hlt:i<n:=by omega
  simp -implicitDefEqProofs[h0,h1,h2,h3,h8,hlt]
  have e1:srtN r i++List.range' i (m+1)=((srtN r i).reverse).reverse++i::[]++List.range' (i+1) m:=by
   rw[List.range'_succ]; simp
  rw[e1]
  have hl:(srtN r i).length=i:=len_srt i
  refine tlp98_1 (r:=r) (n:=n) (i:=i) (b:=n) (R:=List.range' (i+1) m) (F:=srtN r (i+1)) hk hvf hn hcmp hlt (fun env g0 g1 g2 g3 g8 => ?_) (srtN r i).reverse [] _ (by simp[hl]; omega) (fun y hy => ?_) (bk_srt i) ?_ ?_ ?_ ?_ ?_ ?_
  · simp -implicitDefEqProofs[g8]
    refine ih (i+1) _ (by omega) ?_ ?_ ?_ ?_ ?_
    · simp[g0]
    · simp[g1]
    · simp[g2]
    · simp[g3]
    · simp[wrap_suc (show i<9223372036854775807 by omega)]
  · rw[List.mem_reverse,mem_srt]at hy; omega
  · simp
  · simp
  · simp
  · simp
  · simp
  · simp[hl]
theorem ok117 (hk:k<H.length) (hvf:vf.vd=true∧vf.ug=vf) (hvu:vf.under H.length=true) (hn:n<4611686018427387904)
 (hcmp:∀ (l:List Nat) (a b:Nat),a<n->b<n->OkC Tryz.prog vf [i64 a,i64 b] (oS H k C D T v l) (.ret (i64 (r b-r a))) (oS H k C D T v l)) :
 Ok Tryz.prog 117 [.own k C.length n 1 v,i64 0,i64 n,vf] (oS H k C D T v (List.range n)) (.ret (.tup [])) (oS H k C D T v (srtN r n)):=by
 have hlen:∀ l,(oS H k C D T v l).length=H.length:=fun l=>by simp[oS]
 refine ok_fn hm Tryz.func117 c117 (by simp[hlen,hk,hvu]) fun hcl => ?_
 simp -implicitDefEqProofs[i117,r117]
 by_cases h0:n=0
 · subst h0
   refine li_go hm l117_0.eq_1 ?_
   simp -implicitDefEqProofs
   exact cv_id
 · have e1:List.range n=srtN r 1++List.range' 1 (n-1):=by
    rw[List.range_eq_range',show n=(n-1)+1 by omega,List.range'_succ]; rfl
   rw[e1]
   refine tlp98_0 (r:=r) hk hvf hn hcmp (fun env => ?_) (n-1) 1 _ (by omega) ?_ ?_ ?_ ?_ ?_
   · simp -implicitDefEqProofs
     exact cv_id
   · simp
   · simp
   · simp
   · simp
   · simp[wrap_id (show(-9223372036854775808:Int)≤1 by omega) (show(1:Int)≤9223372036854775807 by omega)]
end
end Go.Proofs.YtogjmpkehjfecaaGreatDoor.Rc
namespace Go.Proofs.YtogjmpkehjfecaaGreatDoor.Rc
open Go.Ab Go.Ab.Shr
section
variable {H:List AO} {k v:Nat} {C D:List SV} {T:TypeId} {vf:SV} {r:Nat->Int} {n:Nat}
set_option maxRecDepth 10000 in
theorem ok88 (hk:k<H.length) (hvf:vf.vd=true∧vf.ug=vf∧vf.strip=vf) (hvu:vf.under H.length=true) (hn:n≤10)
 (hcmp:∀ (l:List Nat) (a b:Nat),a<n->b<n->OkC Tryz.prog vf [i64 a,i64 b] (oS H k C D T v l) (.ret (i64 (r b-r a))) (oS H k C D T v l)) :
 Ok Tryz.prog 88 [.own k C.length n 1 v,i64 n,vf] (oS H k C D T v (List.range n)) (.ret (.tup [])) (oS H k C D T v (srtN r n)):=by
 have hlen:∀ l,(oS H k C D T v l).length=H.length:=fun l=>by simp[oS]
 refine ok_fn hm Tryz.func88 c88 (by simp[hlen,hk,hvu]) fun hcl => ?_
 simp -implicitDefEqProofs[i88,r88]
 refine li_go hm l88_0.eq_1 ?_
 simp -implicitDefEqProofs[show ¬ (20:Int)≤(n:Int)by omega]
 refine call_go (ok117 hk ⟨hvf.1,hvf.2.1⟩ hvu (by omega) hcmp) ?_
 simp -implicitDefEqProofs
 refine li_go hm l88_1.eq_1 ?_
 simp -implicitDefEqProofs[show ¬ (20:Int)<(n:Int)by omega]
 exact cv_id
theorem ok54 (hk:k<H.length) (hvf:vf.vd=true∧vf.ug=vf∧vf.strip=vf) (hvu:vf.under H.length=true) (hn:n≤10)
 (hcmp:∀ (l:List Nat) (a b:Nat),a<n->b<n->OkC Tryz.prog vf [i64 a,i64 b] (oS H k C D T v l) (.ret (i64 (r b-r a))) (oS H k C D T v l)) :
 Ok Tryz.prog 54 [.own k C.length n 1 v,vf] (oS H k C D T v (List.range n)) (.ret (.tup [])) (oS H k C D T v (srtN r n)):=by
 have hlen:∀ l,(oS H k C D T v l).length=H.length:=fun l=>by simp[oS]
 refine ok_fn hm Tryz.func54 c54 (by simp[hlen,hk,hvu]) fun hcl => ?_
 simp -implicitDefEqProofs[i54,r54]
 refine call_go (ok88 hk hvf hvu hn hcmp) ?_
 simp -implicitDefEqProofs
 exact cv_id
end
def posI (x:Int):Int:=max x 0
def rstI (l:List Int) (tot:Int) (i:Nat):Int:=(65536*posI (l.getD i 0)) % tot
section
variable {H:List AO} {x:SV} {l:List Int} {b t p:Nat}
structure ClS (H:List AO) (x:SV) (l:List Int) (tot:Int) (b t p:Nat):Prop where
 hb:objCells H b 0=[x]
 ht:objCells H t 0=[i64 tot]
 hp:objCells H p 0=[.fn (.func 53) [] [.ptr (.own b 0 0 0 0) 0,.ptr (.own t 0 0 0 0) 0]]
 lb:b<H.length
 lt:t<H.length
 lp:p<H.length
 hx:IsI H x l
theorem ok53 {tot:Int} (h:ClS H x l tot b t p) (hl:l.length≤10) (hr:∀ v∈l,-70368744177664≤v∧v≤70368744177664) (h0:0<tot) (h1:tot<4611686018427387904) {i:Nat} (hi:i<l.length) :
 Ok Tryz.prog 53 [i64 i,.ptr (.own b 0 0 0 0) 0,.ptr (.own t 0 0 0 0) 0] H (.ret (i64 (rstI l tot i))) H:=by
 have hx:=h.hx
 refine ok_fn hm Tryz.func53 c53 (by simp[h.lb,h.lt]) fun hcl => ?_
 have hv:=hr _ (List.getElem_mem hi)
 have e:rstI l tot i=(65536*max l[i] 0) % tot:=by simp[rstI,posI,hi]
 have w1:IntKind.i64.wrap (65536*max l[i] 0)=65536*max l[i] 0:=wrap_id (by omega) (by omega)
 have w2:(65536*max l[i] 0).tmod tot=65536*max l[i] 0 % tot:=Int.tmod_eq_emod_of_nonneg (by omega)
 rw[e]
 simp -implicitDefEqProofs[i53,r53,h.hb,h.ht,hx.vd,hx.ug,hx.sl,hx.len,hi,hx.ok hi,hx.v hi,w1,w2,show ¬ tot=0 by omega]
 exact cv_id
theorem rst_rng {tot:Int} (h0:0<tot) (i:Nat):0≤rstI l tot i∧rstI l tot i<tot:=⟨Int.emod_nonneg _ (by omega),Int.emod_lt_of_pos _ h0⟩
theorem ok55 {tot:Int} (h:ClS H x l tot b t p) (hl:l.length≤10) (hr:∀ v∈l,-70368744177664≤v∧v≤70368744177664) (h0:0<tot) (h1:tot<4611686018427387904) {i j:Nat} (hi:i<l.length) (hj:j<l.length) :
 Ok Tryz.prog 55 [i64 i,i64 j,.ptr (.own p 0 0 0 0) 0] H (.ret (i64 (rstI l tot j-rstI l tot i))) H:=by
 refine ok_fn hm Tryz.func55 c55 (by simp[h.lp]) fun hcl => ?_
 have r1:=rst_rng (l:=l) h0 i
 have r2:=rst_rng (l:=l) h0 j
 have w1:IntKind.i64.wrap (rstI l tot j-rstI l tot i)=rstI l tot j-rstI l tot i:=wrap_id (by omega) (by omega)
 simp -implicitDefEqProofs[i55,r55,h.hp]
 refine call_of (out:=.ret (i64 (rstI l tot j))) (H':=H) (by simpa using ok53 h hl hr h0 h1 hj) ?_
 simp -implicitDefEqProofs[h.hp]
 refine call_of (out:=.ret (i64 (rstI l tot i))) (H':=H) (by simpa using ok53 h hl hr h0 h1 hi) ?_
 simp -implicitDefEqProofs[h.hp,w1]
 exact cv_id
end
end Go.Proofs.YtogjmpkehjfecaaGreatDoor.Rc
namespace Go.Proofs.YtogjmpkehjfecaaGreatDoor.Rc
open Go.Ab Go.Ab.Shr
def G2 (H:List AO) (a k:Nat) (o p:AO):List AO:=(H.set a o).set k p
section
variable {H L:List AO} {a k:Nat} {o p:AO}
@[simp] theorem g2_len:(G2 H a k o p).length=H.length:=by simp[G2]
theorem g2_a (ha:a<H.length) (hk:a≠k):(G2 H a k o p++L)[a]? = some o:=by
 rw[List.getElem?_append_left (by simpa using ha)]
 unfold G2
 rw[List.getElem?_set_ne (Ne.symm hk),List.getElem?_set_self ha]
theorem g2_k (hk:k<H.length):(G2 H a k o p++L)[k]? = some p:=by
 rw[List.getElem?_append_left (by simpa using hk)]
 unfold G2
 rw[List.getElem?_set_self (by simpa using hk)]
theorem g2_ca (ha:a<H.length) (hk:a≠k) {c:List SV} {T:TypeId} {v:Nat}:objCells (G2 H a k ⟨c,T,v,true⟩ p++L) a v=c:=objCells_of (o:=⟨c,T,v,true⟩) (g2_a ha hk) rfl
theorem g2_ck (hk:k<H.length) {c:List SV} {T:TypeId} {v:Nat}:objCells (G2 H a k o ⟨c,T,v,true⟩++L) k v=c:=objCells_of (o:=⟨c,T,v,true⟩) (g2_k hk) rfl
theorem g2_n0 (v:Nat):objCells (G2 H a k o p++L) H.length v=objCells L 0 v:=by
 have:=objCells_new0 (G2 H a k o p) L v; rwa [g2_len]at this
theorem g2_n (j v:Nat):objCells (G2 H a k o p++L) (H.length+j) v=objCells L j v:=by
 have:=objCells_new (G2 H a k o p) L j v; rwa [g2_len]at this
theorem g2_sn (j:Nat) (f:AO->AO):Ab.setObj (G2 H a k o p++L) (H.length+j) f=G2 H a k o p++Ab.setObj L j f:=by
 have:=setObj_app (G2 H a k o p) L j f; rwa [g2_len]at this
theorem g2_sa (ha:a<H.length) (hk:a≠k) (f:AO->AO):Ab.setObj (G2 H a k o p++L) a f=G2 H a k (f o) p++L:=by
 rw[setObj_some (g2_a ha hk),List.set_append_left _ _ (by simpa using ha)]
 unfold G2
 rw[List.set_comm _ _ (Ne.symm hk),List.set_set]
theorem g2_sk (hk:k<H.length) (f:AO->AO):Ab.setObj (G2 H a k o p++L) k f=G2 H a k o (f p)++L:=by
 rw[setObj_some (g2_k hk),List.set_append_left _ _ (by simpa using hk)]
 unfold G2
 rw[List.set_set]
theorem g2_closed (hcl:closed H) (ho:SV.underL H.length o.cells=true) (hp:SV.underL H.length p.cells=true):closed (G2 H a k o p):=by
 unfold G2
 exact closed_set (closed_set hcl a ho) k (by simpa using hp)
end
def oI (C:List SV) (l:List Int) (D:List SV) (T:TypeId) (v:Nat):AO:=⟨C++(ints l++D),T,v,true⟩
theorem oI_set {C D:List SV} {l:List Int} {j:Nat} (hj:j<l.length) (x:Int):(C++(ints l++D)).take (C.length+j)++i64 x::(C++(ints l++D)).drop (C.length+j+1)=C++(ints (l.set j x)++D):=by
 rw[List.take_append,List.drop_append]
 have e1:C.length+j-C.length=j:=by omega
 have e2:C.length+j+1-C.length=j+1:=by omega
 rw[e1,e2,List.take_of_length_le (by omega),List.drop_eq_nil_of_le (by omega),List.take_append,List.drop_append]
 have e3:j-(ints l).length=0:=by simp; omega
 have e4:j+1-(ints l).length=0:=by simp; omega
 rw[e3,e4]
 simp only[List.take_zero,List.append_nil,List.drop_zero,List.nil_append,List.append_assoc,List.append_cancel_left_eq]
 rw[←ints_set hj x]
 simp
theorem oI_len {C D:List SV} {l:List Int}:(C++(ints l++D)).length=C.length+l.length+D.length:=by simp; omega
def sumF (f:Nat->Int):Nat->Int
 | 0=>0
 | n+1=>sumF f n+f n
def totK (l:List Int) (k:Nat):Int:=sumF (fun i=>posI (l.getD i 0)) k
def totI (l:List Int):Int:=totK l l.length
def floI (l:List Int) (tot:Int) (i:Nat):Int:=if tot=0 then 65536 / (l.length:Int)else if 0<l.getD i 0 then 65536*l.getD i 0 / tot else 0
def lefK (l:List Int) (k:Nat):Int:=65536-sumF (floI l (totI l)) k
def lefI (l:List Int):Int:=lefK l l.length
def ordI (l:List Int):List Nat:=if 0<totI l∧0<lefI l then srtN (rstI l (totI l)) l.length else List.range l.length
def shrI (l:List Int):List Int:=(List.range l.length).map (addL (floI l (totI l)) ((ordI l).take (lefI l).toNat))
theorem shr_len (l:List Int):(shrI l).length=l.length:=by simp[shrI]
end Go.Proofs.YtogjmpkehjfecaaGreatDoor.Rc
namespace Go.Proofs.YtogjmpkehjfecaaGreatDoor.Rc
open Go.Ab Go.Ab.Shr
theorem posI_nn (x:Int):0≤posI x:=by unfold posI; omega
theorem sumF_nn {f:Nat->Int} (h:∀ i,0≤f i):∀ n,0≤sumF f n
 | 0=>Int.le_refl _
 | n+1=>by have:=sumF_nn h n; have:=h n; simp only[sumF]; omega
theorem sumF_le {f:Nat->Int} {c:Int}:∀ n,(∀ i,i<n->f i≤c)->sumF f n≤n*c
 | 0,_=>by simp[sumF]
 | n+1,h=>by
  have h1:=sumF_le n fun i hi=>h i (by omega)
  have h2:=h n (by omega)
  simp only[sumF]
  have:((n+1:Nat):Int)*c=n*c+c:=by rw[Int.natCast_succ,Int.add_mul,Int.one_mul]
  omega
theorem sumF_const (c:Int):∀ n,sumF (fun _=>c) n=n*c
 | 0=>by simp[sumF]
 | n+1=>by
  simp only[sumF,sumF_const c n]
  rw[Int.natCast_succ,Int.add_mul,Int.one_mul]
theorem sumF_mul (f:Nat->Int) (c:Int):∀ n,sumF (fun i=>c*f i) n=c*sumF f n
 | 0=>by simp[sumF]
 | n+1=>by simp only[sumF,sumF_mul f c n,Int.mul_add]
theorem sumF_mono {f g:Nat->Int}:∀ n,(∀ i,i<n->f i≤g i)->sumF f n≤sumF g n
 | 0,_=>Int.le_refl _
 | n+1,h=>by
  have h1:=sumF_mono n fun i hi=>h i (by omega)
  have h2:=h n (by omega)
  simp only[sumF]; omega
theorem sumF_add (f g:Nat->Int):∀ n,sumF (fun i=>f i+g i) n=sumF f n+sumF g n
 | 0=>rfl
 | n+1=>by simp only[sumF,sumF_add f g n]; omega
theorem sumF_congr {f g:Nat->Int}:∀ n,(∀ i,i<n->f i=g i)->sumF f n=sumF g n
 | 0,_=>rfl
 | n+1,h=>by simp only[sumF]; rw[sumF_congr n fun i hi=>h i (by omega),h n (by omega)]
theorem totK_nn (l:List Int) (k:Nat):0≤totK l k:=sumF_nn (fun i=>posI_nn _) _
theorem tot_nn (l:List Int):0≤totI l:=totK_nn l _
theorem totK_suc {l:List Int} {i:Nat} (h:i<l.length):totK l (i+1)=totK l i+max l[i] 0:=by simp[totK,sumF,posI,h]
theorem tot_le {l:List Int} (hl:l.length≤10) (hr:∀ v∈l,v≤70368744177664):∀ k,k≤l.length->totK l k≤k*70368744177664:=fun k hk =>
 sumF_le k fun i hi=>by
  have h:i<l.length:=by omega
  have:=hr _ (List.getElem_mem h)
  simp only[posI,List.getD_eq_getElem?_getD,List.getElem?_eq_getElem h,Option.getD_some]; omega
theorem floI_nn (l:List Int) (i:Nat):0≤floI l (totI l) i:=by
 have:=tot_nn l
 unfold floI
 split
 · exact Int.ediv_nonneg (by omega) (by omega)
 · split
   · exact Int.ediv_nonneg (by omega) this
   · exact Int.le_refl _
theorem flo_pos {l:List Int} (h:totI l≠0) (i:Nat):floI l (totI l) i=65536*posI (l.getD i 0) / totI l:=by
 unfold floI
 rw[if_neg h]
 split
 · have:posI (l.getD i 0)=l.getD i 0:=by unfold posI; omega
   rw[this]
 · have:posI (l.getD i 0)=0:=by unfold posI; omega
   rw[this]; simp
theorem lef_rng {l:List Int} (hn:0<l.length):0≤lefI l∧lefI l<l.length:=by
 have h0:=tot_nn l
 unfold lefI lefK
 by_cases h:totI l=0
 · have e:sumF (floI l (totI l)) l.length=l.length*(65536 / (l.length:Int)):=by
    rw[←sumF_const]
    exact sumF_congr _ fun i _=>by unfold floI; rw[if_pos h]
   rw[e]
   have h1:=Int.emod_add_mul_ediv 65536 (l.length:Int)
   have h2:=Int.emod_nonneg 65536 (b:=(l.length:Int)) (by omega)
   have h3:=Int.emod_lt_of_pos 65536 (b:=(l.length:Int)) (by omega)
   omega
 · have hp:0<totI l:=by omega
   have e1:sumF (fun i=>totI l*floI l (totI l) i) l.length=totI l*sumF (floI l (totI l)) l.length:=sumF_mul _ _ _
   have e2:sumF (fun i=>65536*posI (l.getD i 0)) l.length=65536*totI l:=sumF_mul _ _ _
   have h1:sumF (fun i=>totI l*floI l (totI l) i) l.length≤sumF (fun i=>65536*posI (l.getD i 0)) l.length:=sumF_mono _ fun i _=>by
    rw[flo_pos h]; exact Int.mul_ediv_self_le (by omega)
   have h2:sumF (fun i=>65536*posI (l.getD i 0)) l.length≤sumF (fun i=>totI l*floI l (totI l) i+(totI l-1)) l.length:=sumF_mono _ fun i _=>by
    rw[flo_pos h]
    have:=Int.emod_add_mul_ediv (65536*posI (l.getD i 0)) (totI l)
    have:=Int.emod_lt_of_pos (65536*posI (l.getD i 0)) hp
    omega
   rw[sumF_add,sumF_const]at h2
   rw[e1,e2]at h1 h2
   generalize sumF (floI l (totI l)) l.length=s at *
   generalize totI l=t at *
   constructor
   · have:t*s≤t*65536:=by rw[Int.mul_comm t 65536]; exact h1
     have:=Int.le_of_mul_le_mul_left this hp
     omega
   · have h3:t*65536<t*s+l.length*t:=by
      have:(l.length:Int)*(t-1)<l.length*t:=Int.mul_lt_mul_of_pos_left (by omega) (by omega)
      rw[Int.mul_comm t 65536]; omega
     have h4:t*65536<t*(s+l.length):=by rw[Int.mul_add,Int.mul_comm t l.length]; exact h3
     have:=Int.lt_of_mul_lt_mul_left h4 (by omega)
     omega
end Go.Proofs.YtogjmpkehjfecaaGreatDoor.Rc
namespace Go.Proofs.YtogjmpkehjfecaaGreatDoor.Rc
open Go.Ab Go.Ab.Shr
section
variable {H:List AO} {a k va v n:Nat} {C D:List SV} {T:TypeId} {x:SV} {l:List Int}
def S6 (H:List AO) (a k va v:Nat) (C D:List SV) (T:TypeId) (x:SV) (o p:List Int) (t:Int):List AO :=
 G2 H a k ⟨ints o,3,va,true⟩ (oI C p D T v)++[⟨[x],45,0,true⟩,⟨[i64 t],3,0,true⟩]
structure P2 (H:List AO) (a k:Nat):Prop where
 la:a<H.length
 lk:k<H.length
 ne:a≠k
set_option maxRecDepth 10000 in
theorem tlp38_0 (hP:P2 H a k) {o p:List Int} (hx:∀ L,IsI (G2 H a k ⟨ints o,3,va,true⟩ (oI C p D T v)++L) x l) (hl:l.length≤10) (hr:∀ v∈l,v≤70368744177664) {N:Nat} {K:XE->Env->List AO->Prop} {x1 x2:SV}
 (hexit:∀ env,env.get 1=x1->env.get 2=x2->env.get 3=.ptr (.own H.length 0 0 0 0) 0->env.get 6=.ptr (.own (H.length+1) 0 0 0 0) 0->K (.exit 0) env (S6 H a k va v C D T x o p (totI l))) :
 ∀ (m i:Nat) (env:Env),i+m=l.length->env.get 1=x1->env.get 2=x2->env.get 3=.ptr (.own H.length 0 0 0 0) 0->env.get 6=.ptr (.own (H.length+1) 0 0 0 0) 0 →
  env.get 15=x->env.get 16=i64 l.length->env.get 17=i64 i->LI Tryz.prog N drawB l31_0 env (S6 H a k va v C D T x o p (totK l i)) K:=by
 intro m
 induction m with
 | zero =>
  intro i env hi h1 h2 h3 h6 h15 h16 h17
  refine li_go hm l31_0.eq_1 ?_
  have e:i=l.length:=by omega
  subst e
  simp -implicitDefEqProofs[h16,h17]
  exact hexit _ (by simp[h1]) (by simp[h2]) (by simp[h3]) (by simp[h6])
 | succ m ih =>
  intro i env hi h1 h2 h3 h6 h15 h16 h17
  refine li_go hm l31_0.eq_1 ?_
  have hlt:i<l.length:=by omega
  have hx':=hx [⟨[x],45,0,true⟩,⟨[i64 (totK l i)],3,0,true⟩]
  have b1:=tot_le hl hr i (by omega)
  have b2:=totK_nn l i
  have hv:=hr _ (List.getElem_mem hlt)
  have w1:IntKind.i64.wrap (totK l i+max l[i] 0)=totK l (i+1):=by rw[totK_suc hlt]; exact wrap_id (by omega) (by omega)
  simp -implicitDefEqProofs[S6,h1,h2,h3,h6,h15,h16,h17,hlt,hx'.vd,hx'.ug,hx'.sl,hx'.len,hx'.ok hlt,hx'.v hlt,g2_n,g2_sn,w1]
  refine ih (i+1) _ (by omega) ?_ ?_ ?_ ?_ ?_ ?_ ?_
  · simp
  · simp
  · simp
  · simp
  · simp
  · simp
  · simp[wrap_suc (show i<9223372036854775807 by omega)]
end
end Go.Proofs.YtogjmpkehjfecaaGreatDoor.Rc
namespace Go.Proofs.YtogjmpkehjfecaaGreatDoor.Rc
open Go.Ab Go.Ab.Shr
theorem floI_at {l:List Int} {i:Nat} (h:i<l.length) (t:Int):floI l t i=if t=0 then 65536 / (l.length:Int)else if 0<l[i]then 65536*l[i] / t else 0:=by simp[floI,h]
theorem lefK_suc (l:List Int) (i:Nat):lefK l (i+1)=lefK l i-floI l (totI l) i:=by simp only[lefK,sumF]; omega
theorem floI_le {l:List Int} (i:Nat) (hl:0<l.length):floI l (totI l) i≤65536*70368744177664∨∃ h:i<l.length,70368744177664<l[i]:=by
 by_cases h:∃ h:i<l.length,70368744177664<l[i]
 · exact .inr h
 · left
   have h0:=tot_nn l
   unfold floI
   split
   · have:65536 / (l.length:Int)≤65536:=Int.ediv_le_self _ (by omega)
     omega
   · split
     · rename_i h1 h2
       by_cases hi:i<l.length
       · have h3:l.getD i 0=l[i]:=by simp[hi]
         have h4:¬ 70368744177664<l[i]:=fun h5=>h ⟨hi,h5⟩
         rw[h3]at h2 ⊢
         have:65536*l[i] / totI l≤65536*l[i]:=Int.ediv_le_self _ (by omega)
         omega
       · simp[hi]at h2
     · omega
theorem sumF_up {f:Nat->Int} (h:∀ i,0≤f i) {i n:Nat} (hi:i≤n):sumF f i≤sumF f n:=by
 induction n with
 | zero =>
  have:i=0:=by omega
  subst this; exact Int.le_refl _
 | succ n ih =>
  by_cases e:i=n+1
  · subst e; exact Int.le_refl _
  · have:=ih (by omega); have:=h n; simp only[sumF]; omega
theorem lefK_rng {l:List Int} (h0:0<l.length) (i:Nat) (hi:i<l.length):0≤lefK l i∧lefK l i≤65536∧0≤lefK l (i+1):=by
 have h1:=(lef_rng h0).1
 have h2:=sumF_up (floI_nn l) (show i+1≤l.length by omega)
 have h3:=sumF_up (floI_nn l) (show i≤i+1 by omega)
 have h4:=sumF_nn (floI_nn l) i
 unfold lefI lefK at *
 omega
section
variable {H:List AO} {a k va v n:Nat} {C D:List SV} {T:TypeId} {x:SV} {l:List Int}
set_option maxRecDepth 10000 in
theorem tlp38_1 (hP:P2 H a k) (hx:∀ (o p:List Int) (L:List AO),IsI (G2 H a k ⟨ints o,3,va,true⟩ (oI C p D T v)++L) x l) (hl:l.length≤10) (h0:0<l.length) (hr:∀ v∈l,-70368744177664≤v∧v≤70368744177664) {N:Nat} {K:XE->Env->List AO->Prop}
 (hexit:∀ env,env.get 1=.own a 0 l.length 1 va->env.get 2=.own k C.length l.length 1 v->env.get 3=.ptr (.own H.length 0 0 0 0) 0->env.get 6=.ptr (.own (H.length+1) 0 0 0 0) 0->env.get 9=i64 (lefI l) →
  K (.exit 2) env (S6 H a k va v C D T x ((List.range l.length).map (floI l (totI l))) ((List.range l.length).map fun(i:Nat)=>(i:Int)) (totI l))) :
 ∀ (m i:Nat) (o p:List Int) (env:Env),i+m=l.length->o.length=l.length->p.length=l.length->(∀ j,j<i->o[j]? = some (floI l (totI l) j))->(∀ j,j<i->p[j]? = some (j:Int)) →
  env.get 1=.own a 0 l.length 1 va->env.get 2=.own k C.length l.length 1 v->env.get 3=.ptr (.own H.length 0 0 0 0) 0->env.get 6=.ptr (.own (H.length+1) 0 0 0 0) 0 →
  env.get 9=i64 (lefK l i)->env.get 26=x->env.get 27=i64 l.length->env.get 28=i64 i->LI Tryz.prog N drawB l31_1 env (S6 H a k va v C D T x o p (totI l)) K:=by
 intro m
 induction m with
 | zero =>
  intro i o p env hi ho hp ho2 hp2 h1 h2 h3 h6 h9 h26 h27 h28
  refine li_go hm l31_1.eq_1 ?_
  have e:i=l.length:=by omega
  subst e
  have e1:o=(List.range l.length).map (floI l (totI l)):=by
   apply List.ext_getElem?
   intro j
   by_cases hj:j<l.length
   · rw[ho2 j hj]; simp[hj]
   · rw[List.getElem?_eq_none (by omega),List.getElem?_eq_none (by simp; omega)]
  have e2:p=(List.range l.length).map fun(i:Nat)=>(i:Int):=by
   apply List.ext_getElem?
   intro j
   by_cases hj:j<l.length
   · rw[hp2 j hj]; simp[hj]
   · rw[List.getElem?_eq_none (by omega),List.getElem?_eq_none (by simp; omega)]
  subst e1 e2
  simp -implicitDefEqProofs[h27,h28]
  exact hexit _ (by simp[h1]) (by simp[h2]) (by simp[h3]) (by simp[h6]) (by simp[h9,lefI])
 | succ m ih =>
  intro i o p env hi ho hp ho2 hp2 h1 h2 h3 h6 h9 h26 h27 h28
  refine li_go hm l31_1.eq_1 ?_
  have hlt:i<l.length:=by omega
  have hx':=hx o p [⟨[x],45,0,true⟩,⟨[i64 (totI l)],3,0,true⟩]
  have hv:=hr _ (List.getElem_mem hlt)
  have hf:=floI_at hlt (totI l)
  have hfn:=floI_nn l i
  have hlk:=lefK_suc l i
  have htn:=tot_nn l
  have hb:=lefK_rng h0 i hlt
  have w2:IntKind.i64.wrap ((i:Int)+1)=((i+1:Nat):Int):=wrap_succ (by omega)
  have w3:IntKind.i64.wrap (lefK l i-floI l (totI l) i)=lefK l (i+1):=by rw[hlk]; exact wrap_id (by omega) (by omega)
  simp only[oI]at hx'
  have io:i<o.length:=by omega
  have ip:i<p.length:=by omega
  have ok':=hx'.ok hlt
  have ov':=hx'.v hlt
  have s1:∀ y:Int,List.take i (ints o)++i64 y::List.drop (i+1) (ints o)=ints (o.set i y):=fun y=>ints_set io y
  have s2:List.take (C.length+i) (C++(ints p++D))++i64 (i:Int)::List.drop (C.length+i+1) (C++(ints p++D))=C++(ints (p.set i i)++D):=oI_set ip _
  have s3:(C++(ints p++D)).length=C.length+p.length+D.length:=oI_len
  have s4:∀ y:Int,(ints (o.set i y))[i]?.getD .any=i64 y:=fun y=>by simp[ints,io]
  have hq1:∀ j,j<i+1->(o.set i (floI l (totI l) i))[j]? = some (floI l (totI l) j):=fun j hj=>by
   by_cases e:i=j
   · subst e; rw[List.getElem?_set_self io]
   · rw[List.getElem?_set_ne e]; exact ho2 j (by omega)
  have hq2:∀ j,j<i+1->(p.set i (i:Int))[j]? = some (j:Int):=fun j hj=>by
   by_cases e:i=j
   · subst e; rw[List.getElem?_set_self ip]
   · rw[List.getElem?_set_ne e]; exact hp2 j (by omega)
  have key:=ih (i+1) (o.set i (floI l (totI l) i)) (p.set i (i:Int))
  generalize totI l=t at *
  by_cases ht:t=0
  · rw[if_pos ht]at hf
    have w4:IntKind.i64.wrap (Int.tdiv 65536 (l.length:Int))=floI l t i:=by
     rw[hf,Int.tdiv_eq_ediv_of_nonneg (by omega)]
     exact wrap_id (by omega) (by omega)
    have hd:(t=0)=True:=eq_true ht
    have hne:¬ l=[]:=fun e=>by rw[e]at h0; simp at h0
    simp -implicitDefEqProofs[S6,oI,h1,h2,h3,h6,h9,h26,h27,h28,hlt,hx'.vd,hx'.ug,hx'.sl,hx'.len,ok',ov',g2_n,g2_n0,g2_sn,g2_ca hP.la hP.ne,g2_ck hP.lk,g2_sa hP.la hP.ne,g2_sk hP.lk,hd,s1,s2,s3,s4,w2,w3,w4,hne]
    refine⟨by omega,by omega,by omega,?_⟩
    refine key _ (by omega) (by simpa using ho) (by simpa using hp) hq1 hq2 ?_ ?_ ?_ ?_ ?_ ?_ ?_ ?_
    all_goals simp
  · rw[if_neg ht]at hf
    have hd:(t=0)=False:=eq_false ht
    by_cases hp0:0<l[i]
    · rw[if_pos hp0]at hf
      have w5:IntKind.i64.wrap (65536*l[i])=65536*l[i]:=wrap_id (by omega) (by omega)
      have w4:IntKind.i64.wrap (Int.tdiv (65536*l[i]) t)=floI l t i:=by
       rw[hf,Int.tdiv_eq_ediv_of_nonneg (by omega)]
       exact wrap_id (by omega) (by omega)
      simp -implicitDefEqProofs[S6,oI,h1,h2,h3,h6,h9,h26,h27,h28,hlt,hx'.vd,hx'.ug,hx'.sl,hx'.len,ok',ov',g2_n,g2_n0,g2_sn,g2_ca hP.la hP.ne,g2_ck hP.lk,g2_sa hP.la hP.ne,g2_sk hP.lk,hd,s1,s2,s3,s4,w2,w3,w4,w5,hp0]
      refine⟨by omega,by omega,by omega,?_⟩
      refine key _ (by omega) (by simpa using ho) (by simpa using hp) hq1 hq2 ?_ ?_ ?_ ?_ ?_ ?_ ?_ ?_
      all_goals simp
    · rw[if_neg hp0]at hf
      have w6:IntKind.i64.wrap (lefK l i)=lefK l (i+1):=by rw[hf]at w3; simpa using w3
      rw[hf]at key hq1
      simp -implicitDefEqProofs[S6,oI,h1,h2,h3,h6,h9,h26,h27,h28,hlt,hx'.vd,hx'.ug,hx'.sl,hx'.len,ok',ov',g2_n,g2_n0,g2_sn,g2_ca hP.la hP.ne,g2_ck hP.lk,g2_sa hP.la hP.ne,g2_sk hP.lk,hd,s1,s2,s3,s4,w2,w3,hp0,hf,w6]
      refine⟨by omega,by omega,by omega,?_⟩
      refine key _ (by omega) (by simpa using ho) (by simpa using hp) hq1 hq2 ?_ ?_ ?_ ?_ ?_ ?_ ?_ ?_
      all_goals simp
end
end Go.Proofs.YtogjmpkehjfecaaGreatDoor.Rc
namespace Go.Proofs.YtogjmpkehjfecaaGreatDoor.Rc
open Go.Ab Go.Ab.Shr
def rowF (n:Nat) (f:Nat->Int):List Int:=(List.range n).map f
@[simp] theorem rowF_len (n:Nat) (f:Nat->Int):(rowF n f).length=n:=by simp[rowF]
theorem rowF_get {n:Nat} {f:Nat->Int} {i:Nat} (h:i<n):(rowF n f)[i]'(by simpa using h)=f i:=by simp[rowF]
theorem rowF_getD {n:Nat} {f:Nat->Int} {i:Nat} (h:i<n):(rowF n f).getD i 0=f i:=by simp[rowF,h]
theorem rowF_set {n:Nat} {f:Nat->Int} {i:Nat} (y:Int):(rowF n f).set i y=rowF n (put f i y):=by
 apply List.ext_getElem?
 intro j
 by_cases hj:j<n
 · by_cases e:i=j
   · subst e; rw[List.getElem?_set_self (by simpa using hj)]; simp[rowF,put,hj]
   · rw[List.getElem?_set_ne e]
     have:¬ j=i:=fun h=>e h.symm
     simp[rowF,put,hj,this]
 · rw[List.getElem?_eq_none (by simp; omega),List.getElem?_eq_none (by simp; omega)]
section
variable {H L:List AO} {a k va v n:Nat} {C D:List SV} {T:TypeId}
set_option maxRecDepth 10000 in
theorem tlp38_2 (hP:P2 H a k) {q:List Nat} (hq:∀ y∈q,y<n) (hn:n≤10) {c:Nat} (hc:c≤q.length) {N:Nat} {K:XE->Env->List AO->Prop} {F:Nat->Int}
 (hexit:∀ env,K (.exit 5) env (G2 H a k ⟨ints (rowF n F),3,va,true⟩ (oN C q D T v)++L)) :
 ∀ (m j:Nat) (f:Nat->Int) (env:Env),j+m=c->(∀ i,i<n->0≤f i∧f i≤9223372036854775000+j)->c≤100->addL f ((q.take c).drop j)=F →
  env.get 1=.own a 0 n 1 va->env.get 78=.own k C.length c 1 v->env.get 79=i64 c->env.get 80=i64 j →
  LI Tryz.prog N drawB l31_2 env (G2 H a k ⟨ints (rowF n f),3,va,true⟩ (oN C q D T v)++L) K:=by
 intro m
 induction m with
 | zero =>
  intro j f env hj hf hc1 hF h1 h78 h79 h80
  refine li_go hm l31_2.eq_1 ?_
  have e:j=c:=by omega
  subst e
  rw[List.drop_eq_nil_of_le (by simp; omega)]at hF
  have hF':f=F:=by rw[←hF]; funext i; rfl
  subst hF'
  simp -implicitDefEqProofs[h79,h80]
  exact hexit _
 | succ m ih =>
  intro j f env hj hf hc1 hF h1 h78 h79 h80
  refine li_go hm l31_2.eq_1 ?_
  have hlt:j<c:=by omega
  have hjq:j<q.length:=by omega
  rw[List.drop_eq_getElem_cons (by simp; omega)]at hF
  simp only[List.getElem_take,addL]at hF
  have hy:q[j]<n:=hq _ (List.getElem_mem hjq)
  have e1:(nats q++D)[j]?.getD .any=i64 (q[j]:Nat):=by
   rw[List.getElem?_append_left (by simpa using hjq)]
   simp[nats,ints,hjq]
  have e2:(C++(nats q++D)).length=C.length+q.length+D.length:=by simp; omega
  have e3:(ints (rowF n f))[q[j]]?.getD .any=i64 (f q[j]):=by simp[ints,rowF,hy]
  have e4:∀ y:Int,List.take q[j] (ints (rowF n f))++i64 y::List.drop (q[j]+1) (ints (rowF n f))=ints (rowF n (put f q[j] y)):=fun y=>by
   rw[ints_set (by simpa using hy),rowF_set]
  have hb:=hf _ hy
  have w1:IntKind.i64.wrap (f q[j]+1)=f q[j]+1:=wrap_id (by omega) (by omega)
  simp -implicitDefEqProofs[oN,h1,h78,h79,h80,hlt,g2_ca hP.la hP.ne,g2_ck hP.lk,g2_sa hP.la hP.ne,e1,e2,e3,e4,rowF_get hy,w1,hy]
  refine⟨by omega,by omega,by omega,?_⟩
  refine ih (j+1) (put f q[j] (f q[j]+1)) _ (by omega) (fun i hi => ?_) hc1 hF ?_ ?_ ?_ ?_
  · have h2:=hf i hi
    unfold put
    split<;>omega
  · simp
  · simp
  · simp
  · simp[wrap_suc (show j<9223372036854775807 by omega)]
theorem ok31 {H:List AO} {x:SV} {l o0 p0:List Int} (hP:P2 H a k) (hu:SV.underL H.length C=true∧SV.underL H.length D=true) (hx:∀ (o p:List Int) (L:List AO),IsI (G2 H a k ⟨ints o,3,va,true⟩ (oI C p D T v)++L) x l) (hl:l.length≤10) (h0:0<l.length)
 (hr:∀ v∈l,-70368744177664≤v∧v≤70368744177664) (ho0:o0.length=l.length) (hp0:p0.length=l.length) :
 Ok Tryz.prog 31 [x,.own a 0 l.length 1 va,.own k C.length l.length 1 v] (G2 H a k ⟨ints o0,3,va,true⟩ (oI C p0 D T v)) (.ret (.tup [])) (G2 H a k ⟨ints (shrI l),3,va,true⟩ (oN C (ordI l) D T v)):=by
 have hx0:=hx o0 p0 []
 have hxu:x.under H.length=true:=by simpa using hx0.und
 refine ok_fn hm Tryz.func31 c31 (by simp[hP.la,hP.lk,hxu]) fun hcl => ?_
 have hxL:=hx o0 p0 [⟨[x],45,0,true⟩,⟨[i64 0],3,0,true⟩]
 simp -implicitDefEqProofs[i31,r31,hx0.vd,hx0.ug,hx0.cell,hx0.flat,hx0.sl,hx0.len,g2_n,g2_n0,g2_sn]
 refine tlp38_0 (l:=l) hP (fun L=>hx o0 p0 L) hl (fun v hv=>(hr v hv).2) (x1:=.own a 0 l.length 1 va) (x2:=.own k C.length l.length 1 v) (fun env g1 g2 g3 g6 => ?_) l.length 0 _ (by omega) (by simp) (by simp) (by simp) (by simp) (by simp) (by simp) (by simp)
 simp -implicitDefEqProofs[S6,g1,g2,g3,g6,hx0.vd,hx0.ug,hx0.cell,hx0.flat,hx0.sl,hx0.len,g2_n,g2_n0,g2_sn]
 refine tlp38_1 (l:=l) hP hx hl h0 hr (fun env g1 g2 g3 g6 g9 => ?_) l.length 0 o0 p0 _ (by omega) ho0 hp0 (fun j hj=>by omega) (fun j hj=>by omega) (by simp[g1]) (by simp[g2]) (by simp[g3]) (by simp[g6]) (by simp[lefK,sumF]) (by simp) (by simp) (by simp)
 have hlr:=lef_rng h0
 have e1:((List.range l.length).map (floI l (totI l)))=rowF l.length (floI l (totI l)):=rfl
 have e2:oI C ((List.range l.length).map fun(i:Nat)=>(i:Int)) D T v=oN C (List.range l.length) D T v:=rfl
 have e3:rowF l.length (addL (floI l (totI l)) ((ordI l).take (lefI l).toNat))=shrI l:=rfl
 have hfl:∀ i,i<l.length->0≤floI l (totI l) i∧floI l (totI l) i≤9223372036854775000+(0:Nat):=fun i hi=>by
  have h1:=floI_nn l i
  have h2:=floI_le (l:=l) i h0
  have h3:=(hr _ (List.getElem_mem hi)).2
  rcases h2 with h2 | ⟨_,h2⟩<;>omega
 simp only[S6,e1,e2]
 have hcl2:closed (G2 H a k ⟨ints (shrI l),3,va,true⟩ (oN C (ordI l) D T v)):=by
  have h1:closed (G2 (G2 H a k ⟨ints o0,3,va,true⟩ (oI C p0 D T v)) a k ⟨ints (shrI l),3,va,true⟩ (oN C (ordI l) D T v)) :=
   g2_closed hcl (by simp) (by simp only[g2_len,oN,SV.underL_append,hu.1,hu.2,nats]; simp)
  have h2:G2 (G2 H a k ⟨ints o0,3,va,true⟩ (oI C p0 D T v)) a k ⟨ints (shrI l),3,va,true⟩ (oN C (ordI l) D T v)=G2 H a k ⟨ints (shrI l),3,va,true⟩ (oN C (ordI l) D T v):=by
   unfold G2
   rw[List.set_comm _ _ hP.ne.symm,List.set_set,List.set_set]
  rwa [h2]at h1
 have ho:∀ y∈ordI l,y<l.length:=fun y hy=>by
  unfold ordI at hy
  split at hy
  · exact mem_srt.1 hy
  · simpa using hy
 have hol:(ordI l).length=l.length:=by
  unfold ordI
  split
  · exact len_srt _
  · simp
 have hc9:((lefI l).toNat:Int)=lefI l:=by omega
 by_cases hc:0<totI l∧0<lefI l
 · have eo:ordI l=srtN (rstI l (totI l)) l.length:=by unfold ordI; rw[if_pos hc]
   simp -implicitDefEqProofs[g1,g2,g3,g6,g9,g2_n,g2_n0,g2_sn,hc.1,hc.2]
   have key:=ok54 (H:=G2 H a k ⟨ints (rowF l.length (floI l (totI l))),3,va,true⟩ (oN C (List.range l.length) D T v)++[⟨[x],45,0,true⟩,⟨[i64 (totI l)],3,0,true⟩,⟨[.fn (.func 53) [] [.ptr (.own H.length 0 0 0 0) 0,.ptr (.own (H.length+1) 0 0 0 0) 0]],95,0,true⟩])
    (k:=k) (v:=v) (C:=C) (D:=D) (T:=T) (vf:=.fn (.func 55) [] [.ptr (.own (H.length+2) 0 0 0 0) 0]) (r:=rstI l (totI l)) (n:=l.length) (by simp; have:=hP.lk; omega) ⟨rfl,rfl,rfl⟩ (by simp) hl
   have hS:∀ q,oS (G2 H a k ⟨ints (rowF l.length (floI l (totI l))),3,va,true⟩ (oN C (List.range l.length) D T v)++[⟨[x],45,0,true⟩,⟨[i64 (totI l)],3,0,true⟩,⟨[.fn (.func 53) [] [.ptr (.own H.length 0 0 0 0) 0,.ptr (.own (H.length+1) 0 0 0 0) 0]],95,0,true⟩]) k C D T v q =
    G2 H a k ⟨ints (rowF l.length (floI l (totI l))),3,va,true⟩ (oN C q D T v)++[⟨[x],45,0,true⟩,⟨[i64 (totI l)],3,0,true⟩,⟨[.fn (.func 53) [] [.ptr (.own H.length 0 0 0 0) 0,.ptr (.own (H.length+1) 0 0 0 0) 0]],95,0,true⟩]:=fun q=>by
    unfold oS
    rw[List.set_append_left _ _ (by simpa using hP.lk)]
    unfold G2
    rw[List.set_set]
   simp only[hS]at key
   have htl:=tot_le hl (fun v hv=>(hr v hv).2) l.length (Nat.le_refl _)
   have key2:=key fun q i j hi hj=>⟨rfl,by
    have hxq:=hx (rowF l.length (floI l (totI l))) (q.map fun(n:Nat)=>(n:Int)) [⟨[x],45,0,true⟩,⟨[i64 (totI l)],3,0,true⟩,⟨[.fn (.func 53) [] [.ptr (.own H.length 0 0 0 0) 0,.ptr (.own (H.length+1) 0 0 0 0) 0]],95,0,true⟩]
    have hcl:ClS (G2 H a k ⟨ints (rowF l.length (floI l (totI l))),3,va,true⟩ (oN C q D T v)++[⟨[x],45,0,true⟩,⟨[i64 (totI l)],3,0,true⟩,⟨[.fn (.func 53) [] [.ptr (.own H.length 0 0 0 0) 0,.ptr (.own (H.length+1) 0 0 0 0) 0]],95,0,true⟩]) x l (totI l) H.length (H.length+1) (H.length+2) :=
     ⟨by rw[g2_n0]; rfl,by rw[g2_n]; rfl,by rw[g2_n]; rfl,by simp,by simp,by simp,hxq⟩
    exact ok55 hcl hl hr hc.1 (by unfold totI; omega) hi hj⟩
   refine call_go key2 ?_
   simp -implicitDefEqProofs[g1,g2,g3,g6,g9]
   refine⟨by omega,?_⟩
   rw[←eo]
   refine tlp38_2 (n:=l.length) (C:=C) hP ho hl (c:=(lefI l).toNat) (by omega) (F:=addL (floI l (totI l)) ((ordI l).take (lefI l).toNat)) (fun env => ?_) (lefI l).toNat 0 _ _ (by omega) hfl (by omega) rfl ?_ ?_ ?_ ?_
   · simp -implicitDefEqProofs
     exact cv_drop rfl (by simp) hcl2 rfl
   · simp[g1]
   · simp
   · simp
   · simp
 · have eo:ordI l=List.range l.length:=by unfold ordI; rw[if_neg hc]
   by_cases hc1:0<totI l
   · have hc2:¬ 0<lefI l:=fun h=>hc ⟨hc1,h⟩
     simp -implicitDefEqProofs[g1,g2,g3,g6,g9,g2_n,g2_n0,g2_sn,hc1,hc2]
     refine⟨by omega,?_⟩
     rw[←eo]
     refine tlp38_2 (n:=l.length) (C:=C) hP ho hl (c:=(lefI l).toNat) (by omega) (F:=addL (floI l (totI l)) ((ordI l).take (lefI l).toNat)) (fun env => ?_) (lefI l).toNat 0 _ _ (by omega) hfl (by omega) rfl ?_ ?_ ?_ ?_
     · simp -implicitDefEqProofs
       exact cv_drop rfl (by simp) hcl2 rfl
     · simp[g1]
     · simp
     · simp
     · simp
   · simp -implicitDefEqProofs[g1,g2,g3,g6,g9,g2_n,g2_n0,g2_sn,hc1]
     refine⟨by omega,?_⟩
     rw[←eo]
     refine tlp38_2 (n:=l.length) (C:=C) hP ho hl (c:=(lefI l).toNat) (by omega) (F:=addL (floI l (totI l)) ((ordI l).take (lefI l).toNat)) (fun env => ?_) (lefI l).toNat 0 _ _ (by omega) hfl (by omega) rfl ?_ ?_ ?_ ?_
     · simp -implicitDefEqProofs
       exact cv_drop rfl (by simp) hcl2 rfl
     · simp[g1]
     · simp
     · simp
     · simp
end
end Go.Proofs.YtogjmpkehjfecaaGreatDoor.Rc
