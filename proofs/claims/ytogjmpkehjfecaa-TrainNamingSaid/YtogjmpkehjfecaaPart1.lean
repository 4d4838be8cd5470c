/-
  Steps of the proof: contracts of functions and plain facts that the statement rests on.
-/
import Derived.Test.YtogjmpkehjfecaaIr29
import Derived.Test.YtogjmpkehjfecaaCore4
import Derived.Test.YtogjmpkehjfecaaCore5
set_option linter.all false
namespace Go.Proofs.Ytogjmpkehjfecaa.Rc
open Go.Ab
theorem hm:Try.prog.follows .mixedOrders=true:=Try.checked.mixed
section
variable {x:SV} {H:List AO} {l:List Int}
def bx (H:List AO) (a:Nat) (n:Int):Prop:=objCells H a 0=[i64 n]∧a<H.length
def outR (lo hi n:Int):Bool:=decide (n<lo)||decide (hi<n)
theorem ok93 {a b:Nat} {lo hi:Int} (ha:bx H a lo) (hb:bx H b hi) (n:Int) :
 Ok Try.prog 93 [i64 n,.ptr (.own a 0 0 0 0) 0,.ptr (.own b 0 0 0 0) 0] H (.ret (bl (outR lo hi n))) H:=by
 refine ok_fn hm Try.func93 c93 (by simp[ha.2,hb.2]) fun hcl => ?_
 by_cases h1:n<lo
 · simp -implicitDefEqProofs[i93,r93,ha.1,hb.1,h1,outR]
   exact cv_id
 · simp -implicitDefEqProofs[i93,r93,ha.1,hb.1,h1,outR]
   exact cv_id
def fstOut (lo hi:Int) (l:List Int):Int:=match l.findIdx? (outR lo hi)with | some i=>i | none => -1
theorem fstOut_ge {lo hi:Int} {l:List Int}:(0≤fstOut lo hi l)=(l.any (outR lo hi)=true):=by
 unfold fstOut
 cases h:l.findIdx? (outR lo hi)with
 | some i =>
  simp only[Int.natCast_nonneg]
  refine(eq_true ?_).symm
  obtain⟨hi,h1,h2⟩:=List.findIdx?_eq_some_iff_getElem.1 h
  exact List.any_eq_true.2 ⟨_,List.getElem_mem hi,h1⟩
 | none =>
  rw[List.findIdx?_eq_none_iff]at h
  have:l.any (outR lo hi)=false:=by
   rw[List.any_eq_false]; intro x hx; simpa using h x hx
  simp[this]
theorem loop81 (hx:IsI H x l) (hl:l.length<4611686018427387904) {a b:Nat} {lo up:Int} (ha:bx H a lo) (hb:bx H b up) {N:Nat} {K:XE->Env->List AO->Prop}
 (hret:∀ env (i:Nat),l.findIdx? (outR lo up)=some i->env.get 4=i64 i->K .ret env H) (hexit:l.findIdx? (outR lo up)=none->∀ env,K (.exit 0) env H) :
 ∀ (n i:Nat) (env:Env),i+n=l.length->(∀ j (h:j<l.length),j<i->outR lo up l[j]=false)->env.get 0=x->env.get 1=.fn (.func 93) [] [.ptr (.own a 0 0 0 0) 0,.ptr (.own b 0 0 0 0) 0]->env.get 7=i64 l.length->env.get 8=i64 i →
  LI Try.prog N drawB l107_0 env H K:=by
 intro n
 induction n with
 | zero =>
  intro i env hi hp h0 h1 h7 h8
  refine li_go hm l107_0.eq_1 ?_
  have e:i=l.length:=by omega
  simp -implicitDefEqProofs[h7,h8,e]
  refine hexit ?_ _
  rw[List.findIdx?_eq_none_iff]
  intro y hy
  obtain⟨j,hj,rfl⟩:=List.getElem_of_mem hy
  exact hp j hj (by omega)
 | succ n ih =>
  intro i env hi hp h0 h1 h7 h8
  refine li_go hm l107_0.eq_1 ?_
  have hlt:i<l.length:=by omega
  simp -implicitDefEqProofs[h0,h1,h7,h8,hlt,hx.vd,hx.ug,hx.sl,hx.len,hx.v hlt,hx.ok hlt]
  refine call_go (ok93 ha hb _) ?_
  cases ho:outR lo up l[i]with
  | true =>
   simp -implicitDefEqProofs
   refine hret _ i ?_ (by simp)
   rw[List.findIdx?_eq_some_iff_getElem]
   exact⟨hlt,ho,fun j hj=>by simp[hp j (by omega) hj]⟩
  | false =>
   simp -implicitDefEqProofs[h8]
   refine ih (i+1) _ (by omega) ?_ ?_ ?_ ?_ ?_
   rotate_left
   · simp[h0]
   · simp[h1]
   · simp[h7]
   · simp[h8,wrap_suc (show i<9223372036854775807 by omega)]
   intro j hj hji
   by_cases e:j=i
   · subst e; exact ho
   · exact hp j hj (by omega)
theorem ok107 (hx:IsI H x l) (hl:l.length<4611686018427387904) {a b:Nat} {lo up:Int} (ha:bx H a lo) (hb:bx H b up) :
 Ok Try.prog 107 [x,.fn (.func 93) [] [.ptr (.own a 0 0 0 0) 0,.ptr (.own b 0 0 0 0) 0]] H (.ret (i64 (fstOut lo up l))) H:=by
 refine ok_fn hm Try.func107 c107 (by simp[ha.2,hb.2,hx.und]) fun hcl => ?_
 simp -implicitDefEqProofs[i107,r107,hx.vd,hx.ug,hx.sl,hx.len]
 refine loop81 hx hl ha hb (fun env i h1 h2 => ?_) (fun h1 env => ?_) l.length 0 _ (by omega) (by omega) (by simp) (by simp) (by simp) (by simp)
 · simp[h2,fstOut,h1]
   exact cv_id
 · simp[fstOut,h1]
   exact cv_id
theorem ok92 (hx:IsI H x l) (hl:l.length<4611686018427387904) {a b:Nat} {lo up:Int} (ha:bx H a lo) (hb:bx H b up) :
 Ok Try.prog 92 [x,.fn (.func 93) [] [.ptr (.own a 0 0 0 0) 0,.ptr (.own b 0 0 0 0) 0]] H (.ret (bl (l.any (outR lo up)))) H:=by
 refine ok_fn hm Try.func92 c92 (by simp[ha.2,hb.2,hx.und]) fun hcl => ?_
 simp -implicitDefEqProofs[i92,r92,hx.vd,hx.ug,hx.sl,hx.len]
 refine call_go (ok107 hx hl ha hb) ?_
 have e:decide (0≤fstOut lo up l)=l.any (outR lo up):=by
  rw[Bool.eq_iff_iff,decide_eq_true_iff,fstOut_ge]
 simp -implicitDefEqProofs
 rw[e]
 exact cv_id
def within (lo hi:Int) (l:List Int):Int:=if l.any (outR lo hi)then 2 else 0
theorem ok77 (hx:IsI H x l) (hl:l.length<4611686018427387904) (lo hi:Int) :
 Ok Try.prog 77 [i64 lo,i64 hi,x] H (.ret (i64 (within lo hi l))) H:=by
 refine ok_fn hm Try.func77 c77 (by simp[hx.und]) fun hcl => ?_
 simp -implicitDefEqProofs[i77,r77,hx.vd,hx.ug,hx.sl,hx.len]
 refine call_go (ok92 (hx.app _) hl (a:=H.length) (b:=H.length+1) (lo:=lo) (up:=hi) ⟨by simp,by simp⟩ ⟨by simp,by simp⟩) ?_
 by_cases h:l.any (outR lo hi)=true
 · simp -implicitDefEqProofs[h,within]
   exact cv_fz 1 hcl rfl (by simp)
 · simp -implicitDefEqProofs[h,within]
   exact cv_fz 1 hcl rfl (by simp)
end
end Go.Proofs.Ytogjmpkehjfecaa.Rc
namespace Go.Proofs.Ytogjmpkehjfecaa.Rc
open Go.Ab
structure Nd where
 k:Int
 p:Int
 i:Int
 nx:List Int
 ws:List Int
 ps:List Int
def sl (l:List Int):SV:=.slc (ints l) l.length
def Nd.cells (x:Nd):List SV:=[i64 x.k,i64 x.p,i64 x.i,sl x.nx,sl x.ws,sl x.ps]
def nds:List Nd->List SV
 | []=>[]
 | x::r=>x.cells++nds r
def infs:List (Int×Int)->List SV
 | []=>[]
 | x::r=>i64 x.1::i64 x.2::infs r
structure Gm where
 pl:Int
 ns:List Nd
 is:List (Int×Int)
def Gm.cells (g:Gm):List SV:=[i64 g.pl,.slc (nds g.ns) g.ns.length,.slc (infs g.is) g.is.length]
structure Wk (H:List AO) (j:Nat) (g:Gm) (a b c:SV):Prop where
 o:objCells H j 0=[i64 g.pl,.slc (nds g.ns) g.ns.length,.slc (infs g.is) g.is.length,a,b,c]
 lt:j<H.length
theorem Wk.app {H:List AO} {j:Nat} {g:Gm} {a b c:SV} (h:Wk H j g a b c) (L:List AO):Wk (H++L) j g a b c:=⟨by rw[objCells_app L h.lt]; exact h.o,by have:=h.lt; simp; omega⟩
def Nd.chance (x:Nd):Int:=if x.p≠0∨x.i≠0∨0<x.ps.length∨x.nx.length<1∨60<x.nx.length∨x.ws.length≠x.nx.length then 3 else within 1 1000 x.ws
def Nd.move (g:Gm) (x:Nd):Int:=if 0<x.ws.length∨0<x.ps.length∨x.nx.length<1∨10<x.nx.length then 3 else
 if within 0 (g.pl-1) [x.p]≠0 then within 0 (g.pl-1) [x.p]else within 0 (g.is.length-1) [x.i]
def Nd.end (g:Gm) (x:Nd):Int:=if x.p≠0∨x.i≠0∨0<x.nx.length∨0<x.ws.length∨(x.ps.length:Int)≠g.pl then 3 else within (-1000000) 1000000 x.ps
def Nd.err (g:Gm) (x:Nd):Int:=if x.k<1∨3<x.k then 3 else if x.k=1 then x.chance else if x.k=2 then x.move g else x.end g
section
variable {x:Nd} {H:List AO} {j:Nat} {g:Gm} {a b c:SV}
theorem isl (H:List AO) (l:List Int):IsI H (sl l) l:=IsI.slc H l
theorem ok102 (h:j<H.length):Ok Try.prog 102 [.ptr (.own j 0 0 0 0) 0,.agg x.cells] H (.ret (i64 x.chance)) H:=by
 refine ok_fn hm Try.func102 c102 (by simp[Nd.cells,sl,h]) fun hcl => ?_
 simp -implicitDefEqProofs[i102,r102,Nd.cells,sl]
 have e:x.chance=if(((((¬x.p=0∨¬x.i=0)∨0<x.ps.length)∨(x.nx.length:Int)<1)∨60<(x.nx.length:Int))∨¬(x.ws.length:Int)=x.nx.length)then 3 else within 1 1000 x.ws:=by
  unfold Nd.chance
  congr 1
  simp only[eq_iff_iff]; omega
 rw[e]
 split
 · exact cv_fz 1 hcl rfl (by simp)
 · rename_i hc
   refine call_go (ok77 (IsI.slc _ _) (by omega) 1 1000) ?_
   simp -implicitDefEqProofs
   exact cv_fz 1 hcl rfl (by simp)
theorem ok104 (h:Wk H j g a b c) (h4:g.pl≤4):Ok Try.prog 104 [.ptr (.own j 0 0 0 0) 0,.agg x.cells] H (.ret (i64 (x.end g))) H:=by
 have ho:=h.o
 refine ok_fn hm Try.func104 c104 (by simp[Nd.cells,sl,h.lt]) fun hcl => ?_
 simp -implicitDefEqProofs[i104,r104,Nd.cells,sl,(h.app _).o]
 have e:x.end g=if((((¬x.p=0∨¬x.i=0)∨0<x.nx.length)∨0<x.ws.length)∨¬(x.ps.length:Int)=g.pl)then 3 else within (-1000000) 1000000 x.ps:=by
  unfold Nd.end
  congr 1
  simp only[eq_iff_iff]; omega
 rw[e]
 split
 · exact cv_fz 1 hcl rfl (by simp)
 · rename_i hc
   refine call_go (ok77 (IsI.slc _ _) (by omega) (-1000000) 1000000) ?_
   simp -implicitDefEqProofs
   exact cv_fz 1 hcl rfl (by simp)
theorem ok103 (h:Wk H j g a b c) (h1:1≤g.pl) (h4:g.pl≤4) (h5:g.is.length≤200):Ok Try.prog 103 [.ptr (.own j 0 0 0 0) 0,.agg x.cells] H (.ret (i64 (x.move g))) H:=by
 refine ok_fn hm Try.func103 c103 (by simp[Nd.cells,sl,h.lt]) fun hcl => ?_
 have w1:IntKind.i64.wrap (g.pl-1)=g.pl-1:=wrap_id (by omega) (by omega)
 have w2:IntKind.i64.wrap ((g.is.length:Int)-1)=(g.is.length:Int)-1:=wrap_id (by omega) (by omega)
 simp -implicitDefEqProofs[i103,r103,Nd.cells,sl,(h.app _).o,w1,w2]
 have e:x.move g=if((0<x.ws.length∨0<x.ps.length)∨(x.nx.length:Int)<1)∨10<(x.nx.length:Int)then 3 else
  if within 0 (g.pl-1) [x.p]≠0 then within 0 (g.pl-1) [x.p]else within 0 (g.is.length-1) [x.i]:=by
  unfold Nd.move
  congr 1
  simp only[eq_iff_iff]; omega
 rw[e]
 split
 · exact cv_fz 1 hcl rfl (by simp)
 · rename_i hc
   refine callq_go (fun _=>ok77 (IsI.own0 H _ 1 0 [x.p] [] 3 rfl) (by simp) 0 (g.pl-1)) ?_
   by_cases hw:within 0 (g.pl-1) [x.p]=0
   · simp -implicitDefEqProofs[hw,(h.app _).o,w2]
     refine callq_go (fun _=>ok77 (IsI.own0 H _ 2 0 [x.i] [] 3 rfl) (by simp) 0 (g.is.length-1)) ?_
     simp -implicitDefEqProofs
     exact cv_fz 1 hcl rfl (by simp[hw])
   · simp -implicitDefEqProofs[hw]
     exact cv_fz 1 hcl rfl (by simp[hw])
theorem ok88 (h:Wk H j g a b c) (h1:1≤g.pl) (h4:g.pl≤4) (h5:g.is.length≤200):Ok Try.prog 88 [.ptr (.own j 0 0 0 0) 0,.agg x.cells] H (.ret (i64 (x.err g))) H:=by
 refine ok_fn hm Try.func88 c88 (by simp[Nd.cells,sl,h.lt]) fun hcl => ?_
 simp -implicitDefEqProofs[i88,r88,Nd.cells,sl,(h.app _).o]
 unfold Nd.err
 split
 · exact⟨rfl,cv_fz 1 hcl rfl (by rfl)⟩
 · rename_i hc
   have hk:x.k=1∨x.k=2∨x.k=3:=by omega
   rcases hk with hk | hk | hk
   · simp -implicitDefEqProofs[hk]
     refine⟨rfl,call_go (by rw[←hk]; exact ok102 (x:=x) (by simp; have:=h.lt; omega)) ?_⟩
     simp -implicitDefEqProofs
     exact cv_fz 1 hcl rfl (by simp[hk])
   · simp -implicitDefEqProofs[hk]
     refine⟨rfl,call_go (by rw[←hk]; exact ok103 (x:=x) (h.app _) h1 h4 h5) ?_⟩
     simp -implicitDefEqProofs
     exact cv_fz 1 hcl rfl (by simp[hk])
   · simp -implicitDefEqProofs[hk]
     refine⟨rfl,call_go (by rw[←hk]; exact ok104 (x:=x) (h.app _) h4) ?_⟩
     simp -implicitDefEqProofs
     exact cv_fz 1 hcl rfl (by simp[hk])
end
end Go.Proofs.Ytogjmpkehjfecaa.Rc
namespace Go.Proofs.Ytogjmpkehjfecaa.Rc
open Go.Ab
theorem within_no {lo hi:Int} {l:List Int} (h:∀ j (h:j<l.length),j<l.length->outR lo hi l[j]=false):within lo hi l=0:=by
 unfold within; rw[if_neg]
 rw[List.any_eq_true]
 rintro⟨y,hy,h1⟩
 obtain⟨j,hj,rfl⟩:=List.getElem_of_mem hy
 rw[h j hj hj]at h1; cases h1
theorem within1 {lo hi n:Int}:within lo hi [n]=if n<lo∨hi<n then 2 else 0:=by
 unfold within; congr 1; simp[outR]
end Go.Proofs.Ytogjmpkehjfecaa.Rc
namespace Go.Proofs.Ytogjmpkehjfecaa.Rc
open Go.Ab
structure W3 where
 P:List Int
 D:List Int
 L:List Int
def kids (w:Nat->W3->Option Nat×W3):List Int->Nat->W3->Option Nat×W3
 | [],r,s=>(some r,s)
 | c::cs,r,s=>if c=r then(match w r s with | (none,s)=>(none,s) | (some r,s)=>kids w cs r s)else(none,s)
def walkS (ns:List Nd):Nat->Int->Int->Nat->W3->Option Nat×W3
 | 0,_,_,_,s=>(none,s)
 | f+1,par,dep,k,s =>
  match ns[k]? with
  | none=>(none,s)
  | some x =>
   match kids (walkS ns f k (dep+1)) x.nx (k+1) ⟨s.P.set k par,s.D.set k dep,s.L⟩with
   | (none,s)=>(none,s)
   | (some r,s)=>(some r,⟨s.P,s.D,s.L.set k (r-1)⟩)
def rr (l:List Int):AO:=⟨ints l,3,1,true⟩
def upd (H:List AO) (a b c:Nat) (s:W3):List AO:=((H.set a (rr s.P)).set b (rr s.D)).set c (rr s.L)
section
variable {H:List AO} {a b c j:Nat} {s t:W3} {g:Gm}
theorem upd_len:(upd H a b c s).length=H.length:=by simp[upd]
theorem objCells_get {H H':List AO} {j:Nat} (h:H'[j]? = H[j]?) (v:Nat):objCells H' j v=objCells H j v:=by unfold objCells; rw[h]
structure P3 (H:List AO) (a b c:Nat):Prop where
 ab:a<b
 bc:b<c
 lt:c<H.length
theorem upd_a (h:P3 H a b c):objCells (upd H a b c s) a 1=ints s.P:=by
 have:=h.ab; have:=h.bc; have:=h.lt
 refine objCells_of (o:=rr s.P) ?_ rfl
 unfold upd
 rw[List.getElem?_set_ne (by omega),List.getElem?_set_ne (by omega),List.getElem?_set_self (by omega)]
theorem upd_b (h:P3 H a b c):objCells (upd H a b c s) b 1=ints s.D:=by
 have:=h.ab; have:=h.bc; have:=h.lt
 refine objCells_of (o:=rr s.D) ?_ rfl
 unfold upd
 rw[List.getElem?_set_ne (by omega),List.getElem?_set_self (by simp; omega)]
theorem upd_c (h:P3 H a b c):objCells (upd H a b c s) c 1=ints s.L:=by
 have:=h.ab; have:=h.bc; have:=h.lt
 refine objCells_of (o:=rr s.L) ?_ rfl
 unfold upd
 rw[List.getElem?_set_self (by simp; omega)]
theorem upd_o (h1:j≠a) (h2:j≠b) (h3:j≠c):objCells (upd H a b c s) j 0=objCells H j 0:=by
 refine objCells_get ?_ 0
 unfold upd
 rw[List.getElem?_set_ne (by omega),List.getElem?_set_ne (by omega),List.getElem?_set_ne (by omega)]
theorem upd_sa (h:P3 H a b c) (f:AO->AO) (l:List Int) (hf:f (rr s.P)=rr l):Ab.setObj (upd H a b c s) a f=upd H a b c ⟨l,s.D,s.L⟩:=by
 have:=h.ab; have:=h.bc; have:=h.lt
 rw[setObj_some (o:=rr s.P),hf]
 · unfold upd
   rw[List.set_comm _ _ (show c≠a by omega),List.set_comm _ _ (show b≠a by omega),List.set_set]
 · unfold upd
   rw[List.getElem?_set_ne (by omega),List.getElem?_set_ne (by omega),List.getElem?_set_self (by omega)]
theorem upd_sb (h:P3 H a b c) (f:AO->AO) (l:List Int) (hf:f (rr s.D)=rr l):Ab.setObj (upd H a b c s) b f=upd H a b c ⟨s.P,l,s.L⟩:=by
 have:=h.ab; have:=h.bc; have:=h.lt
 rw[setObj_some (o:=rr s.D),hf]
 · unfold upd
   rw[List.set_comm _ _ (show c≠b by omega),List.set_set]
 · unfold upd
   rw[List.getElem?_set_ne (by omega),List.getElem?_set_self (by simp; omega)]
theorem upd_sc (h:P3 H a b c) (f:AO->AO) (l:List Int) (hf:f (rr s.L)=rr l):Ab.setObj (upd H a b c s) c f=upd H a b c ⟨s.P,s.D,l⟩:=by
 have:=h.ab; have:=h.bc; have:=h.lt
 rw[setObj_some (o:=rr s.L),hf]
 · unfold upd
   rw[List.set_set]
 · unfold upd
   rw[List.getElem?_set_self (by simp; omega)]
theorem nds_drop {ns:List Nd} {k:Nat} (h:k<ns.length):nds (ns.drop k)=ns[k].cells++nds (ns.drop (k+1)):=by
 rw[List.drop_eq_getElem_cons h]; rfl
theorem nds_len:∀ ns:List Nd,(nds ns).length=6*ns.length
 | []=>rfl
 | x::r=>by simp[nds,nds_len r,Nd.cells]; omega
end
end Go.Proofs.Ytogjmpkehjfecaa.Rc
namespace Go.Proofs.Ytogjmpkehjfecaa.Rc
open Go.Ab
def resW (ns:List Nd):Option Nat->SV
 | none=>.tup [.val (.slice none 0 0),bl false]
 | some r=>.tup [.slc (nds (ns.drop r)) (ns.length-r),bl true]
def W3.ok (s:W3) (n:Nat):Prop:=s.P.length=n∧s.D.length=n∧s.L.length=n
theorem kids_ok {n:Nat} {w:Nat->W3->Option Nat×W3} {m:Nat} (hw:∀ r s,m≤r->s.ok n->(w r s).2.ok n∧∀ r',(w r s).1=some r'->r<r'∧r'≤n) :
 ∀ (l:List Int) (r:Nat) (s:W3),m≤r->r≤n->s.ok n->(kids w l r s).2.ok n∧∀ r',(kids w l r s).1=some r'->r≤r'∧r'≤n
 | [],r,s,hr,hn,hs=>⟨hs,fun r' h=>by simp[kids]at h; omega⟩
 | c::cs,r,s,hr,hn,hs=>by
  unfold kids
  by_cases hc:c=r
  · rw[if_pos hc]
    have h:=hw r s hr hs
    cases hh:w r s with
    | mk o s1 =>
     rw[hh]at h
     cases o with
     | none=>exact⟨h.1,fun r' h'=>by simp at h'⟩
     | some r1 =>
      have h1:=h.2 r1 rfl
      have h2:=kids_ok hw cs r1 s1 (by omega) h1.2 h.1
      exact⟨h2.1,fun r' h'=>by have:=h2.2 r' h'; omega⟩
  · rw[if_neg hc]
    exact⟨hs,fun r' h=>by simp at h⟩
theorem walkS_ok {ns:List Nd}:∀ (f:Nat) (par dep:Int) (k:Nat) (s:W3),s.ok ns.length →
 (walkS ns f par dep k s).2.ok ns.length∧∀ r,(walkS ns f par dep k s).1=some r->k<r∧r≤ns.length
 | 0,par,dep,k,s,hs=>⟨hs,fun r h=>by simp[walkS]at h⟩
 | f+1,par,dep,k,s,hs=>by
  unfold walkS
  cases hk:ns[k]? with
  | none=>exact⟨hs,fun r h=>by simp at h⟩
  | some x =>
   have hlt:=getElem?_lt hk
   have h:=kids_ok (n:=ns.length) (w:=walkS ns f k (dep+1)) (m:=0) (fun r s _ hs=>walkS_ok f k (dep+1) r s hs) x.nx (k+1) ⟨s.P.set k par,s.D.set k dep,s.L⟩ (by omega) (by omega)
    ⟨by simpa using hs.1,by simpa using hs.2.1,hs.2.2⟩
   simp only
   cases hh:kids (walkS ns f k (dep+1)) x.nx (k+1) ⟨s.P.set k par,s.D.set k dep,s.L⟩with
   | mk o s1 =>
    rw[hh]at h
    cases o with
    | none=>exact⟨h.1,fun r' h'=>by simp at h'⟩
    | some r1 =>
     refine⟨⟨h.1.1,h.1.2.1,by simpa using h.1.2.2⟩,fun r' h' => ?_⟩
     have:=h.2 r1 rfl
     simp at h'; omega
section
variable {H:List AO} {a b c j:Nat} {g:Gm}
structure Wh (H:List AO) (j:Nat) (g:Gm) (a b c:Nat):Prop where
 w:Wk H j g (.own a 0 g.ns.length 1 1) (.own b 0 g.ns.length 1 1) (.own c 0 g.ns.length 1 1)
 p:P3 H a b c
 ja:j≠a
 jb:j≠b
 jc:j≠c
 n:g.ns.length≤2000
 nx:∀ x∈g.ns,x.nx.length<4611686018427387904
theorem Wh.cells (h:Wh H j g a b c) (s:W3):objCells (upd H a b c s) j 0=[i64 g.pl,.slc (nds g.ns) g.ns.length,.slc (infs g.is) g.is.length,.own a 0 g.ns.length 1 1,.own b 0 g.ns.length 1 1,.own c 0 g.ns.length 1 1]:=by
 rw[upd_o h.ja h.jb h.jc]; exact h.w.o
set_option maxRecDepth 10000 in
theorem loop62 (h:Wh H j g a b c) {x:Nd} {dep:Int} {k:Nat} {w:Nat->W3->Option Nat×W3} {R:Option Nat×W3} (hd0:0≤dep) (hd1:dep≤k) (hk:k<g.ns.length) (hnx:x.nx.length<4611686018427387904)
 (hok:∀ r s,k+1≤r->r≤g.ns.length->s.ok g.ns.length->Ok Try.prog 89 [.ptr (.own j 0 0 0 0) 0,i64 k,i64 (dep+1),.slc (nds (g.ns.drop r)) (g.ns.length-r)] (upd H a b c s) (.ret (resW g.ns (w r s).1)) (upd H a b c (w r s).2))
 (hw:∀ r s,k+1≤r->s.ok g.ns.length->(w r s).2.ok g.ns.length∧∀ r',(w r s).1=some r'->r<r'∧r'≤g.ns.length)
 {N:Nat} {K:XE->Env->List AO->Prop}
 (hret:R.1=none->∀ env,env.get 8=.val (.slice none 0 0)->env.get 9=bl false->K .ret env (upd H a b c R.2))
 (hexit:∀ r',R.1=some r'->r'≤g.ns.length->R.2.ok g.ns.length->∀ env,env.get 0=.ptr (.own j 0 0 0 0) 0->env.get 10=i64 k->env.get 11=.slc (nds (g.ns.drop r')) (g.ns.length-r')->K (.exit 0) env (upd H a b c R.2)) :
 ∀ (m i r:Nat) (s:W3) (env:Env),i+m=x.nx.length->k+1≤r->r≤g.ns.length->s.ok g.ns.length->kids w (x.nx.drop i) r s=R →
  env.get 0=.ptr (.own j 0 0 0 0) 0->env.get 2=i64 dep->env.get 10=i64 k->env.get 11=.slc (nds (g.ns.drop r)) (g.ns.length-r)->env.get 46=.slc (ints x.nx) x.nx.length->env.get 47=i64 x.nx.length->env.get 48=i64 i →
  LI Try.prog N drawB l89_0 env (upd H a b c s) K:=by
 have hn:=h.n
 intro m
 induction m with
 | zero =>
  intro i r s env hi hr hrn hs hR h0 h2 h10 h11 h46 h47 h48
  refine li_go hm l89_0.eq_1 ?_
  have e:i=x.nx.length:=by omega
  subst e
  simp -implicitDefEqProofs[h47,h48]
  rw[List.drop_length]at hR
  subst hR
  exact hexit r rfl hrn hs _ (by simp[h0]) (by simp[h10]) (by simp[h11])
 | succ m ih =>
  intro i r s env hi hr hrn hs hR h0 h2 h10 h11 h46 h47 h48
  refine li_go hm l89_0.eq_1 ?_
  have hlt:i<x.nx.length:=by omega
  have w1:IntKind.i64.wrap ((g.ns.length:Int)-((g.ns.length-r:Nat):Int))=r:=by rw[wrap_id (by omega) (by omega)]; omega
  have w2:IntKind.i64.wrap (dep+1)=dep+1:=wrap_id (by omega) (by omega)
  rw[List.drop_eq_getElem_cons hlt]at hR
  unfold kids at hR
  by_cases hc:x.nx[i]=r
  · rw[if_pos hc]at hR
    simp -implicitDefEqProofs[h0,h2,h10,h11,h46,h47,h48,hlt,h.cells,w1,hc,w2]
    refine⟨by omega,call_go (hok r s hr hrn hs) ?_⟩
    have hw1:=hw r s hr hs
    cases hh:w r s with
    | mk o s1 =>
     rw[hh]at hw1 hR
     cases o with
     | none =>
      subst hR
      simp -implicitDefEqProofs[resW]
      exact hret rfl _ (by simp) (by simp)
     | some r1 =>
      have h1:=hw1.2 r1 rfl
      simp -implicitDefEqProofs[resW,h48]
      refine ih (i+1) r1 s1 _ (by omega) (by omega) h1.2 hw1.1 hR ?_ ?_ ?_ ?_ ?_ ?_ ?_
      · simp[h0]
      · simp[h2]
      · simp[h10]
      · simp
      · simp[h46]
      · simp[h47]
      · simp[wrap_suc (show i<9223372036854775807 by omega)]
  · rw[if_neg hc]at hR
    subst hR
    simp -implicitDefEqProofs[h0,h2,h10,h11,h46,h47,h48,hlt,h.cells,w1,hc]
    refine⟨by omega,?_⟩
    exact hret rfl _ (by simp) (by simp)
set_option maxRecDepth 10000 in
theorem ok89 (h:Wh H j g a b c):∀ (f:Nat) (par dep:Int) (k:Nat) (s:W3),k≤g.ns.length->g.ns.length+1≤k+f->0≤dep->dep≤k->s.ok g.ns.length →
 Ok Try.prog 89 [.ptr (.own j 0 0 0 0) 0,i64 par,i64 dep,.slc (nds (g.ns.drop k)) (g.ns.length-k)] (upd H a b c s)
  (.ret (resW g.ns (walkS g.ns f par dep k s).1)) (upd H a b c (walkS g.ns f par dep k s).2):=by
 have ab:=h.p.ab; have bc:=h.p.bc; have lt:=h.p.lt
 have hj:=h.w.lt
 have hn:=h.n
 intro f
 induction f with
 | zero=>intro par dep k s h1 h2; omega
 | succ f ih =>
  intro par dep k s hk hf hd0 hd1 hs
  refine ok_fn hm Try.func89 c89 (by simp[upd_len,hj]) fun hcl => ?_
  by_cases hk':k=g.ns.length
  · subst hk'
    simp -implicitDefEqProofs[i89,r89,walkS,resW]
    exact cv_id
  · have hlt:k<g.ns.length:=by omega
    have w1:IntKind.i64.wrap ((g.ns.length:Int)-((g.ns.length-k:Nat):Int))=k:=by rw[wrap_id (by omega) (by omega)]; omega
    have e1:∀ (s:W3) (v:Int),k<s.P.length->Ab.setObj (upd H a b c s) a (fun o=>{ cells:=List.take k o.cells++i64 v::List.drop (k+1) o.cells,ty:=o.ty,ver:=o.ver,live:=o.live })=upd H a b c ⟨s.P.set k v,s.D,s.L⟩ :=
     fun s v hv=>upd_sa h.p _ _ (by simp[rr,ints_set hv])
    have e2:∀ (s:W3) (v:Int),k<s.D.length->Ab.setObj (upd H a b c s) b (fun o=>{ cells:=List.take k o.cells++i64 v::List.drop (k+1) o.cells,ty:=o.ty,ver:=o.ver,live:=o.live })=upd H a b c ⟨s.P,s.D.set k v,s.L⟩ :=
     fun s v hv=>upd_sb h.p _ _ (by simp[rr,ints_set hv])
    have e3:∀ (s:W3) (v:Int),k<s.L.length->Ab.setObj (upd H a b c s) c (fun o=>{ cells:=List.take k o.cells++i64 v::List.drop (k+1) o.cells,ty:=o.ty,ver:=o.ver,live:=o.live })=upd H a b c ⟨s.P,s.D,s.L.set k v⟩ :=
     fun s v hv=>upd_sc h.p _ _ (by simp[rr,ints_set hv])
    have e4:List.take ((g.ns.length-k-1)*6) (nds (g.ns.drop (k+1)))=nds (g.ns.drop (k+1)):=List.take_of_length_le (by rw[nds_len]; simp; omega)
    have k1:=hs.1; have k2:=hs.2.1; have k3:=hs.2.2
    rw[nds_drop hlt]
    simp -implicitDefEqProofs[i89,r89,h.cells,upd_len,show ¬ g.ns.length-k=0 by omega,show((g.ns.length-k:Nat):Int)≠0 by omega,w1,upd_a h.p,upd_b h.p,upd_c h.p,e1,e2,k1,k2,k3,hlt,Nd.cells,sl,e4]
    refine⟨by omega,by omega,by omega,?_⟩
    have hget:g.ns[k]? = some g.ns[k]:=List.getElem?_eq_getElem hlt
    have hs':W3.ok ⟨s.P.set k par,s.D.set k dep,s.L⟩ g.ns.length:=⟨by simpa using k1,by simpa using k2,k3⟩
    refine loop62 h (x:=g.ns[k]) (dep:=dep) (k:=k) (w:=walkS g.ns f k (dep+1)) (R:=kids (walkS g.ns f k (dep+1)) g.ns[k].nx (k+1) ⟨s.P.set k par,s.D.set k dep,s.L⟩) hd0 hd1 hlt (h.nx _ (List.getElem_mem hlt))
     (fun r s hr hrn hs=>ih k (dep+1) r s hrn (by omega) (by omega) (by omega) hs) (fun r s _ hs=>walkS_ok f k (dep+1) r s hs) (fun hR env h8 h9 => ?_) (fun r' hR hr' hs1 env h0 h10 h11 => ?_)
     g.ns[k].nx.length 0 (k+1) _ _ (by omega) (by omega) (by omega) hs' (by simp) (by simp) (by simp) (by simp) (by simp; omega) (by simp) (by simp) (by simp)
    · simp -implicitDefEqProofs[h8,h9]
      unfold walkS
      rw[hget]
      revert hR
      simp only
      generalize kids (walkS g.ns f k (dep+1)) g.ns[k].nx (k+1) ⟨s.P.set k par,s.D.set k dep,s.L⟩=R
      obtain⟨o,s2⟩:=R
      rintro rfl
      simp[resW]
      exact cv_id
    · have w2:IntKind.i64.wrap ((g.ns.length:Int)-((g.ns.length-r':Nat):Int))=r':=by rw[wrap_id (by omega) (by omega)]; omega
      have w3:IntKind.i64.wrap ((r':Int)-1)=(r':Int)-1:=wrap_id (by omega) (by omega)
      unfold walkS
      rw[hget]
      revert hR hs1
      simp only
      generalize kids (walkS g.ns f k (dep+1)) g.ns[k].nx (k+1) ⟨s.P.set k par,s.D.set k dep,s.L⟩=R
      obtain⟨o,s2⟩:=R
      rintro hR hs1
      cases hR
      have k4:=hs1.2.2
      simp only at k4
      simp -implicitDefEqProofs[h0,h10,h11,h.cells,upd_len,w2,w3,upd_c h.p,e3,k4,hlt]
      refine⟨by omega,?_⟩
      exact cv_id
end
end Go.Proofs.Ytogjmpkehjfecaa.Rc
namespace Go.Proofs.Ytogjmpkehjfecaa.Rc
open Go.Ab
def maxL (l:List Int):Int:=l.tail.foldl max (l.headD 0)
section
variable {x:SV} {H:List AO} {l:List Int}
theorem loop63 (hx:IsI H x l) (hl:l.length<4611686018427387904) {N:Nat} {K:XE->Env->List AO->Prop}
 (hexit:∀ env,env.get 3=i64 (maxL l)->K (.exit 0) env H) :
 ∀ (n i:Nat) (acc:Int) (env:Env),i+n=l.length->(l.drop i).foldl max acc=maxL l->env.get 0=x->env.get 3=i64 acc->env.get 4=i64 i->LI Try.prog N drawB l90_0 env H K:=by
 intro n
 induction n with
 | zero =>
  intro i acc env hi ha h0 h3 h4
  refine li_go hm l90_0.eq_1 ?_
  have e:i=l.length:=by omega
  subst e
  simp -implicitDefEqProofs[h0,h3,h4,hx.vd,hx.ug,hx.sl,hx.len]
  rw[List.drop_length]at ha
  exact hexit _ (by simp[h3]; exact congrArg i64 ha)
 | succ n ih =>
  intro i acc env hi ha h0 h3 h4
  refine li_go hm l90_0.eq_1 ?_
  have hlt:i<l.length:=by omega
  rw[List.drop_eq_getElem_cons hlt,List.foldl_cons]at ha
  simp -implicitDefEqProofs[h0,h3,h4,hlt,hx.vd,hx.ug,hx.sl,hx.len,hx.v hlt,hx.ok hlt]
  refine ih (i+1) (max acc l[i]) _ (by omega) ha ?_ ?_ ?_
  · simp[h0]
  · simp
  · simp[wrap_suc (show i<9223372036854775807 by omega)]
theorem ok90 (hx:IsI H x l) (hl:l.length<4611686018427387904) (hne:0<l.length):Ok Try.prog 90 [x] H (.ret (i64 (maxL l))) H:=by
 refine ok_fn hm Try.func90 c90 (by simp[hx.und]) fun hcl => ?_
 simp -implicitDefEqProofs[i90,r90,hx.vd,hx.ug,hx.sl,hx.len,show ¬ (l.length:Int)<1 by omega,hx.v hne,hx.ok hne]
 refine⟨by omega,?_⟩
 refine loop63 hx hl (fun env h3 => ?_) (l.length-1) 1 l[0] _ (by omega) ?_ (by simp) (by simp) (by simp)
 · simp -implicitDefEqProofs[h3]
   exact cv_id
 · cases l with
   | nil=>simp at hne
   | cons y r=>rfl
def fstAt (v:Int) (l:List Int):Int:=match l.findIdx? (· == v)with | some i=>i | none => -1
theorem loop82 (hx:IsI H x l) (hl:l.length<4611686018427387904) {v:Int} {N:Nat} {K:XE->Env->List AO->Prop}
 (hret:∀ env (i:Nat),l.findIdx? (· == v)=some i->env.get 4=i64 i->K .ret env H) (hexit:l.findIdx? (· == v)=none->∀ env,K (.exit 0) env H) :
 ∀ (n i:Nat) (env:Env),i+n=l.length->(∀ j (h:j<l.length),j<i->¬ l[j]=v)->env.get 0=x->env.get 1=i64 v->env.get 7=i64 l.length->env.get 8=i64 i →
  LI Try.prog N drawB l110_0 env H K:=by
 intro n
 induction n with
 | zero =>
  intro i env hi hp h0 h1 h7 h8
  refine li_go hm l110_0.eq_1 ?_
  have e:i=l.length:=by omega
  simp -implicitDefEqProofs[h7,h8,e]
  refine hexit ?_ _
  rw[List.findIdx?_eq_none_iff]
  intro y hy
  obtain⟨j,hj,rfl⟩:=List.getElem_of_mem hy
  simpa using hp j hj (by omega)
 | succ n ih =>
  intro i env hi hp h0 h1 h7 h8
  refine li_go hm l110_0.eq_1 ?_
  have hlt:i<l.length:=by omega
  by_cases ho:l[i]=v
  · simp -implicitDefEqProofs[h0,h1,h7,h8,hlt,hx.vd,hx.ug,hx.sl,hx.len,hx.v hlt,hx.ok hlt,ho]
    refine hret _ i ?_ (by simp)
    rw[List.findIdx?_eq_some_iff_getElem]
    exact⟨hlt,by simpa using ho,fun j hj=>by simpa using hp j (by omega) hj⟩
  · simp -implicitDefEqProofs[h0,h1,h7,h8,hlt,hx.vd,hx.ug,hx.sl,hx.len,hx.v hlt,hx.ok hlt,show ¬ v=l[i]from fun e=>ho e.symm]
    refine ih (i+1) _ (by omega) ?_ ?_ ?_ ?_ ?_
    rotate_left
    · simp[h0]
    · simp[h1]
    · simp[h7]
    · simp[h8,wrap_suc (show i<9223372036854775807 by omega)]
    intro j hj hji
    by_cases e:j=i
    · subst e; exact ho
    · exact hp j hj (by omega)
theorem ok110 (hx:IsI H x l) (hl:l.length<4611686018427387904) (v:Int):Ok Try.prog 110 [x,i64 v] H (.ret (i64 (fstAt v l))) H:=by
 refine ok_fn hm Try.func110 c110 (by simp[hx.und]) fun hcl => ?_
 simp -implicitDefEqProofs[i110,r110,hx.vd,hx.ug,hx.sl,hx.len]
 refine loop82 hx hl (v:=v) (fun env i h1 h2 => ?_) (fun h1 env => ?_) l.length 0 _ (by omega) (by omega) (by simp) (by simp) (by simp) (by simp)
 · simp[h2,fstAt,h1]
   exact cv_id
 · simp[fstAt,h1]
   exact cv_id
theorem fstAt_ge {v:Int} {l:List Int}:decide (0≤fstAt v l)=decide (v∈l):=by
 rw[Bool.eq_iff_iff,decide_eq_true_iff,decide_eq_true_iff]
 unfold fstAt
 cases h:l.findIdx? (· == v)with
 | some i =>
  simp only[Int.natCast_nonneg,true_iff]
  obtain⟨hi,h1,h2⟩:=List.findIdx?_eq_some_iff_getElem.1 h
  rw[←eq_of_beq h1]; exact List.getElem_mem hi
 | none =>
  rw[List.findIdx?_eq_none_iff]at h
  have:v∉l:=fun hv=>by simpa using h v hv
  simp[this]
theorem ok105 (hx:IsI H x l) (hl:l.length<4611686018427387904) (v:Int):Ok Try.prog 105 [x,i64 v] H (.ret (bl (decide (v∈l)))) H:=by
 refine ok_fn hm Try.func105 c105 (by simp[hx.und]) fun hcl => ?_
 simp -implicitDefEqProofs[i105,r105,hx.vd,hx.ug,hx.sl,hx.len]
 refine call_go (ok110 hx hl v) ?_
 simp -implicitDefEqProofs
 rw[fstAt_ge]
 exact cv_id
theorem ok116 (n:Int):Ok Try.prog 116 [i64 n] H (.ret (bl false)) H:=by
 refine ok_fn hm Try.func116 c116 (by simp) fun hcl => ?_
 simp -implicitDefEqProofs[i116,r116]
 exact cv_id
theorem ok114 (m n:Int):Ok Try.prog 114 [i64 m,i64 n] H (.ret (bl (decide (m<n)))) H:=by
 refine ok_fn hm Try.func114 c114 (by simp) fun hcl => ?_
 simp -implicitDefEqProofs[i114,r114]
 refine call_go (ok116 m) ?_
 simp -implicitDefEqProofs
 refine callq_off _ _ _ _ ?_
 simp -implicitDefEqProofs
 exact cv_id
def Srt (l:List Int):Prop:=∀ k,k<l.length-1->¬ l.getD (k+1) 0<l.getD k 0
instance (l:List Int):Decidable (Srt l):=by unfold Srt; infer_instance
theorem srt_iff {l:List Int}:Srt l↔∀ k (h:k+1<l.length),¬ l[k+1]<l[k]:=by
 constructor
 · intro h k hk
   have:=h k (by omega)
   simpa only[List.getD_eq_getElem?_getD,List.getElem?_eq_getElem hk,List.getElem?_eq_getElem (show k<l.length by omega),Option.getD_some]using this
 · intro h k hk
   simp only[List.getD_eq_getElem?_getD,List.getElem?_eq_getElem (show k+1<l.length by omega),List.getElem?_eq_getElem (show k<l.length by omega),Option.getD_some]
   exact h k (by omega)
theorem loop80 (hx:IsI H x l) (hl:l.length<4611686018427387904) {N:Nat} {K:XE->Env->List AO->Prop}
 (hret:¬ Srt l->∀ env,env.get 2=bl false->K .ret env H) (hexit:Srt l->∀ env,K (.exit 0) env H) :
 ∀ (n:Nat) (env:Env),n<l.length->(∀ k (h:k+1<l.length),n≤k->¬ l[k+1]<l[k])->env.get 0=x->env.get 3=i64 n->LI Try.prog N drawB l106_0 env H K:=by
 intro n
 induction n with
 | zero =>
  intro env hi hp h0 h3
  refine li_go hm l106_0.eq_1 ?_
  simp -implicitDefEqProofs[h0,h3]
  exact hexit (srt_iff.2 fun k hk=>hp k hk (by omega)) _
 | succ n ih =>
  intro env hi hp h0 h3
  refine li_go hm l106_0.eq_1 ?_
  have w1:IntKind.i64.wrap (n:Int)=n:=wrap_nat (by omega)
  have hlt:n<l.length:=by omega
  simp -implicitDefEqProofs[h0,h3,hi,hlt,w1,hx.vd,hx.ug,hx.sl,hx.len,hx.v hlt,hx.ok hlt,hx.v hi,hx.ok hi]
  refine⟨by omega,?_⟩
  refine callq_go (fun _=>ok114 _ _) ?_
  by_cases hc:l[n+1]<l[n]
  · simp -implicitDefEqProofs[hc]
    exact hret (fun h=>srt_iff.1 h n hi hc) _ (by simp)
  · simp -implicitDefEqProofs[hc,h3,w1]
    refine ih _ (by omega) ?_ ?_ ?_
    rotate_left
    · simp[h0]
    · simp
    intro k hk hnk
    by_cases e:k=n
    · subst e; exact hc
    · exact hp k hk (by omega)
theorem ok106 (hx:IsI H x l) (hl:l.length<4611686018427387904):Ok Try.prog 106 [x] H (.ret (bl (decide (Srt l)))) H:=by
 refine ok_fn hm Try.func106 c106 (by simp[hx.und]) fun hcl => ?_
 by_cases h0:l.length=0
 · have:l=[]:=List.eq_nil_of_length_eq_zero h0
   subst this
   simp -implicitDefEqProofs[i106,r106,hx.vd,hx.ug,hx.sl,hx.len,show IntKind.i64.wrap (-1) = -1 by rfl]
   refine li_go hm l106_0.eq_1 ?_
   simp -implicitDefEqProofs[show Srt []from srt_iff.2 (fun k h=>by simp at h)]
   exact cv_id
 · have w1:IntKind.i64.wrap ((l.length:Int)-1)=((l.length-1:Nat):Int):=by rw[wrap_id (by omega) (by omega)]; omega
   simp -implicitDefEqProofs[i106,r106,hx.vd,hx.ug,hx.sl,hx.len,w1]
   refine loop80 hx hl (fun h1 env h2 => ?_) (fun h1 env => ?_) (l.length-1) _ (by omega) (by omega) (by simp) (by simp)
   · simp -implicitDefEqProofs[h2,h1]
     exact cv_id
   · simp -implicitDefEqProofs[h1]
     exact cv_id
end
end Go.Proofs.Ytogjmpkehjfecaa.Rc
namespace Go.Proofs.Ytogjmpkehjfecaa.Rc
open Go.Ab
def fst1:List Nd->Nat->List Int->List Int
 | [],_,z=>z
 | x::r,o,z=>if x.k=2 then(fst1 r (o+1) z).set x.i.toNat (o+1)else fst1 r (o+1) z
@[simp] theorem fst1_len (z:List Int):∀ (l:List Nd) (o:Nat),(fst1 l o z).length=z.length
 | [],o=>rfl
 | x::r,o=>by unfold fst1; split<;>simp[fst1_len z r (o+1)]
def ro (l:List Int):AO:=⟨ints l,3,0,true⟩
def Nd.tyBad (g:Gm) (x:Nd):Prop:=x.k=2∧g.is[x.i.toNat]? ≠ some (x.p,(x.nx.length:Int))
instance (g:Gm) (x:Nd):Decidable (x.tyBad g):=by unfold Nd.tyBad; infer_instance
def Gm.firsts (g:Gm):List Int:=fst1 g.ns 0 (List.replicate g.is.length 0)
def Gm.setsE (g:Gm):Int:=if ∃ x∈g.ns,x.tyBad g then 10 else if 0∈g.firsts then 18 else if Srt g.firsts then 0 else 9
structure Gd (g:Gm):Prop where
 p1:1≤g.pl
 p4:g.pl≤4
 n1:1≤g.ns.length
 n:g.ns.length≤2000
 i:g.is.length≤200
 e:∀ x∈g.ns,x.err g=0
theorem Gd.inf {g:Gm} (h:Gd g) {x:Nd} (hx:x∈g.ns) (hk:x.k=2):0≤x.i∧x.i<g.is.length:=by
 have:=h.e x hx
 unfold Nd.err Nd.move at this
 rw[if_neg (by omega),if_neg (by omega),if_pos hk]at this
 split at this
 · omega
 · rw[within1,within1]at this
   split at this
   · split at this<;>omega
   · split at this<;>omega
theorem infs_drop:∀ {l:List (Int×Int)} {k:Nat} (h:k<l.length),(infs l).drop (2*k)=i64 l[k].1::i64 l[k].2::infs (l.drop (k+1))
 | [],k,h=>by simp at h
 | x::r,0,h=>rfl
 | x::r,k+1,h=>by
  rw[show 2*(k+1)=2*k+2 by omega]
  simp only[infs,List.drop_succ_cons]
  rw[infs_drop (l:=r) (k:=k) (by simpa using h)]
  simp
theorem nds_drop':∀ {l:List Nd} {k:Nat} (h:k<l.length),(nds l).drop (6*k)=l[k].cells++nds (l.drop (k+1))
 | [],k,h=>by simp at h
 | x::r,0,h=>rfl
 | x::r,k+1,h=>by
  rw[show 6*(k+1)=6*k+6 by omega]
  simp only[nds,Nd.cells,List.drop_succ_cons,List.cons_append,List.nil_append]
  rw[nds_drop' (l:=r) (k:=k) (by simpa using h)]
  simp[Nd.cells]
theorem infs_len:∀ l:List (Int×Int),(infs l).length=2*l.length
 | []=>rfl
 | x::r=>by simp[infs,infs_len r]; omega
theorem nds_at {l:List Nd} {k:Nat} (h:k<l.length):(nds l).drop (k*6)=i64 l[k].k::i64 l[k].p::i64 l[k].i::sl l[k].nx::sl l[k].ws::sl l[k].ps::nds (l.drop (k+1)):=by
 rw[Nat.mul_comm,nds_drop' h]; rfl
theorem nds_min {l:List Nd} {k:Nat} (h:k<l.length):min 6 ((nds l).length-k*6)=6:=by rw[nds_len]; omega
theorem nds_ge {l:List Nd} {k:Nat} (h:k<l.length):6≤(nds l).length-k*6:=by rw[nds_len]; omega
theorem infs_at {l:List (Int×Int)} {k:Nat} (h:k<l.length):(infs l).drop (k*2)=i64 l[k].1::i64 l[k].2::infs (l.drop (k+1)):=by
 rw[Nat.mul_comm,infs_drop h]
theorem infs_min {l:List (Int×Int)} {k:Nat} (h:k<l.length):min 2 ((infs l).length-k*2)=2:=by rw[infs_len]; omega
theorem infs_ge {l:List (Int×Int)} {k:Nat} (h:k<l.length):2≤(infs l).length-k*2:=by rw[infs_len]; omega
section
variable {H:List AO} {j:Nat} {g:Gm} {a b c:SV}
set_option maxRecDepth 10000 in
theorem loop64_0 (h:Wk H j g a b c) (hg:Gd g) {N:Nat} {K:XE->Env->List AO->Prop}
 (hexit:∀ env M,env.get 0=.ptr (.own j 0 0 0 0) 0->env.get 3=.own H.length 0 g.is.length 1 0->K (.exit 0) env (H++ro g.firsts::M)) :
 ∀ (n:Nat) (env:Env) (M:List AO),n≤g.ns.length->env.get 0=.ptr (.own j 0 0 0 0) 0->env.get 3=.own H.length 0 g.is.length 1 0->env.get 4=i64 ((n:Int)-1) →
  LI Try.prog N drawB l91_0 env (H++ro (fst1 (g.ns.drop n) n (List.replicate g.is.length 0))::M) K:=by
 intro n
 induction n with
 | zero =>
  intro env M hi h0 h3 h4
  refine li_go hm l91_0.eq_1 ?_
  simp -implicitDefEqProofs[h0,h3,h4]
  exact hexit _ _ (by simp[h0]) (by simp[h3])
 | succ n ih =>
  intro env M hi h0 h3 h4
  refine li_go hm l91_0.eq_1 ?_
  have hn:=hg.n
  have hx:g.ns[n]∈g.ns:=List.getElem_mem hi
  have w1:IntKind.i64.wrap (n:Int)=n:=wrap_nat (by omega)
  have e:((n+1:Nat):Int)-1=n:=by omega
  rw[e]at h4
  have w2:IntKind.i64.wrap ((n:Int)+1)=((n+1:Nat):Int):=wrap_succ (by omega)
  have w3:IntKind.i64.wrap ((n:Int)-1)=(n:Int)-1:=wrap_id (by omega) (by omega)
  by_cases hk:g.ns[n].k=2
  · have hb:=hg.inf hx hk
    have e7:fst1 (g.ns.drop n) n (List.replicate g.is.length 0)=(fst1 (g.ns.drop (n+1)) (n+1) (List.replicate g.is.length 0)).set g.ns[n].i.toNat ((n+1:Nat):Int):=by
     rw[List.drop_eq_getElem_cons hi,fst1,if_pos hk]; rfl
    rw[e7]at ih
    simp -implicitDefEqProofs[h0,h3,h4,(h.app _).o,hi,nds_at hi,nds_min hi,nds_ge hi,hk,sl,ro]
    refine⟨by omega,by omega,by omega,?_⟩
    rw[w2,ints_set (by simp; omega),w3]
    refine ih _ _ (by omega) ?_ ?_ ?_
    · simp
    · simp
    · simp
  · have e7:fst1 (g.ns.drop n) n (List.replicate g.is.length 0)=fst1 (g.ns.drop (n+1)) (n+1) (List.replicate g.is.length 0):=by
     rw[List.drop_eq_getElem_cons hi,fst1,if_neg hk]
    rw[e7]at ih
    simp -implicitDefEqProofs[h0,h3,h4,(h.app _).o,hi,nds_at hi,nds_min hi,nds_ge hi,hk,sl]
    refine⟨by omega,?_⟩
    rw[w3]
    refine ih _ _ (by omega) ?_ ?_ ?_
    · simp
    · simp
    · simp
set_option maxRecDepth 10000 in
theorem loop64_1 (h:Wk H j g a b c) (hg:Gd g) {N:Nat} {K:XE->Env->List AO->Prop} {r:AO}
 (hret:(∃ x∈g.ns,x.tyBad g)->∀ env M,env.get 2=i64 10->K .ret env (H++r::M))
 (hexit:(¬ ∃ x∈g.ns,x.tyBad g)->∀ env M,env.get 3=.own H.length 0 g.is.length 1 0->K (.exit 2) env (H++r::M)) :
 ∀ (n i:Nat) (env:Env) (M:List AO),i+n=g.ns.length->(∀ k (h:k<g.ns.length),k<i->¬ g.ns[k].tyBad g)->env.get 0=.ptr (.own j 0 0 0 0) 0->env.get 3=.own H.length 0 g.is.length 1 0 →
  env.get 47=.slc (nds g.ns) g.ns.length->env.get 48=i64 g.ns.length->env.get 49=i64 i->LI Try.prog N drawB l91_1 env (H++r::M) K:=by
 have hn:=hg.n
 intro n
 induction n with
 | zero =>
  intro i env M hi hp h0 h3 h47 h48 h49
  refine li_go hm l91_1.eq_1 ?_
  have e:i=g.ns.length:=by omega
  subst e
  simp -implicitDefEqProofs[h0,h3,h48,h49]
  refine hexit ?_ _ _ (by simp[h3])
  rintro⟨x,hx,hb⟩
  obtain⟨k,hk,rfl⟩:=List.getElem_of_mem hx
  exact hp k hk hk hb
 | succ n ih =>
  intro i env M hi hp h0 h3 h47 h48 h49
  refine li_go hm l91_1.eq_1 ?_
  have hlt:i<g.ns.length:=by omega
  have hx:g.ns[i]∈g.ns:=List.getElem_mem hlt
  have w1:IntKind.i64.wrap ((i:Int)+1)=((i+1:Nat):Int):=wrap_succ (by omega)
  by_cases hk:g.ns[i].k=2
  · have hb:=hg.inf hx hk
    have hb':g.ns[i].i.toNat<g.is.length:=by omega
    simp -implicitDefEqProofs[h0,h3,h47,h48,h49,(h.app _).o,hlt,nds_at hlt,nds_min hlt,nds_ge hlt,infs_at hb',infs_min hb',infs_ge hb',hk,sl]
    refine⟨by omega,?_⟩
    have hbad:(¬g.is[g.ns[i].i.toNat].fst=g.ns[i].p∨¬g.is[g.ns[i].i.toNat].snd=(g.ns[i].nx.length:Int))↔g.ns[i].tyBad g:=by
     unfold Nd.tyBad
     rw[List.getElem?_eq_getElem hb']
     simp only[hk,true_and,ne_eq,Option.some.injEq]
     rw[←Prod.eta g.is[g.ns[i].i.toNat],Prod.mk.injEq]
     constructor
     · rintro(h | h) ⟨h1,h2⟩
       · exact h h1
       · exact h h2
     · intro h
       by_cases h1:g.is[g.ns[i].i.toNat].fst=g.ns[i].p
       · exact .inr fun h2=>h ⟨h1,h2⟩
       · exact .inl h1
    split
    · rename_i hc
      exact hret ⟨_,hx,hbad.1 hc⟩ _ _ (by simp)
    · rename_i hc
      rw[w1]
      refine ih (i+1) _ _ (by omega) ?_ ?_ ?_ ?_ ?_ ?_
      rotate_left
      · simp
      · simp
      · simp
      · simp
      · simp
      intro k hk hki
      by_cases e:k=i
      · subst e; exact fun hb=>hc (hbad.2 hb)
      · exact hp k hk (by omega)
  · simp -implicitDefEqProofs[h0,h3,h47,h48,h49,(h.app _).o,hlt,nds_at hlt,nds_min hlt,nds_ge hlt,hk,sl]
    rw[w1]
    refine ih (i+1) _ _ (by omega) ?_ ?_ ?_ ?_ ?_ ?_
    rotate_left
    · simp
    · simp
    · simp
    · simp
    · simp
    intro k hk' hki
    by_cases e:k=i
    · subst e; exact fun hb=>hk hb.1
    · exact hp k hk' (by omega)
set_option maxRecDepth 10000 in
theorem ok91 (h:Wk H j g a b c) (hg:Gd g):Ok Try.prog 91 [.ptr (.own j 0 0 0 0) 0] H (.ret (i64 g.setsE)) H:=by
 have hn:=hg.n
 have hi:=hg.i
 have w1:IntKind.i64.wrap ((g.ns.length:Int)-1)=(g.ns.length:Int)-1:=wrap_id (by omega) (by omega)
 refine ok_fn hm Try.func91 c91 (by simp[h.lt]) fun hcl => ?_
 simp -implicitDefEqProofs[i91,r91,h.o,(h.app _).o,w1]
 refine⟨by omega,by omega,?_⟩
 have e0:[(⟨List.replicate g.is.length (i64 0),3,0,true⟩:AO)]=ro (fst1 (g.ns.drop g.ns.length) g.ns.length (List.replicate g.is.length 0))::[]:=by
  simp[ro,fst1,ints]
 rw[e0]
 refine loop64_0 h hg (fun env M h0 h3 => ?_) g.ns.length _ _ (Nat.le_refl _) (by simp) (by simp) (by simp)
 simp -implicitDefEqProofs[h0,h3,(h.app _).o]
 have hF:g.firsts.length=g.is.length:=by simp[Gm.firsts]
 refine loop64_1 h hg (fun hb env M h2 => ?_) (fun hb env M h3 => ?_) g.ns.length 0 _ _ (by omega) (by omega) (by simp[h0]) (by simp[h3]) (by simp) (by simp) (by simp)
 · simp -implicitDefEqProofs[h2]
   refine cv_fz 1 hcl rfl ?_
   simp[Gm.setsE,if_pos hb]
 · have hI:∀ M,IsI (H++ro g.firsts::M) (.own H.length 0 g.is.length 1 0) g.firsts:=fun M=>by
    have:=IsI.own0 H (ro g.firsts::M) 0 0 g.firsts [] 3 (by simp[ro])
    rwa [hF]at this
   simp -implicitDefEqProofs[h3]
   refine call_go (ok105 (hI M) (by omega) 0) ?_
   by_cases h0:0∈g.firsts
   · simp -implicitDefEqProofs[h0]
     refine cv_fz 1 hcl rfl ?_
     simp[Gm.setsE,if_neg hb,h0]
   · simp -implicitDefEqProofs[h0,h3]
     refine call_go (ok106 (hI M) (by omega)) ?_
     by_cases h1:Srt g.firsts
     · simp -implicitDefEqProofs[h1]
       refine cv_fz 1 hcl rfl ?_
       simp[Gm.setsE,if_neg hb,h0,h1]
     · simp -implicitDefEqProofs[h1]
       refine cv_fz 1 hcl rfl ?_
       simp[Gm.setsE,if_neg hb,h0,h1]
end
end Go.Proofs.Ytogjmpkehjfecaa.Rc
namespace Go.Proofs.Ytogjmpkehjfecaa.Rc
open Go.Ab
def Gm.rng (g:Gm):Prop:=((((g.pl<1∨4<g.pl)∨(g.ns.length:Int)<1)∨2000<(g.ns.length:Int))∨200<(g.is.length:Int))
instance (g:Gm):Decidable g.rng:=by unfold Gm.rng; infer_instance
def nodesE (g:Gm):List Nd->Int
 | []=>0
 | x::r=>if x.err g=0 then nodesE g r else x.err g
def Gm.w0 (g:Gm):W3:=⟨List.replicate g.ns.length 0,List.replicate g.ns.length 0,List.replicate g.ns.length 0⟩
def Gm.wk (g:Gm):Option Nat×W3:=walkS g.ns (g.ns.length+1) (-1) 0 0 g.w0
def Gm.err0 (g:Gm):Int:=if g.rng then 2 else if nodesE g g.ns≠0 then nodesE g g.ns else if g.wk.1≠some g.ns.length then 9 else if 40<maxL g.wk.2.D then 5 else 0
def Gm.wp (g:Gm):SV:=.ptr (.slc [i64 g.pl,.slc (nds g.ns) g.ns.length,.slc (infs g.is) g.is.length,sl g.wk.2.P,sl g.wk.2.D,sl g.wk.2.L] 0) 0
def Gm.walked (g:Gm):SV:=if g.err0≠0 then .tup [.val (.pointer none),i64 g.err0]else .tup [g.wp,i64 g.setsE]
def gbox (g:Gm):AO:=⟨[i64 g.pl,.slc (nds g.ns) g.ns.length,.slc (infs g.is) g.is.length],25,0,true⟩
def wbox (g:Gm) (a b c:SV):AO:=⟨[i64 g.pl,.slc (nds g.ns) g.ns.length,.slc (infs g.is) g.is.length,a,b,c],134,0,true⟩
abbrev nl:SV:=.val (.slice none 0 0)
theorem nds_under (n:Nat):∀ l:List Nd,SV.underL n (nds l)=true
 | []=>rfl
 | x::r=>by rw[nds,SV.underL_append,nds_under n r]; simp[Nd.cells,sl]
theorem infs_under (n:Nat):∀ l:List (Int×Int),SV.underL n (infs l)=true
 | []=>rfl
 | x::r=>by simp[infs,infs_under n r]
theorem fz_mapU {n:Nat} {ks:List Nat} {L:List AO} {d:Nat} {l:List SV} (h:SV.underL n l=true):l.map (SV.fz n ks L (d+1))=l:=by
 rw[SV.underL_iff]at h
 conv=>rhs; rw[←List.map_id l]
 exact List.map_congr_left fun x hx=>fz_under (h x hx)
@[simp] theorem fz_nds (n:Nat) (ks:List Nat) (L:List AO) (d:Nat) (l:List Nd):(nds l).map (SV.fz n ks L (d+1))=nds l:=fz_mapU (nds_under n l)
@[simp] theorem fz_infs (n:Nat) (ks:List Nat) (L:List AO) (d:Nat) (l:List (Int×Int)):(infs l).map (SV.fz n ks L (d+1))=infs l:=fz_mapU (infs_under n l)
section
variable {H:List AO} {g:Gm}
theorem wk_box {M:List AO} {a b c:SV}:Wk (H++gbox g::wbox g a b c::M) (H.length+1) g a b c:=⟨by simp[wbox],by simp⟩
set_option maxRecDepth 10000 in
theorem loop38_0 (h1:1≤g.pl) (h4:g.pl≤4) (h5:g.is.length≤200) (hn:g.ns.length≤2000) {N:Nat} {K:XE->Env->List AO->Prop}
 (hret:nodesE g g.ns≠0->∀ env M,env.get 2=.val (.pointer none)->env.get 3=i64 (nodesE g g.ns)->K .ret env (H++gbox g::wbox g nl nl nl::M))
 (hexit:(∀ x∈g.ns,x.err g=0)->nodesE g g.ns=0->∀ env M,env.get 1=.ptr (.own H.length 0 0 0 0) 0->env.get 4=.ptr (.own (H.length+1) 0 0 0 0) 0->K (.exit 0) env (H++gbox g::wbox g nl nl nl::M)) :
 ∀ (n i:Nat) (env:Env) (M:List AO),i+n=g.ns.length->(∀ k (h:k<g.ns.length),k<i->g.ns[k].err g=0)->nodesE g (g.ns.drop i)=nodesE g g.ns →
  env.get 1=.ptr (.own H.length 0 0 0 0) 0->env.get 4=.ptr (.own (H.length+1) 0 0 0 0) 0->env.get 40=.slc (nds g.ns) g.ns.length->env.get 41=i64 g.ns.length->env.get 42=i64 i →
  LI Try.prog N drawB l76_0 env (H++gbox g::wbox g nl nl nl::M) K:=by
 intro n
 induction n with
 | zero =>
  intro i env M hi hp hE h1 h4 h40 h41 h42
  refine li_go hm l76_0.eq_1 ?_
  have e:i=g.ns.length:=by omega
  subst e
  simp -implicitDefEqProofs[h41,h42]
  rw[List.drop_length]at hE
  refine hexit ?_ hE.symm _ _ (by simp[h1]) (by simp[h4])
  intro x hx
  obtain⟨k,hk,rfl⟩:=List.getElem_of_mem hx
  exact hp k hk hk
 | succ n ih =>
  intro i env M hi hp hE e1 e4 h40 h41 h42
  refine li_go hm l76_0.eq_1 ?_
  have hlt:i<g.ns.length:=by omega
  have w1:IntKind.i64.wrap ((i:Int)+1)=((i+1:Nat):Int):=wrap_succ (by omega)
  rw[List.drop_eq_getElem_cons hlt,nodesE]at hE
  simp -implicitDefEqProofs[e1,e4,h40,h41,h42,hlt,nds_at hlt,nds_min hlt,nds_ge hlt,sl]
  refine call_go (ok88 (x:=g.ns[i]) (wk_box (g:=g) (a:=nl) (b:=nl) (c:=nl)) h1 h4 h5) ?_
  by_cases hc:g.ns[i].err g=0
  · rw[if_pos hc]at hE
    simp -implicitDefEqProofs[hc,h42]
    rw[w1]
    refine ih (i+1) _ _ (by omega) ?_ hE ?_ ?_ ?_ ?_ ?_
    rotate_left
    · simp[e1]
    · simp[e4]
    · simp[h40]
    · simp[h41]
    · simp
    intro k hk hki
    by_cases e:k=i
    · subst e; exact hc
    · exact hp k hk (by omega)
  · rw[if_neg hc]at hE
    simp -implicitDefEqProofs[hc]
    refine hret ?_ _ _ (by simp) (by simp[hE])
    rw[←hE]; exact hc
theorem nx_of {x:Nd} (h:x.err g=0):x.nx.length≤60:=by
 unfold Nd.err at h
 split at h
 · omega
 · split at h
   · unfold Nd.chance at h
     split at h<;>omega
   · split at h
     · unfold Nd.move at h
       split at h<;>omega
     · unfold Nd.end at h
       split at h<;>omega
theorem upd_rows {M:List AO} {A B x y z:AO} {s:W3} :
 upd (H++A::B::(M++[x,y,z])) (H.length+(M.length+1+1)) (H.length+(M.length+1+1+1)) (H.length+(M.length+1+1+1+1)) s=H++A::B::(M++[rr s.P,rr s.D,rr s.L]):=by
 simp[upd]
set_option maxRecDepth 10000 in
theorem ok76:Ok Try.prog 76 [.agg g.cells] H (.ret g.walked) H:=by
 refine ok_fn hm Try.func76 c76 (by simp[Gm.cells]) fun hcl => ?_
 simp -implicitDefEqProofs[i76,r76,Gm.cells]
 have hR:g.rng=(((((g.pl<1∨4<g.pl)∨(g.ns.length:Int)<1)∨2000<(g.ns.length:Int))∨200<(g.is.length:Int))):=rfl
 split
 · rename_i hc
   refine cv_fz 2 hcl rfl ?_
   simp[Gm.walked,Gm.err0,hR,hc]
 · rename_i hc
   refine⟨rfl,?_⟩
   have g1:1≤g.pl:=by omega
   have g4:g.pl≤4:=by omega
   have gi:g.is.length≤200:=by omega
   have gn:g.ns.length≤2000:=by omega
   have gn1:1≤g.ns.length:=by omega
   refine loop38_0 (g:=g) g1 g4 gi gn (fun hE env M e2 e3 => ?_) (fun hE hE' env M e1 e4 => ?_) g.ns.length 0 _ [] (by omega) (by omega) (by simp) (by simp) (by simp) (by simp) (by simp) (by simp)
   · simp -implicitDefEqProofs[e2,e3]
     refine cv_fz 2 hcl rfl ?_
     simp[Gm.walked,Gm.err0,hR,hc,hE]
   · have hG:Gd g:=⟨g1,g4,gn1,gn,gi,hE⟩
     simp -implicitDefEqProofs[e1,e4,gbox,wbox]
     refine⟨by omega,by omega,by omega,by omega,by omega,by omega,?_⟩
     have ez:(⟨List.replicate g.ns.length (i64 0),3,1,true⟩:AO)=rr (List.replicate g.ns.length 0):=by simp[rr,ints]
     rw[ez]
     generalize hHx:H++(⟨[i64 g.pl,SV.slc (nds g.ns) g.ns.length,SV.slc (infs g.is) g.is.length],25,0,true⟩:AO)::(⟨[i64 g.pl,SV.slc (nds g.ns) g.ns.length,SV.slc (infs g.is) g.is.length,
      SV.own (H.length+(M.length+1+1)) 0 g.ns.length 1 1,SV.own (H.length+(M.length+1+1+1)) 0 g.ns.length 1 1,SV.own (H.length+(M.length+1+1+1+1)) 0 g.ns.length 1 1],134,0,true⟩:AO) ::
       (M++[rr (List.replicate g.ns.length 0),rr (List.replicate g.ns.length 0),rr (List.replicate g.ns.length 0)])=Hx
     have hup:∀ s,upd Hx (H.length+(M.length+1+1)) (H.length+(M.length+1+1+1)) (H.length+(M.length+1+1+1+1)) s =
      H++gbox g::wbox g (.own (H.length+(M.length+1+1)) 0 g.ns.length 1 1) (.own (H.length+(M.length+1+1+1)) 0 g.ns.length 1 1) (.own (H.length+(M.length+1+1+1+1)) 0 g.ns.length 1 1)::(M++[rr s.P,rr s.D,rr s.L]) :=
      fun s=>by rw[←hHx]; exact upd_rows
     have h0:upd Hx (H.length+(M.length+1+1)) (H.length+(M.length+1+1+1)) (H.length+(M.length+1+1+1+1)) g.w0=Hx:=by rw[hup,<- hHx]; rfl
     have hWh:Wh Hx (H.length+1) g (H.length+(M.length+1+1)) (H.length+(M.length+1+1+1)) (H.length+(M.length+1+1+1+1)):=by
      refine⟨⟨by rw[←hHx]; simp,by rw[←hHx]; simp⟩,⟨by omega,by omega,by rw[←hHx]; simp⟩,by omega,by omega,by omega,gn,fun x hx => ?_⟩
      have:=nx_of (hE x hx); omega
     have ok:=ok89 hWh (g.ns.length+1) (-1) 0 0 g.w0 (by omega) (by omega) (by omega) (by omega) ⟨by simp[Gm.w0],by simp[Gm.w0],by simp[Gm.w0]⟩
     have hwok:=walkS_ok (ns:=g.ns) (g.ns.length+1) (-1) 0 0 g.w0 ⟨by simp[Gm.w0],by simp[Gm.w0],by simp[Gm.w0]⟩
     rw[h0]at ok
     refine call_go ok ?_
     have hW:walkS g.ns (g.ns.length+1) (-1) 0 0 g.w0=g.wk:=rfl
     rw[hW]at hwok ⊢
     have hwp:g.walked=if(if g.wk.1≠some g.ns.length then(9:Int)else if 40<maxL g.wk.2.D then 5 else 0)≠0 then .tup [.val (.pointer none),i64 (if g.wk.1≠some g.ns.length then(9:Int)else if 40<maxL g.wk.2.D then 5 else 0)]else .tup [g.wp,i64 g.setsE]:=by
      unfold Gm.walked Gm.err0
      rw[if_neg (show ¬ g.rng by rw[hR]; exact hc),if_neg (show ¬ nodesE g g.ns≠0 by simpa using hE')]
     cases hk:g.wk.1 with
     | none =>
      rw[hk]at hwp
      simp -implicitDefEqProofs[resW]
      rw[hup]
      refine cv_fz 2 hcl rfl ?_
      rw[hwp]; simp
     | some r =>
      rw[hk]at hwp hwok
      have hr:=hwok.2 r rfl
      by_cases hrn:r=g.ns.length
      · subst hrn
        simp -implicitDefEqProofs[resW,nds,e1,e4,hWh.cells]
        have hI:IsI (upd Hx (H.length+(M.length+1+1)) (H.length+(M.length+1+1+1)) (H.length+(M.length+1+1+1+1)) g.wk.2) (.own (H.length+(M.length+1+1+1)) 0 g.ns.length 1 1) g.wk.2.D:=by
         rw[hup]
         have:=IsI.own0 H (gbox g::wbox g (.own (H.length+(M.length+1+1)) 0 g.ns.length 1 1) (.own (H.length+(M.length+1+1+1)) 0 g.ns.length 1 1) (.own (H.length+(M.length+1+1+1+1)) 0 g.ns.length 1 1)::(M++[rr g.wk.2.P,rr g.wk.2.D,rr g.wk.2.L])) (M.length+1+1+1) 1 g.wk.2.D [] 3 (by simp[rr])
         rwa [hwok.1.2.1]at this
        refine call_go (ok90 hI (by rw[hwok.1.2.1]; omega) (by rw[hwok.1.2.1]; omega)) ?_
        by_cases hm40:40<maxL g.wk.2.D
        · simp -implicitDefEqProofs[hm40]
          rw[hup]
          refine cv_fz 2 hcl rfl ?_
          rw[hwp]; simp[hm40]
        · simp -implicitDefEqProofs[hm40,e1,e4]
          have hWk:Wk (upd Hx (H.length+(M.length+1+1)) (H.length+(M.length+1+1+1)) (H.length+(M.length+1+1+1+1)) g.wk.2) (H.length+1) g _ _ _:=⟨hWh.cells _,by rw[upd_len]; exact hWh.w.lt⟩
          refine call_go (ok91 hWk hG) ?_
          simp -implicitDefEqProofs
          rw[hup]
          refine cv_fz 4 hcl rfl ?_
          rw[hwp]
          have k1:=hwok.1.1
          have k2:=hwok.1.2.1
          have k3:=hwok.1.2.2
          simp[hm40,gbox,wbox,rr,Gm.wp,sl,k1,k2,k3]
      · simp -implicitDefEqProofs[resW,show ¬ g.ns.length-r=0 by omega,show 0<g.ns.length-r by omega]
        rw[hup]
        refine cv_fz 2 hcl rfl ?_
        rw[hwp]; simp[hrn]
end
end Go.Proofs.Ytogjmpkehjfecaa.Rc
namespace Go.Proofs.Ytogjmpkehjfecaa.Rc
open Go.Ab
def kidsR (w:Nat->Int->Option Nat×Int):List Int->Nat->Int->Option Nat×Int
 | [],r,m=>(some r,m)
 | c::cs,r,m=>if c=r then(match w r m with | (none,m)=>(none,m) | (some r,m)=>kidsR w cs r m)else(none,m)
def walkR (ns:List Nd):Nat->Int->Nat->Int->Option Nat×Int
 | 0,_,_,m=>(none,m)
 | f+1,dep,k,m =>
  match ns[k]? with
  | none=>(none,m)
  | some x=>kidsR (walkR ns f (dep+1)) x.nx (k+1) (max m dep)
section
variable {H L:List AO} {g:Gm} {q j:Nat} {m m':Int}
theorem nds_get {l:List Nd} {k t:Nat} (h:k<l.length) (ht:t<6):(nds l)[k*6+t]? = l[k].cells[t]? := by
 rw[←List.getElem?_drop,Nat.mul_comm,nds_drop' h,List.getElem?_append_left (by simpa[Nd.cells]using ht)]
end
end Go.Proofs.Ytogjmpkehjfecaa.Rc
namespace Go.Proofs.Ytogjmpkehjfecaa.Rc
open Go.Ab
def slN (l:List Int):SV:=if l=[]then nl else sl l
structure Fam (b:Nat) (L:List AO) (A:List (List Int)) (cs:List SV):Prop where
 len:cs.length=A.length
 at':∀ s (h:s<A.length),(A[s]=[]∧cs[s]? = some nl)∨(A[s]≠[]∧∃ p,cs[s]? = some (.own (b+p) 0 A[s].length 1 A[s].length)∧L[p]? = some ⟨ints A[s],3,A[s].length,true⟩)
 inj:∀ (s t p m n v w:Nat),s≠t->cs[s]? = some (.own (b+p) 0 m 1 v)->cs[t]? = some (.own (b+p) 0 n 1 w)->False
section
variable {b:Nat} {L L':List AO} {A:List (List Int)} {cs:List SV} {s:Nat} {i:Int}
theorem Fam.zero (b:Nat) (L:List AO) (n:Nat):Fam b L (List.replicate n []) (List.replicate n nl):=by
 refine⟨by simp,fun s h=>.inl ?_,fun s t p m n v w hst h1 h2 => ?_⟩
 · simp at h; simp[h]
 · rw[List.getElem?_replicate]at h1
   split at h1<;>cases h1
theorem Fam.mono (h:Fam b L A cs) (L':List AO):Fam b (L++L') A cs:=by
 refine⟨h.len,fun s hs => ?_,h.inj⟩
 rcases h.at' s hs with h1 | ⟨h1,p,h2,h3⟩
 · exact .inl h1
 · exact .inr ⟨h1,p,h2,by rw[List.getElem?_append_left (getElem?_lt h3)]; exact h3⟩
theorem Fam.new (h:Fam b L A cs) (hs:s<A.length) (he:A[s]=[]):Fam b (L++[⟨ints [i],3,1,true⟩]) (A.set s [i]) (cs.set s (.own (b+L.length) 0 1 1 1)):=by
 have hl:=h.len
 have hnew:∀ t (n w:Nat),t<A.length->cs[t]? = some (.own (b+L.length) 0 n 1 w)->False:=by
  intro t n w ht hc
  rcases h.at' t ht with ⟨_,h1⟩ | ⟨_,p,h2,h3⟩
  · rw[h1]at hc; cases hc
  · rw[h2]at hc
    have hp:=getElem?_lt h3
    simp only[Option.some.injEq,SV.own.injEq]at hc
    omega
 refine⟨by simp[hl],fun t ht => ?_,fun t u p m n v w htu h1 h2 => ?_⟩
 · by_cases e:s=t
   · subst e
     refine .inr ⟨by simp,L.length,?_,by simp⟩
     rw[List.getElem?_set_self (by omega)]; simp
   · have ht':t<A.length:=by simpa using ht
     rw[List.getElem?_set_ne e]
     simp only[List.getElem_set_ne e]
     rcases h.at' t ht' with h1 | ⟨h1,p,h2,h3⟩
     · exact .inl h1
     · exact .inr ⟨h1,p,h2,by rw[List.getElem?_append_left (getElem?_lt h3)]; exact h3⟩
 · by_cases e:s=t
   · subst e
     rw[List.getElem?_set_self (by omega)]at h1
     rw[List.getElem?_set_ne htu]at h2
     have hu:u<A.length:=by have:=getElem?_lt h2; omega
     simp only[Option.some.injEq,SV.own.injEq]at h1
     have:p=L.length:=by omega
     subst this
     exact hnew u _ _ hu h2
   · rw[List.getElem?_set_ne e]at h1
     by_cases e':s=u
     · subst e'
       rw[List.getElem?_set_self (by omega)]at h2
       have ht:t<A.length:=by have:=getElem?_lt h1; omega
       simp only[Option.some.injEq,SV.own.injEq]at h2
       have:p=L.length:=by omega
       subst this
       exact hnew t _ _ ht h1
     · rw[List.getElem?_set_ne e']at h2
       exact h.inj t u p m n v w htu h1 h2
theorem Fam.grow (h:Fam b L A cs) (hs:s<A.length) {p:Nat} (hc:cs[s]? = some (.own (b+p) 0 A[s].length 1 A[s].length)) (hp:L[p]? = some ⟨ints A[s],3,A[s].length,true⟩) :
 Fam b (L.set p ⟨ints (A[s]++[i]),3,A[s].length+1,true⟩) (A.set s (A[s]++[i])) (cs.set s (.own (b+p) 0 (A[s].length+1) 1 (A[s].length+1))):=by
 have hl:=h.len
 have hpl:=getElem?_lt hp
 refine⟨by simp[hl],fun t ht => ?_,fun t u q m n v w htu h1 h2 => ?_⟩
 · by_cases e:s=t
   · subst e
     refine .inr ⟨by simp,p,?_,?_⟩
     · rw[List.getElem?_set_self (by omega)]; simp
     · rw[List.getElem?_set_self hpl]; simp
   · have ht':t<A.length:=by simpa using ht
     rw[List.getElem?_set_ne e]
     simp only[List.getElem_set_ne e]
     rcases h.at' t ht' with h1 | ⟨h1,q,h2,h3⟩
     · exact .inl h1
     · refine .inr ⟨h1,q,h2,?_⟩
       rw[List.getElem?_set_ne (fun hqp => ?_)]; exact h3
       subst hqp
       exact h.inj s t p _ _ _ _ e hc h2
 · by_cases e:s=t
   · subst e
     rw[List.getElem?_set_self (by omega)]at h1
     rw[List.getElem?_set_ne htu]at h2
     simp only[Option.some.injEq,SV.own.injEq]at h1
     have:q=p:=by omega
     subst this
     exact h.inj s u q _ _ _ _ htu hc h2
   · rw[List.getElem?_set_ne e]at h1
     by_cases e':s=u
     · subst e'
       rw[List.getElem?_set_self (by omega)]at h2
       simp only[Option.some.injEq,SV.own.injEq]at h2
       have:q=p:=by omega
       subst this
       exact h.inj s t q _ _ _ _ (fun h=>e h) hc h1
     · rw[List.getElem?_set_ne e']at h2
       exact h.inj t u q m n v w htu h1 h2
theorem Fam.fz (h:Fam b L A cs) {n k d:Nat} {F:List AO} (hb:b=n+k) (hF:∀ p,F[k+p]? = L[p]?):cs.map (SV.fz n [] F (d+2))=A.map slN:=by
 apply List.ext_getElem?
 intro s
 rw[List.getElem?_map,List.getElem?_map]
 by_cases hs:s<A.length
 · rw[List.getElem?_eq_getElem hs]
   rcases h.at' s hs with ⟨h1,h2⟩ | ⟨h1,p,h2,h3⟩
   · rw[h2]; simp[slN,h1,nl]
   · rw[h2]
     have e:b+p=n+(k+p):=by omega
     simp only[Option.map_some,slN,if_neg h1,sl,e,fz_own,hF,h3,placeOf]
     simp
 · have h1:=h.len
   rw[List.getElem?_eq_none (by omega),List.getElem?_eq_none (by omega)]
   rfl
end
def setsA:List Nd->Nat->List (List Int)->List (List Int)
 | [],_,A=>A
 | x::r,o,A=>setsA r (o+1) (if x.k=2 then A.set x.i.toNat (A.getD x.i.toNat []++[(o:Int)])else A)
def Gm.sets (g:Gm):List (List Int):=setsA g.ns 0 (List.replicate g.is.length [])
section
variable {H:List AO} {g:Gm}
theorem setsA_len:∀ (l:List Nd) (o:Nat) (A:List (List Int)),(setsA l o A).length=A.length
 | [],o,A=>rfl
 | x::r,o,A=>by rw[setsA,setsA_len r]; split<;>simp
theorem sets_len:g.sets.length=g.is.length:=by simp[Gm.sets,setsA_len]
end
end Go.Proofs.Ytogjmpkehjfecaa.Rc
namespace Go.Proofs.Ytogjmpkehjfecaa.Rc
open Go.Ab
def Gm.wr (g:Gm):Option Nat×Int:=walkR g.ns (g.ns.length+1) 0 0 0
def SrtS (A:List (List Int)):Prop:=∀ k,k<A.length-1->¬ (A.getD (k+1) []).getD 0 0<(A.getD k []).getD 0 0
instance (A:List (List Int)):Decidable (SrtS A):=by unfold SrtS; infer_instance
def Gm.setsR (g:Gm):Int:=if ∃ x∈g.ns,x.tyBad g then 10 else if []∈g.sets then 18 else if SrtS g.sets then 0 else 9
def Gm.formR (g:Gm):Int:=if g.rng then 2 else if nodesE g g.ns≠0 then nodesE g g.ns else if g.wr.1≠some g.ns.length then 9 else if 40<g.wr.2 then 5 else g.setsR
theorem infs_g0 {l:List (Int×Int)} {k:Nat} (h:k<l.length):(infs l)[k*2]? = some (i64 l[k].1):=by
 rw[show k*2=k*2+0 by omega,<- List.getElem?_drop,infs_at h]; rfl
section
variable {H:List AO} {g:Gm}
theorem slN_ne {l:List Int} (h:l≠[]):slN l=.slc (ints l) l.length:=by unfold slN; rw[if_neg h]; rfl
theorem slN_at {A:List (List Int)} {k:Nat} (h:k<A.length):(A.map slN).drop k=slN A[k]::(A.drop (k+1)).map slN:=by
 rw[List.drop_eq_getElem_cons (by simpa using h)]; simp
end
end Go.Proofs.Ytogjmpkehjfecaa.Rc
namespace Go.Proofs.Ytogjmpkehjfecaa.Rc
open Go.Ab
theorem maxL_le {l:List Int} (h:0<l.length) {x:Int}:maxL l≤x↔∀ i,i<l.length->l.getD i 0≤x:=by
 have hf:∀ (r:List Int) (a:Int),r.foldl max a≤x↔a≤x∧∀ y∈r,y≤x:=by
  intro r
  induction r with
  | nil=>intro a; simp
  | cons y r ih =>
   intro a
   rw[List.foldl_cons,ih]
   simp only[List.mem_cons,forall_eq_or_imp]
   constructor
   · rintro⟨h1,h2⟩; exact⟨by omega,by omega,h2⟩
   · rintro⟨h1,h2,h3⟩; exact⟨by omega,h3⟩
 cases l with
 | nil=>simp at h
 | cons y r =>
  rw[maxL,List.tail_cons,List.headD_cons,hf]
  constructor
  · rintro⟨h1,h2⟩ i hi
    cases i with
    | zero=>simpa using h1
    | succ i =>
     have hi':i<r.length:=by simpa using hi
     have:=h2 _ (List.getElem_mem hi')
     simpa[List.getD_eq_getElem?_getD,hi']using this
  · intro h1
    refine⟨by simpa using h1 0 (by simp),fun y hy => ?_⟩
    obtain⟨k,hk,rfl⟩:=List.getElem_of_mem hy
    have:=h1 (k+1) (by simpa using hk)
    simpa[List.getD_eq_getElem?_getD,hk]using this
def MxR (D:List Int) (a b:Nat) (m m':Int):Prop:=∀ x,m'≤x↔(m≤x∧∀ i,a≤i->i<b->D.getD i 0≤x)
theorem kids_rel {n:Nat} {w:Nat->W3->Option Nat×W3} {v:Nat->Int->Option Nat×Int} (hok:∀ r s,s.ok n->(w r s).2.ok n∧∀ r',(w r s).1=some r'->r<r'∧r'≤n)
 (h:∀ r s m,s.ok n->(w r s).1=(v r m).1∧∀ r',(w r s).1=some r'->(∀ i,i<r->(w r s).2.D.getD i 0=s.D.getD i 0)∧MxR (w r s).2.D r r' m (v r m).2) :
 ∀ (l:List Int) (r:Nat) (s:W3) (m:Int),s.ok n->(kids w l r s).1=(kidsR v l r m).1∧∀ r',(kids w l r s).1=some r'->(∀ i,i<r->(kids w l r s).2.D.getD i 0=s.D.getD i 0)∧MxR (kids w l r s).2.D r r' m (kidsR v l r m).2
 | [],r,s,m,hs=>by
  refine⟨rfl,fun r' h'=>⟨fun _ _=>rfl,fun x => ?_⟩⟩
  simp only[kids,Option.some.injEq]at h'
  subst h'
  simp only[kidsR]
  exact⟨fun h=>⟨h,fun i h1 h2=>by omega⟩,fun h=>h.1⟩
 | c::cs,r,s,m,hs=>by
  unfold kids kidsR
  by_cases hc:c=r
  · rw[if_pos hc,if_pos hc]
    obtain⟨h1,h2⟩:=h r s m hs
    have h3:=hok r s hs
    cases hw:w r s with
    | mk o s1 =>
     cases hv:v r m with
     | mk o' m1 =>
      rw[hw,hv]at h1
      rw[hw]at h2 h3
      rw[hv]at h2
      simp only at h1
      subst h1
      cases o with
      | none=>exact⟨rfl,fun r' h'=>by simp at h'⟩
      | some r1 =>
       obtain⟨h4,h5⟩:=h2 r1 rfl
       have h6:=h3.2 r1 rfl
       obtain⟨h7,h8⟩:=kids_rel hok h cs r1 s1 m1 h3.1
       refine⟨h7,fun r' h' => ?_⟩
       obtain⟨h9,h10⟩:=h8 r' h'
       refine⟨fun i hi => ?_,fun x => ?_⟩
       · simp only
         rw[h9 i (by omega)]; exact h4 i hi
       · simp only
         rw[h10 x,h5 x]
         constructor
         · rintro⟨⟨k1,k2⟩,k3⟩
           refine⟨k1,fun i h1 h2 => ?_⟩
           by_cases hi:i<r1
           · rw[h9 i hi]; exact k2 i h1 hi
           · exact k3 i (by omega) h2
         · rintro⟨k1,k2⟩
           have hr':r1≤r':=(kids_ok (m:=0) (fun r s _ hs=>hok r s hs) cs r1 s1 (by omega) h6.2 h3.1).2 r' h' |>.1
           refine⟨⟨k1,fun i h1 h2 => ?_⟩,fun i h1 h2=>k2 i (by omega) h2⟩
           have:=k2 i h1 (by omega)
           rwa [h9 i h2]at this
  · rw[if_neg hc,if_neg hc]
    exact⟨rfl,fun r' h'=>by simp at h'⟩
theorem getD_set_ne {l:List Int} {i k:Nat} {v:Int} (h:i≠k):(l.set k v).getD i 0=l.getD i 0:=by
 rw[List.getD_eq_getElem?_getD,List.getD_eq_getElem?_getD,List.getElem?_set_ne (fun e=>h e.symm)]
theorem getD_set_eq {l:List Int} {k:Nat} {v:Int} (h:k<l.length):(l.set k v).getD k 0=v:=by
 rw[List.getD_eq_getElem?_getD,List.getElem?_set_self h]; rfl
theorem walk_rel {ns:List Nd}:∀ (f:Nat) (par dep:Int) (k:Nat) (s:W3) (m:Int),s.ok ns.length →
 (walkS ns f par dep k s).1=(walkR ns f dep k m).1∧∀ r,(walkS ns f par dep k s).1=some r →
  ((∀ i,i<k->(walkS ns f par dep k s).2.D.getD i 0=s.D.getD i 0)∧MxR (walkS ns f par dep k s).2.D k r m (walkR ns f dep k m).2)∧(walkS ns f par dep k s).2.D.getD k 0=dep
 | 0,par,dep,k,s,m,hs=>⟨rfl,fun r h=>by simp[walkS]at h⟩
 | f+1,par,dep,k,s,m,hs=>by
  unfold walkS walkR
  cases hk:ns[k]? with
  | none=>exact⟨rfl,fun r h=>by simp at h⟩
  | some x =>
   have hlt:=getElem?_lt hk
   have hs':W3.ok ⟨s.P.set k par,s.D.set k dep,s.L⟩ ns.length:=⟨by simpa using hs.1,by simpa using hs.2.1,hs.2.2⟩
   have hr:=kids_rel (n:=ns.length) (w:=walkS ns f k (dep+1)) (v:=walkR ns f (dep+1)) (fun r s hs=>walkS_ok f k (dep+1) r s hs)
    (fun r s m hs=>⟨(walk_rel f k (dep+1) r s m hs).1,fun r' h=>((walk_rel f k (dep+1) r s m hs).2 r' h).1⟩) x.nx (k+1) ⟨s.P.set k par,s.D.set k dep,s.L⟩ (max m dep) hs'
   have hk2:=kids_ok (n:=ns.length) (w:=walkS ns f k (dep+1)) (m:=0) (fun r s _ hs=>walkS_ok f k (dep+1) r s hs) x.nx (k+1) ⟨s.P.set k par,s.D.set k dep,s.L⟩ (by omega) (by omega) hs'
   simp only
   cases hh:kids (walkS ns f k (dep+1)) x.nx (k+1) ⟨s.P.set k par,s.D.set k dep,s.L⟩with
   | mk o s1 =>
    cases hv:kidsR (walkR ns f (dep+1)) x.nx (k+1) (max m dep)with
    | mk o' m1 =>
     rw[hh,hv]at hr
     rw[hh]at hk2
     obtain⟨h1,h2⟩:=hr
     simp only at h1
     subst h1
     cases o with
     | none=>exact⟨rfl,fun r' h'=>by simp at h'⟩
     | some r1 =>
      obtain⟨h3,h4⟩:=h2 r1 rfl
      have hr1:=hk2.2 r1 rfl
      have hD:s.D.length=ns.length:=hs.2.1
      have hk0:s1.D.getD k 0=dep:=by rw[h3 k (by omega)]; exact getD_set_eq (by omega)
      refine⟨rfl,fun r h' => ?_⟩
      simp only[Option.some.injEq]at h'
      subst h'
      refine⟨⟨fun i hi => ?_,fun x => ?_⟩,hk0⟩
      · show s1.D.getD i 0=_
        rw[h3 i (by omega)]; exact getD_set_ne (by omega)
      · show m1≤x↔_
        rw[h4 x]
        constructor
        · rintro⟨k1,k2⟩
          refine⟨by omega,fun i h1 h2 => ?_⟩
          by_cases e:i=k
          · subst e; show s1.D.getD i 0≤x; rw[hk0]; omega
          · exact k2 i (by omega) h2
        · rintro⟨k1,k2⟩
          have:=k2 k (by omega) (by omega)
          have this:s1.D.getD k 0≤x:=this
          rw[hk0]at this
          exact⟨by omega,fun i h1 h2=>k2 i (by omega) h2⟩
def occ (s:Nat):List Nd->Nat->List Int
 | [],_=>[]
 | x::r,o=>if x.k=2∧x.i.toNat=s then(o:Int)::occ s r (o+1)else occ s r (o+1)
theorem occ_ge {s:Nat}:∀ {l:List Nd} {o:Nat} {a:Int},a∈occ s l o->0≤a
 | [],o,a,h=>by simp[occ]at h
 | x::r,o,a,h=>by
  unfold occ at h
  split at h
  · rcases List.mem_cons.1 h with rfl | h
    · omega
    · exact occ_ge h
  · exact occ_ge h
theorem setsA_at {s:Nat}:∀ (l:List Nd) (o:Nat) (A:List (List Int)),s<A.length->(setsA l o A).getD s []=A.getD s []++occ s l o
 | [],o,A,h=>by simp[setsA,occ]
 | x::r,o,A,h=>by
  unfold setsA occ
  by_cases hk:x.k=2
  · rw[if_pos hk,setsA_at r (o+1) _ (by simpa using h)]
    by_cases e:x.i.toNat=s
    · rw[if_pos ⟨hk,e⟩,e]
      simp[List.getD_eq_getElem?_getD,h]
    · rw[if_neg (fun h=>e h.2)]
      simp[List.getD_eq_getElem?_getD,List.getElem?_set_ne e]
  · rw[if_neg hk,if_neg (fun h=>hk h.1),setsA_at r (o+1) A h]
theorem fst1_at {s:Nat} {z:List Int} (hz:s<z.length):∀ (l:List Nd) (o:Nat),(fst1 l o z).getD s 0=(match occ s l o with | []=>z.getD s 0 | a::_=>a+1)
 | [],o=>by simp[fst1,occ]
 | x::r,o=>by
  unfold fst1 occ
  by_cases hk:x.k=2
  · rw[if_pos hk]
    by_cases e:x.i.toNat=s
    · rw[if_pos ⟨hk,e⟩,e,getD_set_eq (by simpa using hz)]
    · rw[if_neg (fun h=>e h.2),getD_set_ne (fun h=>e h.symm)]
      exact fst1_at hz r (o+1)
  · rw[if_neg hk,if_neg (fun h=>hk h.1)]
    exact fst1_at hz r (o+1)
section
variable {g:Gm}
theorem sets_at {s:Nat} (hs:s<g.is.length):g.sets.getD s []=occ s g.ns 0:=by
 rw[Gm.sets,setsA_at _ _ _ (by simpa using hs)]
 simp[List.getD_eq_getElem?_getD,hs]
theorem firsts_at {s:Nat} (hs:s<g.is.length):g.firsts.getD s 0=(match g.sets.getD s []with | []=>0 | a::_=>a+1):=by
 rw[Gm.firsts,fst1_at (by simpa using hs),sets_at hs]
 simp[List.getD_eq_getElem?_getD,hs]
theorem none_iff:(0:Int)∈g.firsts↔[]∈g.sets:=by
 have hl:g.sets.length=g.is.length:=sets_len
 have hf:g.firsts.length=g.is.length:=by simp[Gm.firsts]
 constructor
 · intro h
   obtain⟨s,hs,e⟩:=List.getElem_of_mem h
   have:=firsts_at (g:=g) (s:=s) (by omega)
   rw[List.getD_eq_getElem?_getD,List.getElem?_eq_getElem hs,Option.getD_some,e]at this
   have hs':s<g.sets.length:=by omega
   have h2:g.sets.getD s []=g.sets[s]:=by rw[List.getD_eq_getElem?_getD,List.getElem?_eq_getElem hs']; rfl
   cases hc:g.sets.getD s []with
   | nil=>rw[←hc,h2]; exact List.getElem_mem hs'
   | cons a r =>
    rw[hc]at this
    have h3:0≤a:=occ_ge (s:=s) (l:=g.ns) (o:=0) (by rw[←sets_at (by omega),hc]; simp)
    simp only at this; omega
 · intro h
   obtain⟨s,hs,e⟩:=List.getElem_of_mem h
   have:=firsts_at (g:=g) (s:=s) (by omega)
   rw[List.getD_eq_getElem?_getD (l:=g.sets),List.getElem?_eq_getElem hs,Option.getD_some,e]at this
   have hs':s<g.firsts.length:=by omega
   rw[List.getD_eq_getElem?_getD,List.getElem?_eq_getElem hs',Option.getD_some]at this
   simp only at this
   rw[←this]; exact List.getElem_mem hs'
theorem srt_same (h:¬ []∈g.sets):Srt g.firsts↔SrtS g.sets:=by
 have hl:g.sets.length=g.is.length:=sets_len
 have hf:g.firsts.length=g.is.length:=by simp[Gm.firsts]
 have hv:∀ s,s<g.is.length->g.firsts.getD s 0=(g.sets.getD s []).getD 0 0+1:=by
  intro s hs
  rw[firsts_at hs]
  cases hc:g.sets.getD s []with
  | nil =>
   exfalso; apply h
   have hs':s<g.sets.length:=by omega
   rw[List.getD_eq_getElem?_getD,List.getElem?_eq_getElem hs',Option.getD_some]at hc
   rw[←hc]; exact List.getElem_mem hs'
  | cons a r=>simp
 unfold Srt SrtS
 rw[hf,hl]
 constructor
 · intro h1 k hk
   have:=h1 k hk
   rw[hv _ (by omega),hv _ (by omega)]at this
   omega
 · intro h1 k hk
   have:=h1 k hk
   rw[hv _ (by omega),hv _ (by omega)]
   omega
theorem setsE_eq:g.setsE=g.setsR:=by
 unfold Gm.setsE Gm.setsR
 by_cases hb:∃ x∈g.ns,x.tyBad g
 · rw[if_pos hb,if_pos hb]
 · rw[if_neg hb,if_neg hb]
   by_cases h0:[]∈g.sets
   · rw[if_pos h0,if_pos (none_iff.2 h0)]
   · rw[if_neg h0,if_neg (fun h=>h0 (none_iff.1 h))]
     by_cases hs:SrtS g.sets
     · rw[if_pos hs,if_pos ((srt_same h0).2 hs)]
     · rw[if_neg hs,if_neg (fun h=>hs ((srt_same h0).1 h))]
def Gm.formE (g:Gm):Int:=if g.err0≠0 then g.err0 else g.setsE
theorem w0_ok:g.w0.ok g.ns.length:=⟨by simp[Gm.w0],by simp[Gm.w0],by simp[Gm.w0]⟩
theorem wk_eq:g.wk.1=g.wr.1:=(walk_rel (ns:=g.ns) (g.ns.length+1) (-1) 0 0 g.w0 0 w0_ok).1
theorem wk_max (h1:1≤g.ns.length) (h:g.wk.1=some g.ns.length):maxL g.wk.2.D=g.wr.2:=by
 have hr:=(walk_rel (ns:=g.ns) (g.ns.length+1) (-1) 0 0 g.w0 0 w0_ok).2 g.ns.length h
 have hok:=(walkS_ok (ns:=g.ns) (g.ns.length+1) (-1) 0 0 g.w0 w0_ok).1
 have hD:g.wk.2.D.length=g.ns.length:=hok.2.1
 have hx:∀ x,maxL g.wk.2.D≤x↔g.wr.2≤x:=by
  intro x
  rw[maxL_le (by omega)]
  have:=hr.1.2 x
  have h0:g.wk.2.D.getD 0 0=0:=hr.2
  show _↔(walkR g.ns (g.ns.length+1) 0 0 0).2≤x
  rw[this,hD]
  constructor
  · intro k
    have:=k 0 (by omega)
    rw[h0]at this
    exact⟨this,fun i _ hi=>k i hi⟩
  · rintro⟨_,k⟩ i hi
    exact k i (by omega) hi
 have:=(hx (maxL g.wk.2.D)).1 (Int.le_refl _)
 have:=(hx g.wr.2).2 (Int.le_refl _)
 omega
theorem form_eq:g.formE=g.formR:=by
 have hR:g.rng=(((((g.pl<1∨4<g.pl)∨(g.ns.length:Int)<1)∨2000<(g.ns.length:Int))∨200<(g.is.length:Int))):=rfl
 unfold Gm.formE Gm.err0 Gm.formR
 by_cases hr:g.rng
 · simp[hr]
 · rw[if_neg hr,if_neg hr]
   by_cases hn:nodesE g g.ns=0
   · have hn':¬ nodesE g g.ns≠0:=by simpa using hn
     rw[if_neg hn',if_neg hn',wk_eq]
     by_cases hk:g.wr.1=some g.ns.length
     · have hk':¬ g.wr.1≠some g.ns.length:=by simpa using hk
       rw[if_neg hk',if_neg hk']
       rw[hR]at hr
       rw[wk_max (by omega) (by rw[wk_eq]; exact hk),setsE_eq]
       by_cases hm:40<g.wr.2
       · simp[hm]
       · simp[hm]
     · simp[hk]
   · simp[hn]
end
end Go.Proofs.Ytogjmpkehjfecaa.Rc
namespace Go.Proofs.Ytogjmpkehjfecaa.Rc
open Go.Ab
def NO (b:Nat) (M:List AO):List Nd->List SV->Prop
 | [],cs=>cs=[]
 | x::r,cs=>∃ p1 p2 p3 rest,cs=i64 x.k::i64 x.p::i64 x.i::.own (b+p1) 0 x.nx.length 1 2::.own (b+p2) 0 x.ws.length 1 2::.own (b+p3) 0 x.ps.length 1 2::rest ∧
  M[p1]? = some (⟨ints x.nx,3,2,true⟩:AO)∧M[p2]? = some (⟨ints x.ws,3,2,true⟩:AO)∧M[p3]? = some (⟨ints x.ps,3,2,true⟩:AO)∧NO b M r rest
theorem NO.mono {b:Nat} {M M':List AO} (h:∀ (p:Nat) (l:List Int),M[p]? = some (⟨ints l,3,2,true⟩:AO)->M'[p]? = some (⟨ints l,3,2,true⟩:AO)):∀ {l:List Nd} {cs:List SV},NO b M l cs->NO b M' l cs
 | [],cs,hn=>hn
 | x::r,cs,⟨p1,p2,p3,rest,h0,h1,h2,h3,h4⟩=>⟨p1,p2,p3,rest,h0,h _ _ h1,h _ _ h2,h _ _ h3,NO.mono h h4⟩
theorem NO.snoc {b:Nat} {M:List AO} {x:Nd} {p1 p2 p3:Nat} (h1:M[p1]? = some ⟨ints x.nx,3,2,true⟩) (h2:M[p2]? = some ⟨ints x.ws,3,2,true⟩) (h3:M[p3]? = some ⟨ints x.ps,3,2,true⟩) :
 ∀ {l:List Nd} {cs:List SV},NO b M l cs->NO b M (l++[x]) (cs++[i64 x.k,i64 x.p,i64 x.i,.own (b+p1) 0 x.nx.length 1 2,.own (b+p2) 0 x.ws.length 1 2,.own (b+p3) 0 x.ps.length 1 2])
 | [],cs,hn=>by
  cases hn
  exact⟨p1,p2,p3,[],rfl,h1,h2,h3,rfl⟩
 | y::r,cs,⟨q1,q2,q3,rest,h0,k1,k2,k3,h4⟩=>by
  subst h0
  exact⟨q1,q2,q3,_,rfl,k1,k2,k3,NO.snoc h1 h2 h3 h4⟩
theorem NO.len {b:Nat} {M:List AO}:∀ {l:List Nd} {cs:List SV},NO b M l cs->cs.length=6*l.length
 | [],cs,hn=>by cases hn; rfl
 | x::r,cs,⟨p1,p2,p3,rest,h0,h1,h2,h3,h4⟩=>by subst h0; simp[NO.len h4]; omega
theorem NO.cell {b:Nat} {M:List AO}:∀ {l:List Nd} {cs:List SV},NO b M l cs->cellsOk cs
 | [],cs,hn=>by cases hn; intro s hs; simp at hs
 | x::r,cs,⟨p1,p2,p3,rest,h0,h1,h2,h3,h4⟩=>by
  subst h0
  intro s hs
  simp only[List.mem_cons]at hs
  rcases hs with rfl | rfl | rfl | rfl | rfl | rfl | hs
  · rfl
  · rfl
  · rfl
  · rfl
  · rfl
  · rfl
  · exact NO.cell h4 s hs
theorem NO.fz {b n k d:Nat} {M F:List AO} (hb:b=n+k) (hF:∀ p,F[k+p]? = M[p]?):∀ {l:List Nd} {cs:List SV},NO b M l cs->cs.map (SV.fz n [] F (d+2))=nds l
 | [],cs,hn=>by cases hn; rfl
 | x::r,cs,⟨p1,p2,p3,rest,h0,h1,h2,h3,h4⟩=>by
  subst h0
  have e:∀ p,b+p=n+(k+p):=fun p=>by omega
  simp only[List.map_cons,NO.fz hb hF h4,nds,Nd.cells,e,fz_own,hF,h1,h2,h3,placeOf,fz_i64]
  simp[sl]
section
variable {H:List AO} {g:Gm}
theorem len_addn (H:List AO) (k n:Nat):H.length+k+n=H.length+(k+n):=Nat.add_assoc ..
theorem infs_cell:∀ l:List (Int×Int),cellsOk (infs l)
 | []=>fun s hs=>by simp[infs]at hs
 | x::r=>fun s hs=>by
  simp only[infs,List.mem_cons]at hs
  rcases hs with rfl | rfl | hs
  · rfl
  · rfl
  · exact infs_cell r s hs
def nodesV (b i:Nat):SV:=if i=0 then nl else .own b 0 i 6 i
end
end Go.Proofs.Ytogjmpkehjfecaa.Rc
namespace Go.Ab.Shr
def insN (r:Nat->Int) (x:Nat):List Nat->List Nat
 | []=>[x]
 | y::l=>if r y<r x then x::y::l else y::insN r x l
def srtN (r:Nat->Int):Nat->List Nat
 | 0=>[]
 | n+1=>insN r n (srtN r n)
def Ord (r:Nat->Int):List Nat->Prop
 | []=>True
 | x::l=>(∀ y∈l,r y<r x∨(r y=r x∧x<y))∧Ord r l
theorem mem_ins {r:Nat->Int} {x y:Nat}:∀ {l:List Nat},y∈insN r x l↔y=x∨y∈l
 | []=>by simp[insN]
 | z::l=>by
  simp only[insN]
  split
  · simp
  · simp only[List.mem_cons,mem_ins (l:=l)]
    constructor
    · rintro(h | h | h); exact .inr (.inl h); exact .inl h; exact .inr (.inr h)
    · rintro(h | h | h); exact .inr (.inl h); exact .inl h; exact .inr (.inr h)
theorem len_ins {r:Nat->Int} {x:Nat}:∀ {l:List Nat},(insN r x l).length=l.length+1
 | []=>rfl
 | z::l=>by
  simp only[insN]
  split
  · rfl
  · simp only[List.length_cons,len_ins (l:=l)]
theorem ord_ins {r:Nat->Int} {x:Nat}:∀ {l:List Nat},Ord r l->(∀ y∈l,y<x)->Ord r (insN r x l)
 | [],_,_=>by simp[insN,Ord]
 | z::l,h,hx=>by
  simp only[insN]
  obtain⟨h1,h2⟩:=h
  split
  · rename_i hlt
    refine⟨fun y hy => ?_,h1,h2⟩
    rcases List.mem_cons.1 hy with rfl | hy
    · exact .inl hlt
    · rcases h1 y hy with h | h
      · exact .inl (by omega)
      · exact .inl (by omega)
  · rename_i hge
    refine⟨fun y hy => ?_,ord_ins h2 fun y hy=>hx y (List.mem_cons_of_mem _ hy)⟩
    rcases mem_ins.1 hy with rfl | hy
    · have:=hx z (by simp); omega
    · exact h1 y hy
theorem mem_srt {r:Nat->Int}:∀ {n x:Nat},x∈srtN r n↔x<n
 | 0,x=>by simp[srtN]
 | n+1,x=>by
  simp only[srtN,mem_ins,mem_srt (n:=n)]
  omega
theorem len_srt {r:Nat->Int}:∀ n:Nat,(srtN r n).length=n
 | 0=>rfl
 | n+1=>by simp only[srtN,len_ins,len_srt n]
theorem ord_srt {r:Nat->Int}:∀ n:Nat,Ord r (srtN r n)
 | 0=>trivial
 | n+1=>ord_ins (ord_srt n) fun y hy=>mem_srt.1 hy
def put (f:Nat->Int) (k:Nat) (v:Int):Nat->Int:=fun i=>if i=k then v else f i
def addL (f:Nat->Int):List Nat->Nat->Int
 | [],i=>f i
 | x::l,i=>addL (put f x (f x+1)) l i
end Go.Ab.Shr
namespace Go.Proofs.Ytogjmpkehjfecaa.Rc
open Go.Ab Go.Ab.Shr
def nats (l:List Nat):List SV:=ints (l.map fun(n:Nat)=>(n:Int))
@[simp] theorem nats_len (l:List Nat):(nats l).length=l.length:=by simp[nats]
def bkI (r:Nat->Int) (x:Nat):List Nat->List Nat->List Nat
 | [],B=>x::B
 | y::A,B=>if r y<r x then bkI r x A (y::B)else(y::A).reverse++x::B
theorem ins_all {r:Nat->Int} {x:Nat}:∀ (B:List Nat),(∀ y∈B,r y<r x)->insN r x B=x::B
 | [],_=>rfl
 | y::B,h=>by simp only[insN]; rw[if_pos (h y (by simp))]
theorem ins_app {r:Nat->Int} {x:Nat}:∀ (A B:List Nat),(∀ y∈A,¬ r y<r x)->insN r x (A++B)=A++insN r x B
 | [],B,_=>rfl
 | y::A,B,h=>by
  show insN r x (y::(A++B))=y::(A++insN r x B)
  simp only[insN]
  rw[if_neg (h y (by simp)),ins_app A B fun z hz=>h z (List.mem_cons_of_mem _ hz)]
theorem bk_ins {r:Nat->Int} {x:Nat}:∀ (A B:List Nat),(A.Pairwise fun a b=>r a≤r b)->(∀ y∈B,r y<r x)->bkI r x A B=insN r x (A.reverse++B)
 | [],B,_,hB=>by simp only[bkI,List.reverse_nil,List.nil_append,ins_all B hB]
 | y::A,B,hA,hB=>by
  rw[List.pairwise_cons]at hA
  simp only[bkI]
  split
  · rename_i h
    rw[bk_ins A (y::B) hA.2 fun z hz=>by
     rcases List.mem_cons.1 hz with rfl | hz
     · exact h
     · exact hB z hz]
    simp
  · rename_i h
    rw[ins_app _ _ fun z hz => ?_,ins_all B hB]
    rw[List.mem_reverse]at hz
    rcases List.mem_cons.1 hz with rfl | hz
    · exact h
    · have:=hA.1 z hz; omega
theorem ord_pw {r:Nat->Int}:∀ {l:List Nat},Ord r l->l.Pairwise fun a b=>r b≤r a
 | [],_=>.nil
 | x::l,h=>by
  rw[List.pairwise_cons]
  refine⟨fun y hy => ?_,ord_pw h.2⟩
  rcases h.1 y hy with h | h<;>omega
theorem bk_srt {r:Nat->Int} (n:Nat):bkI r n (srtN r n).reverse []=srtN r (n+1):=by
 rw[bk_ins _ _ (by rw[List.pairwise_reverse]; exact ord_pw (ord_srt n)) (by simp)]
 simp[srtN]
end Go.Proofs.Ytogjmpkehjfecaa.Rc
namespace Go.Proofs.Ytogjmpkehjfecaa.Rc
open Go.Ab Go.Ab.Shr
def oN (C:List SV) (l:List Nat) (D:List SV) (T:TypeId) (v:Nat):AO:=⟨C++(nats l++D),T,v,true⟩
section
variable {H:List AO} {k v:Nat} {C D:List SV} {T:TypeId} {vf:SV} {r:Nat->Int} {n:Nat}
def oS (H:List AO) (k:Nat) (C D:List SV) (T:TypeId) (v:Nat) (l:List Nat):List AO:=H.set k (oN C l D T v)
theorem oS_cells (hk:k<H.length) (l:List Nat):objCells (oS H k C D T v l) k v=C++(nats l++D):=by
 have:=objCells_hS hk [] (C++(nats l++D)) T v
 simpa[oS,oN]using this
theorem oS_put (hk:k<H.length) (l:List Nat) (f:AO->AO):Ab.setObj (oS H k C D T v l) k f=H.set k (f (oN C l D T v)):=by
 have:=setObj_hS hk [] (oN C l D T v) f
 simpa[oS]using this
theorem nats_set {l:List Nat} {j:Nat} (hj:j<l.length) (x:Nat):(C++(nats l++D)).take (C.length+j)++i64 (x:Int)::(C++(nats l++D)).drop (C.length+j+1)=C++(nats (l.set j x)++D):=by
 rw[List.take_append,List.drop_append]
 have e1:C.length+j-C.length=j:=by omega
 have e2:C.length+j+1-C.length=j+1:=by omega
 rw[e1,e2,List.take_of_length_le (by omega),List.drop_eq_nil_of_le (by omega),List.take_append,List.drop_append]
 have e3:j-(nats l).length=0:=by simp; omega
 have e4:j+1-(nats l).length=0:=by simp; omega
 rw[e3,e4]
 simp only[List.take_zero,List.append_nil,List.drop_zero,List.nil_append,List.append_assoc,List.append_cancel_left_eq]
 have:(nats l).take j++i64 (x:Int)::(nats l).drop (j+1)=nats (l.set j x):=by
  have:=ints_set (l:=l.map fun(n:Nat)=>(n:Int)) (k:=j) (by simpa using hj) (x:Int)
  simpa[nats,List.map_set]using this
 rw[←this]
 simp
theorem oS_at (hk:k<H.length) {l:List Nat} {j:Nat} (hj:j<l.length):(objCells (oS H k C D T v l) k v)[C.length+j]?.getD .any=i64 (l[j]:Nat):=by
 rw[oS_cells hk,List.getElem?_append_right (by omega),List.getElem?_append_left (by simp; omega)]
 simp[nats,ints,hj]
theorem oS_st (hk:k<H.length) {l:List Nat} {j:Nat} (hj:j<l.length) (x:Nat) :
 Ab.setObj (oS H k C D T v l) k (fun o=>{ cells:=List.take (C.length+j) o.cells++i64 (x:Int)::List.drop (C.length+j+1) o.cells,ty:=o.ty,ver:=o.ver,live:=o.live })=oS H k C D T v (l.set j x):=by
 rw[oS_put hk]
 simp only[oS,oN]
 rw[nats_set hj]
set_option maxRecDepth 10000 in
theorem tlp98_1 (hk:k<H.length) (hvf:vf.vd=true∧vf.ug=vf) (hn:n<4611686018427387904)
 (hcmp:∀ (l:List Nat) (a b:Nat),a<n->b<n->OkC Try.prog vf [i64 a,i64 b] (oS H k C D T v l) (.ret (i64 (r b-r a))) (oS H k C D T v l))
 {x b i:Nat} (hx:x<n) {R F:List Nat} {N:Nat} {K:XE->Env->List AO->Prop}
 (hexit:∀ env,env.get 0=.own k C.length n 1 v->env.get 1=i64 0->env.get 2=i64 b->env.get 3=vf->env.get 8=i64 i->K (.exit 2) env (oS H k C D T v (F++R))) :
 ∀ (A B:List Nat) (env:Env),(A.length+1+B.length+R.length=n)->(∀ y∈A,y<n)->bkI r x A B=F →
  env.get 0=.own k C.length n 1 v->env.get 1=i64 0->env.get 2=i64 b->env.get 3=vf->env.get 8=i64 i->env.get 9=i64 A.length →
  LI Try.prog N drawB l98_1 env (oS H k C D T v (A.reverse++x::B++R)) K:=by
 intro A
 induction A with
 | nil =>
  intro B env hl hA hF h0 h1 h2 h3 h8 h9
  refine li_go hm l98_1.eq_1 ?_
  subst hF
  have hc:=oS_cells (C:=C) (D:=D) (T:=T) (v:=v) hk (bkI r x [] B++R)
  simp only[List.length_nil]at h9
  simp -implicitDefEqProofs[h0,h1,h2,h3,h8,h9,hvf.1,hvf.2]
  exact hexit _ (by simp[h0]) (by simp[h1]) (by simp[h2]) (by simp[h3]) (by simp[h8])
 | cons y A ih =>
  intro B env hl hA hF h0 h1 h2 h3 h8 h9
  refine li_go hm l98_1.eq_1 ?_
  simp only[List.length_cons]at hl h9
  have hLl:(A.reverse++y::x::(B++R)).length=n:=by simp; omega
  have e1:(objCells (oS H k C D T v (A.reverse++y::x::(B++R))) k v)[C.length+(A.length+1)]?.getD .any=i64 (x:Int):=by rw[oS_at hk (by simp)]; simp
  have e2:(objCells (oS H k C D T v (A.reverse++y::x::(B++R))) k v)[C.length+A.length]?.getD .any=i64 (y:Int):=by rw[oS_at hk (by simp)]; simp
  have e3:(objCells (oS H k C D T v (A.reverse++y::x::(B++R))) k v).length=C.length+n+D.length:=by rw[oS_cells hk]; simp only[List.length_append,nats_len]; simp only[List.length_append]at hLl; omega
  have w1:IntKind.i64.wrap (A.length:Int)=A.length:=wrap_id (by omega) (by omega)
  have e4:=oS_st (C:=C) (D:=D) (T:=T) (v:=v) hk (l:=A.reverse++y::x::(B++R)) (j:=A.length+1) (by simp) y
  have e5:(A.reverse++y::x::(B++R)).set (A.length+1) y=A.reverse++y::y::(B++R):=by simp[List.set_append]
  have e6:=oS_st (C:=C) (D:=D) (T:=T) (v:=v) hk (l:=A.reverse++y::y::(B++R)) (j:=A.length) (by simp) x
  have e7:(A.reverse++y::y::(B++R)).set A.length x=A.reverse++x::y::(B++R):=by simp[List.set_append]
  have e8:(objCells (oS H k C D T v (A.reverse++y::y::(B++R))) k v).length=C.length+n+D.length:=by rw[oS_cells hk]; simp only[List.length_append,nats_len,List.length_cons]; simp only[List.length_append,List.length_cons]at hLl; omega
  rw[e5]at e4
  rw[e7]at e6
  simp -implicitDefEqProofs[h0,h1,h2,h3,h8,h9,hvf.1,hvf.2,e1,e2,e3,w1]
  refine⟨by omega,by omega,by omega,by omega,call_gd (hcmp _ x y hx (hA y (by simp))).toP fun out H' hP => ?_⟩
  obtain⟨rfl,rfl⟩:=hP
  simp only[bkI]at hF
  by_cases hc:r y<r x
  · rw[if_pos hc]at hF
    have hc':r y-r x<0:=by omega
    simp -implicitDefEqProofs[hc',h0,h9,e1,e2,e3,w1,e4,e6,e8]
    refine⟨by omega,by omega,by omega,by omega,by omega,by omega,by omega,by omega,?_⟩
    have e9:A.reverse++x::(y::B)++R=A.reverse++x::y::(B++R):=by simp
    rw[←e9]
    refine ih (y::B) _ (by simp; omega) (fun z hz=>hA z (List.mem_cons_of_mem _ hz)) hF ?_ ?_ ?_ ?_ ?_ ?_
    · simp
    · simp[h1]
    · simp[h2]
    · simp[h3]
    · simp[h8]
    · simp
  · rw[if_neg hc]at hF
    have hc':¬ r y-r x<0:=by omega
    subst hF
    simp -implicitDefEqProofs[hc']
    have e9:(y::A).reverse++x::B++R=A.reverse++y::x::(B++R):=by simp
    rw[e9]at hexit
    exact hexit _ (by simp[h0]) (by simp[h1]) (by simp[h2]) (by simp[h3]) (by simp[h8])
set_option maxRecDepth 10000 in
theorem tlp98_0 (hk:k<H.length) (hvf:vf.vd=true∧vf.ug=vf) (hn:n<4611686018427387904)
 (hcmp:∀ (l:List Nat) (a b:Nat),a<n->b<n->OkC Try.prog vf [i64 a,i64 b] (oS H k C D T v l) (.ret (i64 (r b-r a))) (oS H k C D T v l))
 {N:Nat} {K:XE->Env->List AO->Prop} (hexit:∀ env,K (.exit 0) env (oS H k C D T v (srtN r n))) :
 ∀ (m i:Nat) (env:Env),i+m=n->env.get 0=.own k C.length n 1 v->env.get 1=i64 0->env.get 2=i64 n->env.get 3=vf->env.get 8=i64 i →
  LI Try.prog N drawB l98_0 env (oS H k C D T v (srtN r i++List.range' i m)) K:=by
 intro m
 induction m with
 | zero =>
  intro i env hi h0 h1 h2 h3 h8
  refine li_go hm l98_0.eq_1 ?_
  have e:i=n:=by omega
  subst e
  simp -implicitDefEqProofs[h0,h1,h2,h3,h8]
  exact hexit _
 | succ m ih =>
  intro i env hi h0 h1 h2 h3 h8
  refine li_go hm l98_0.eq_1 ?_
  have hlt:i<n:=by omega
  simp -implicitDefEqProofs[h0,h1,h2,h3,h8,hlt]
  have e1:srtN r i++List.range' i (m+1)=((srtN r i).reverse).reverse++i::[]++List.range' (i+1) m:=by
   rw[List.range'_succ]; simp
  rw[e1]
  have hl:(srtN r i).length=i:=len_srt i
  refine tlp98_1 (r:=r) (n:=n) (i:=i) (b:=n) (R:=List.range' (i+1) m) (F:=srtN r (i+1)) hk hvf hn hcmp hlt (fun env g0 g1 g2 g3 g8 => ?_) (srtN r i).reverse [] _ (by simp[hl]; omega) (fun y hy => ?_) (bk_srt i) ?_ ?_ ?_ ?_ ?_ ?_
  · simp -implicitDefEqProofs[g8]
    refine ih (i+1) _ (by omega) ?_ ?_ ?_ ?_ ?_
    · simp[g0]
    · simp[g1]
    · simp[g2]
    · simp[g3]
    · simp[wrap_suc (show i<9223372036854775807 by omega)]
  · rw[List.mem_reverse,mem_srt]at hy; omega
  · simp
  · simp
  · simp
  · simp
  · simp
  · simp[hl]
theorem ok98 (hk:k<H.length) (hvf:vf.vd=true∧vf.ug=vf) (hvu:vf.under H.length=true) (hn:n<4611686018427387904)
 (hcmp:∀ (l:List Nat) (a b:Nat),a<n->b<n->OkC Try.prog vf [i64 a,i64 b] (oS H k C D T v l) (.ret (i64 (r b-r a))) (oS H k C D T v l)) :
 Ok Try.prog 98 [.own k C.length n 1 v,i64 0,i64 n,vf] (oS H k C D T v (List.range n)) (.ret (.tup [])) (oS H k C D T v (srtN r n)):=by
 have hlen:∀ l,(oS H k C D T v l).length=H.length:=fun l=>by simp[oS]
 refine ok_fn hm Try.func98 c98 (by simp[hlen,hk,hvu]) fun hcl => ?_
 simp -implicitDefEqProofs[i98,r98]
 by_cases h0:n=0
 · subst h0
   refine li_go hm l98_0.eq_1 ?_
   simp -implicitDefEqProofs
   exact cv_id
 · have e1:List.range n=srtN r 1++List.range' 1 (n-1):=by
    rw[List.range_eq_range',show n=(n-1)+1 by omega,List.range'_succ]; rfl
   rw[e1]
   refine tlp98_0 (r:=r) hk hvf hn hcmp (fun env => ?_) (n-1) 1 _ (by omega) ?_ ?_ ?_ ?_ ?_
   · simp -implicitDefEqProofs
     exact cv_id
   · simp
   · simp
   · simp
   · simp
   · simp[wrap_id (show(-9223372036854775808:Int)≤1 by omega) (show(1:Int)≤9223372036854775807 by omega)]
end
end Go.Proofs.Ytogjmpkehjfecaa.Rc
namespace Go.Proofs.Ytogjmpkehjfecaa.Rc
open Go.Ab Go.Ab.Shr
section
variable {H:List AO} {k v:Nat} {C D:List SV} {T:TypeId} {vf:SV} {r:Nat->Int} {n:Nat}
set_option maxRecDepth 10000 in
theorem ok81 (hk:k<H.length) (hvf:vf.vd=true∧vf.ug=vf∧vf.strip=vf) (hvu:vf.under H.length=true) (hn:n≤10)
 (hcmp:∀ (l:List Nat) (a b:Nat),a<n->b<n->OkC Try.prog vf [i64 a,i64 b] (oS H k C D T v l) (.ret (i64 (r b-r a))) (oS H k C D T v l)) :
 Ok Try.prog 81 [.own k C.length n 1 v,i64 n,vf] (oS H k C D T v (List.range n)) (.ret (.tup [])) (oS H k C D T v (srtN r n)):=by
 have hlen:∀ l,(oS H k C D T v l).length=H.length:=fun l=>by simp[oS]
 refine ok_fn hm Try.func81 c81 (by simp[hlen,hk,hvu]) fun hcl => ?_
 simp -implicitDefEqProofs[i81,r81]
 refine li_go hm l81_0.eq_1 ?_
 simp -implicitDefEqProofs[show ¬ (20:Int)≤(n:Int)by omega]
 refine call_go (ok98 hk ⟨hvf.1,hvf.2.1⟩ hvu (by omega) hcmp) ?_
 simp -implicitDefEqProofs
 refine li_go hm l81_1.eq_1 ?_
 simp -implicitDefEqProofs[show ¬ (20:Int)<(n:Int)by omega]
 exact cv_id
theorem ok65 (hk:k<H.length) (hvf:vf.vd=true∧vf.ug=vf∧vf.strip=vf) (hvu:vf.under H.length=true) (hn:n≤10)
 (hcmp:∀ (l:List Nat) (a b:Nat),a<n->b<n->OkC Try.prog vf [i64 a,i64 b] (oS H k C D T v l) (.ret (i64 (r b-r a))) (oS H k C D T v l)) :
 Ok Try.prog 65 [.own k C.length n 1 v,vf] (oS H k C D T v (List.range n)) (.ret (.tup [])) (oS H k C D T v (srtN r n)):=by
 have hlen:∀ l,(oS H k C D T v l).length=H.length:=fun l=>by simp[oS]
 refine ok_fn hm Try.func65 c65 (by simp[hlen,hk,hvu]) fun hcl => ?_
 simp -implicitDefEqProofs[i65,r65]
 refine call_go (ok81 hk hvf hvu hn hcmp) ?_
 simp -implicitDefEqProofs
 exact cv_id
end
def posI (x:Int):Int:=max x 0
def rstI (l:List Int) (tot:Int) (i:Nat):Int:=(65536*posI (l.getD i 0)) % tot
section
variable {H:List AO} {x:SV} {l:List Int} {b t p:Nat}
structure ClS (H:List AO) (x:SV) (l:List Int) (tot:Int) (b t p:Nat):Prop where
 hb:objCells H b 0=[x]
 ht:objCells H t 0=[i64 tot]
 hp:objCells H p 0=[.fn (.func 64) [] [.ptr (.own b 0 0 0 0) 0,.ptr (.own t 0 0 0 0) 0]]
 lb:b<H.length
 lt:t<H.length
 lp:p<H.length
 hx:IsI H x l
theorem ok64 {tot:Int} (h:ClS H x l tot b t p) (hl:l.length≤10) (hr:∀ v∈l,-70368744177664≤v∧v≤70368744177664) (h0:0<tot) (h1:tot<4611686018427387904) {i:Nat} (hi:i<l.length) :
 Ok Try.prog 64 [i64 i,.ptr (.own b 0 0 0 0) 0,.ptr (.own t 0 0 0 0) 0] H (.ret (i64 (rstI l tot i))) H:=by
 have hx:=h.hx
 refine ok_fn hm Try.func64 c64 (by simp[h.lb,h.lt]) fun hcl => ?_
 have hv:=hr _ (List.getElem_mem hi)
 have e:rstI l tot i=(65536*max l[i] 0) % tot:=by simp[rstI,posI,hi]
 have w1:IntKind.i64.wrap (65536*max l[i] 0)=65536*max l[i] 0:=wrap_id (by omega) (by omega)
 have w2:(65536*max l[i] 0).tmod tot=65536*max l[i] 0 % tot:=Int.tmod_eq_emod_of_nonneg (by omega)
 rw[e]
 simp -implicitDefEqProofs[i64x,r64,h.hb,h.ht,hx.vd,hx.ug,hx.sl,hx.len,hi,hx.ok hi,hx.v hi,w1,w2,show ¬ tot=0 by omega]
 exact cv_id
theorem rst_rng {tot:Int} (h0:0<tot) (i:Nat):0≤rstI l tot i∧rstI l tot i<tot:=⟨Int.emod_nonneg _ (by omega),Int.emod_lt_of_pos _ h0⟩
theorem ok66 {tot:Int} (h:ClS H x l tot b t p) (hl:l.length≤10) (hr:∀ v∈l,-70368744177664≤v∧v≤70368744177664) (h0:0<tot) (h1:tot<4611686018427387904) {i j:Nat} (hi:i<l.length) (hj:j<l.length) :
 Ok Try.prog 66 [i64 i,i64 j,.ptr (.own p 0 0 0 0) 0] H (.ret (i64 (rstI l tot j-rstI l tot i))) H:=by
 refine ok_fn hm Try.func66 c66 (by simp[h.lp]) fun hcl => ?_
 have r1:=rst_rng (l:=l) h0 i
 have r2:=rst_rng (l:=l) h0 j
 have w1:IntKind.i64.wrap (rstI l tot j-rstI l tot i)=rstI l tot j-rstI l tot i:=wrap_id (by omega) (by omega)
 simp -implicitDefEqProofs[i66,r66,h.hp]
 refine call_of (out:=.ret (i64 (rstI l tot j))) (H':=H) (by simpa using ok64 h hl hr h0 h1 hj) ?_
 simp -implicitDefEqProofs[h.hp]
 refine call_of (out:=.ret (i64 (rstI l tot i))) (H':=H) (by simpa using ok64 h hl hr h0 h1 hi) ?_
 simp -implicitDefEqProofs[h.hp,w1]
 exact cv_id
end
end Go.Proofs.Ytogjmpkehjfecaa.Rc
namespace Go.Proofs.Ytogjmpkehjfecaa.Rc
open Go.Ab Go.Ab.Shr
def G2 (H:List AO) (a k:Nat) (o p:AO):List AO:=(H.set a o).set k p
section
variable {H L:List AO} {a k:Nat} {o p:AO}
@[simp] theorem g2_len:(G2 H a k o p).length=H.length:=by simp[G2]
theorem g2_a (ha:a<H.length) (hk:a≠k):(G2 H a k o p++L)[a]? = some o:=by
 rw[List.getElem?_append_left (by simpa using ha)]
 unfold G2
 rw[List.getElem?_set_ne (Ne.symm hk),List.getElem?_set_self ha]
theorem g2_k (hk:k<H.length):(G2 H a k o p++L)[k]? = some p:=by
 rw[List.getElem?_append_left (by simpa using hk)]
 unfold G2
 rw[List.getElem?_set_self (by simpa using hk)]
theorem g2_ca (ha:a<H.length) (hk:a≠k) {c:List SV} {T:TypeId} {v:Nat}:objCells (G2 H a k ⟨c,T,v,true⟩ p++L) a v=c:=objCells_of (o:=⟨c,T,v,true⟩) (g2_a ha hk) rfl
theorem g2_ck (hk:k<H.length) {c:List SV} {T:TypeId} {v:Nat}:objCells (G2 H a k o ⟨c,T,v,true⟩++L) k v=c:=objCells_of (o:=⟨c,T,v,true⟩) (g2_k hk) rfl
theorem g2_n0 (v:Nat):objCells (G2 H a k o p++L) H.length v=objCells L 0 v:=by
 have:=objCells_new0 (G2 H a k o p) L v; rwa [g2_len]at this
theorem g2_n (j v:Nat):objCells (G2 H a k o p++L) (H.length+j) v=objCells L j v:=by
 have:=objCells_new (G2 H a k o p) L j v; rwa [g2_len]at this
theorem g2_sn (j:Nat) (f:AO->AO):Ab.setObj (G2 H a k o p++L) (H.length+j) f=G2 H a k o p++Ab.setObj L j f:=by
 have:=setObj_app (G2 H a k o p) L j f; rwa [g2_len]at this
theorem g2_sa (ha:a<H.length) (hk:a≠k) (f:AO->AO):Ab.setObj (G2 H a k o p++L) a f=G2 H a k (f o) p++L:=by
 rw[setObj_some (g2_a ha hk),List.set_append_left _ _ (by simpa using ha)]
 unfold G2
 rw[List.set_comm _ _ (Ne.symm hk),List.set_set]
theorem g2_sk (hk:k<H.length) (f:AO->AO):Ab.setObj (G2 H a k o p++L) k f=G2 H a k o (f p)++L:=by
 rw[setObj_some (g2_k hk),List.set_append_left _ _ (by simpa using hk)]
 unfold G2
 rw[List.set_set]
theorem g2_closed (hcl:closed H) (ho:SV.underL H.length o.cells=true) (hp:SV.underL H.length p.cells=true):closed (G2 H a k o p):=by
 unfold G2
 exact closed_set (closed_set hcl a ho) k (by simpa using hp)
end
def oI (C:List SV) (l:List Int) (D:List SV) (T:TypeId) (v:Nat):AO:=⟨C++(ints l++D),T,v,true⟩
theorem oI_set {C D:List SV} {l:List Int} {j:Nat} (hj:j<l.length) (x:Int):(C++(ints l++D)).take (C.length+j)++i64 x::(C++(ints l++D)).drop (C.length+j+1)=C++(ints (l.set j x)++D):=by
 rw[List.take_append,List.drop_append]
 have e1:C.length+j-C.length=j:=by omega
 have e2:C.length+j+1-C.length=j+1:=by omega
 rw[e1,e2,List.take_of_length_le (by omega),List.drop_eq_nil_of_le (by omega),List.take_append,List.drop_append]
 have e3:j-(ints l).length=0:=by simp; omega
 have e4:j+1-(ints l).length=0:=by simp; omega
 rw[e3,e4]
 simp only[List.take_zero,List.append_nil,List.drop_zero,List.nil_append,List.append_assoc,List.append_cancel_left_eq]
 rw[←ints_set hj x]
 simp
theorem oI_len {C D:List SV} {l:List Int}:(C++(ints l++D)).length=C.length+l.length+D.length:=by simp; omega
def sumF (f:Nat->Int):Nat->Int
 | 0=>0
 | n+1=>sumF f n+f n
def totK (l:List Int) (k:Nat):Int:=sumF (fun i=>posI (l.getD i 0)) k
def totI (l:List Int):Int:=totK l l.length
def floI (l:List Int) (tot:Int) (i:Nat):Int:=if tot=0 then 65536 / (l.length:Int)else if 0<l.getD i 0 then 65536*l.getD i 0 / tot else 0
def lefK (l:List Int) (k:Nat):Int:=65536-sumF (floI l (totI l)) k
def lefI (l:List Int):Int:=lefK l l.length
def ordI (l:List Int):List Nat:=if 0<totI l∧0<lefI l then srtN (rstI l (totI l)) l.length else List.range l.length
def shrI (l:List Int):List Int:=(List.range l.length).map (addL (floI l (totI l)) ((ordI l).take (lefI l).toNat))
theorem shr_len (l:List Int):(shrI l).length=l.length:=by simp[shrI]
end Go.Proofs.Ytogjmpkehjfecaa.Rc
namespace Go.Proofs.Ytogjmpkehjfecaa.Rc
open Go.Ab Go.Ab.Shr
theorem posI_nn (x:Int):0≤posI x:=by unfold posI; omega
theorem sumF_nn {f:Nat->Int} (h:∀ i,0≤f i):∀ n,0≤sumF f n
 | 0=>Int.le_refl _
 | n+1=>by have:=sumF_nn h n; have:=h n; simp only[sumF]; omega
theorem sumF_le {f:Nat->Int} {c:Int}:∀ n,(∀ i,i<n->f i≤c)->sumF f n≤n*c
 | 0,_=>by simp[sumF]
 | n+1,h=>by
  have h1:=sumF_le n fun i hi=>h i (by omega)
  have h2:=h n (by omega)
  simp only[sumF]
  have:((n+1:Nat):Int)*c=n*c+c:=by rw[Int.natCast_succ,Int.add_mul,Int.one_mul]
  omega
theorem sumF_const (c:Int):∀ n,sumF (fun _=>c) n=n*c
 | 0=>by simp[sumF]
 | n+1=>by
  simp only[sumF,sumF_const c n]
  rw[Int.natCast_succ,Int.add_mul,Int.one_mul]
theorem sumF_mul (f:Nat->Int) (c:Int):∀ n,sumF (fun i=>c*f i) n=c*sumF f n
 | 0=>by simp[sumF]
 | n+1=>by simp only[sumF,sumF_mul f c n,Int.mul_add]
theorem sumF_mono {f g:Nat->Int}:∀ n,(∀ i,i<n->f i≤g i)->sumF f n≤sumF g n
 | 0,_=>Int.le_refl _
 | n+1,h=>by
  have h1:=sumF_mono n fun i hi=>h i (by omega)
  have h2:=h n (by omega)
  simp only[sumF]; omega
theorem sumF_add (f g:Nat->Int):∀ n,sumF (fun i=>f i+g i) n=sumF f n+sumF g n
 | 0=>rfl
 | n+1=>by simp only[sumF,sumF_add f g n]; omega
theorem sumF_congr {f g:Nat->Int}:∀ n,(∀ i,i<n->f i=g i)->sumF f n=sumF g n
 | 0,_=>rfl
 | n+1,h=>by simp only[sumF]; rw[sumF_congr n fun i hi=>h i (by omega),h n (by omega)]
theorem totK_nn (l:List Int) (k:Nat):0≤totK l k:=sumF_nn (fun i=>posI_nn _) _
theorem tot_nn (l:List Int):0≤totI l:=totK_nn l _
theorem totK_suc {l:List Int} {i:Nat} (h:i<l.length):totK l (i+1)=totK l i+max l[i] 0:=by simp[totK,sumF,posI,h]
theorem tot_le {l:List Int} (hl:l.length≤10) (hr:∀ v∈l,v≤70368744177664):∀ k,k≤l.length->totK l k≤k*70368744177664:=fun k hk =>
 sumF_le k fun i hi=>by
  have h:i<l.length:=by omega
  have:=hr _ (List.getElem_mem h)
  simp only[posI,List.getD_eq_getElem?_getD,List.getElem?_eq_getElem h,Option.getD_some]; omega
theorem floI_nn (l:List Int) (i:Nat):0≤floI l (totI l) i:=by
 have:=tot_nn l
 unfold floI
 split
 · exact Int.ediv_nonneg (by omega) (by omega)
 · split
   · exact Int.ediv_nonneg (by omega) this
   · exact Int.le_refl _
theorem flo_pos {l:List Int} (h:totI l≠0) (i:Nat):floI l (totI l) i=65536*posI (l.getD i 0) / totI l:=by
 unfold floI
 rw[if_neg h]
 split
 · have:posI (l.getD i 0)=l.getD i 0:=by unfold posI; omega
   rw[this]
 · have:posI (l.getD i 0)=0:=by unfold posI; omega
   rw[this]; simp
theorem lef_rng {l:List Int} (hn:0<l.length):0≤lefI l∧lefI l<l.length:=by
 have h0:=tot_nn l
 unfold lefI lefK
 by_cases h:totI l=0
 · have e:sumF (floI l (totI l)) l.length=l.length*(65536 / (l.length:Int)):=by
    rw[←sumF_const]
    exact sumF_congr _ fun i _=>by unfold floI; rw[if_pos h]
   rw[e]
   have h1:=Int.emod_add_mul_ediv 65536 (l.length:Int)
   have h2:=Int.emod_nonneg 65536 (b:=(l.length:Int)) (by omega)
   have h3:=Int.emod_lt_of_pos 65536 (b:=(l.length:Int)) (by omega)
   omega
 · have hp:0<totI l:=by omega
   have e1:sumF (fun i=>totI l*floI l (totI l) i) l.length=totI l*sumF (floI l (totI l)) l.length:=sumF_mul _ _ _
   have e2:sumF (fun i=>65536*posI (l.getD i 0)) l.length=65536*totI l:=sumF_mul _ _ _
   have h1:sumF (fun i=>totI l*floI l (totI l) i) l.length≤sumF (fun i=>65536*posI (l.getD i 0)) l.length:=sumF_mono _ fun i _=>by
    rw[flo_pos h]; exact Int.mul_ediv_self_le (by omega)
   have h2:sumF (fun i=>65536*posI (l.getD i 0)) l.length≤sumF (fun i=>totI l*floI l (totI l) i+(totI l-1)) l.length:=sumF_mono _ fun i _=>by
    rw[flo_pos h]
    have:=Int.emod_add_mul_ediv (65536*posI (l.getD i 0)) (totI l)
    have:=Int.emod_lt_of_pos (65536*posI (l.getD i 0)) hp
    omega
   rw[sumF_add,sumF_const]at h2
   rw[e1,e2]at h1 h2
   generalize sumF (floI l (totI l)) l.length=s at *
   generalize totI l=t at *
   constructor
   · have:t*s≤t*65536:=by rw[Int.mul_comm t 65536]; exact h1
     have:=Int.le_of_mul_le_mul_left this hp
     omega
   · have h3:t*65536<t*s+l.length*t:=by
      have:(l.length:Int)*(t-1)<l.length*t:=Int.mul_lt_mul_of_pos_left (by omega) (by omega)
      rw[Int.mul_comm t 65536]; omega
     have h4:t*65536<t*(s+l.length):=by rw[Int.mul_add,Int.mul_comm t l.length]; exact h3
     have:=Int.lt_of_mul_lt_mul_left h4 (by omega)
     omega
end Go.Proofs.Ytogjmpkehjfecaa.Rc
namespace Go.Proofs.Ytogjmpkehjfecaa.Rc
open Go.Ab Go.Ab.Shr
section
variable {H:List AO} {a k va v n:Nat} {C D:List SV} {T:TypeId} {x:SV} {l:List Int}
def S6 (H:List AO) (a k va v:Nat) (C D:List SV) (T:TypeId) (x:SV) (o p:List Int) (t:Int):List AO :=
 G2 H a k ⟨ints o,3,va,true⟩ (oI C p D T v)++[⟨[x],36,0,true⟩,⟨[i64 t],3,0,true⟩]
structure P2 (H:List AO) (a k:Nat):Prop where
 la:a<H.length
 lk:k<H.length
 ne:a≠k
set_option maxRecDepth 10000 in
theorem tlp38_0 (hP:P2 H a k) {o p:List Int} (hx:∀ L,IsI (G2 H a k ⟨ints o,3,va,true⟩ (oI C p D T v)++L) x l) (hl:l.length≤10) (hr:∀ v∈l,v≤70368744177664) {N:Nat} {K:XE->Env->List AO->Prop} {x1 x2:SV}
 (hexit:∀ env,env.get 1=x1->env.get 2=x2->env.get 3=.ptr (.own H.length 0 0 0 0) 0->env.get 6=.ptr (.own (H.length+1) 0 0 0 0) 0->K (.exit 0) env (S6 H a k va v C D T x o p (totI l))) :
 ∀ (m i:Nat) (env:Env),i+m=l.length->env.get 1=x1->env.get 2=x2->env.get 3=.ptr (.own H.length 0 0 0 0) 0->env.get 6=.ptr (.own (H.length+1) 0 0 0 0) 0 →
  env.get 15=x->env.get 16=i64 l.length->env.get 17=i64 i->LI Try.prog N drawB l38_0 env (S6 H a k va v C D T x o p (totK l i)) K:=by
 intro m
 induction m with
 | zero =>
  intro i env hi h1 h2 h3 h6 h15 h16 h17
  refine li_go hm l38_0.eq_1 ?_
  have e:i=l.length:=by omega
  subst e
  simp -implicitDefEqProofs[h16,h17]
  exact hexit _ (by simp[h1]) (by simp[h2]) (by simp[h3]) (by simp[h6])
 | succ m ih =>
  intro i env hi h1 h2 h3 h6 h15 h16 h17
  refine li_go hm l38_0.eq_1 ?_
  have hlt:i<l.length:=by omega
  have hx':=hx [⟨[x],36,0,true⟩,⟨[i64 (totK l i)],3,0,true⟩]
  have b1:=tot_le hl hr i (by omega)
  have b2:=totK_nn l i
  have hv:=hr _ (List.getElem_mem hlt)
  have w1:IntKind.i64.wrap (totK l i+max l[i] 0)=totK l (i+1):=by rw[totK_suc hlt]; exact wrap_id (by omega) (by omega)
  simp -implicitDefEqProofs[S6,h1,h2,h3,h6,h15,h16,h17,hlt,hx'.vd,hx'.ug,hx'.sl,hx'.len,hx'.ok hlt,hx'.v hlt,g2_n,g2_sn,w1]
  refine ih (i+1) _ (by omega) ?_ ?_ ?_ ?_ ?_ ?_ ?_
  · simp
  · simp
  · simp
  · simp
  · simp
  · simp
  · simp[wrap_suc (show i<9223372036854775807 by omega)]
end
end Go.Proofs.Ytogjmpkehjfecaa.Rc
namespace Go.Proofs.Ytogjmpkehjfecaa.Rc
open Go.Ab Go.Ab.Shr
theorem floI_at {l:List Int} {i:Nat} (h:i<l.length) (t:Int):floI l t i=if t=0 then 65536 / (l.length:Int)else if 0<l[i]then 65536*l[i] / t else 0:=by simp[floI,h]
theorem lefK_suc (l:List Int) (i:Nat):lefK l (i+1)=lefK l i-floI l (totI l) i:=by simp only[lefK,sumF]; omega
theorem floI_le {l:List Int} (i:Nat) (hl:0<l.length):floI l (totI l) i≤65536*70368744177664∨∃ h:i<l.length,70368744177664<l[i]:=by
 by_cases h:∃ h:i<l.length,70368744177664<l[i]
 · exact .inr h
 · left
   have h0:=tot_nn l
   unfold floI
   split
   · have:65536 / (l.length:Int)≤65536:=Int.ediv_le_self _ (by omega)
     omega
   · split
     · rename_i h1 h2
       by_cases hi:i<l.length
       · have h3:l.getD i 0=l[i]:=by simp[hi]
         have h4:¬ 70368744177664<l[i]:=fun h5=>h ⟨hi,h5⟩
         rw[h3]at h2 ⊢
         have:65536*l[i] / totI l≤65536*l[i]:=Int.ediv_le_self _ (by omega)
         omega
       · simp[hi]at h2
     · omega
theorem sumF_up {f:Nat->Int} (h:∀ i,0≤f i) {i n:Nat} (hi:i≤n):sumF f i≤sumF f n:=by
 induction n with
 | zero => have : i = 0 := by omega
           subst this; exact Int.le_refl _
 | succ n ih =>
   by_cases e:i=n+1
   · subst e; exact Int.le_refl _
   · have:=ih (by omega); have:=h n; simp only[sumF]; omega
theorem lefK_rng {l:List Int} (h0:0<l.length) (i:Nat) (hi:i<l.length):0≤lefK l i∧lefK l i≤65536∧0≤lefK l (i+1):=by
 have h1:=(lef_rng h0).1
 have h2:=sumF_up (floI_nn l) (show i+1≤l.length by omega)
 have h3:=sumF_up (floI_nn l) (show i≤i+1 by omega)
 have h4:=sumF_nn (floI_nn l) i
 unfold lefI lefK at *
 omega
section
variable {H:List AO} {a k va v n:Nat} {C D:List SV} {T:TypeId} {x:SV} {l:List Int}
set_option maxRecDepth 10000 in
theorem tlp38_1 (hP:P2 H a k) (hx:∀ (o p:List Int) (L:List AO),IsI (G2 H a k ⟨ints o,3,va,true⟩ (oI C p D T v)++L) x l) (hl:l.length≤10) (h0:0<l.length) (hr:∀ v∈l,-70368744177664≤v∧v≤70368744177664) {N:Nat} {K:XE->Env->List AO->Prop}
 (hexit:∀ env,env.get 1=.own a 0 l.length 1 va->env.get 2=.own k C.length l.length 1 v->env.get 3=.ptr (.own H.length 0 0 0 0) 0->env.get 6=.ptr (.own (H.length+1) 0 0 0 0) 0->env.get 9=i64 (lefI l) →
  K (.exit 2) env (S6 H a k va v C D T x ((List.range l.length).map (floI l (totI l))) ((List.range l.length).map fun(i:Nat)=>(i:Int)) (totI l))) :
 ∀ (m i:Nat) (o p:List Int) (env:Env),i+m=l.length->o.length=l.length->p.length=l.length->(∀ j,j<i->o[j]? = some (floI l (totI l) j))->(∀ j,j<i->p[j]? = some (j:Int)) →
  env.get 1=.own a 0 l.length 1 va->env.get 2=.own k C.length l.length 1 v->env.get 3=.ptr (.own H.length 0 0 0 0) 0->env.get 6=.ptr (.own (H.length+1) 0 0 0 0) 0 →
  env.get 9=i64 (lefK l i)->env.get 26=x->env.get 27=i64 l.length->env.get 28=i64 i->LI Try.prog N drawB l38_1 env (S6 H a k va v C D T x o p (totI l)) K:=by
 intro m
 induction m with
 | zero =>
  intro i o p env hi ho hp ho2 hp2 h1 h2 h3 h6 h9 h26 h27 h28
  refine li_go hm l38_1.eq_1 ?_
  have e:i=l.length:=by omega
  subst e
  have e1:o=(List.range l.length).map (floI l (totI l)):=by
   apply List.ext_getElem?
   intro j
   by_cases hj:j<l.length
   · rw[ho2 j hj]; simp[hj]
   · rw[List.getElem?_eq_none (by omega),List.getElem?_eq_none (by simp; omega)]
  have e2:p=(List.range l.length).map fun(i:Nat)=>(i:Int):=by
   apply List.ext_getElem?
   intro j
   by_cases hj:j<l.length
   · rw[hp2 j hj]; simp[hj]
   · rw[List.getElem?_eq_none (by omega),List.getElem?_eq_none (by simp; omega)]
  subst e1 e2
  simp -implicitDefEqProofs[h27,h28]
  exact hexit _ (by simp[h1]) (by simp[h2]) (by simp[h3]) (by simp[h6]) (by simp[h9,lefI])
 | succ m ih =>
  intro i o p env hi ho hp ho2 hp2 h1 h2 h3 h6 h9 h26 h27 h28
  refine li_go hm l38_1.eq_1 ?_
  have hlt:i<l.length:=by omega
  have hx':=hx o p [⟨[x],36,0,true⟩,⟨[i64 (totI l)],3,0,true⟩]
  have hv:=hr _ (List.getElem_mem hlt)
  have hf:=floI_at hlt (totI l)
  have hfn:=floI_nn l i
  have hlk:=lefK_suc l i
  have htn:=tot_nn l
  have hb:=lefK_rng h0 i hlt
  have w2:IntKind.i64.wrap ((i:Int)+1)=((i+1:Nat):Int):=wrap_succ (by omega)
  have w3:IntKind.i64.wrap (lefK l i-floI l (totI l) i)=lefK l (i+1):=by rw[hlk]; exact wrap_id (by omega) (by omega)
  simp only[oI]at hx'
  have io:i<o.length:=by omega
  have ip:i<p.length:=by omega
  have ok':=hx'.ok hlt
  have ov':=hx'.v hlt
  have s1:∀ y:Int,List.take i (ints o)++i64 y::List.drop (i+1) (ints o)=ints (o.set i y):=fun y=>ints_set io y
  have s2:List.take (C.length+i) (C++(ints p++D))++i64 (i:Int)::List.drop (C.length+i+1) (C++(ints p++D))=C++(ints (p.set i i)++D):=oI_set ip _
  have s3:(C++(ints p++D)).length=C.length+p.length+D.length:=oI_len
  have s4:∀ y:Int,(ints (o.set i y))[i]?.getD .any=i64 y:=fun y=>by simp[ints,io]
  have hq1:∀ j,j<i+1->(o.set i (floI l (totI l) i))[j]? = some (floI l (totI l) j):=fun j hj=>by
   by_cases e:i=j
   · subst e; rw[List.getElem?_set_self io]
   · rw[List.getElem?_set_ne e]; exact ho2 j (by omega)
  have hq2:∀ j,j<i+1->(p.set i (i:Int))[j]? = some (j:Int):=fun j hj=>by
   by_cases e:i=j
   · subst e; rw[List.getElem?_set_self ip]
   · rw[List.getElem?_set_ne e]; exact hp2 j (by omega)
  have key:=ih (i+1) (o.set i (floI l (totI l) i)) (p.set i (i:Int))
  generalize totI l=t at *
  by_cases ht:t=0
  · rw[if_pos ht]at hf
    have w4:IntKind.i64.wrap (Int.tdiv 65536 (l.length:Int))=floI l t i:=by
     rw[hf,Int.tdiv_eq_ediv_of_nonneg (by omega)]
     exact wrap_id (by omega) (by omega)
    have hd:(t=0)=True:=eq_true ht
    have hne:¬ l=[]:=fun e=>by rw[e]at h0; simp at h0
    simp -implicitDefEqProofs[S6,oI,h1,h2,h3,h6,h9,h26,h27,h28,hlt,hx'.vd,hx'.ug,hx'.sl,hx'.len,ok',ov',g2_n,g2_n0,g2_sn,g2_ca hP.la hP.ne,g2_ck hP.lk,g2_sa hP.la hP.ne,g2_sk hP.lk,hd,s1,s2,s3,s4,w2,w3,w4,hne]
    refine⟨by omega,by omega,by omega,?_⟩
    refine key _ (by omega) (by simpa using ho) (by simpa using hp) hq1 hq2 ?_ ?_ ?_ ?_ ?_ ?_ ?_ ?_
    all_goals simp
  · rw[if_neg ht]at hf
    have hd:(t=0)=False:=eq_false ht
    by_cases hp0:0<l[i]
    · rw[if_pos hp0]at hf
      have w5:IntKind.i64.wrap (65536*l[i])=65536*l[i]:=wrap_id (by omega) (by omega)
      have w4:IntKind.i64.wrap (Int.tdiv (65536*l[i]) t)=floI l t i:=by
       rw[hf,Int.tdiv_eq_ediv_of_nonneg (by omega)]
       exact wrap_id (by omega) (by omega)
      simp -implicitDefEqProofs[S6,oI,h1,h2,h3,h6,h9,h26,h27,h28,hlt,hx'.vd,hx'.ug,hx'.sl,hx'.len,ok',ov',g2_n,g2_n0,g2_sn,g2_ca hP.la hP.ne,g2_ck hP.lk,g2_sa hP.la hP.ne,g2_sk hP.lk,hd,s1,s2,s3,s4,w2,w3,w4,w5,hp0]
      refine⟨by omega,by omega,by omega,?_⟩
      refine key _ (by omega) (by simpa using ho) (by simpa using hp) hq1 hq2 ?_ ?_ ?_ ?_ ?_ ?_ ?_ ?_
      all_goals simp
    · rw[if_neg hp0]at hf
      have w6:IntKind.i64.wrap (lefK l i)=lefK l (i+1):=by rw[hf]at w3; simpa using w3
      rw[hf]at key hq1
      simp -implicitDefEqProofs[S6,oI,h1,h2,h3,h6,h9,h26,h27,h28,hlt,hx'.vd,hx'.ug,hx'.sl,hx'.len,ok',ov',g2_n,g2_n0,g2_sn,g2_ca hP.la hP.ne,g2_ck hP.lk,g2_sa hP.la hP.ne,g2_sk hP.lk,hd,s1,s2,s3,s4,w2,w3,hp0,hf,w6]
      refine⟨by omega,by omega,by omega,?_⟩
      refine key _ (by omega) (by simpa using ho) (by simpa using hp) hq1 hq2 ?_ ?_ ?_ ?_ ?_ ?_ ?_ ?_
      all_goals simp
end
end Go.Proofs.Ytogjmpkehjfecaa.Rc
namespace Go.Proofs.Ytogjmpkehjfecaa.Rc
open Go.Ab Go.Ab.Shr
def rowF (n:Nat) (f:Nat->Int):List Int:=(List.range n).map f
@[simp] theorem rowF_len (n:Nat) (f:Nat->Int):(rowF n f).length=n:=by simp[rowF]
theorem rowF_get {n:Nat} {f:Nat->Int} {i:Nat} (h:i<n):(rowF n f)[i]'(by simpa using h)=f i:=by simp[rowF]
theorem rowF_getD {n:Nat} {f:Nat->Int} {i:Nat} (h:i<n):(rowF n f).getD i 0=f i:=by simp[rowF,h]
theorem rowF_set {n:Nat} {f:Nat->Int} {i:Nat} (y:Int):(rowF n f).set i y=rowF n (put f i y):=by
 apply List.ext_getElem?
 intro j
 by_cases hj:j<n
 · by_cases e:i=j
   · subst e; rw[List.getElem?_set_self (by simpa using hj)]; simp[rowF,put,hj]
   · rw[List.getElem?_set_ne e]
     have:¬ j=i:=fun h=>e h.symm
     simp[rowF,put,hj,this]
 · rw[List.getElem?_eq_none (by simp; omega),List.getElem?_eq_none (by simp; omega)]
section
variable {H L:List AO} {a k va v n:Nat} {C D:List SV} {T:TypeId}
set_option maxRecDepth 10000 in
theorem tlp38_2 (hP:P2 H a k) {q:List Nat} (hq:∀ y∈q,y<n) (hn:n≤10) {c:Nat} (hc:c≤q.length) {N:Nat} {K:XE->Env->List AO->Prop} {F:Nat->Int}
 (hexit:∀ env,K (.exit 5) env (G2 H a k ⟨ints (rowF n F),3,va,true⟩ (oN C q D T v)++L)) :
 ∀ (m j:Nat) (f:Nat->Int) (env:Env),j+m=c->(∀ i,i<n->0≤f i∧f i≤9223372036854775000+j)->c≤100->addL f ((q.take c).drop j)=F →
  env.get 1=.own a 0 n 1 va->env.get 78=.own k C.length c 1 v->env.get 79=i64 c->env.get 80=i64 j →
  LI Try.prog N drawB l38_2 env (G2 H a k ⟨ints (rowF n f),3,va,true⟩ (oN C q D T v)++L) K:=by
 intro m
 induction m with
 | zero =>
  intro j f env hj hf hc1 hF h1 h78 h79 h80
  refine li_go hm l38_2.eq_1 ?_
  have e:j=c:=by omega
  subst e
  rw[List.drop_eq_nil_of_le (by simp; omega)]at hF
  have hF':f=F:=by rw[←hF]; funext i; rfl
  subst hF'
  simp -implicitDefEqProofs[h79,h80]
  exact hexit _
 | succ m ih =>
  intro j f env hj hf hc1 hF h1 h78 h79 h80
  refine li_go hm l38_2.eq_1 ?_
  have hlt:j<c:=by omega
  have hjq:j<q.length:=by omega
  rw[List.drop_eq_getElem_cons (by simp; omega)]at hF
  simp only[List.getElem_take,addL]at hF
  have hy:q[j]<n:=hq _ (List.getElem_mem hjq)
  have e1:(nats q++D)[j]?.getD .any=i64 (q[j]:Nat):=by
   rw[List.getElem?_append_left (by simpa using hjq)]
   simp[nats,ints,hjq]
  have e2:(C++(nats q++D)).length=C.length+q.length+D.length:=by simp; omega
  have e3:(ints (rowF n f))[q[j]]?.getD .any=i64 (f q[j]):=by simp[ints,rowF,hy]
  have e4:∀ y:Int,List.take q[j] (ints (rowF n f))++i64 y::List.drop (q[j]+1) (ints (rowF n f))=ints (rowF n (put f q[j] y)):=fun y=>by
   rw[ints_set (by simpa using hy),rowF_set]
  have hb:=hf _ hy
  have w1:IntKind.i64.wrap (f q[j]+1)=f q[j]+1:=wrap_id (by omega) (by omega)
  simp -implicitDefEqProofs[oN,h1,h78,h79,h80,hlt,g2_ca hP.la hP.ne,g2_ck hP.lk,g2_sa hP.la hP.ne,e1,e2,e3,e4,rowF_get hy,w1,hy]
  refine⟨by omega,by omega,by omega,?_⟩
  refine ih (j+1) (put f q[j] (f q[j]+1)) _ (by omega) (fun i hi => ?_) hc1 hF ?_ ?_ ?_ ?_
  · have h2:=hf i hi
    unfold put
    split<;>omega
  · simp
  · simp
  · simp
  · simp[wrap_suc (show j<9223372036854775807 by omega)]
theorem ok38 {H:List AO} {x:SV} {l o0 p0:List Int} (hP:P2 H a k) (hu:SV.underL H.length C=true∧SV.underL H.length D=true) (hx:∀ (o p:List Int) (L:List AO),IsI (G2 H a k ⟨ints o,3,va,true⟩ (oI C p D T v)++L) x l) (hl:l.length≤10) (h0:0<l.length)
 (hr:∀ v∈l,-70368744177664≤v∧v≤70368744177664) (ho0:o0.length=l.length) (hp0:p0.length=l.length) :
 Ok Try.prog 38 [x,.own a 0 l.length 1 va,.own k C.length l.length 1 v] (G2 H a k ⟨ints o0,3,va,true⟩ (oI C p0 D T v)) (.ret (.tup [])) (G2 H a k ⟨ints (shrI l),3,va,true⟩ (oN C (ordI l) D T v)):=by
 have hx0:=hx o0 p0 []
 have hxu:x.under H.length=true:=by simpa using hx0.und
 refine ok_fn hm Try.func38 c38 (by simp[hP.la,hP.lk,hxu]) fun hcl => ?_
 have hxL:=hx o0 p0 [⟨[x],36,0,true⟩,⟨[i64 0],3,0,true⟩]
 simp -implicitDefEqProofs[i38,r38,hx0.vd,hx0.ug,hx0.cell,hx0.flat,hx0.sl,hx0.len,g2_n,g2_n0,g2_sn]
 refine tlp38_0 (l:=l) hP (fun L=>hx o0 p0 L) hl (fun v hv=>(hr v hv).2) (x1:=.own a 0 l.length 1 va) (x2:=.own k C.length l.length 1 v) (fun env g1 g2 g3 g6 => ?_) l.length 0 _ (by omega) (by simp) (by simp) (by simp) (by simp) (by simp) (by simp) (by simp)
 simp -implicitDefEqProofs[S6,g1,g2,g3,g6,hx0.vd,hx0.ug,hx0.cell,hx0.flat,hx0.sl,hx0.len,g2_n,g2_n0,g2_sn]
 refine tlp38_1 (l:=l) hP hx hl h0 hr (fun env g1 g2 g3 g6 g9 => ?_) l.length 0 o0 p0 _ (by omega) ho0 hp0 (fun j hj=>by omega) (fun j hj=>by omega) (by simp[g1]) (by simp[g2]) (by simp[g3]) (by simp[g6]) (by simp[lefK,sumF]) (by simp) (by simp) (by simp)
 have hlr:=lef_rng h0
 have e1:((List.range l.length).map (floI l (totI l)))=rowF l.length (floI l (totI l)):=rfl
 have e2:oI C ((List.range l.length).map fun(i:Nat)=>(i:Int)) D T v=oN C (List.range l.length) D T v:=rfl
 have e3:rowF l.length (addL (floI l (totI l)) ((ordI l).take (lefI l).toNat))=shrI l:=rfl
 have hfl:∀ i,i<l.length->0≤floI l (totI l) i∧floI l (totI l) i≤9223372036854775000+(0:Nat):=fun i hi=>by
  have h1:=floI_nn l i
  have h2:=floI_le (l:=l) i h0
  have h3:=(hr _ (List.getElem_mem hi)).2
  rcases h2 with h2 | ⟨_,h2⟩<;>omega
 simp only[S6,e1,e2]
 have hcl2:closed (G2 H a k ⟨ints (shrI l),3,va,true⟩ (oN C (ordI l) D T v)):=by
  have h1:closed (G2 (G2 H a k ⟨ints o0,3,va,true⟩ (oI C p0 D T v)) a k ⟨ints (shrI l),3,va,true⟩ (oN C (ordI l) D T v)) :=
   g2_closed hcl (by simp) (by simp only[g2_len,oN,SV.underL_append,hu.1,hu.2,nats]; simp)
  have h2:G2 (G2 H a k ⟨ints o0,3,va,true⟩ (oI C p0 D T v)) a k ⟨ints (shrI l),3,va,true⟩ (oN C (ordI l) D T v)=G2 H a k ⟨ints (shrI l),3,va,true⟩ (oN C (ordI l) D T v):=by
   unfold G2
   rw[List.set_comm _ _ hP.ne.symm,List.set_set,List.set_set]
  rwa [h2]at h1
 have ho:∀ y∈ordI l,y<l.length:=fun y hy=>by
  unfold ordI at hy
  split at hy
  · exact mem_srt.1 hy
  · simpa using hy
 have hol:(ordI l).length=l.length:=by
  unfold ordI
  split
  · exact len_srt _
  · simp
 have hc9:((lefI l).toNat:Int)=lefI l:=by omega
 by_cases hc:0<totI l∧0<lefI l
 · have eo:ordI l=srtN (rstI l (totI l)) l.length:=by unfold ordI; rw[if_pos hc]
   simp -implicitDefEqProofs[g1,g2,g3,g6,g9,g2_n,g2_n0,g2_sn,hc.1,hc.2]
   have key:=ok65 (H:=G2 H a k ⟨ints (rowF l.length (floI l (totI l))),3,va,true⟩ (oN C (List.range l.length) D T v)++[⟨[x],36,0,true⟩,⟨[i64 (totI l)],3,0,true⟩,⟨[.fn (.func 64) [] [.ptr (.own H.length 0 0 0 0) 0,.ptr (.own (H.length+1) 0 0 0 0) 0]],83,0,true⟩])
    (k:=k) (v:=v) (C:=C) (D:=D) (T:=T) (vf:=.fn (.func 66) [] [.ptr (.own (H.length+2) 0 0 0 0) 0]) (r:=rstI l (totI l)) (n:=l.length) (by simp; have:=hP.lk; omega) ⟨rfl,rfl,rfl⟩ (by simp) hl
   have hS:∀ q,oS (G2 H a k ⟨ints (rowF l.length (floI l (totI l))),3,va,true⟩ (oN C (List.range l.length) D T v)++[⟨[x],36,0,true⟩,⟨[i64 (totI l)],3,0,true⟩,⟨[.fn (.func 64) [] [.ptr (.own H.length 0 0 0 0) 0,.ptr (.own (H.length+1) 0 0 0 0) 0]],83,0,true⟩]) k C D T v q =
    G2 H a k ⟨ints (rowF l.length (floI l (totI l))),3,va,true⟩ (oN C q D T v)++[⟨[x],36,0,true⟩,⟨[i64 (totI l)],3,0,true⟩,⟨[.fn (.func 64) [] [.ptr (.own H.length 0 0 0 0) 0,.ptr (.own (H.length+1) 0 0 0 0) 0]],83,0,true⟩]:=fun q=>by
    unfold oS
    rw[List.set_append_left _ _ (by simpa using hP.lk)]
    unfold G2
    rw[List.set_set]
   simp only[hS]at key
   have htl:=tot_le hl (fun v hv=>(hr v hv).2) l.length (Nat.le_refl _)
   have key2:=key fun q i j hi hj=>⟨rfl,by
    have hxq:=hx (rowF l.length (floI l (totI l))) (q.map fun(n:Nat)=>(n:Int)) [⟨[x],36,0,true⟩,⟨[i64 (totI l)],3,0,true⟩,⟨[.fn (.func 64) [] [.ptr (.own H.length 0 0 0 0) 0,.ptr (.own (H.length+1) 0 0 0 0) 0]],83,0,true⟩]
    have hcl:ClS (G2 H a k ⟨ints (rowF l.length (floI l (totI l))),3,va,true⟩ (oN C q D T v)++[⟨[x],36,0,true⟩,⟨[i64 (totI l)],3,0,true⟩,⟨[.fn (.func 64) [] [.ptr (.own H.length 0 0 0 0) 0,.ptr (.own (H.length+1) 0 0 0 0) 0]],83,0,true⟩]) x l (totI l) H.length (H.length+1) (H.length+2) :=
     ⟨by rw[g2_n0]; rfl,by rw[g2_n]; rfl,by rw[g2_n]; rfl,by simp,by simp,by simp,hxq⟩
    exact ok66 hcl hl hr hc.1 (by unfold totI; omega) hi hj⟩
   refine call_go key2 ?_
   simp -implicitDefEqProofs[g1,g2,g3,g6,g9]
   refine⟨by omega,?_⟩
   rw[←eo]
   refine tlp38_2 (n:=l.length) (C:=C) hP ho hl (c:=(lefI l).toNat) (by omega) (F:=addL (floI l (totI l)) ((ordI l).take (lefI l).toNat)) (fun env => ?_) (lefI l).toNat 0 _ _ (by omega) hfl (by omega) rfl ?_ ?_ ?_ ?_
   · simp -implicitDefEqProofs
     exact cv_drop rfl (by simp) hcl2 rfl
   · simp[g1]
   · simp
   · simp
   · simp
 · have eo:ordI l=List.range l.length:=by unfold ordI; rw[if_neg hc]
   by_cases hc1:0<totI l
   · have hc2:¬ 0<lefI l:=fun h=>hc ⟨hc1,h⟩
     simp -implicitDefEqProofs[g1,g2,g3,g6,g9,g2_n,g2_n0,g2_sn,hc1,hc2]
     refine⟨by omega,?_⟩
     rw[←eo]
     refine tlp38_2 (n:=l.length) (C:=C) hP ho hl (c:=(lefI l).toNat) (by omega) (F:=addL (floI l (totI l)) ((ordI l).take (lefI l).toNat)) (fun env => ?_) (lefI l).toNat 0 _ _ (by omega) hfl (by omega) rfl ?_ ?_ ?_ ?_
     · simp -implicitDefEqProofs
       exact cv_drop rfl (by simp) hcl2 rfl
     · simp[g1]
     · simp
     · simp
     · simp
   · simp -implicitDefEqProofs[g1,g2,g3,g6,g9,g2_n,g2_n0,g2_sn,hc1]
     refine⟨by omega,?_⟩
     rw[←eo]
     refine tlp38_2 (n:=l.length) (C:=C) hP ho hl (c:=(lefI l).toNat) (by omega) (F:=addL (floI l (totI l)) ((ordI l).take (lefI l).toNat)) (fun env => ?_) (lefI l).toNat 0 _ _ (by omega) hfl (by omega) rfl ?_ ?_ ?_ ?_
     · simp -implicitDefEqProofs
       exact cv_drop rfl (by simp) hcl2 rfl
     · simp[g1]
     · simp
     · simp
     · simp
end
end Go.Proofs.Ytogjmpkehjfecaa.Rc
namespace Go.Proofs.Ytogjmpkehjfecaa.Rc
open Go.Ab
section
variable {H:List AO} {x y:SV} {l m:List Int}
theorem loop23 (hx:IsI H x l) (hy:IsI H y m) (hl:l.length<4611686018427387904) (hlm:l.length=m.length) {N:Nat} {K:XE->Env->List AO->Prop}
 (hret:l≠m->∀ env,env.get 4=bl false->K .ret env H) (hexit:l=m->∀ env,K (.exit 0) env H) :
 ∀ (n i:Nat) (env:Env),i+n=l.length->(∀ k (h:k<l.length),k<i->l[k]=m[k]'(by omega))->env.get 0=x->env.get 1=y->env.get 5=i64 i →
  LI Try.prog N drawB l48_0 env H K:=by
 intro n
 induction n with
 | zero =>
  intro i env hi hp h0 h1 h5
  refine li_go hm l48_0.eq_1 ?_
  have e:i=l.length:=by omega
  subst e
  simp -implicitDefEqProofs[h0,h1,h5,hx.vd,hx.ug,hx.sl,hx.len]
  exact hexit (List.ext_getElem hlm fun k h1 h2=>hp k h1 h1) _
 | succ n ih =>
  intro i env hi hp h0 h1 h5
  refine li_go hm l48_0.eq_1 ?_
  have hlt:i<l.length:=by omega
  have hlt':i<m.length:=by omega
  simp -implicitDefEqProofs[h0,h1,h5,hlt,hlt',hx.vd,hx.ug,hx.sl,hx.len,hx.v hlt,hx.ok hlt,hy.vd,hy.ug,hy.sl,hy.len,hy.v hlt',hy.ok hlt']
  by_cases hc:l[i]=m[i]
  · rw[if_pos hc]
    refine ih (i+1) _ (by omega) ?_ ?_ ?_ ?_
    rotate_left
    · simp[h0]
    · simp[h1]
    · simp[wrap_suc (show i<9223372036854775807 by omega)]
    intro k hk hki
    by_cases e:k=i
    · subst e; exact hc
    · exact hp k hk (by omega)
  · rw[if_neg hc]
    exact hret (fun e=>hc (by subst e; rfl)) _ (by simp)
theorem ok48 (hx:IsI H x l) (hy:IsI H y m) (hl:l.length<4611686018427387904):Ok Try.prog 48 [x,y] H (.ret (bl (decide (l=m)))) H:=by
 refine ok_fn hm Try.func48 c48 (by simp) fun hcl => ?_
 by_cases hlm:l.length=m.length
 · simp -implicitDefEqProofs[i48,r48,hx.vd,hx.ug,hx.sl,hx.len,hy.vd,hy.ug,hy.sl,hy.len,hlm]
   refine loop23 hx hy hl hlm (fun hne env h4 => ?_) (fun he env => ?_) l.length 0 _ (by omega) (by omega) (by simp) (by simp) (by simp)
   · simp -implicitDefEqProofs[h4,hne]
     exact cv_id
   · simp -implicitDefEqProofs[he]
     exact cv_id
 · simp -implicitDefEqProofs[i48,r48,hx.vd,hx.ug,hx.sl,hx.len,hy.vd,hy.ug,hy.sl,hy.len,show ¬ ((l.length:Int)=m.length)by omega,hlm]
   have:l≠m:=fun e=>hlm (by rw[e])
   simp[this]
   exact cv_id
theorem ok48s (hx:IsI H x l) (hy:IsI H y l) (hl:l.length<4611686018427387904):Ok Try.prog 48 [x,y] H (.ret (bl true)) H:=by simpa using ok48 hx hy hl
end
section
variable {H:List AO} {g:Gm} {x:Nd} {is:List (Int×Int)}
theorem isc (H:List AO) (l:List Int):IsI H (.slc (ints l) l.length) l:=IsI.slc H l
def Nd.big (x:Nd):Prop:=(80<x.nx.length∨80<x.ws.length)∨80<x.ps.length
instance (x:Nd):Decidable x.big:=by unfold Nd.big; infer_instance
def Gm.large (g:Gm):Prop:=(∃ x∈g.ns.take 81,x.big)∨80<g.ns.length∨80<g.is.length
instance (g:Gm):Decidable g.large:=by unfold Gm.large; infer_instance
theorem ok62:Ok Try.prog 62 [.agg g.cells] H (.ret (i64 g.formE)) H:=by
 refine ok_fn hm Try.func62 c62 (by simp) fun hcl => ?_
 simp -implicitDefEqProofs[i62,r62,Gm.cells]
 have hh:=fun H=>ok76 (H:=H) (g:=g)
 simp only[Gm.cells]at hh
 refine call_go (hh _) ?_
 unfold Gm.walked Gm.formE
 by_cases h:g.err0=0
 · simp -implicitDefEqProofs[h]
   exact cv_fz 1 hcl rfl (by simp)
 · simp -implicitDefEqProofs[h]
   exact cv_fz 1 hcl rfl (by simp)
end
end Go.Proofs.Ytogjmpkehjfecaa.Rc
namespace Go.Proofs.Ytogjmpkehjfecaa.Rc
open Go.Ab
def gi (l:List Int) (i:Nat):Int:=l.getD i 0
structure Nf (ns:List Nd) (s:W3) (i:Nat) (x:Nd):Prop where
 ch:∀ j∈x.nx,(i:Int)<j∧j<ns.length∧gi s.P j.toNat=i∧gi s.D j.toNat=gi s.D i+1
 inc:x.nx.Pairwise (· < ·)
 la:gi s.L i=match x.nx.getLast? with | none=>(i:Int) | some j=>gi s.L j.toNat
def Fr (s t:W3) (a b:Nat):Prop:=∀ i,(i<a∨b≤i)->gi t.P i=gi s.P i∧gi t.D i=gi s.D i∧gi t.L i=gi s.L i
structure Kf (ns:List Nd) (at':Nat) (dep:Int) (l:List Int) (r0 r:Nat) (s t:W3):Prop where
 nf:∀ i x,r0≤i->i<r->ns[i]? = some x->Nf ns t i x
 pf:∀ i,r0≤i->i<r->((i:Int)∈l∧gi t.P i=at')∨(∃ (p:Nat) (x:Nd),gi t.P i=p∧r0≤p∧p<i∧ns[p]? = some x∧(i:Int)∈x.nx)
 ch:∀ j∈l,(r0:Int)≤j∧j<r∧gi t.P j.toNat=at'∧gi t.D j.toNat=dep+1
 inc:l.Pairwise (· < ·)
 nil:l=[]->r=r0
 la:∀ j,l.getLast? = some j->gi t.L j.toNat=(r:Int)-1
 fr:Fr s t r0 r
structure Wf (ns:List Nd) (par dep:Int) (k r:Nat) (s t:W3):Prop where
 nf:∀ i x,k≤i->i<r->ns[i]? = some x->Nf ns t i x
 pf:∀ i,k<i->i<r->∃ (p:Nat) (x:Nd),gi t.P i=p∧k≤p∧p<i∧ns[p]? = some x∧(i:Int)∈x.nx
 p:gi t.P k=par
 d:gi t.D k=dep
 l:gi t.L k=(r:Int)-1
 fr:Fr s t k r
theorem Fr.trans {s t u:W3} {a b c d:Nat} (h:Fr s t a b) (h':Fr t u c d) (h1:a≤c) (h2:b≤d):Fr s u a d:=by
 intro i hi
 have e1:=h i (by omega)
 have e2:=h' i (by omega)
 exact⟨e2.1.trans e1.1,e2.2.1.trans e1.2.1,e2.2.2.trans e1.2.2⟩
theorem Nf.keep {ns:List Nd} {s t:W3} {i a b:Nat} {x:Nd} (h:Nf ns s i x) (hf:Fr s t a b) (hi:i<a) (hx:∀ j∈x.nx,j<a):Nf ns t i x:=by
 have hn:∀ j∈x.nx,j.toNat<a:=fun j hj=>by have:=hx j hj; have:=(h.ch j hj).1; omega
 refine⟨fun j hj => ?_,h.inc,?_⟩
 · have h1:=h.ch j hj
   have h2:=hf j.toNat (.inl (hn j hj))
   have h3:=hf i (.inl hi)
   exact⟨h1.1,h1.2.1,h2.1.trans h1.2.2.1,by rw[h2.2.1,h3.2.1]; exact h1.2.2.2⟩
 · rw[(hf i (.inl hi)).2.2,h.la]
   cases hl:x.nx.getLast? with
   | none=>rfl
   | some j=>exact(hf j.toNat (.inl (hn j (List.mem_of_getLast? hl)))).2.2.symm
theorem kids_facts {ns:List Nd} {at':Nat} {dep:Int} {w:Nat->W3->Option Nat×W3} (hok:∀ r s,s.ok ns.length->(w r s).2.ok ns.length∧∀ r',(w r s).1=some r'->r<r'∧r'≤ns.length)
 (hw:∀ r s r',s.ok ns.length->(w r s).1=some r'->Wf ns at' (dep+1) r r' s (w r s).2∧(∀ i x,r≤i->i<r'->ns[i]? = some x->∀ j∈x.nx,j<r')) :
 ∀ (l:List Int) (r0:Nat) (s:W3) (r:Nat),s.ok ns.length->(kids w l r0 s).1=some r->Kf ns at' dep l r0 r s (kids w l r0 s).2∧r0≤r∧(∀ i x,r0≤i->i<r->ns[i]? = some x->∀ j∈x.nx,j<r)
 | [],r0,s,r,hs,h=>by
  simp only[kids,Option.some.injEq]at h
  subst h
  exact⟨⟨fun i x h1 h2=>by omega,fun i h1 h2=>by omega,fun j hj=>by simp at hj,.nil,fun _=>rfl,fun j hj=>by simp at hj,fun i _=>⟨rfl,rfl,rfl⟩⟩,Nat.le_refl _,fun i x h1 h2=>by omega⟩
 | c::cs,r0,s,r,hs,h=>by
  unfold kids at h ⊢
  by_cases hc:c=r0
  · rw[if_pos hc]at h ⊢
    have hk:=hok r0 s hs
    have hf:=hw r0 s
    cases hh:w r0 s with
    | mk o s1 =>
     rw[hh]at h hk hf
     cases o with
     | none=>simp at h
     | some r1 =>
      simp only at h ⊢
      obtain⟨f1,f1b⟩:=hf r1 hs rfl
      have b1:=hk.2 r1 rfl
      obtain⟨f2,f2l,f2b⟩:=kids_facts hok hw cs r1 s1 r hk.1 h
      generalize (kids w cs r1 s1).2=t at f2
      refine⟨⟨fun i x h1 h2 hx => ?_,fun i h1 h2 => ?_,fun j hj => ?_,?_,(fun e=>by cases e),fun j hj => ?_,?_⟩,by omega,fun i x h1 h2 hx j hj => ?_⟩
      · by_cases hi:i<r1
        · exact(f1.nf i x h1 hi hx).keep f2.fr hi (f1b i x h1 hi hx)
        · exact f2.nf i x (by omega) h2 hx
      · by_cases hi:i<r1
        · by_cases he:i=r0
          · subst he
            exact .inl ⟨by rw[hc]; exact List.mem_cons_self,by rw[(f2.fr i (.inl hi)).1]; exact f1.p⟩
          · obtain⟨p,x,k1,k2,k3,k4,k5⟩:=f1.pf i (by omega) hi
            exact .inr ⟨p,x,by rw[(f2.fr i (.inl hi)).1]; exact k1,k2,k3,k4,k5⟩
        · rcases f2.pf i (by omega) h2 with ⟨k1,k2⟩ | ⟨p,x,k1,k2,k3,k4,k5⟩
          · exact .inl ⟨List.mem_cons_of_mem _ k1,k2⟩
          · exact .inr ⟨p,x,k1,by omega,k3,k4,k5⟩
      · rcases List.mem_cons.1 hj with rfl | hj
        · have e:j.toNat=r0:=by omega
          refine⟨by omega,by omega,?_,?_⟩
          · rw[e,(f2.fr r0 (.inl b1.1)).1]; exact f1.p
          · rw[e,(f2.fr r0 (.inl b1.1)).2.1]; exact f1.d
        · have:=f2.ch j hj
          exact⟨by omega,this.2.1,this.2.2⟩
      · refine .cons (fun j hj => ?_) f2.inc
        have:=(f2.ch j hj).1
        omega
      · cases cs with
        | nil =>
         simp only[List.getLast?_singleton,Option.some.injEq]at hj
         subst hj
         have hr:=f2.nil rfl
         have e:c.toNat=r0:=by omega
         rw[e,(f2.fr r0 (.inl b1.1)).2.2,f1.l,hr]
        | cons c' cs' =>
         rw[List.getLast?_cons_cons]at hj
         exact f2.la j hj
      · exact f1.fr.trans f2.fr (by omega) (by omega)
      · by_cases hi:i<r1
        · have:=f1b i x h1 hi hx j hj; omega
        · exact f2b i x (by omega) h2 hx j hj
  · rw[if_neg hc]at h
    simp at h
theorem gi_set_ne {l:List Int} {i k:Nat} {v:Int} (h:i≠k):gi (l.set k v) i=gi l i:=getD_set_ne h
theorem gi_set_eq {l:List Int} {k:Nat} {v:Int} (h:k<l.length):gi (l.set k v) k=v:=getD_set_eq h
theorem walk_facts {ns:List Nd}:∀ (f:Nat) (par dep:Int) (k:Nat) (s:W3) (r:Nat),s.ok ns.length->(walkS ns f par dep k s).1=some r →
 Wf ns par dep k r s (walkS ns f par dep k s).2∧(∀ i x,k≤i->i<r->ns[i]? = some x->∀ j∈x.nx,j<r)
 | 0,par,dep,k,s,r,hs,h=>by simp[walkS]at h
 | f+1,par,dep,k,s,r,hs,h=>by
  unfold walkS at h ⊢
  cases hk:ns[k]? with
  | none=>rw[hk]at h; simp at h
  | some x =>
   rw[hk]at h
   have hlt:=getElem?_lt hk
   have hs':W3.ok ⟨s.P.set k par,s.D.set k dep,s.L⟩ ns.length:=⟨by simpa using hs.1,by simpa using hs.2.1,hs.2.2⟩
   have hkf:=kids_facts (ns:=ns) (at':=k) (dep:=dep) (w:=walkS ns f k (dep+1)) (fun r s hs=>walkS_ok f k (dep+1) r s hs) (fun r s r' hs h=>walk_facts f k (dep+1) r s r' hs h) x.nx (k+1) ⟨s.P.set k par,s.D.set k dep,s.L⟩
   have hko:=kids_ok (n:=ns.length) (w:=walkS ns f k (dep+1)) (m:=0) (fun r s _ hs=>walkS_ok f k (dep+1) r s hs) x.nx (k+1) ⟨s.P.set k par,s.D.set k dep,s.L⟩ (by omega) (by omega) hs'
   simp only at h ⊢
   cases hh:kids (walkS ns f k (dep+1)) x.nx (k+1) ⟨s.P.set k par,s.D.set k dep,s.L⟩with
   | mk o s1 =>
    rw[hh]at h hkf hko
    cases o with
    | none=>simp at h
    | some r1 =>
     simp only[Option.some.injEq]at h
     subst h
     obtain⟨kf,kle,kb⟩:=hkf r1 hs' rfl
     have hL:s1.L.length=ns.length:=hko.1.2.2
     have hPk:gi s1.P k=par:=by rw[(kf.fr k (.inl (by omega))).1]; exact gi_set_eq (by have:=hs.1; omega)
     have hDk:gi s1.D k=dep:=by rw[(kf.fr k (.inl (by omega))).2.1]; exact gi_set_eq (by have:=hs.2.1; omega)
     have hLk:gi (s1.L.set k ((r1:Int)-1)) k=(r1:Int)-1:=gi_set_eq (by omega)
     have hLo:∀ i,i≠k->gi (s1.L.set k ((r1:Int)-1)) i=gi s1.L i:=fun i hi=>gi_set_ne hi
     have hb:∀ i y,k≤i->i<r1->ns[i]? = some y->∀ j∈y.nx,j<(r1:Int):=fun i y h1 h2 hy j hj=>by
      by_cases he:i=k
      · subst he
        rw[hk]at hy; cases hy
        exact(kf.ch j hj).2.1
      · exact kb i y (by omega) h2 hy j hj
     refine⟨⟨fun i y h1 h2 hy => ?_,fun i h1 h2 => ?_,hPk,hDk,hLk,?_⟩,hb⟩
     · by_cases he:i=k
       · subst he
         rw[hk]at hy; cases hy
         refine⟨fun j hj => ?_,kf.inc,?_⟩
         · have:=kf.ch j hj
           exact⟨by omega,by have:=this.2.1; have:=(hko.2 r1 rfl).2; omega,this.2.2.1,by rw[this.2.2.2]; show _=gi s1.D i+1; rw[hDk]⟩
         · show gi (s1.L.set i ((r1:Int)-1)) i=_
           rw[hLk]
           cases hl:x.nx.getLast? with
           | none =>
            have:x.nx=[]:=List.getLast?_eq_none_iff.1 hl
            have:=kf.nil this
            simp only; omega
           | some j =>
            have h3:=kf.ch j (List.mem_of_getLast? hl)
            show _=gi (s1.L.set i ((r1:Int)-1)) j.toNat
            rw[hLo j.toNat (by omega),kf.la j hl]
       · have hn:=kf.nf i y (by omega) h2 hy
         refine⟨hn.ch,hn.inc,?_⟩
         show gi (s1.L.set k ((r1:Int)-1)) i=_
         rw[hLo i he,hn.la]
         cases hl:y.nx.getLast? with
         | none=>rfl
         | some j =>
          have h3:=hn.ch j (List.mem_of_getLast? hl)
          show _=gi (s1.L.set k ((r1:Int)-1)) j.toNat
          rw[hLo j.toNat (by omega)]
     · rcases kf.pf i (by omega) h2 with ⟨k1,k2⟩ | ⟨p,y,k1,k2,k3,k4,k5⟩
       · exact⟨k,x,k2,Nat.le_refl _,h1,hk,k1⟩
       · exact⟨p,y,k1,by omega,k3,k4,k5⟩
     · intro i hi
       have h3:=kf.fr i (by omega)
       refine⟨?_,?_,?_⟩
       · show gi s1.P i=_; rw[h3.1]; exact gi_set_ne (by omega)
       · show gi s1.D i=_; rw[h3.2.1]; exact gi_set_ne (by omega)
       · show gi (s1.L.set k ((r1:Int)-1)) i=_; rw[hLo i (by omega)]; exact h3.2.2
end Go.Proofs.Ytogjmpkehjfecaa.Rc
namespace Go.Proofs.Ytogjmpkehjfecaa.Rc
open Go.Ab
section
variable {H:List AO} {g:Gm}
def Gm.out (g:Gm) (z v:SV):SV:=if g.formE=0 then .tup [v,i64 0]else .tup [z,i64 g.formE]
theorem walked_err (h:g.formE≠0):∃ p,g.walked=.tup [p,i64 g.formE]∧p.under 0=true:=by
 unfold Gm.walked Gm.formE at *
 by_cases h0:g.err0=0
 · have h1:¬ g.err0≠0:=by simpa using h0
   rw[if_neg h1]at h ⊢
   rw[if_neg h1]
   exact⟨_,rfl,by simp[Gm.wp,sl,SV.underL,nds_under,infs_under]⟩
 · have h1:g.err0≠0:=h0
   rw[if_pos h1,if_pos h1]
   exact⟨_,rfl,rfl⟩
theorem walked_ok (h:g.formE=0):g.walked=.tup [g.wp,i64 0]:=by
 unfold Gm.walked Gm.formE at *
 by_cases h0:g.err0=0
 · have h1:¬ g.err0≠0:=by simpa using h0
   rw[if_neg h1]at h ⊢
   rw[h]
 · have h1:g.err0≠0:=h0
   rw[if_pos h1]at h
   exact(h0 h).elim
end
end Go.Proofs.Ytogjmpkehjfecaa.Rc
namespace Go.Proofs.Ytogjmpkehjfecaa.Rc
open Go.Ab
structure Wg (g:Gm):Prop where
 gd:Gd g
 wk:g.wk.1=some g.ns.length
 mx:maxL g.wk.2.D≤40
 se:g.setsE=0
theorem nodesE_zero {g:Gm}:∀ {l:List Nd},nodesE g l=0->∀ x∈l,x.err g=0
 | [],_,x,hx=>by simp at hx
 | y::r,h,x,hx=>by
  unfold nodesE at h
  by_cases hy:y.err g=0
  · rw[if_pos hy]at h
    rcases List.mem_cons.1 hx with rfl | hx
    · exact hy
    · exact nodesE_zero h x hx
  · rw[if_neg hy]at h
    exact(hy h).elim
theorem wg_of {g:Gm} (h:g.formE=0):Wg g:=by
 unfold Gm.formE at h
 by_cases h0:g.err0=0
 · have h1:¬ g.err0≠0:=by simpa using h0
   rw[if_neg h1]at h
   unfold Gm.err0 at h0
   by_cases hr:g.rng
   · rw[if_pos hr]at h0; cases h0
   · rw[if_neg hr]at h0
     by_cases hn:nodesE g g.ns=0
     · have hn':¬ nodesE g g.ns≠0:=by simpa using hn
       rw[if_neg hn']at h0
       by_cases hw:g.wk.1=some g.ns.length
       · have hw':¬ g.wk.1≠some g.ns.length:=by simpa using hw
         rw[if_neg hw']at h0
         by_cases hm:40<maxL g.wk.2.D
         · rw[if_pos hm]at h0; cases h0
         · unfold Gm.rng at hr
           exact⟨⟨by omega,by omega,by omega,by omega,by omega,nodesE_zero hn⟩,hw,by omega,h⟩
       · have hw':g.wk.1≠some g.ns.length:=hw
         rw[if_pos hw']at h0; cases h0
     · have hn':nodesE g g.ns≠0:=hn
       rw[if_pos hn']at h0; exact(hn h0).elim
 · have h1:g.err0≠0:=h0
   rw[if_pos h1]at h
   exact(h0 h).elim
section
variable {H:List AO} {g:Gm}
set_option maxRecDepth 10000 in
theorem loop47 (hg:Gd g) {N:Nat} {K:XE->Env->List AO->Prop}
 (hexit:∀ env M cs,Fam (H.length+1) M g.sets cs->env.get 3=.own H.length 0 g.is.length 1 0->K (.exit 0) env (H++⟨cs,36,0,true⟩::M)) :
 ∀ (n i:Nat) (env:Env) (M:List AO) (A:List (List Int)) (cs:List SV),i+n=g.ns.length->A.length=g.is.length->(∀ s (h:s<A.length),A[s].length≤i)->Fam (H.length+1) M A cs->setsA (g.ns.drop i) i A=g.sets →
  env.get 3=.own H.length 0 g.is.length 1 0->env.get 17=.slc (nds g.ns) g.ns.length->env.get 18=i64 g.ns.length->env.get 19=i64 i →
  LI Try.prog N drawB l79_0 env (H++⟨cs,36,0,true⟩::M) K:=by
 have hgn:=hg.n
 intro n
 induction n with
 | zero =>
  intro i env M A cs hi hA hAl hF hS h3 h17 h18 h19
  refine li_go hm l79_0.eq_1 ?_
  have e:i=g.ns.length:=by omega
  subst e
  rw[List.drop_length]at hS
  subst hS
  simp -implicitDefEqProofs[h18,h19]
  exact hexit _ _ _ hF (by simp[h3])
 | succ n ih =>
  intro i env M A cs hi hA hAl hF hS h3 h17 h18 h19
  refine li_go hm l79_0.eq_1 ?_
  have hlt:i<g.ns.length:=by omega
  have hx:g.ns[i]∈g.ns:=List.getElem_mem hlt
  have w1:IntKind.i64.wrap ((i:Int)+1)=((i+1:Nat):Int):=wrap_succ (by omega)
  rw[List.drop_eq_getElem_cons hlt,setsA]at hS
  by_cases hk:g.ns[i].k=2
  · have hb:=hg.inf hx hk
    have hs:g.ns[i].i.toNat<A.length:=by omega
    have hcl:=hF.len
    rw[if_pos hk,List.getD_eq_getElem?_getD,List.getElem?_eq_getElem hs,Option.getD_some]at hS
    have eset:∀ v:SV,List.take g.ns[i].i.toNat cs++v::List.drop (g.ns[i].i.toNat+1) cs=cs.set g.ns[i].i.toNat v:=fun v=>by
     rw[List.set_eq_take_append_cons_drop,if_pos (by omega)]
    have hAl':∀ v:List Int,v.length≤i+1->∀ s (h:s<(A.set g.ns[i].i.toNat v).length),(A.set g.ns[i].i.toNat v)[s].length≤i+1:=fun v hv s h=>by
     by_cases e:g.ns[i].i.toNat=s
     · subst e; simpa using hv
     · rw[List.getElem_set_ne e]
       have:=hAl s (by simpa using h); omega
    rcases hF.at' _ hs with ⟨k1,k2⟩ | ⟨k1,p,k2,k3⟩
    · simp -implicitDefEqProofs[h3,h17,h18,h19,hlt,nds_at hlt,nds_min hlt,nds_ge hlt,hk,sl,k2]
      refine⟨by omega,by omega,by omega,by omega,?_⟩
      have hF':∀ x y:AO,Fam (H.length+1) (M++[x,y,⟨[i64 i],3,1,true⟩]) (A.set g.ns[i].i.toNat [(i:Int)]) (cs.set g.ns[i].i.toNat (.own (H.length+(M.length+3)) 0 1 1 1)):=fun x y=>by
       have:=(hF.mono [x,y]).new (i:=(i:Int)) hs k1
       rw[show H.length+1+(M++[x,y]).length=H.length+(M.length+3)by simp; omega]at this
       simpa[ints]using this
      rw[k1,List.nil_append]at hS
      rw[eset,w1]
      refine ih (i+1) _ _ _ _ (by omega) (by simp[hA]) (hAl' _ (by simp)) (hF' _ _) hS ?_ ?_ ?_ ?_
      · simp
      · simp
      · simp
      · simp
    · rw[show H.length+1+p=H.length+(p+1)by omega]at k2
      have hp:=getElem?_lt k3
      have hle:=hAl _ hs
      simp -implicitDefEqProofs[h3,h17,h18,h19,hlt,nds_at hlt,nds_min hlt,nds_ge hlt,hk,sl,k2,setObj_old k3,objCells_set0,objCells_setk,objIs_old k3]
      refine⟨by omega,by omega,by omega,by omega,by omega,by omega,?_⟩
      have hF':∀ x y:AO,Fam (H.length+1) (M.set p ⟨ints A[g.ns[i].i.toNat]++[i64 i],3,A[g.ns[i].i.toNat].length+1,true⟩++[x,y]) (A.set g.ns[i].i.toNat (A[g.ns[i].i.toNat]++[(i:Int)]))
       (cs.set g.ns[i].i.toNat (.own (H.length+(p+1)) 0 (A[g.ns[i].i.toNat].length+1) 1 (A[g.ns[i].i.toNat].length+1))):=fun x y=>by
       rw[show H.length+(p+1)=H.length+1+p by omega]at k2 ⊢
       have:=(hF.grow (i:=(i:Int)) hs k2 k3).mono [x,y]
       simpa[ints]using this
      rw[eset,w1]
      refine ih (i+1) _ _ _ _ (by omega) (by simp[hA]) (hAl' _ (by simp; omega)) (hF' _ _) hS ?_ ?_ ?_ ?_
      · simp
      · simp
      · simp
      · simp
  · simp -implicitDefEqProofs[h3,h17,h18,h19,hlt,nds_at hlt,nds_min hlt,nds_ge hlt,hk,sl]
    rw[if_neg hk]at hS
    rw[w1]
    refine ih (i+1) _ _ A cs (by omega) hA (fun s h=>by have:=hAl s h; omega) (hF.mono _) hS ?_ ?_ ?_ ?_
    · simp
    · simp
    · simp
    · simp
def Gm.setsV (g:Gm):SV:=.slc (g.sets.map slN) g.is.length
set_option maxRecDepth 10000 in
theorem ok79 (hg:Gd g):Ok Try.prog 79 [g.wp] H (.ret g.setsV) H:=by
 have hn:=hg.n
 have hi:=hg.i
 refine ok_fn hm Try.func79 c79 (by simp) fun hcl => ?_
 simp -implicitDefEqProofs[i79,r79,Gm.wp,sl]
 refine⟨by omega,by omega,?_⟩
 refine loop47 (g:=g) hg (fun env M cs hF h3 => ?_) g.ns.length 0 _ [] (List.replicate g.is.length []) (List.replicate g.is.length nl) (by omega) (by simp) (by simp) (Fam.zero _ _ _) (by simp[Gm.sets]) (by simp) (by simp) (by simp) (by simp)
 simp -implicitDefEqProofs[h3]
 refine cv_fz 4 hcl rfl ?_
 have hl:=hF.len
 rw[sets_len]at hl
 have:=hF.fz (n:=H.length) (k:=1) (d:=1) (F:=(⟨cs,36,0,true⟩:AO)::M) rfl (fun p=>by rw[show 1+p=p+1 by omega]; simp)
 simp[hl,this,Gm.setsV]
 exact List.take_of_length_le (by simp[sets_len])
end
end Go.Proofs.Ytogjmpkehjfecaa.Rc
namespace Go.Proofs.Ytogjmpkehjfecaa.Rc
open Go.Ab
structure WF (g:Gm):Prop where
 len:g.wk.2.ok g.ns.length
 nf:∀ i (h:i<g.ns.length),Nf g.ns g.wk.2 i g.ns[i]
 pf:∀ i,0<i->i<g.ns.length->∃ p,∃ h:p<g.ns.length,gi g.wk.2.P i=p∧p<i∧(i:Int)∈g.ns[p].nx
 p0:gi g.wk.2.P 0 = -1
 d0:gi g.wk.2.D 0=0
theorem Wg.wf {g:Gm} (h:Wg g):WF g:=by
 have hok:=walkS_ok (ns:=g.ns) (g.ns.length+1) (-1) 0 0 g.w0 w0_ok
 obtain⟨hf,_⟩:=walk_facts (ns:=g.ns) (g.ns.length+1) (-1) 0 0 g.w0 g.ns.length w0_ok h.wk
 refine⟨hok.1,fun i hi=>hf.nf i _ (by omega) hi (List.getElem?_eq_getElem hi),fun i h0 hi => ?_,hf.p,hf.d⟩
 obtain⟨p,x,k1,k2,k3,k4,k5⟩:=hf.pf i h0 hi
 have hp:p<g.ns.length:=by omega
 rw[List.getElem?_eq_getElem hp]at k4
 cases k4
 exact⟨p,hp,k1,k3,k5⟩
theorem gi_get {l:List Int} {i:Nat} (h:i<l.length):l[i]=gi l i:=by simp[gi,h]
theorem wk_len {g:Gm}:g.wk.2.ok g.ns.length:=(walkS_ok (ns:=g.ns) (g.ns.length+1) (-1) 0 0 g.w0 w0_ok).1
section
variable {H:List AO} {g:Gm}
def Gm.last (g:Gm) (node:Int):Int×Int:=if g.formE≠0 then(0,g.formE)else if node<0∨g.ns.length≤node then(0,2)else(gi g.wk.2.L node.toNat,0)
end
end Go.Proofs.Ytogjmpkehjfecaa.Rc
namespace Go.Proofs.Ytogjmpkehjfecaa.Rc
open Go.Ab
end Go.Proofs.Ytogjmpkehjfecaa.Rc
namespace Go.Proofs.Ytogjmpkehjfecaa.Rc
open Go.Ab
section
variable {σ:Type}
def abv (g:Gm) (pl:Int) (nb:σ->Nat->Int->Bool) (nx:σ->Nat->Int->σ):Nat->Nat->σ->σ
 | 0,_,s=>s
 | f+1,node,s =>
  if gi g.wk.2.P node<0 then s else
   match g.ns[(gi g.wk.2.P node).toNat]? with
   | none=>s
   | some x =>
    if x.k=2∧x.p=pl then
     (if nb s (gi g.wk.2.P node).toNat (fstAt node x.nx)=true then abv g pl nb nx f (gi g.wk.2.P node).toNat (nx s (gi g.wk.2.P node).toNat (fstAt node x.nx))else nx s (gi g.wk.2.P node).toNat (fstAt node x.nx))
    else abv g pl nb nx f (gi g.wk.2.P node).toNat s
variable {g:Gm} {Inv:Nat->List AO->σ->Prop} {vf:SV} {nb:σ->Nat->Int->Bool} {nx:σ->Nat->Int->σ} {pl:Int}
set_option maxRecDepth 10000 in
theorem loop67 (hW:Wg g) (hv:vf.vd=true∧vf.ug=vf) (hclo:∀ m G s (k:Nat) (a:Int),k<m->m<g.ns.length->Inv m G s->OkCP Try.prog vf [i64 k,i64 a] G fun out G'=>out=.ret (bl (nb s k a))∧Inv k G' (nx s k a))
 (hbox:∀ m G s o,Inv m G s->Inv m (G++[o]) s) (hdec:∀ m k G s,k<m->Inv m G s->Inv k G s) {N:Nat} {K:XE->Env->List AO->Prop} {s0:σ}
 (hret:∀ env m G,Inv m G s0->K .ret env G) (hexit:∀ env m G,Inv m G s0->K (.exit 0) env G) :
 ∀ (f node:Nat) (env:Env) (G:List AO) (s:σ),node<f->node<g.ns.length->Inv node G s->abv g pl nb nx f node s=s0 →
  env.get 0=g.wp->env.get 1=i64 node->env.get 2=i64 pl->env.get 3=vf->env.get 8=i64 (gi g.wk.2.P node)->LI Try.prog N drawB l95_0 env G K:=by
 have hf:=hW.wf
 have hgn:=hW.gd.n
 have hlen:g.wk.2.P.length=g.ns.length:=wk_len.1
 intro f
 induction f with
 | zero=>intro node env G s h; omega
 | succ f ih =>
  intro node env G s hnf hn hI hs e0 e1 e2 e3 e8
  refine li_go hm l95_0.eq_1 ?_
  unfold abv at hs
  by_cases hneg:gi g.wk.2.P node<0
  · rw[if_pos hneg]at hs
    subst hs
    simp -implicitDefEqProofs[e8,show ¬ 0≤gi g.wk.2.P node by omega]
    exact hexit _ _ _ hI
  · rw[if_neg hneg]at hs
    have hn0:0<node:=by
     rcases Nat.eq_zero_or_pos node with h | h
     · subst h; rw[hf.p0]at hneg; omega
     · exact h
    obtain⟨p,hp,k1,k2,k3⟩:=hf.pf node hn0 hn
    have k1':(gi g.wk.2.P node).toNat=p:=by omega
    rw[k1',List.getElem?_eq_getElem hp]at hs
    simp only at hs
    rw[k1]at e8
    have hnx:g.ns[p].nx.length≤60:=nx_of (hW.gd.e _ (List.getElem_mem hp))
    by_cases hm':g.ns[p].k=2∧g.ns[p].p=pl
    · rw[if_pos hm']at hs
      simp -implicitDefEqProofs[e0,e1,e2,e3,e8,Gm.wp,hp,nds_at hp,nds_min hp,nds_ge hp,sl,hm'.1,hm'.2,hv.1,hv.2]
      refine callq_st (fun _=>ok110 (IsI.slc _ _) (by omega) (node:Int)) ?_
      simp -implicitDefEqProofs
      refine call_gd (hclo node _ s p (fstAt node g.ns[p].nx) k2 hn (hbox _ _ _ _ hI)) (fun out G' hP => ?_)
      obtain⟨rfl,hI'⟩:=hP
      cases hb:nb s p (fstAt node g.ns[p].nx)with
      | true =>
       rw[hb,if_pos rfl]at hs
       simp -implicitDefEqProofs[e0,e8,Gm.wp,hp,hlen,sl]
       refine⟨by omega,?_⟩
       rw[gi_get (show p<g.wk.2.P.length by omega)]
       refine ih p _ _ _ (by omega) hp hI' hs ?_ ?_ ?_ ?_ ?_
       · simp[Gm.wp,sl,hlen]
       · simp
       · simp[e2]
       · simp[e3]
       · simp
      | false =>
       rw[hb,if_neg (by simp)]at hs
       subst hs
       simp -implicitDefEqProofs
       exact hret _ _ _ hI'
    · rw[if_neg hm']at hs
      by_cases hk2:g.ns[p].k=2
      · have hpl:¬ g.ns[p].p=pl:=fun h=>hm' ⟨hk2,h⟩
        simp -implicitDefEqProofs[e0,e1,e2,e3,e8,Gm.wp,hp,nds_at hp,nds_min hp,nds_ge hp,sl,hk2,hpl,hv.1,hv.2]
        refine callq_off _ _ _ _ ?_
        simp -implicitDefEqProofs[e0,e8,Gm.wp,hp,hlen,sl]
        refine⟨by omega,?_⟩
        rw[gi_get (show p<g.wk.2.P.length by omega)]
        refine ih p _ _ _ (by omega) hp (hdec _ _ _ _ k2 (hbox _ _ _ _ hI)) hs ?_ ?_ ?_ ?_ ?_
        · simp[Gm.wp,sl,hlen]
        · simp
        · simp[e2]
        · simp[e3]
        · simp
      · simp -implicitDefEqProofs[e0,e1,e2,e3,e8,Gm.wp,hp,nds_at hp,nds_min hp,nds_ge hp,sl,hk2,hv.1,hv.2]
        refine callq_off _ _ _ _ ?_
        simp -implicitDefEqProofs[e0,e8,Gm.wp,hp,hlen,sl]
        refine⟨by omega,?_⟩
        rw[gi_get (show p<g.wk.2.P.length by omega)]
        refine ih p _ _ _ (by omega) hp (hdec _ _ _ _ k2 (hbox _ _ _ _ hI)) hs ?_ ?_ ?_ ?_ ?_
        · simp[Gm.wp,sl,hlen]
        · simp
        · simp[e2]
        · simp[e3]
        · simp
theorem ok95 (hW:Wg g) (hv:vf.vd=true∧vf.ug=vf) (hclo:∀ m G s (k:Nat) (a:Int),k<m->m<g.ns.length->Inv m G s->OkCP Try.prog vf [i64 k,i64 a] G fun out G'=>out=.ret (bl (nb s k a))∧Inv k G' (nx s k a))
 (hbox:∀ m G s o,Inv m G s->Inv m (G++[o]) s) (hdec:∀ m k G s,k<m->Inv m G s->Inv k G s) {G:List AO} {s:σ} {node:Nat} (hn:node<g.ns.length) (hI:Inv node G s) :
 OkP Try.prog 95 [g.wp,i64 node,i64 pl,vf] G fun out G'=>out=.ret (.tup [])∧∃ m,Inv m G' (abv g pl nb nx g.ns.length node s):=by
 have hlen:g.wk.2.P.length=g.ns.length:=wk_len.1
 refine okP_fn hm Try.func95 c95 (by simp) fun hcl => ?_
 simp -implicitDefEqProofs[i95,r95,Gm.wp,sl,hn,hlen]
 refine⟨by omega,?_⟩
 rw[gi_get (show node<g.wk.2.P.length by omega)]
 refine loop67 (g:=g) hW hv hclo hbox hdec (s0:=abv g pl nb nx g.ns.length node s) (pl:=pl) (fun env m G' hI' => ?_) (fun env m G' hI' => ?_) g.ns.length node _ _ s hn hn hI rfl (by simp[Gm.wp,sl,hlen]) (by simp) (by simp) (by simp) (by simp)
 · simp -implicitDefEqProofs
   exact⟨_,_,⟨rfl,m,hI'⟩,cv_id⟩
 · simp -implicitDefEqProofs
   exact⟨_,_,⟨rfl,m,hI'⟩,cv_id⟩
end
end Go.Proofs.Ytogjmpkehjfecaa.Rc
namespace Go.Proofs.Ytogjmpkehjfecaa.Rc
open Go.Ab
def WayI (g:Gm) (H:List AO) (m:Nat) (G:List AO) (l:List (Int×Int)):Prop :=
 l.length+m≤2000∧∃ L c,G=H++⟨[g.wp],123,0,true⟩::⟨[c],142,0,true⟩::L ∧
  ((l=[]∧c=nl)∨(l≠[]∧∃ p,c=.own (H.length+(p+1+1)) 0 l.length 2 l.length∧L[p]? = some ⟨infs l,146,l.length,true⟩))
theorem infs_snoc:∀ (l:List (Int×Int)) (x:Int×Int),infs (l++[x])=infs l++[i64 x.1,i64 x.2]
 | [],x=>rfl
 | y::r,x=>by simp[infs,infs_snoc r x]
def infoAt (g:Gm) (k:Nat):Int:=match g.ns[k]? with | some x=>x.i | none=>0
section
variable {H:List AO} {g:Gm}
theorem nds_g2 {l:List Nd} {k:Nat} (h:k<l.length):(nds l)[k*6+2]? = some (i64 l[k].i):=by rw[nds_get h (by omega)]; rfl
set_option maxRecDepth 10000 in
theorem ok108 {m:Nat} {G:List AO} {l:List (Int×Int)} (hI:WayI g H m G l) {k:Nat} (hk:k<g.ns.length) (hkm:k<m) (hn:g.ns.length≤2000) (a:Int) :
 OkP Try.prog 108 [i64 k,i64 a,.ptr (.own (H.length+1) 0 0 0 0) 0,.ptr (.own H.length 0 0 0 0) 0] G fun out G'=>out=.ret (bl true)∧WayI g H k G' (l++[(infoAt g k,a)]):=by
 have hinf:infoAt g k=g.ns[k].i:=by unfold infoAt; rw[List.getElem?_eq_getElem hk]
 rw[hinf]
 obtain⟨hb,L,c,rfl,hc⟩:=hI
 refine okP_fn hm Try.func108 c108 (by simp) fun hcl => ?_
 rcases hc with ⟨rfl,rfl⟩ | ⟨hne,p,rfl,hp⟩
 · simp -implicitDefEqProofs[i108,r108,Gm.wp,sl,hk,nds_g2 hk,nds_len]
   refine⟨by omega,_,_,⟨rfl,by simp at hb ⊢; omega,L++[_,_],_,rfl,.inr ⟨by simp,L.length+1,rfl,?_⟩⟩,cv_id⟩
   rw[List.getElem?_append_right (by omega)]; simp[infs]
 · simp -implicitDefEqProofs[i108,r108,Gm.wp,sl,hk,nds_g2 hk,nds_len,setObj_old hp,objIs_old hp,objCells_set0,objCells_setk,len_addn]
   refine⟨by omega,by omega,by omega,by rw[infs_len]; omega,by omega,_,_,⟨rfl,by simp; omega,L.set p _++[_],_,rfl,.inr ⟨by simp,p,by simp,?_⟩⟩,cv_id⟩
   rw[List.getElem?_append_left (by simpa using getElem?_lt hp),List.getElem?_set_self (getElem?_lt hp)]
   simp[infs_snoc]
def prow (l:List (Int×Int)) (v:Nat):AO:=⟨infs l,146,v,true⟩
theorem infs_set:∀ (l:List (Int×Int)) (i:Nat) (a b:Int),i<l.length->(infs l).take (i*2)++i64 a::i64 b::(infs l).drop (i*2+2)=infs (l.set i (a,b))
 | [],i,a,b,h=>by simp at h
 | x::r,0,a,b,h=>by simp[infs]
 | x::r,i+1,a,b,h=>by
  rw[show(i+1)*2=i*2+2 by omega]
  simp only[infs,List.take_succ_cons,List.drop_succ_cons,List.set_cons_succ,List.cons_append]
  rw[infs_set r i a b (by simpa using h)]
def Rv (l m:List (Int×Int)) (i:Nat):Prop:=m.length=l.length∧∀ t,t<l.length->m[t]? = if t<i∨l.length-1-i<t then l[l.length-1-t]? else l[t]?
theorem Rv.step {l m:List (Int×Int)} {i:Nat} (h:Rv l m i) (hi:i<l.length-1-i) {x y:Int×Int} (hx:m[l.length-1-i]? = some x) (hy:m[i]? = some y):Rv l ((m.set i x).set (l.length-1-i) y) (i+1):=by
 have hlm:=h.1
 refine⟨by simpa using h.1,fun t ht => ?_⟩
 have hx':=h.2 (l.length-1-i) (by omega)
 have hy':=h.2 i (by omega)
 rw[if_neg (by omega)]at hx' hy'
 rw[hx]at hx'
 rw[hy]at hy'
 by_cases e1:t=l.length-1-i
 · subst e1
   rw[List.getElem?_set_self (by simp; omega),if_pos (by omega),hy']
   congr 1; omega
 · rw[List.getElem?_set_ne (fun h=>e1 h.symm)]
   by_cases e2:t=i
   · subst e2
     rw[List.getElem?_set_self (by omega),if_pos (by omega),hx']
   · rw[List.getElem?_set_ne (fun h=>e2 h.symm),h.2 t ht]
     by_cases hc:t<i∨l.length-1-i<t
     · rw[if_pos hc,if_pos (by omega)]
     · rw[if_neg hc,if_neg (by omega)]
theorem Rv.done {l m:List (Int×Int)} {i:Nat} (h:Rv l m i) (hi:¬ (i:Int)<(l.length:Int)-1-i):m=l.reverse:=by
 have hlm:=h.1
 apply List.ext_getElem?
 intro t
 by_cases ht:t<l.length
 · rw[h.2 t ht,List.getElem?_reverse ht]
   by_cases hc:t<i∨l.length-1-i<t
   · rw[if_pos hc]
   · rw[if_neg hc]
     congr 1; omega
 · rw[List.getElem?_eq_none (by omega),List.getElem?_eq_none (by simp; omega)]
theorem setObj_set {G:List AO} {q:Nat} (hq:q<G.length) (o:AO) (f:AO->AO):Ab.setObj (G.set q o) q f=G.set q (f o):=by
 rw[setObj_some (o:=o) (List.getElem?_set_self hq),List.set_set]
theorem objCells_set {G:List AO} {q:Nat} (hq:q<G.length) (l:List (Int×Int)) (v:Nat):objCells (G.set q (prow l v)) q v=infs l :=
 objCells_of (o:=prow l v) (List.getElem?_set_self hq) rfl
set_option maxRecDepth 10000 in
theorem loop71 {G:List AO} {q v:Nat} (hq:q<G.length) {l:List (Int×Int)} (hl:l.length≤2000) {N:Nat} {K:XE->Env->List AO->Prop} (hexit:∀ env,K (.exit 0) env (G.set q (prow l.reverse v))) :
 ∀ (n i:Nat) (m:List (Int×Int)) (env:Env),l.length≤i+n->i≤l.length->Rv l m i->env.get 0=.own q 0 l.length 2 v->env.get 2=i64 i->env.get 3=i64 ((l.length:Int)-1-i) →
  LI Try.prog N drawB l109_0 env (G.set q (prow m v)) K:=by
 intro n
 induction n with
 | zero =>
  intro i m env hn hi hR e0 e2 e3
  refine li_go hm l109_0.eq_1 ?_
  have hno:¬ (i:Int)<(l.length:Int)-1-i:=by omega
  simp -implicitDefEqProofs[e0,e2,e3,hno]
  rw[hR.done hno]
  exact hexit _
 | succ n ih =>
  intro i m env hn hi hR e0 e2 e3
  refine li_go hm l109_0.eq_1 ?_
  by_cases hlt:(i:Int)<(l.length:Int)-1-i
  · have hlm:=hR.1
    have ej:(l.length:Int)-1-i=((l.length-1-i:Nat):Int):=by omega
    have hj:l.length-1-i<m.length:=by omega
    have hi':i<m.length:=by omega
    have w1:IntKind.i64.wrap ((i:Int)+1)=((i+1:Nat):Int):=wrap_succ (by omega)
    have w2:IntKind.i64.wrap (((l.length-1-i:Nat):Int)-1)=(l.length:Int)-1-((i+1:Nat):Int):=by rw[wrap_id (by omega) (by omega)]; omega
    rw[ej]at e3 hlt
    have hlt':i<l.length-1-i:=by omega
    simp -implicitDefEqProofs[e0,e2,e3,hlt,hlt',objCells_set hq,infs_at hj,infs_at hi',infs_len,show i<l.length by omega,show l.length-1-i<l.length by omega,setObj_set hq]
    have c1:List.take (i*2) (prow m v).cells++i64 m[l.length-1-i].1::i64 m[l.length-1-i].2::List.drop (i*2+2) (prow m v).cells=infs (m.set i m[l.length-1-i]):=infs_set m i _ _ hi'
    rw[c1]
    have c2:List.take ((l.length-1-i)*2) (infs (m.set i m[l.length-1-i]))++i64 m[i].1::i64 m[i].2::List.drop ((l.length-1-i)*2+2) (infs (m.set i m[l.length-1-i]))=infs ((m.set i m[l.length-1-i]).set (l.length-1-i) m[i]) :=
     infs_set _ _ _ _ (by simpa using hj)
    rw[c2,w1,w2]
    have c3:objCells (G.set q (prow (m.set i m[l.length-1-i]) v)) q v=infs (m.set i m[l.length-1-i]):=objCells_set hq _ v
    refine⟨by omega,?_,?_⟩
    · show _≤(objCells (G.set q (prow (m.set i m[l.length-1-i]) v)) q v).length
      rw[c3,infs_len,List.length_set]; omega
    · refine ih (i+1) ((m.set i m[l.length-1-i]).set (l.length-1-i) m[i]) _ (by omega) (by omega) (hR.step hlt' (List.getElem?_eq_getElem hj) (List.getElem?_eq_getElem hi')) ?_ ?_ ?_
      · simp
      · simp
      · simp
  · simp -implicitDefEqProofs[e0,e2,e3,hlt]
    rw[hR.done hlt]
    exact hexit _
theorem ok109 {G:List AO} {q v:Nat} (hq:q<G.length) {l:List (Int×Int)} (hl:l.length≤2000):Ok Try.prog 109 [.own q 0 l.length 2 v] (G.set q (prow l v)) (.ret (.tup [])) (G.set q (prow l.reverse v)):=by
 refine ok_fn hm Try.func109 c109 (by simp) fun hcl => ?_
 have w1:IntKind.i64.wrap ((l.length:Int)-1)=(l.length:Int)-1-((0:Nat):Int):=by rw[wrap_id (by omega) (by omega)]; omega
 simp -implicitDefEqProofs[i109,r109]
 rw[w1]
 refine loop71 hq hl (fun env => ?_) l.length 0 l _ (by omega) (by omega) ⟨rfl,fun t ht=>by rw[if_neg (by omega)]⟩ (by simp) (by simp) (by simp)
 simp -implicitDefEqProofs
 exact cv_id
theorem ok109n {G:List AO}:Ok Try.prog 109 [nl] G (.ret (.tup [])) G:=by
 refine ok_fn hm Try.func109 c109 (by simp) fun hcl => ?_
 simp -implicitDefEqProofs[i109,r109,show(SV.val (Value.slice none 0 0)).isSl=true by rfl,show(SV.val (Value.slice none 0 0)).slen=0 by rfl,show IntKind.i64.wrap (-1) = -1 by rfl]
 refine li_go hm l109_0.eq_1 ?_
 simp -implicitDefEqProofs
 exact cv_id
end
end Go.Proofs.Ytogjmpkehjfecaa.Rc
namespace Go.Proofs.Ytogjmpkehjfecaa.Rc
open Go.Ab
def wv (l:List (Int×Int)):SV:=if l=[]then nl else .slc (infs l) l.length
def Gm.up (g:Gm) (node:Nat) (pl:Int):List (Int×Int):=abv g pl (fun _ _ _=>true) (fun l k a=>l++[(infoAt g k,a)]) g.ns.length node []
def Gm.way (g:Gm) (node:Nat) (pl:Int):List (Int×Int):=(g.up node pl).reverse
section
variable {H:List AO} {g:Gm}
set_option maxRecDepth 10000 in
theorem ok94 (hW:Wg g) {node:Nat} (hn:node<g.ns.length) (pl:Int):Ok Try.prog 94 [g.wp,i64 node,i64 pl] H (.ret (wv (g.way node pl))) H:=by
 have hgn:=hW.gd.n
 refine ok_fn hm Try.func94 c94 (by simp) fun hcl => ?_
 have hwp:g.wp.vd=true∧g.wp.ug=g.wp∧g.wp.flat=[g.wp]∧g.wp.isCell=true:=⟨rfl,rfl,rfl,rfl⟩
 simp -implicitDefEqProofs[i94,r94,hwp.1,hwp.2.1,hwp.2.2.1,hwp.2.2.2]
 have h67:=ok95 (g:=g) (σ:=List (Int×Int)) (Inv:=WayI g H) (vf:=.fn (.func 108) [] [.ptr (.own (H.length+1) 0 0 0 0) 0,.ptr (.own H.length 0 0 0 0) 0]) (nb:=fun _ _ _=>true) (nx:=fun l k a=>l++[(infoAt g k,a)]) (pl:=pl) hW ⟨rfl,rfl⟩
  (fun m G s k a hkm hm' hI=>okCP_of (by simpa using ok108 hI (by omega) hkm hgn a))
  (fun m G s o hI=>by
   obtain⟨hb,L,c,rfl,hc⟩:=hI
   refine⟨hb,L++[o],c,by simp,?_⟩
   rcases hc with h | ⟨h1,p,h2,h3⟩
   · exact .inl h
   · exact .inr ⟨h1,p,h2,by rw[List.getElem?_append_left (getElem?_lt h3)]; exact h3⟩)
  (fun m k G s hkm hI=>⟨by have:=hI.1; omega,hI.2⟩) (G:=H++[⟨[g.wp],123,0,true⟩,⟨[nl],142,0,true⟩]) (s:=[]) (node:=node) hn ⟨by simp; omega,[],nl,rfl,.inl ⟨rfl,rfl⟩⟩
 refine call_goP h67 (fun out G' hP => ?_)
 obtain⟨rfl,m,hb,L,c,rfl,hc⟩:=hP
 have hup:abv g pl (fun _ _ _=>true) (fun l k a=>l++[(infoAt g k,a)]) g.ns.length node []=g.up node pl:=rfl
 rw[hup]at hb hc
 rcases hc with ⟨h0,rfl⟩ | ⟨hne,p,rfl,hp⟩
 · have hw:wv (g.way node pl)=nl:=by unfold wv Gm.way; rw[h0]; rfl
   rw[hw]
   simp -implicitDefEqProofs
   refine call_go ok109n ?_
   simp -implicitDefEqProofs
   exact cv_fz 2 hcl rfl (by simp)
 · have hw:wv (g.way node pl)=.slc (infs (g.up node pl).reverse) (g.up node pl).length:=by
    unfold wv Gm.way; rw[if_neg (by simpa using hne)]; simp
   rw[hw]
   simp -implicitDefEqProofs
   have hL:L.set p (prow (g.up node pl) (g.up node pl).length)=L:=by
    apply List.ext_getElem?
    intro i
    by_cases h:p=i
    · subst h; rw[List.getElem?_set_self (getElem?_lt hp),hp]; rfl
    · rw[List.getElem?_set_ne h]
   have hset:∀ (A B o:AO),(H++A::B::L).set (H.length+(p+1+1)) o=H++A::B::L.set p o:=fun A B o=>by simp
   have h71:=ok109 (G:=H++(⟨[g.wp],123,0,true⟩:AO)::⟨[.own (H.length+(p+1+1)) 0 (g.up node pl).length 2 (g.up node pl).length],142,0,true⟩::L) (q:=H.length+(p+1+1)) (v:=(g.up node pl).length) (by have:=getElem?_lt hp; simp; omega) (l:=g.up node pl) (by omega)
   rw[hset,hset,hL]at h71
   refine call_go h71 ?_
   simp -implicitDefEqProofs
   refine cv_fz 3 hcl rfl ?_
   have hpl:=getElem?_lt hp
   simp[hpl,prow,infs_len,Nat.mul_comm]
   exact List.take_of_length_le (by rw[infs_len,List.length_reverse]; omega)
end
end Go.Proofs.Ytogjmpkehjfecaa.Rc
namespace Go.Proofs.Ytogjmpkehjfecaa.Rc
open Go.Ab
theorem wv_facts (l:List (Int×Int)):(wv l).vd=true∧(wv l).ug=wv l∧(wv l).isSl=true∧(wv l).slen=l.length∧(wv l).isCell=true∧(wv l).flat=[wv l]:=by
 unfold wv
 split
 · rename_i h; subst h; exact⟨rfl,rfl,rfl,rfl,rfl,rfl⟩
 · exact⟨rfl,rfl,rfl,rfl,rfl,rfl⟩
theorem wv_ne {l:List (Int×Int)} (h:l≠[]):wv l=.slc (infs l) l.length:=if_neg h
section
variable {H:List AO} {g:Gm} {a b:List (Int×Int)}
set_option maxRecDepth 10000 in
theorem loop83 (hl:a.length≤100000) (hab:a.length=b.length) {N:Nat} {K:XE->Env->List AO->Prop}
 (hret:a≠b->∀ env,env.get 4=bl false->K .ret env H) (hexit:a=b->∀ env,K (.exit 0) env H) :
 ∀ (n i:Nat) (env:Env),i+n=a.length->(∀ k (h:k<a.length),k<i->a[k]=b[k]'(by omega))->env.get 0=wv a->env.get 1=wv b->env.get 12=i64 a.length->env.get 13=i64 i →
  LI Try.prog N drawB l111_0 env H K:=by
 intro n
 induction n with
 | zero =>
  intro i env hi hp h0 h1 h12 h13
  refine li_go hm l111_0.eq_1 ?_
  have e:i=a.length:=by omega
  subst e
  simp -implicitDefEqProofs[h12,h13]
  exact hexit (List.ext_getElem hab fun k h1 h2=>hp k h1 h1) _
 | succ n ih =>
  intro i env hi hp h0 h1 h12 h13
  refine li_go hm l111_0.eq_1 ?_
  have hlt:i<a.length:=by omega
  have hlt':i<b.length:=by omega
  have ha:a≠[]:=fun e=>by subst e; simp at hlt
  have hb:b≠[]:=fun e=>by subst e; simp at hlt'
  have w1:IntKind.i64.wrap ((i:Int)+1)=((i+1:Nat):Int):=wrap_succ (by omega)
  have f1:=wv_ne ha; have f2:=wv_ne hb
  simp -implicitDefEqProofs[h0,h1,h12,h13,f1,f2,hlt,hlt',infs_at hlt,infs_at hlt',infs_min hlt,infs_ge hlt,infs_min hlt',infs_ge hlt']
  by_cases hc:a[i]=b[i]
  · rw[if_neg (by rw[hc]; simp)]
    rw[w1]
    refine ih (i+1) _ (by omega) ?_ ?_ ?_ ?_ ?_
    rotate_left
    · simp[f1]
    · simp[f2]
    · simp
    · simp
    intro k hk hki
    by_cases e:k=i
    · subst e; exact hc
    · exact hp k hk (by omega)
  · rw[if_pos (by
     by_cases h1:a[i].1=b[i].1
     · exact .inr fun h2=>hc (Prod.ext h1 h2)
     · exact .inl h1)]
    exact hret (fun e=>hc (by subst e; rfl)) _ (by simp)
theorem ok111 (hl:a.length≤100000):Ok Try.prog 111 [wv a,wv b] H (.ret (bl (decide (a=b)))) H:=by
 obtain⟨v1,v2,v3,v4,v5,v6⟩:=wv_facts a
 obtain⟨u1,u2,u3,u4,u5,u6⟩:=wv_facts b
 refine ok_fn hm Try.func111 c111 (by simp) fun hcl => ?_
 by_cases hab:a.length=b.length
 · simp -implicitDefEqProofs[i111,r111,v1,v2,v3,v4,u1,u2,u3,u4,hab]
   refine loop83 (a:=a) (b:=b) hl hab (fun hne env h4 => ?_) (fun he env => ?_) a.length 0 _ (by omega) (by omega) (by simp) (by simp) (by simp[hab]) (by simp)
   · simp -implicitDefEqProofs[h4,hne]
     exact cv_id
   · simp -implicitDefEqProofs[he]
     exact cv_id
 · simp -implicitDefEqProofs[i111,r111,v1,v2,v3,v4,u1,u2,u3,u4,show ¬ ((a.length:Int)=b.length)by omega,hab]
   have:a≠b:=fun e=>hab (by rw[e])
   simp[this]
   exact cv_id
theorem ok97 (hl:a.length≤100000):Ok Try.prog 97 [wv a,wv b] H (.ret (bl (decide (a=b)))) H:=by
 obtain⟨v1,v2,v3,v4,v5,v6⟩:=wv_facts a
 obtain⟨u1,u2,u3,u4,u5,u6⟩:=wv_facts b
 refine ok_fn hm Try.func97 c97 (by simp) fun hcl => ?_
 simp -implicitDefEqProofs[i97,r97,v1,v2,v3,v4,u1,u2,u3,u4]
 refine call_go (ok111 hl) ?_
 simp -implicitDefEqProofs
 exact cv_id
end
end Go.Proofs.Ytogjmpkehjfecaa.Rc
namespace Go.Proofs.Ytogjmpkehjfecaa.Rc
open Go.Ab
structure Fl where
 k:Int
 n:Int
 i:Int
 o:Int
deriving DecidableEq
def Fl.cells (f:Fl):List SV:=[i64 f.k,i64 f.n,i64 f.i,i64 f.o]
def Keep (G G':List AO):Prop:=∀ (j:Nat) (o:AO),G[j]? = some o->o.ty=3∨o.ty=131->G'[j]? = some o
theorem Keep.refl (G:List AO):Keep G G:=fun _ _ h _=>h
theorem Keep.trans {G G' G'':List AO} (h:Keep G G') (h':Keep G' G''):Keep G G'':=fun j o ho ht=>h' j o (h j o ho ht) ht
theorem Keep.app (G:List AO) (L:List AO):Keep G (G++L):=fun j o ho _=>by rw[List.getElem?_append_left (getElem?_lt ho)]; exact ho
structure Rep {τ:Type} (rp:SV) (b0:Nat) (R:Nat->List AO->τ->Prop) (rb:τ->Fl->Bool) (rn:τ->Fl->τ):Prop where
 vd:rp.vd=true
 ug:rp.ug=rp
 cell:rp.isCell=true
 flat:rp.flat=[rp]
 call:∀ c G s f,R (c+1) G s->OkCP Try.prog rp [.agg f.cells] G fun out G'=>out=.ret (bl (rb s f))∧R c G' (rn s f)∧Keep G G'
 app:∀ c G s o,R c G s->R c (G++[o]) s
 put:∀ c G s j o o',R c G s->G[j]? = some o->b0≤j->o.ty=3->R c (G.set j o') s
 len:∀ c G s,R c G s->b0≤G.length
 dec:∀ c G s,R (c+1) G s->R c G s
theorem Rep.decn {τ:Type} {rp:SV} {b0:Nat} {R:Nat->List AO->τ->Prop} {rb:τ->Fl->Bool} {rn:τ->Fl->τ} (h:Rep rp b0 R rb rn):∀ {k c:Nat} {G:List AO} {s:τ},R (k+c) G s->R c G s
 | 0,c,G,s,hr=>by simpa using hr
 | k+1,c,G,s,hr=>h.decn (k:=k) (h.dec _ _ _ (by rw[show k+c+1=k+1+c by omega]; exact hr))
section
variable {τ:Type} {rp:SV} {b0:Nat} {R:Nat->List AO->τ->Prop} {rb:τ->Fl->Bool} {rn:τ->Fl->τ} {g:Gm}
structure SkI (g:Gm) (rp:SV) (info:Int) (bs bi:Nat) (G:List AO):Prop where
 s:G[bs]? = some ⟨[g.wp,rp],131,0,true⟩
 i:G[bi]? = some ⟨[i64 info],3,0,true⟩
theorem SkI.keep {info:Int} {bs bi:Nat} {G G':List AO} (h:SkI g rp info bs bi G) (hk:Keep G G'):SkI g rp info bs bi G':=⟨hk _ _ h.s (.inr rfl),hk _ _ h.i (.inl rfl)⟩
theorem SkI.cs {info:Int} {bs bi:Nat} {G:List AO} (h:SkI g rp info bs bi G):objCells G bs 0=[g.wp,rp]:=objCells_of h.s rfl
theorem SkI.ci {info:Int} {bs bi:Nat} {G:List AO} (h:SkI g rp info bs bi G):objCells G bi 0=[i64 info]:=objCells_of h.i rfl
def dpn (g:Gm) (info:Int) (d:Int) (k:Nat):Int:=if infoAt g k=info then k else d
def DpI (g:Gm) (R:Nat->List AO->τ->Prop) (rp:SV) (info:Int) (bs bi bd c:Nat) (s:τ) (_:Nat) (G:List AO) (d:Int):Prop :=
 R c G s∧SkI g rp info bs bi G∧G[bd]? = some ⟨[i64 d],3,0,true⟩∧bd≠bs∧bd≠bi
set_option maxRecDepth 10000 in
theorem ok96 (hR:Rep rp b0 R rb rn) (hn:g.ns.length≤2000) {info:Int} {bs bi bd c:Nat} (hbd:b0≤bd) {s:τ} {m:Nat} {G:List AO} {d:Int} (hI:DpI g R rp info bs bi bd c s m G d) {k:Nat} (hk:k<g.ns.length) (a:Int) (m':Nat) :
 OkP Try.prog 96 [i64 k,i64 a,.ptr (.own bs 0 0 0 0) 0,.ptr (.own bi 0 0 0 0) 0,.ptr (.own bd 0 0 0 0) 0] G fun out G'=>out=.ret (bl (decide (dpn g info d k<0)))∧DpI g R rp info bs bi bd c s m' G' (dpn g info d k):=by
 obtain⟨h1,h2,h3,h4,h5⟩:=hI
 have hinf:infoAt g k=g.ns[k].i:=by unfold infoAt; rw[List.getElem?_eq_getElem hk]
 have hd:objCells G bd 0=[i64 d]:=objCells_of h3 rfl
 refine okP_fn hm Try.func96 c96 (by simp) fun hcl => ?_
 by_cases hi:g.ns[k].i=info
 · have e:dpn g info d k=k:=by unfold dpn; rw[if_pos (by rw[hinf]; exact hi)]
   rw[e]
   have hst:∀ f:AO->AO,Ab.setObj G bd f=G.set bd (f ⟨[i64 d],3,0,true⟩):=fun f=>setObj_some h3 f
   have hlt:=getElem?_lt h3
   have hc2:objCells (G.set bd (⟨[i64 k],3,0,true⟩:AO)) bd 0=[i64 k]:=objCells_of (o:=⟨[i64 k],3,0,true⟩) (List.getElem?_set_self hlt) rfl
   simp -implicitDefEqProofs[i96,r96,Gm.wp,sl,hk,h2.cs,h2.ci,hd,nds_g2 hk,nds_len,hi,hst,hc2]
   refine⟨by omega,_,_,⟨rfl,hR.put _ _ _ _ _ _ h1 h3 hbd rfl,⟨?_,?_⟩,List.getElem?_set_self hlt,h4,h5⟩,cv_id⟩
   · rw[List.getElem?_set_ne h4]; exact h2.s
   · rw[List.getElem?_set_ne h5]; exact h2.i
 · have e:dpn g info d k=d:=by unfold dpn; rw[if_neg (by rw[hinf]; exact hi)]
   rw[e]
   simp -implicitDefEqProofs[i96,r96,Gm.wp,sl,hk,h2.cs,h2.ci,hd,nds_g2 hk,nds_len,hi]
   exact⟨by omega,_,_,⟨rfl,h1,h2,h3,h4,h5⟩,cv_id⟩
theorem abv_len {pl:Int}:∀ (f node:Nat) (l:List (Int×Int)),(abv g pl (fun _ _ _=>true) (fun l k a=>l++[(infoAt g k,a)]) f node l).length≤l.length+f
 | 0,node,l=>by simp[abv]
 | f+1,node,l=>by
  unfold abv
  split
  · omega
  · split
    · omega
    · split
      · rw[if_pos rfl]
        refine Nat.le_trans (abv_len (pl:=pl) f _ _) ?_
        simp only[List.length_append,List.length_singleton]
        omega
      · have:=abv_len (pl:=pl) f (gi g.wk.2.P node).toNat l
        omega
theorem way_len {node:Nat} {pl:Int}:(g.way node pl).length≤g.ns.length:=by
 unfold Gm.way Gm.up
 have:=abv_len (g:=g) (pl:=pl) g.ns.length node []
 simpa using this
def Gm.deep (g:Gm) (node:Nat) (pl info:Int):Int:=abv g pl (fun d k _=>decide (dpn g info d k<0)) (fun d k _=>dpn g info d k) g.ns.length node (-1)
def seekS (g:Gm) (rb:τ->Fl->Bool) (rn:τ->Fl->τ) (info pl n0:Int) (first:List (Int×Int)):List Int->τ->Bool×τ
 | [],s=>(true,s)
 | v::r,s =>
  let d:=g.deep v.toNat pl info
  if 0≤d∧rb s ⟨1,v,info,d⟩=false then(false,rn s ⟨1,v,info,d⟩)else
  let s1:=if 0≤d then rn s ⟨1,v,info,d⟩else s
  if g.way v.toNat pl=first then seekS g rb rn info pl n0 first r s1 else
  if rb s1 ⟨2,v,info,n0⟩=true then seekS g rb rn info pl n0 first r (rn s1 ⟨2,v,info,n0⟩)else(false,rn s1 ⟨2,v,info,n0⟩)
set_option maxRecDepth 10000 in
theorem loop48 (hW:Wg g) (hR:Rep rp b0 R rb rn) {info pl n0:Int} {bs bi:Nat} {nodes:List Int} {first:List (Int×Int)} (hn0:nodes.head? = some n0) (hns:∀ v∈nodes,0≤v∧v<g.ns.length) (hnl:nodes.length≤2000) (hfl:first.length≤2000)
 {N:Nat} {K:XE->Env->List AO->Prop} {Q:Bool×τ}
 {c:Nat} (hret:Q.1=false->∀ env G,R c G Q.2->env.get 6=bl false->K .ret env G) (hexit:Q.1=true->∀ env G,R c G Q.2->K (.exit 0) env G) :
 ∀ (n i:Nat) (env:Env) (G:List AO) (s:τ),i+n=nodes.length->R (2*n+c) G s->SkI g rp info bs bi G->seekS g rb rn info pl n0 first (nodes.drop i) s=Q →
  env.get 2=.slc (ints nodes) nodes.length->env.get 3=.ptr (.own bs 0 0 0 0) 0->env.get 4=.ptr (.own bi 0 0 0 0) 0->env.get 7=i64 pl->env.get 8=wv first->env.get 29=.slc (ints nodes) nodes.length->env.get 30=i64 nodes.length->env.get 31=i64 i →
  LI Try.prog N drawB l80_0 env G K:=by
 have hgn:=hW.gd.n
 have hwp:g.wp.vd=true∧g.wp.ug=g.wp∧g.wp.flat=[g.wp]∧g.wp.isCell=true:=⟨rfl,rfl,rfl,rfl⟩
 intro n
 induction n with
 | zero =>
  intro i env G s hi hRG hS hQ h2 h3 h4 h7 h8 h29 h30 h31
  refine li_go hm l80_0.eq_1 ?_
  have e:i=nodes.length:=by omega
  subst e
  rw[List.drop_length]at hQ
  subst hQ
  simp -implicitDefEqProofs[h30,h31]
  exact hexit rfl _ _ (by simpa[seekS]using hRG)
 | succ n ih =>
  intro i env G s hi hRG hS hQ h2 h3 h4 h7 h8 h29 h30 h31
  refine li_go hm l80_0.eq_1 ?_
  have hlt:i<nodes.length:=by omega
  have w1:IntKind.i64.wrap ((i:Int)+1)=((i+1:Nat):Int):=wrap_succ (by omega)
  have hv:=hns _ (List.getElem_mem hlt)
  have hvn:nodes[i]=((nodes[i].toNat:Nat):Int):=by omega
  rw[List.drop_eq_getElem_cons hlt]at hQ
  unfold seekS at hQ
  have hpos:0<nodes.length:=by omega
  have hhead:(ints nodes).head? = some (i64 n0):=by
   cases hc:nodes with
   | nil=>rw[hc]at hpos; simp at hpos
   | cons y r=>rw[hc]at hn0; simp at hn0; subst hn0; rfl
  have hbs:=getElem?_lt hS.s
  have hbi:=getElem?_lt hS.i
  simp -implicitDefEqProofs[h2,h3,h4,h7,h8,h29,h30,h31,hlt,objCells_app _ hbs,objCells_app _ hbi,hS.cs,hS.ci,hwp.1,hwp.2.1]
  refine⟨by omega,?_⟩
  have h67:=ok95 (g:=g) (σ:=Int) (Inv:=DpI g R rp info bs bi G.length (2*n+c+1+1) s) (vf:=.fn (.func 96) [] [.ptr (.own bs 0 0 0 0) 0,.ptr (.own bi 0 0 0 0) 0,.ptr (.own G.length 0 0 0 0) 0]) (nb:=fun d k _=>decide (dpn g info d k<0)) (nx:=fun d k _=>dpn g info d k) (pl:=pl) hW ⟨rfl,rfl⟩
   (fun m G s k a hkm hm' hI=>okCP_of (by simpa using ok96 hR hgn (hR.len _ _ _ hRG) hI (by omega) a k))
   (fun m G s o hI=>⟨hR.app _ _ _ _ hI.1,hI.2.1.keep (Keep.app _ _),by rw[List.getElem?_append_left (getElem?_lt hI.2.2.1)]; exact hI.2.2.1,hI.2.2.2⟩)
   (fun m k G s hkm hI=>hI) (G:=G++[⟨[i64 (-1)],3,0,true⟩]) (s := -1) (node:=nodes[i].toNat) (by omega)
   ⟨hR.app _ _ _ _ (by rw[show 2*n+c+1+1=2*(n+1)+c by omega]; exact hRG),hS.keep (Keep.app _ _),by simp,by omega,by omega⟩
  rw[←hvn]at h67
  refine call_goP h67 (fun out G2 hP => ?_)
  obtain⟨rfl,m',hR2,hS2,hd2,hb1,hb2⟩:=hP
  have hdeep:abv g pl (fun d k _=>decide (dpn g info d k<0)) (fun d k _=>dpn g info d k) g.ns.length nodes[i].toNat (-1)=g.deep nodes[i].toNat pl info:=rfl
  rw[hdeep]at hd2
  simp only at hQ
  generalize hgd:g.deep nodes[i].toNat pl info=d at hd2 hQ
  have hcd:objCells G2 G.length 0=[i64 d]:=objCells_of hd2 rfl
  by_cases h0:0≤d
  · simp -implicitDefEqProofs[h2,h3,h4,h7,h8,h29,h30,h31,hcd,h0,hS2.cs,hS2.ci,hR.vd,hR.ug]
    refine call_gd (hR.call _ _ _ ⟨1,nodes[i],info,d⟩ hR2) (fun out G3 hP => ?_)
    obtain⟨rfl,hR3,hK3⟩:=hP
    have hS3:=hS2.keep hK3
    cases hb:rb s ⟨1,nodes[i],info,d⟩with
    | false =>
     rw[if_pos ⟨h0,hb⟩]at hQ
     subst hQ
     simp -implicitDefEqProofs
     exact hret rfl _ _ (hR.decn (k:=2*n+1) (by rw[show 2*n+1+c=2*n+c+1 by omega]; exact hR3)) (by simp)
    | true =>
     rw[if_neg (by rw[hb]; simp),if_pos h0]at hQ
     simp -implicitDefEqProofs[h2,h3,h4,h7,h8,h29,h30,h31,hS3.cs,hS3.ci,hR.vd,hR.ug,hwp.1,hwp.2.1]
     have h50:=ok94 (H:=G3) hW (node:=nodes[i].toNat) (by omega) pl
     rw[←hvn]at h50
     refine call_go h50 ?_
     simp -implicitDefEqProofs[h8]
     refine call_go (ok97 (a:=g.way nodes[i].toNat pl) (b:=first) (by have:=way_len (g:=g) (node:=nodes[i].toNat) (pl:=pl); omega)) ?_
     by_cases hw:g.way nodes[i].toNat pl=first
     · rw[if_pos hw]at hQ
       simp -implicitDefEqProofs[hw,h31]
       rw[w1]
       refine ih (i+1) _ _ _ (by omega) (hR.dec _ _ _ (by rw[show 2*n+c+1=(2*n+c)+1 by omega]at hR3; exact hR3)) hS3 hQ ?_ ?_ ?_ ?_ ?_ ?_ ?_ ?_
       · simp[h2]
       · simp[h3]
       · simp[h4]
       · simp[h7]
       · simp[h8]
       · simp[h29]
       · simp[h30]
       · simp
     · rw[if_neg hw]at hQ
       simp -implicitDefEqProofs[hw,h2,h3,h4,hS3.cs,hS3.ci,hR.vd,hR.ug,hhead]
       refine⟨hpos,hpos,?_⟩
       refine call_cP (hR.call _ _ _ ⟨2,nodes[i],info,n0⟩ hR3) (fun out G4 hP => ?_)
       obtain⟨rfl,hR4,hK4⟩:=hP
       have hS4:=hS3.keep hK4
       cases hb2:rb (rn s ⟨1,nodes[i],info,d⟩) ⟨2,nodes[i],info,n0⟩with
       | true =>
        rw[hb2,if_pos rfl]at hQ
        simp -implicitDefEqProofs[h2,h3,h4,hS4.cs,hS4.ci,hR.vd,hR.ug,hhead,h31,hpos]
        rw[w1]
        refine ih (i+1) _ _ _ (by omega) hR4 hS4 hQ ?_ ?_ ?_ ?_ ?_ ?_ ?_ ?_
        · simp[h2]
        · simp[h3]
        · simp[h4]
        · simp[h7]
        · simp[h8]
        · simp[h29]
        · simp[h30]
        · simp
       | false =>
        rw[hb2,if_neg (by simp)]at hQ
        subst hQ
        simp -implicitDefEqProofs[h2,h3,h4,hS4.cs,hS4.ci,hR.vd,hR.ug,hhead,hpos]
        exact hret rfl _ _ (hR.decn (k:=2*n) hR4) (by simp)
  · rw[if_neg (fun h=>h0 h.1),if_neg h0]at hQ
    simp -implicitDefEqProofs[h2,h3,h4,h7,h8,h29,h30,h31,hcd,h0,hS2.cs,hS2.ci,hR.vd,hR.ug,hwp.1,hwp.2.1]
    have h50:=ok94 (H:=G2) hW (node:=nodes[i].toNat) (by omega) pl
    rw[←hvn]at h50
    refine call_go h50 ?_
    simp -implicitDefEqProofs[h8]
    refine call_go (ok97 (a:=g.way nodes[i].toNat pl) (b:=first) (by have:=way_len (g:=g) (node:=nodes[i].toNat) (pl:=pl); omega)) ?_
    by_cases hw:g.way nodes[i].toNat pl=first
    · rw[if_pos hw]at hQ
      simp -implicitDefEqProofs[hw,h31]
      rw[w1]
      refine ih (i+1) _ _ _ (by omega) (hR.dec _ _ _ (hR.dec _ _ _ hR2)) hS2 hQ ?_ ?_ ?_ ?_ ?_ ?_ ?_ ?_
      · simp[h2]
      · simp[h3]
      · simp[h4]
      · simp[h7]
      · simp[h8]
      · simp[h29]
      · simp[h30]
      · simp
    · rw[if_neg hw]at hQ
      simp -implicitDefEqProofs[hw,h2,h3,h4,hS2.cs,hS2.ci,hR.vd,hR.ug,hhead]
      refine⟨hpos,hpos,?_⟩
      refine call_cP (hR.call _ _ _ ⟨2,nodes[i],info,n0⟩ (hR.dec _ _ _ hR2)) (fun out G4 hP => ?_)
      obtain⟨rfl,hR4,hK4⟩:=hP
      have hS4:=hS2.keep hK4
      cases hb2:rb s ⟨2,nodes[i],info,n0⟩with
      | true =>
       rw[hb2,if_pos rfl]at hQ
       simp -implicitDefEqProofs[h2,h3,h4,hS4.cs,hS4.ci,hR.vd,hR.ug,hhead,h31,hpos]
       rw[w1]
       refine ih (i+1) _ _ _ (by omega) hR4 hS4 hQ ?_ ?_ ?_ ?_ ?_ ?_ ?_ ?_
       · simp[h2]
       · simp[h3]
       · simp[h4]
       · simp[h7]
       · simp[h8]
       · simp[h29]
       · simp[h30]
       · simp
      | false =>
       rw[hb2,if_neg (by simp)]at hQ
       subst hQ
       simp -implicitDefEqProofs[h2,h3,h4,hS4.cs,hS4.ci,hR.vd,hR.ug,hhead,hpos]
       exact hret rfl _ _ (hR.decn (k:=2*n) hR4) (by simp)
set_option maxRecDepth 10000 in
theorem ok80 (hW:Wg g) (hR:Rep rp b0 R rb rn) {info:Nat} (hinfo:info<g.is.length) {nodes:List Int} {n0:Int} (hn0:nodes.head? = some n0) (hns:∀ v∈nodes,0≤v∧v<g.ns.length) (hnl:nodes.length≤2000) {G:List AO} {s:τ} {c:Nat} (hRG:R (2*nodes.length+c) G s) :
 OkP Try.prog 80 [.agg [g.wp,rp],i64 info,.slc (ints nodes) nodes.length] G fun out G'=>out=.ret (bl (seekS g rb rn info g.is[info].1 n0 (g.way n0.toNat g.is[info].1) nodes s).1)∧R c G' (seekS g rb rn info g.is[info].1 n0 (g.way n0.toNat g.is[info].1) nodes s).2:=by
 have hgn:=hW.gd.n
 have hwp:g.wp.vd=true∧g.wp.ug=g.wp∧g.wp.flat=[g.wp]∧g.wp.isCell=true:=⟨rfl,rfl,rfl,rfl⟩
 have hpos:0<nodes.length:=by cases nodes with | nil=>simp at hn0 | cons y r=>simp
 have hhead:(ints nodes).head? = some (i64 n0):=by
  cases hc:nodes with
  | nil=>rw[hc]at hpos; simp at hpos
  | cons y r=>rw[hc]at hn0; simp at hn0; subst hn0; rfl
 have hv:=hns n0 (List.mem_of_head? hn0)
 have hvn:n0=((n0.toNat:Nat):Int):=by omega
 refine okP_fn hm Try.func80 c80 (by simp) fun hcl => ?_
 simp -implicitDefEqProofs[i80,r80,Gm.wp,sl,hR.vd,hR.ug,hR.flat,hR.cell,hhead,hpos,hinfo,infs_g0 hinfo,infs_at hinfo,infs_len]
 refine⟨by omega,?_⟩
 have h50:=fun H=>ok94 (H:=H) hW (node:=n0.toNat) (by omega) g.is[info].1
 rw[←hvn]at h50
 refine callq_go (fun _=>h50 _) ?_
 simp -implicitDefEqProofs
 refine loop48 (g:=g) (R:=R) (rb:=rb) (rn:=rn) hW hR (info:=info) (pl:=g.is[info].1) (n0:=n0) (bs:=G.length) (bi:=G.length+1) (nodes:=nodes) (first:=g.way n0.toNat g.is[info].1) hn0 hns hnl (by have:=way_len (g:=g) (node:=n0.toNat) (pl:=g.is[info].1); omega)
  (c:=c) (fun hQ env G' hR' h6 => ?_) (fun hQ env G' hR' => ?_) nodes.length 0 _ _ s (by omega) (by have:=hR.app _ _ _ ⟨[g.wp,rp],131,0,true⟩ hRG; have:=hR.app _ _ _ ⟨[i64 info],3,0,true⟩ this; rw[List.append_assoc]at this; exact this) ⟨by simp[Gm.wp,sl],by simp⟩ rfl
  (by simp) (by simp) (by simp) (by simp) (by simp) (by simp) (by simp) (by simp)
 · simp -implicitDefEqProofs[h6]
   exact⟨_,_,⟨by rw[show seekS g rb rn info g.is[info].1 n0 (g.way n0.toNat g.is[info].1) nodes s=seekS g rb rn info g.is[info].1 n0 (g.way n0.toNat g.is[info].1) (nodes.drop 0) s from rfl,hQ],hR'⟩,cv_id⟩
 · simp -implicitDefEqProofs
   exact⟨_,_,⟨by rw[show seekS g rb rn info g.is[info].1 n0 (g.way n0.toNat g.is[info].1) nodes s=seekS g rb rn info g.is[info].1 n0 (g.way n0.toNat g.is[info].1) (nodes.drop 0) s from rfl,hQ],hR'⟩,cv_id⟩
end
end Go.Proofs.Ytogjmpkehjfecaa.Rc
