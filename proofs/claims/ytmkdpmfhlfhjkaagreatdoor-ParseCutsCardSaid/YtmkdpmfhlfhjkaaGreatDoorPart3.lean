/- Steps of the proof. -/
import Derived.Test.YtmkdpmfhlfhjkaaGreatDoorPart2
import Derived.Test.YtmkdpmfhlfhjkaaGreatDoorPWT
import Derived.Test.YtmkdpmfhlfhjkaaGreatDoorCore4
set_option linter.all false
namespace Go.Proofs.YtmkdpmfhlfhjkaaGreatDoor
open Go.Ab
structure Ql where
 nm:ZE
 n:Int
 p:Int
structure Qo where
 nm:ZE
 e:Ex
 p:Int
structure Qm where
 nm:ZE
 wh:List Ex
 hid:Bool
 sets:List Qo
 go:ZE
 p:Int
structure Qb where
 k:Int
 lb:ZE
 nm:ZE
 lo:Int
 hi:Int
 wt:List Ex
 all:Bool
 seen:List Int
 who:List Ex
 acts:List Qm
 pays:List Ex
 p:Int
structure Qx where
 nm:ZE
 pl:Int
 vars:List Ql
 stages:List Qb
def exS (l:List Ex):SV:=.slc (Ex.cL l) l.length
def Ql.c (v:Ql):ZH:=[st (B v.nm),i64 v.n,i64 v.p]
def Qo.c (s:Qo):ZH:=st (B s.nm)::(s.e.c++[i64 s.p])
def Qm.c (a:Qm):ZH:=[st (B a.nm),exS a.wh,bl a.hid,.slc (rws Qo.c a.sets) a.sets.length,st (B a.go),i64 a.p]
def Qb.c (x:Qb):ZH:=[i64 x.k,st (B x.lb),st (B x.nm),i64 x.lo,i64 x.hi,exS x.wt,bl x.all,.slc (QE x.seen) x.seen.length,exS x.who,.slc (rws Qm.c x.acts) x.acts.length,exS x.pays,i64 x.p]
def Qx.c (r:Qx):ZH:=[st (B r.nm),i64 r.pl,.slc (rws Ql.c r.vars) r.vars.length,.slc (rws Qb.c r.stages) r.stages.length]
def QdD:Qb:=⟨0,[],[],0,0,[],false,[],[],[],[],0⟩
def Qeb:Qx:=⟨[],0,[],[]⟩
section
variable (c:Cx) (orP:Rd->Ex×Rd)
def t2 (s:ZE) (r:Rd):Rd:=(Qh c s r).2
def QaM (s:ZE) (r:Rd):List Ex×Rd:=if Qd c s r=true then([(orP (t2 c s r)).1],(orP (t2 c s r)).2)else([],r)
def QaK (s:ZE) (r:Rd):Bool×Rd:=if Qd c s r=true then(true,t2 c s r)else(false,r)
def QaD (l:List Qo) (r:Rd):Qo×Rd :=
 let r1:=if l.length=32/\QP c r=true then Qg c 12 r else r
 let w:=QO c r1
 let x:=orP (t2 c [61] w.2)
 (⟨w.1,x.1,Qk c r1⟩,t2 c [59] x.2)
def QaO:Nat->List Qo->Rd->List Qo×Rd
 |0,l,r=>(l,r)
 |n+1,l,r=>if r.e=0/\Qd c [125] r=false then QaO n (l++[(QaD c orP l r).1]) (QaD c orP l r).2 else(l,r)
def Qa9 (r:Rd):ZE×Rd :=
 if Qd c [103,111,116,111] r=true then((QO c (t2 c [103,111,116,111] r)).1,t2 c [59] (QO c (t2 c [103,111,116,111] r)).2)else([],r)
def QM (r:Rd):Qm×Rd :=
 let t:=Qh c [97,99,116,105,111,110] r
 let nm:=QO c t.2
 let w:=QaM c orP [119,104,101,110] nm.2
 let h:=QaK c [104,105,100,100,101,110] w.2
 let s:=QaO c orP (c.ts.length+1) [] (t2 c [123] h.2)
 let g:=Qa9 c (t2 c [125] s.2)
 (⟨nm.1,w.1,h.1,s.1,g.1,t.1⟩,g.2)
def Qak:Nat->List Ex->Rd->List Ex×Rd
 |0,l,r=>(l,r)
 |n+1,l,r=>if Qd c [44] r=true then
  let r1:=t2 c [44] r
  let r2:=if l.length=32/\Qbw c r1=true then Qg c 12 r1 else r1
  Qak n (l++[(orP r2).1]) (orP r2).2
  else(l,r)
def QcD (r:Rd):List Ex×Rd:=Qak c orP c.ts.length [(orP r).1] (orP r).2
def QaB:Nat->List Int->Rd->List Int×Rd
 |0,l,r=>(l,r)
 |n+1,l,r=>if Qd c [44] r=true then
  let r1:=t2 c [44] r
  let r2:=if l.length=32/\r1.a<c.ts.length/\Qal c { r1 with e:=0 } (λt=>decide (t.k=2))=true then Qg c 12 r1 else r1
  QaB n (l++[(nmR c r2).1]) (nmR c r2).2
  else(l,r)
def QaC (r:Rd):(Bool×List Int)×Rd :=
 if Qd c [115,101,101,110] r=true then
  let r1:=t2 c [98,121] (t2 c [115,101,101,110] r)
  if Qd c [97,108,108] r1=true then((true,[]),t2 c [97,108,108] r1)
  else
   let s:=QaB c c.ts.length [(nmR c r1).1] (nmR c r1).2
   ((false,s.1),s.2)
 else((false,[]),r)
def QdJ (x:Qb) (r:Rd):Qb×Rd :=
 let t:=Qh c [100,101,97,108] r
 let nm:=QO c t.2
 let lo:=nmR c (t2 c [105,110] nm.2)
 let hi:=nmR c (t2 c [46,46] lo.2)
 let w:=QaM c orP [119,101,105,103,104,116] hi.2
 let s:=QaC c w.2
 ({ x with k:=1,p:=t.1,nm:=nm.1,lo:=lo.1,hi:=hi.1,wt:=w.1,all:=s.1.1,seen:=s.1.2 },t2 c [59] s.2)
def Qaf (fuel:Nat):Nat->List Qm->Rd->List Qm×Rd
 |0,l,r=>(l,r)
 |n+1,l,r=>if Qd c [97,99,116,105,111,110] r=true then
  let r1:=if l.length=10 then Qg c 12 r else r
  Qaf fuel n (l++[(QM c orP r1).1]) (QM c orP r1).2
  else(l,r)
def QdF (x:Qb) (r:Rd):Qb×Rd :=
 let t:=Qh c [116,117,114,110] r
 let w:=orP t.2
 let a:=QM c orP (t2 c [123] w.2)
 let l:=Qaf c orP 0 c.ts.length [a.1] a.2
 ({ x with k:=2,p:=t.1,who:=[w.1],acts:=l.1 },t2 c [125] l.2)
def Qay (r:Rd):ZE×Rd:=if QP c r=true then((QO c r).1,t2 c [58] (QO c r).2)else([],r)
def Q0 (r:Rd):Qb×Rd :=
 let l:=Qay c r
 let x:={ QdD with lb:=l.1 }
 if Qd c [100,101,97,108] l.2=true then QdJ c orP x l.2
 else if Qd c [116,117,114,110] l.2=true then QdF c orP x l.2
 else
  let t:=Qh c [101,110,100] l.2
  let e:=QcD c orP (t2 c [112,97,121] (t2 c [123] t.2))
  ({ x with k:=3,p:=t.1,pays:=e.1 },t2 c [125] (t2 c [59] e.2))
def Qa7 (l:List Ql) (r:Rd):Ql×Rd :=
 let r0:=t2 c [118,97,114] r
 let r1:=if l.length=40/\QP c r0=true then Qg c 12 r0 else r0
 let w:=QO c r1
 let r2:=t2 c [61] w.2
 let s:=QaK c [45] r2
 let n:=nmR c s.2
 (⟨w.1,IntKind.i64.wrap ((if s.1 then -1 else 1)*n.1),Qk c r1⟩,t2 c [59] n.2)
def Q6:Nat->List Ql->Rd->List Ql×Rd
 |0,l,r=>(l,r)
 |n+1,l,r=>if Qd c [118,97,114] r=true then Q6 n (l++[(Qa7 c l r).1]) (Qa7 c l r).2 else(l,r)
def QaR (l:List Qb) (r:Rd):Rd :=
 if l.length=100/\(QP c r||Qd c [100,101,97,108] r||Qd c [116,117,114,110] r||Qd c [101,110,100] r)=true then Qg c 12 r else r
def QF:Nat->List Qb->Rd->List Qb×Rd
 |0,l,r=>(l,r)
 |n+1,l,r=>if r.e=0/\(l=[]\/r.a<c.ts.length)then
  QF n (l++[(Q0 c orP (QaR c l r)).1]) (Q0 c orP (QaR c l r)).2
  else(l,r)
def QbL:Qx×Int×Int :=
 let w:=QO c (t2 c [103,97,109,101] ⟨0,0,0,0⟩)
 let n:=nmR c (t2 c [112,108,97,121,101,114,115] (t2 c [59] w.2))
 let v:=Q6 c c.ts.length [] (t2 c [59] n.2)
 let s:=QF c orP (c.ts.length+1) [] v.2
 if s.2.e≠0 then(Qeb,s.2.e,s.2.p)else(⟨w.1,n.1,v.1,s.1⟩,0,0)
end
def QJ (l:ZE):Qx×Int×Int :=
 if(Qv l).2.1≠0 then(Qeb,(Qv l).2)else QbL ⟨(Qv l).1,l.length⟩ (orT ⟨(Qv l).1,l.length⟩)
mutual
def Ex.sm:Ex->Prop
 |.mk _ _ _ l _=>l.length<=3/\Ex.smL l
def Ex.smL:List Ex->Prop
 |[]=>True
 |e::r=>e.sm/\Ex.smL r
end
theorem Qrg:∀ {l:List Ex},Ex.smL l↔∀ e∈l,e.sm
 |[]=>by simp[Ex.smL]
 |e::r=>by simp[Ex.smL,Qrg (l:=r)]
theorem QxA:zE.sm:=by simp[zE,Ex.sm,Ex.smL]
theorem QfJ {l:List Ex} {i:Nat} (h:i<l.length):((Ex.cL l).drop (i*5)).take 5=l[i].c:=by
 rw[Qrj,QdR Ex.c_len h,VG (by simp)]
section
variable {H:ZG}
theorem Qtu {l:List Ex} (hl:l.length<=3) (hIH:∀ e∈l,∀ H,Ok Tryz.prog 13 [e.v,e.v] H (.ret (bl true)) H) {N:Nat} {K:ZF}
 (hexit:∀ env G,K (.exit 0) env (H++G)) :
 ∀ (k i:Nat) (G:ZG) (env:Env),i+k=l.length->env.get 0=exS l->env.get 1=exS l->env.get 5=i64 i ->
  LI Tryz.prog N Qf QjY env (H++G) K:=by
 intro k
 induction k with
 |zero =>
  intro i G env hi h0 h1 h5;refine Qu hm QjY.eq_1 ?_;have e:i=l.length:=by omega
  subst e;simp[h0,h1,h5,exS];exact hexit _ _
 |succ k ih =>
  intro i G env hi h0 h1 h5;refine Qu hm QjY.eq_1 ?_;have hlt:i<l.length:=by omega
  have hlt':(i:Int)<l.length:=by omega
  have hg:=QfJ hlt;have hlen:=Qfi l;have h9:=hIH l[i] (Vu hlt);generalize l[i]=e at hg h9;simp[h0,h1,h5,exS,hlt',hg,hlen];refine⟨by omega,QeW (r:=bl true) (λ_=>h9 _) ?_⟩;simp[h0,h1,h5,exS];refine ih (i+1) G _ (by omega) ?_ ?_ ?_;all_goals simp[exS,QaH (show i<9223372036854775807 by omega)]
mutual
theorem QlG:∀ (e:Ex),e.sm->∀ (H:ZG),Ok Tryz.prog 13 [e.v,e.v] H (.ret (bl true)) H
 |.mk op n nm l p,he,H=>by
  unfold Ex.sm at he;have hIH:=Qrp l he.2;have h37:∀ H,Ok Tryz.prog 37 [exS l,exS l] H (.ret (bl true)) H:=λH=>by
   refine Qz hm Tryz.func37 c37 (by simp) λhcl => ?_;simp[i37,r37,exS];refine LI.cong (H':=H++[]) (by simp) ?_;refine Qtu he.1 hIH (λenv G => ?_) l.length 0 [] _ (by omega) ?_ ?_ ?_
   . simp;refine Qp 2 hcl rfl ?_;simp
   all_goals simp[exS]
  refine Qz hm Tryz.func13 c13 (by simp) λhcl => ?_;simp[i13,r13,Ex.v,Ex.c];refine QZ (r:=bl true) (λ_=>h37 _) ?_;simp;refine Qp 2 hcl rfl ?_;simp
theorem Qrp:∀ (l:List Ex),Ex.smL l->∀ e∈l,∀ (H:ZG),Ok Tryz.prog 13 [e.v,e.v] H (.ret (bl true)) H
 |[],_,_,h=>by cases h
 |e::r,hl,x,hx=>by
  unfold Ex.smL at hl;by_cases hh:x=e
  . rw[hh]; exact QlG e hl.1
  . exact Qrp r hl.2 x (by simpa[hh]using hx)
end
end
def Qcj (k:Int) (tx:ZE) (n:Int):Int :=
 if tx=[]\/k<1\/3<k\/cAt tx 0=1\/tx.getD 0 0=35 then 3 else
  match Qy tx 0 with
  |.tok t q=>if q≠tx.length\/t.k≠k then 3 else if t.n≠n then 2 else 0
  |_=>3
theorem Qkk {l:ZE} {p q:Nat} (c1:cAt l p≠1) (c5:l.getD p 0≠35):Qy l p≠.skip q:=by
 intro hst;unfold Qy at hst;rw[Zm c1]at hst;have key:∀ k q',QQ l p k q'≠.skip q:=by intro k q' h; unfold QQ at h; split at h<;>cases h
 split at hst
 . exact key _ _ hst
 . split at hst
   . exact key _ _ hst
   . split at hst
     . exact key _ _ hst
     . first
       |exact key _ _ hst
       | (rw[Zm c5]at hst; exact key _ _ hst)
def zC:ZH:=[i64 0,st (B []),i64 0,i64 0]
def tC (k:Int) (tx:ZE) (n:Int) (a:SV):ZH:=[i64 k,st (B tx),i64 n,a]
def Qcl (A:ZG) (tc fc:ZH) (tx:ZE) (r:Bool) (lo:AO) (L:ZG):ZG :=
 A++⟨tc,52,0,true⟩::⟨fc,52,0,true⟩::⟨[st (B tx)],9,0,true⟩::⟨[bl r],4,0,true⟩::lo::L
def e25 (A:ZG) (c:SV):Env:=[(1,.ptr (.own (A.length+1) 0 0 0 0) 0),(2,.ptr (.own A.length 0 0 0 0) 0),(3,.ptr (.own (A.length+2) 0 0 0 0) 0),(4,.ptr (.own (A.length+3) 0 0 0 0) 0),(27,c)]
section
variable {A:ZG} {tx:ZE}
theorem Qvu {c a:SV} {k n:Int} {t:Tok} (L:ZG) :
 YlP Tryz.prog (A.length+4) [t.v,.val .nilIface] (Qcl A (tC k tx n a) zC tx false (lpo Tryz.prog 46 Qf 1 [28,29] Qdk Qc5 ((e25 A c).vals 46) .ready) L) λo H' =>
  o=.ret (bl false)/\∃ cs L,H'=Qcl A (tC k tx n a) t.c tx (decide (t.tx=tx)&&decide (t.k=k)) (lpo Tryz.prog 46 Qf 1 [28,29] Qdk Qc5 cs .ret) L:=by
 refine QhS (N:=46) (env:=e25 A c) hm Qdk.eq_1 Qc5.eq_1 (by simp[Qcl]; rfl) (by simp[e25]) (by decide) rfl λhcl => ?_;generalize hlo:lpo Tryz.prog 46 Qf 1 [28,29] Qdk Qc5 ((e25 A c).vals 46) .ready=lo;simp[e25,Qcl,tC,zC,Tok.v,Tok.c];refine⟨_,hlo.symm,_,by simp; rfl,.ret,false,_,⟨rfl,rfl⟩,⟨rfl,(e25 A c).vals 46,L++[⟨t.c,52,0,true⟩],rfl⟩,Qhs ?_⟩;simp[e25,Tok.c]
theorem QyQ {c a:SV} {k n e:Int} {p:Nat} (L:ZG) :
 YlP Tryz.prog (A.length+4) [zT,.ifc 115 (QK e p)] (Qcl A (tC k tx n a) zC tx false (lpo Tryz.prog 46 Qf 1 [28,29] Qdk Qc5 ((e25 A c).vals 46) .ready) L) λo H' =>
  o=.ret (bl false)/\∃ cs L,H'=Qcl A (tC k tx n a) zC tx false (lpo Tryz.prog 46 Qf 1 [28,29] Qdk Qc5 cs .ret) L:=by
 refine QhS (N:=46) (env:=e25 A c) hm Qdk.eq_1 Qc5.eq_1 (by simp[Qcl]; rfl) (by simp[e25]) (by decide) rfl λhcl => ?_;generalize hlo:lpo Tryz.prog 46 Qf 1 [28,29] Qdk Qc5 ((e25 A c).vals 46) .ready=lo;simp[e25,Qcl,tC,zC,zT];refine⟨_,hlo.symm,_,by simp; rfl,.ret,false,_,⟨rfl,rfl⟩,⟨rfl,(e25 A c).vals 46,L++[⟨zC,52,0,true⟩],rfl⟩,Qhs ?_⟩;simp[e25,zC]
def Q3 (k:Int) (tx:ZE):Bool×ZH :=
 if tx=[]\/40<tx.length\/cAt tx 0=1\/tx.getD 0 0=35 then(false,zC)else
  match Qy tx 0 with
  |.tok t _=>(decide (t.tx=tx)&&decide (t.k=k),t.c)
  |_=>(false,zC)
end
abbrev o25 (c:ZH):AO:=⟨c,52,0,true⟩
theorem QAv {A:ZG} {x o o':AO} (h:closed (A++[x,o])) (hu:∀ s∈o'.cells,s.under (A.length+2)=true):closed (A++[x,o']):=by
 intro i p hp s hs;have e:(A++[x,o']).length=(A++[x,o]).length:=by simp
 rw[e];by_cases hi:i=A.length+1
 . subst hi;have:p=o':=by simpa using hp.symm
   subst this;simpa using hu s hs
 . have:(A++[x,o])[i]? = some p:=by
    rcases Vr i (A.length+1)with h1|h1
    . rw[show A++[x,o']=(A++[x])++[o']by simp,Vc (by simp; omega)]at hp;rw[show A++[x,o]=(A++[x])++[o]by simp,Vc (by simp; omega)];exact hp
    . have:=Qj hp;simp at this; omega
   exact h i p this s hs
section
variable {A:ZG} {tx:ZE}
theorem Qx2 (hl:tx.length<4611686018427387904) (k n:Int) (a:SV) :
 Ok Tryz.prog 170 [st (B tx),.ptr (.own (A.length+1) 0 0 0 0) 0,.ptr (.own A.length 0 0 0 0) 0] (A++[o25 (tC k tx n a),o25 zC]) (.ret (bl (Q3 k tx).1)) (A++[o25 (tC k tx n a),o25 (Q3 k tx).2]):=by
 refine Qz hm Tryz.func170 c170 (by simp) λhcl => ?_;have fin:∀ {b:Bool} {fc:ZH} {L:ZG},Q3 k tx=(b,fc)->(∀ s∈fc,s.under (A.length+2)=true) ->
  Cv (A++[o25 (tC k tx n a),o25 zC]).length (bl b) (A++o25 (tC k tx n a)::o25 fc::L) (bl (Q3 k tx).1) (A++[o25 (tC k tx n a),o25 (Q3 k tx).2]):=by
  intro b fc L h hu;rw[h];have:=Qp (H:=A++[o25 (tC k tx n a),o25 fc]) (L:=L) (n0:=(A++[o25 (tC k tx n a),o25 zC]).length) (r1:=bl b) (r:=bl b) 4 (QAv hcl hu) (by simp) (by simp);simpa using this
 have hz:∀ s∈zC,s.under (A.length+2)=true:=by intro s hs; simp[zC]at hs; rcases hs with rfl|rfl|rfl|rfl<;>rfl
 by_cases h1:tx=[]
 . have hr:Q3 k tx=(false,zC):=by unfold Q3; rw[Zn (.inl h1)]
   have f:=λL=>fin (L:=L) hr hz;generalize Q3 k tx=g at f hr;subst h1;simp -implicitDefEqProofs[Qi6,Qj4];refine Qcg _ _ _ _ ?_;simp -implicitDefEqProofs;exact(by simpa using f _)
 have hpos:0<tx.length:=Yl.2 h1;have hg:tx.getD 0 0=tx[0]:=by simp[hpos]
 have f1:((tx[0].toNat:Int)=35)↔tx[0]=35:=u8i tx[0] 35;by_cases h2:40<tx.length
 . have hr:Q3 k tx=(false,zC):=by unfold Q3; rw[Zn (.inr (.inl h2))]
   have f:=λL=>fin (L:=L) hr hz;have h2':(40:Int)<tx.length:=by omega
   simp -implicitDefEqProofs[Qi6,Qj4,h1,h2'];refine Qcg _ _ _ _ ?_;simp -implicitDefEqProofs;exact(by simpa using f _)
 have h2':¬ (40:Int)<tx.length:=by omega
 simp -implicitDefEqProofs[Qi6,Qj4,h1,h2',hpos];refine QZ (r:=i64 (cls tx[0].toNat)) (λ_=>by rw[Qr4]; exact Qj0 _) ?_;have hca:cls tx[0].toNat=cAt tx 0:=(Qx0 hpos).symm;by_cases h4:cAt tx 0=1
 . have hr:Q3 k tx=(false,zC):=by unfold Q3; rw[Zn (.inr (.inr (.inl h4)))]
   have f:=λL=>fin (L:=L) hr hz;simp -implicitDefEqProofs[hca,h4];exact(by simpa using f _)
 by_cases h5:tx[0]=35
 . have hr:Q3 k tx=(false,zC):=by unfold Q3; rw[Zn (.inr (.inr (.inr (by rw[hg]; exact h5))))]
   have f:=λL=>fin (L:=L) hr hz;simp -implicitDefEqProofs[hpos,h5];exact(by simpa using f _)
 have h5':¬ ((tx[0].toNat:Int)=35):=λh=>h5 (f1.1 h);have hr:Q3 k tx=match Qy tx 0 with
  |.tok t _=>(decide (t.tx=tx)&&decide (t.k=k),t.c)
  |_=>(false,zC):=by unfold Q3; rw[Zm (by rw[hg]; rintro(h|h|h|h)<;>first|contradiction|omega)]<;>cases Qy tx 0<;>rfl
 simp -implicitDefEqProofs[hca,h4,hpos,h5'];refine Qc ok70 ?_;simp -implicitDefEqProofs[Qkm];obtain⟨m,hm1⟩:∃ m,tx.length=m+1:=⟨tx.length-1,by omega⟩;have hes:Qaz tx=match Qy tx 0 with
  |.skip q=>evs tx m q
  |.tok t q=>.tok t::evs tx m q
  |.flt e=>[.flt e 0]:=by unfold Qaz; rw[hm1]; simp only[evs]; rw[Zn (by omega)]<;>cases Qy tx 0<;>rfl
 refine Qsw (Pt:=λo H'=>(∃ v,o=.ret v)/\∃ cs L,H'=Qcl A (tC k tx n a) (Q3 k tx).2 tx (Q3 k tx).1 (lpo Tryz.prog 46 Qf 1 [28,29] Qdk Qc5 cs .ret) L) ?_ ?_
 . refine OkP.cast (args':=[.yl (A.length+4),.ptr (.slc [st (B tx)] 0) 0]) (H':=Qcl A (tC k tx n a) zC tx false (lpo Tryz.prog 46 Qf 1 [28,29] Qdk Qc5 ((e25 A (.fn (.func 123) [] [.ptr (.slc [st (B tx)] 0) 0])).vals 46) .ready) []) (by simp) (by simp[Qcl,e25]) ?_;refine(Qpu (J:=λi H'=>i=0/\∃ L,H'=Qcl A (tC k tx n a) zC tx false (lpo Tryz.prog 46 Qf 1 [28,29] Qdk Qc5 ((e25 A (.fn (.func 123) [] [.ptr (.slc [st (B tx)] 0) 0])).vals 46) .ready) L)
    (Q:=λH'=>∃ cs L,H'=Qcl A (tC k tx n a) (Q3 k tx).2 tx (Q3 k tx).1 (lpo Tryz.prog 46 Qf 1 [28,29] Qdk Qc5 cs .ret) L) (y:=A.length+4) (es:=Qaz tx) rfl hl ?_ ?_ ?_ ⟨rfl,[],rfl⟩).mono ?_
   . rintro i H' L' ⟨h0,L,rfl⟩;exact⟨h0,L++L',by simp[Qcl]⟩
   . rintro i t H' hi ⟨rfl,L,rfl⟩;have hst:∃ q,Qy tx 0=.tok t q:=by
      rw[hes]at hi
      cases hs:Qy tx 0 with
      |skip q=>exact(Qkk h4 (by rw[hg]; exact h5) hs).elim
      |tok t' q=>rw[hs]at hi; simp at hi; exact⟨q,by rw[hi]⟩
      |flt e=>rw[hs]at hi; simp at hi
     obtain⟨q,hst⟩:=hst;rw[hst]at hr;refine(Qvu (c:=.fn (.func 123) [] [.ptr (.slc [st (B tx)] 0) 0]) (a:=a) (k:=k) (n:=n) (t:=t) L).mono ?_;rintro o H' ⟨rfl,cs,L',rfl⟩;exact .inr ⟨rfl,cs,L',by rw[hr]⟩
   . rintro i e p H' hi ⟨rfl,L,rfl⟩;have hst:Qy tx 0=.flt e:=by
      rw[hes]at hi
      cases hs:Qy tx 0 with
      |skip q=>exact(Qkk h4 (by rw[hg]; exact h5) hs).elim
      |tok t' q=>rw[hs]at hi; simp at hi
      |flt e'=>rw[hs]at hi; simp at hi; rw[hi.1]
     rw[hst]at hr;refine(QyQ (c:=.fn (.func 123) [] [.ptr (.slc [st (B tx)] 0) 0]) (a:=a) (k:=k) (n:=n) (e:=e) (p:=p) L).mono ?_;rintro o H' ⟨rfl,cs,L',rfl⟩;exact⟨⟨_,rfl⟩,cs,L',by rw[hr]⟩
   . rintro o H' ⟨hv,(⟨h0,_⟩|hq)⟩
     . exfalso;have:=Zp List.length hes
       cases hs:Qy tx 0 with
       |skip q=>exact Qkk h4 (by rw[hg]; exact h5) hs
       |tok t' q=>rw[hs,h0]at this; simp at this
       |flt e'=>rw[hs,h0]at this; simp at this
     . exact⟨hv,hq⟩
 . rintro out H' ⟨⟨v,rfl⟩,cs,L,rfl⟩;refine⟨.ret,_,by simp[Qcl]; rfl,?_⟩;simp -implicitDefEqProofs[Qcl];have hsu:∀ s∈(Q3 k tx).2,s.under (A.length+2)=true:=by
    rw[hr]
    cases Qy tx 0 with
    |tok t q=>intro s hs; simp[Tok.c]at hs; rcases hs with rfl|rfl|rfl|rfl<;>rfl
    |skip q=>exact hz
    |flt e=>exact hz
   have f:=λL=>fin (L:=L) (b:=(Q3 k tx).1) (fc:=(Q3 k tx).2) rfl hsu;exact(by simpa using f _)
end
section
variable {A H:ZG} {tx:ZE}
theorem QzP (hl:tx.length<4611686018427387904) (k n e:Int) (a:SV) :
 Ok Tryz.prog 171 [st (B tx),.fn (.func 170) [] [.ptr (.own (A.length+1) 0 0 0 0) 0,.ptr (.own A.length 0 0 0 0) 0],i64 e] (A++[o25 (tC k tx n a),o25 zC]) (.ret (i64 (if(Q3 k tx).1=true then 0 else e))) (A++[o25 (tC k tx n a),o25 (Q3 k tx).2]):=by
 refine Qz hm Tryz.func171 c171 (by simp) λhcl => ?_;simp[i171,r171];refine Qc (Qx2 (A:=A) hl k n a) ?_;by_cases hb:(Q3 k tx).1=true
 . simp[hb];exact Qi
 . rw[Vi]at hb;simp[hb];exact Qi
theorem QuL {fc:ZH} {o:AO} (m:Int) (n:Int) (hf:fc.getD 2 .any=i64 m) (hlen:fc.length=4):Ok Tryz.prog 173 [i64 n,.ptr (.own (A.length+1) 0 0 0 0) 0] (A++[o,o25 fc]) (.ret (bl (decide (n=m)))) (A++[o,o25 fc]):=by
 refine Qz hm Tryz.func173 c173 (by simp) λhcl => ?_
 match fc,hlen with
 |[x0,x1,x2,x3],_ =>
  have:x2=i64 m:=by simpa using hf
  subst this;simp[i173,r173];exact Qi
theorem Qxq {fc:ZH} {o:AO} (m n e:Int) (hf:fc.getD 2 .any=i64 m) (hlen:fc.length=4) :
 Ok Tryz.prog 172 [i64 n,.fn (.func 173) [] [.ptr (.own (A.length+1) 0 0 0 0) 0],i64 e] (A++[o,o25 fc]) (.ret (i64 (if n=m then 0 else e))) (A++[o,o25 fc]):=by
 refine Qz hm Tryz.func172 c172 (by simp) λhcl => ?_;simp[i172,r172];refine Qc (QuL (A:=A) m n hf hlen) ?_;by_cases hb:n=m
 . simp[hb];exact Qi
 . simp[hb];exact Qi
end
theorem QlJ {l:ZE} {p q q':Nat} {k:Int} {t:Tok} (h:QQ l p k q=.tok t q'):t.tx=cut l p q/\(whE l k (cut l p q) p).1=0:=by
 unfold QQ at h;split at h
 . cases h
 . rename_i hn; cases h; exact⟨rfl,by simpa using hn⟩
theorem Qt3 {l:ZE} {p q:Nat} {t:Tok} (hp:p<l.length) (h:Qy l p=.tok t q):t.tx=cut l p q/\1<=t.k/\t.k<=3/\q-p<=40:=by
 have hq:=mkq h hp;unfold Qy at h;split at h
 . cases h
 . split at h
   . have hk:=Qdl h;have hx:=QlJ h;obtain⟨rfl,hk,_⟩:=hk;refine⟨hx.1,by omega,by omega,?_⟩;have hlen:=Qlm (l:=l) (Nat.le_of_lt hq.1) hq.2;rcases Vr 40 (Qan l [2,3] p-p)with h40|h40
     . have h2:=hx.2;unfold whE at h2;rw[hlen]at h2;split at h2
       . cases h2
       . rw[Zn ⟨rfl,h40⟩]at h2; cases h2
     . exact h40
   . split at h
     . have hk:=Qdl h;have hx:=QlJ h;obtain⟨rfl,hk,_⟩:=hk;refine⟨hx.1,by omega,by omega,?_⟩;have hlen:=Qlm (l:=l) (Nat.le_of_lt hq.1) hq.2;rcases Vr 10 (Qan l [3] p-p)with h10|h10
       . exfalso;have h2:=hx.2;unfold whE at h2;split at h2
         . cases h2
         . rw[Zm (λh=>absurd h.1 (by decide)),Zm (by decide)]at h2;split at h2
           . cases h2
           . rename_i hz;have hv:=Qwi (tx:=cut l p (Qan l [3] p)) Qk6 (by omega) (λh=>hz ⟨by omega,h⟩);rw[(Qyg (tx:=cut l p (Qan l [3] p)) (m:=0) Qk6 (by omega) (by omega)).2 hv]at h2
             cases h2
       . omega
     . split at h
       . have hk:=Qdl h;have hx:=QlJ h;obtain⟨rfl,hk,_⟩:=hk;refine⟨hx.1,by omega,by omega,?_⟩;unfold Qbk;split
         . omega
         . split<;>omega
       . split at h
         . cases h
         . have hk:=(Qdl h).1;omega
theorem QyS {k n m:Int} {tx:ZE} (hm:(Q3 k tx).2.getD 2 .any=i64 m):(if(Q3 k tx).1=true then(if n=m then 0 else 2)else 3)=Qcj k tx n:=by
 have e3:(Q3 k tx).1=false->Qcj k tx n=3->(if(Q3 k tx).1=true then(if n=m then 0 else 2)else 3)=Qcj k tx n:=λa b=>by rw[a,b]; simp
 by_cases h1:tx=[]
 . exact e3 (by unfold Q3; rw[Zn (.inl h1)]) (by unfold Qcj; rw[Zn (.inl h1)])
 have hpos:0<tx.length:=Yl.2 h1;by_cases h4:cAt tx 0=1
 . exact e3 (by unfold Q3; rw[Zn (.inr (.inr (.inl h4)))]) (by unfold Qcj; rw[Zn (.inr (.inr (.inr (.inl h4))))])
 by_cases h5:tx.getD 0 0=35
 . exact e3 (by unfold Q3; rw[Zn (.inr (.inr (.inr h5)))]) (by unfold Qcj; rw[Zn (.inr (.inr (.inr (.inr h5))))])
 cases hst:Qy tx 0 with
 |skip q=>exact(Qkk h4 h5 hst).elim
 |flt e=>exact e3 (by unfold Q3; rw[hst]; split<;>rfl) (by unfold Qcj; rw[hst]; split<;>rfl)
 |tok t q =>
  obtain⟨g1,g2,g3,g4⟩:=Qt3 hpos hst;have hq:=mkq hst hpos;have hcut:cut tx 0 q=tx.take q:=by simp[cut]
  have hx:t.tx=tx↔q=tx.length:=by
   rw[g1,hcut];constructor
   . intro h; have:=Zp List.length h; simp at this; omega
   . intro h; rw[h,VN]
  by_cases hk:k<1\/3<k
  . refine e3 ?_ (by unfold Qcj; rw[Zn (by rcases hk with h|h; exact .inr (.inl h); exact .inr (.inr (.inl h)))]);unfold Q3; rw[hst]; split
    . rfl
    . have:¬ t.k=k:=by omega
      simp[this]
  . have hc:Qcj k tx n=if q≠tx.length\/t.k≠k then 3 else if t.n≠n then 2 else 0:=by
     unfold Qcj; rw[Zm (by rintro(h|h|h|h|h)<;>first|contradiction|omega),hst]
    by_cases h40:40<tx.length
    . exact e3 (by unfold Q3; rw[Zn (.inr (.inl h40))]) (by rw[hc,Zn (.inl (by omega))])
    . have hs:Q3 k tx=(decide (t.tx=tx)&&decide (t.k=k),t.c):=by
       unfold Q3; rw[Zm (by rintro(h|h|h|h)<;>first|contradiction|omega),hst]
      have hmm:m=t.n:=by
       rw[hs]at hm;have:i64 t.n=i64 m:=hm;unfold i64 at this
       cases this; rfl
      by_cases a1:q=tx.length
      . by_cases a2:t.k=k
        . have e:(decide (t.tx=tx)&&decide (t.k=k))=true:=by simp[hx.2 a1,a2]
          have hc2:Qcj k tx n=if t.n≠n then 2 else 0:=by rw[hc,Zm (by rintro(h|h)<;>contradiction)]
          rw[hs,hc2,hmm];simp only[e,Zs];by_cases a3:n=t.n
          . simp[a3]
          . rw[Zm a3,Zn (λh:t.n=n=>a3 h.symm)]
        . exact e3 (by rw[hs]; simp[a2]) (by rw[hc,Zn (.inr a2)])
      . have hne:¬ t.tx=tx:=λh=>a1 (hx.1 h);exact e3 (by rw[hs]; simp[hne]) (by rw[hc,Zn (.inl a1)])
theorem Qvc (k:Int) (tx:ZE):∃ m,(Q3 k tx).2.getD 2 .any=i64 m/\(Q3 k tx).2.length=4:=by
 unfold Q3;split
 . exact⟨0,rfl,rfl⟩
 . split
   . rename_i t _ _; exact⟨t.n,rfl,rfl⟩
   . exact⟨0,rfl,rfl⟩
section
variable {H:ZG} {tx:ZE}
theorem QtW (hl:tx.length<4611686018427387904) (k n:Int) (a:SV) (ha:a.isCell=true):Ok Tryz.prog 134 [.agg [i64 k,st (B tx),i64 n,a]] H (.ret (i64 (Qcj k tx n))) H:=by
 refine Qz hm Tryz.func134 c134 (by simp) λhcl => ?_;obtain⟨m,hm1,hm2⟩:=Qvc k tx;rw[<-QyS (k:=k) (n:=n) (tx:=tx) hm1];simp[i134,r134,ha];refine Qc (QzP (A:=H) hl k n 3 a) ?_;by_cases hb:(Q3 k tx).1=true
 . simp[hb,tC];refine Qc (Qxq (A:=H) m n 2 hm1 hm2) ?_;by_cases hn:n=m
   . simp[hn];exact Qp 4 hcl rfl (by simp)
   . simp[hn];exact Qp 4 hcl rfl (by simp)
 . rw[Vi]at hb;simp[hb];exact Qp 4 hcl rfl (by simp)
end
def sgn2:ZD:=[[42],[47],[37],[43],[45],[61,61],[33,61],[60],[60,61],[62],[62,61],[97,110,100],[111,114]]
def Qah (op:Int):ZE×Int :=
 if op=3 then([45],1)else if op=4 then([110,111,116],1)else if op=18 then([109,105,110],2)else if op=19 then([109,97,120],2)
 else if op=20 then([105,102],3)else if op<5\/17<op then([],0)else(sgn2.getD (op-5).toNat [],2)
def Qeq (op:Int):Bool:=decide (op=18)||decide (op=19)||decide (op=20)
def Qb8 (s:ZE):Bool:=decide (Qcj 1 s 0=0) && !decide (s∈QaU)
def QdU:Ex->Bool
 |.mk op n nm l _ =>
  if op=1 then decide (nm=[])&&decide (l=[])&&decide (0<=n/\n<=1000000000)
  else if op=2 then decide (n=0)&&decide (l=[])&&Qb8 nm
  else decide (0<(Qah op).2)&&decide ((l.length:Int)=(Qah op).2)&&decide (n=0)&&decide (nm=[])
def Ex.nmE:Ex->ZE
 |.mk _ _ nm _ _=>nm
section
variable {H:ZG}
theorem QsK (a n b:Int):Ok Tryz.prog 102 [i64 a,i64 n,i64 b] H (.ret (bl (decide (a<=n/\n<=b)))) H:=by
 refine Qz hm Tryz.func102 c102 (by simp) λhcl => ?_;by_cases h:a<=n
 . simp -implicitDefEqProofs[Ql7,Ql2,h];exact Qi
 . simp -implicitDefEqProofs[Ql7,Ql2,h];exact Qi
theorem Qsj (op:Int):Ok Tryz.prog 132 [i64 op] H (.ret (bl (Qeq op))) H:=by
 refine Qz hm Tryz.func132 c132 (by simp) λhcl => ?_;unfold Qeq;by_cases h:op=18
 . simp -implicitDefEqProofs[Qle,Qk4,h];exact Qi
 . by_cases h2:op=19
   . simp -implicitDefEqProofs[Qle,Qk4,h2];exact Qi
   . simp -implicitDefEqProofs[Qle,Qk4,h,h2];exact Qi
theorem QrA (op:Int):Ok Tryz.prog 131 [i64 op] H (.ret (.tup [st (B (Qah op).1),i64 (Qah op).2])) H:=by
 refine Qz hm Tryz.func131 c131 (by simp) λhcl => ?_;by_cases h1:op=3
 . subst h1; simp -implicitDefEqProofs[QeS,Qey,Qah]; exact Qi
 by_cases h2:op=4
 . subst h2; simp -implicitDefEqProofs[QeS,Qey,Qah]; exact Qi
 by_cases h3:op=18
 . subst h3; simp -implicitDefEqProofs[QeS,Qey,Qah]; exact Qi
 by_cases h4:op=19
 . subst h4; simp -implicitDefEqProofs[QeS,Qey,Qah]; exact Qi
 by_cases h5:op=20
 . subst h5; simp -implicitDefEqProofs[QeS,Qey,Qah]; exact Qi
 by_cases h6:op<5
 . simp -implicitDefEqProofs[QeS,Qey,Qah,h1,h2,h3,h4,h5,h6]; exact Qi
 by_cases h7:17<op
 . simp -implicitDefEqProofs[QeS,Qey,Qah,h1,h2,h3,h4,h5,h6,h7]; exact Qi
 obtain⟨k,rfl⟩:∃ k:Nat,op=(k:Int)+5:=⟨(op-5).toNat,by omega⟩;have hk:k<13:=by omega
 have w:IntKind.i64.wrap ((k:Int)+5-5)=k:=by
  have:(k:Int)+5-5=k:=by omega
  rw[this]; exact QeU (by omega)
 have w2:IntKind.i64.wrap (k:Int)=k:=QeU (by omega);have hk':(k:Int)<13:=by omega
 simp -implicitDefEqProofs[QeS,Qey,h1,h2,h3,h4,h5,h6,h7,w2,hk,hk'];refine⟨by omega,Qp 3 hcl rfl ?_⟩;have e:Qah ((k:Int)+5)=(sgn2.getD k [],2):=by
  unfold Qah;rw[Zm h1,Zm h2,Zm h3,Zm h4,Zm h5,Zm (by omega)];have:((k:Int)+5-5).toNat=k:=by omega
  rw[this]
 rw[e];have:k=0\/k=1\/k=2\/k=3\/k=4\/k=5\/k=6\/k=7\/k=8\/k=9\/k=10\/k=11\/k=12:=by omega
 rcases this with rfl|rfl|rfl|rfl|rfl|rfl|rfl|rfl|rfl|rfl|rfl|rfl|rfl<;>rfl
theorem QsJ {s:ZE} (hl:s.length<4611686018427387904):Ok Tryz.prog 101 [st (B s)] H (.ret (bl (Qb8 s))) H:=by
 refine Qz hm Tryz.func101 c101 (by simp) λhcl => ?_;simp -implicitDefEqProofs[i101,r101];refine Qc (QtW hl 1 0 (i64 0) rfl) ?_;by_cases h:Qcj 1 s 0=0
 . simp -implicitDefEqProofs[h];refine QZ (r:=bl (decide (s∈QaU))) (λ_=>Qo9 s) ?_;simp -implicitDefEqProofs[h];have e:Qb8 s = !decide (s∈QaU):=by simp[Qb8,h]
   rw[e]; exact Qi
 . simp -implicitDefEqProofs[h];refine Qcg _ _ _ _ ?_;simp -implicitDefEqProofs;have e:Qb8 s=false:=by simp[Qb8,h]
   rw[e]; exact Qi
theorem QwD {e:Ex} (hs:QdU e=true) (hnm:e.nmE.length<4611686018427387904):Ok Tryz.prog 130 [e.v] H (.ret (bl true)) H:=by
 obtain⟨op,n,nm,l,p⟩:=e;refine Qz hm Tryz.func130 c130 (by simp) λhcl => ?_;simp only[QdU]at hs;by_cases h1:op=1
 . rw[Zn h1]at hs;simp only[Va,Zq]at hs;obtain⟨⟨rfl,rfl⟩,h3,h4⟩:=hs;subst h1;simp -implicitDefEqProofs[Qju,QkS,Ex.v,Ex.c];refine QZ (r:=bl true) (λ_=>by have h:=λH=>QsK (H:=H) 0 n 1000000000; rw[decide_eq_true (And.intro h3 h4)]at h; exact h _) ?_;simp -implicitDefEqProofs;exact Qp 3 hcl rfl (by simp)
 by_cases h2:op=2
 . rw[Zm h1,Zn h2]at hs;simp only[Va,Zq]at hs;obtain⟨⟨rfl,rfl⟩,h3⟩:=hs;subst h2;simp -implicitDefEqProofs[Qju,QkS,Ex.v,Ex.c];refine QZ (r:=bl true) (λ_=>by have h:=λH=>QsJ (H:=H) (s:=nm) hnm; rw[h3]at h; exact h _) ?_;simp -implicitDefEqProofs;exact Qp 3 hcl rfl (by simp)
 rw[Zm h1,Zm h2]at hs;simp only[Va,Zq]at hs;obtain⟨⟨⟨h3,h4⟩,rfl⟩,rfl⟩:=hs;simp -implicitDefEqProofs[Qju,QkS,Ex.v,Ex.c,h1,h2];refine Qc (QrA op) ?_;simp -implicitDefEqProofs[h3,h4];exact Qp 3 hcl rfl (by simp)
end
def byO (o:ZE) (v:Nat):AO:=⟨Qac (B o),5,v,true⟩
def prO (q n v:Nat):AO:=⟨[.own q 0 n 1 v],85,0,true⟩
structure PrA (G:ZG) (j q:Nat) (o:ZE) (v:Nat):Prop where
 h1:G[j]? = some (prO q o.length v)
 h2:G[q]? = some (byO o v)
 h3:j≠q
def wr (G:ZG) (j q:Nat) (o:ZE) (v:Nat):ZG:=(G.set j (prO q o.length v)).set q (byO o v)
@[simp] theorem wr_len (G:ZG) (j q:Nat) (o:ZE) (v:Nat):(wr G j q o v).length=G.length:=by simp[wr]
theorem Qig (o:ZE):(Qac (B o)).length=o.length:=by simp[Qac]
section
variable {G H:ZG} {j q v:Nat} {o:ZE}
theorem PrA.lj (h:PrA G j q o v):j<G.length:=Qj h.h1
theorem PrA.lq (h:PrA G j q o v):q<G.length:=Qj h.h2
theorem PrA.wr (h:PrA G j q o v) (o':ZE) (v':Nat):PrA (wr G j q o' v') j q o' v':=by
 have hj:=h.lj; have hq:=h.lq; have hne:=h.h3;refine⟨?_,?_,hne⟩
 . unfold Proofs.YtmkdpmfhlfhjkaaGreatDoor.wr;rw[Vf (λe=>hne e.symm),Vo hj]
 . unfold Proofs.YtmkdpmfhlfhjkaaGreatDoor.wr;rw[Vo (by simpa using hq)]
theorem PrA.app (h:PrA G j q o v) (L:ZG):PrA (G++L) j q o v :=
 ⟨by rw[Vc h.lj]; exact h.h1,by rw[Vc h.lq]; exact h.h2,h.h3⟩
theorem PrA.same (h:PrA G j q o v):Proofs.YtmkdpmfhlfhjkaaGreatDoor.wr G j q o v=G:=by
 unfold Proofs.YtmkdpmfhlfhjkaaGreatDoor.wr;rw[QcI h.h1,QcI h.h2]
theorem QjC (hne:j≠q) (o':ZE) (v':Nat):wr (wr G j q o v) j q o' v'=wr G j q o' v':=by
 unfold wr;rw[List.set_comm _ _ (λe=>hne e.symm),VA,VA]
theorem Qin (hj:j<G.length) (hq:q<G.length) (L:ZG):wr (G++L) j q o v=wr G j q o v++L:=by
 unfold wr;rw[Vl _ _ hj,Vl _ _ (by simpa using hq)]
theorem Qvo (h:closed G) (hq:q<G.length):closed (wr G j q o v):=by
 unfold wr;refine QfH (QfH h j ?_) q ?_
 . simp[prO,SV.underL,SV.under,hq]
 . rw[SV.underL_iff];intro s hs;simp only[byO,Qac,Vy]at hs;obtain⟨b,_,rfl⟩:=hs; rfl
theorem QtB {l:ZD} {i:Nat} (h:i<l.length):(l.take (i+1)).flatten=(l.take i).flatten++l[i]:=by
 rw[<-Zk h,List.flatten_append]; simp
theorem Qtq {hne:j≠q} {o s:ZE} {v:Nat}:((wr H j q o v).set q ⟨(byO o v).cells++Qac (B s),(byO o v).ty,(byO o v).ver+1,(byO o v).live⟩).set j
     ⟨.own q 0 (o.length+s.length) 1 (v+1)::(prO q o.length v).cells.tail,(prO q o.length v).ty,(prO q o.length v).ver,(prO q o.length v).live⟩=wr H j q (o++s) (v+1):=by
 have e1:(⟨(byO o v).cells++Qac (B s),(byO o v).ty,(byO o v).ver+1,(byO o v).live⟩:AO)=byO (o++s) (v+1):=by simp[byO,Qac]
 have e2:(⟨.own q 0 (o.length+s.length) 1 (v+1)::(prO q o.length v).cells.tail,(prO q o.length v).ty,(prO q o.length v).ver,(prO q o.length v).live⟩:AO)=prO q (o++s).length (v+1):=by simp[prO]
 rw[e1,e2];unfold wr;rw[VA,List.set_comm _ _ (λe=>hne e.symm),VA]
theorem Qup (hp:PrA H j q o v) {x:SV} {l:ZD} (hx:∀ o v,IsS (wr H j q o v) x l) (hl:l.length<4611686018427387904) (hL:o.length+l.flatten.length<=140737488355328) {N:Nat} {K:ZF}
 (hexit:∀ env,K (.exit 0) env (wr H j q (o++l.flatten) (v+l.length))) :
 ∀ (m i:Nat) (env:Env),i+m=l.length->env.get 0=rp j->env.get 6=x->env.get 7=i64 l.length->env.get 8=i64 i->LI Tryz.prog N Qf QjD env (wr H j q (o++(l.take i).flatten) (v+i)) K:=by
 intro m
 induction m with
 |zero =>
  intro i env hi h0 h6 h7 h8;refine Qu hm QjD.eq_1 ?_;have e:i=l.length:=by omega
  subst e;simp[h0,h6,h7,h8];exact hexit _
 |succ m ih =>
  intro i env hi h0 h6 h7 h8;refine Qu hm QjD.eq_1 ?_;have hlt:i<l.length:=by omega
  have hlt':(i:Int)<l.length:=by omega
  have hxo:=hx (o++(l.take i).flatten) (v+i);have hv:=hxo.vA [] hlt;have ho:=hxo.okA [] hlt;simp only[VE]at hv ho;have htk:(l.take (i+1)).flatten=(l.take i).flatten++l[i]:=QtB hlt;have hle:((l.take i).flatten++l[i]).length<=l.flatten.length:=by
   rw[<-htk];conv=>rhs; rw[<-Yk (i+1) l]
   rw[List.flatten_append,Vj]; omega
  rw[Vj]at hle;have ih:=ih (i+1);rw[htk]at ih;generalize l[i]=s at hv htk hle ih;have hw:=hp.wr (o++(l.take i).flatten) (v+i);generalize ho':o++(l.take i).flatten=o' at hw hxo hv ho;have ho'l:o'.length=o.length+(l.take i).flatten.length:=by rw[<-ho',Vj]
  have e1:Qn (wr H j q o' (v+i)) j 0=[.own q 0 o'.length 1 (v+i)]:=Qap hw.h1 rfl;have e2:QbB (wr H j q o' (v+i)) q (v+i) 5 (o'.length*1):=⟨_,hw.h2,rfl,rfl,rfl,by simp[byO,Qig]⟩;have e3:∀ f,Ab.setObj (wr H j q o' (v+i)) q f=(wr H j q o' (v+i)).set q (f (byO o' (v+i))):=λf=>QbX hw.h2 f;have e4:∀ (y:AO) f,Ab.setObj ((wr H j q o' (v+i)).set q y) j f=((wr H j q o' (v+i)).set q y).set j (f (prO q o'.length (v+i))):=λy f=>QbX (by rw[Vf (λe=>hp.h3 e.symm)]; exact hw.h1) f;have e5:∀ (y:AO),Qn ((wr H j q o' (v+i)).set q y) j 0=[.own q 0 o'.length 1 (v+i)]:=λy=>Qap (o:=prO q o'.length (v+i)) (by rw[Vf (λe=>hp.h3 e.symm)]; exact hw.h1) rfl;simp[h0,h6,h7,h8,hlt',hxo.vd,hxo.ug,hxo.sl,hxo.len,hv,ho,rp,e1,e3,e4,e5];refine⟨by omega,by simpa using e2,LI.cong (Qtq (hne:=hp.h3)).symm ?_⟩;subst ho';rw[Vz];exact ih _ (by omega) (by simp[rp]) (by simp) (by simp) (by simp[QaH (show i<9223372036854775807 by omega)])
theorem Qvg (hp:PrA H j q o v) {x:SV} {l:ZD} (hx:∀ o v,IsS (wr H j q o v) x l) (hl:l.length<4611686018427387904) (hL:o.length+l.flatten.length<=140737488355328) :
 Ok Tryz.prog 105 [rp j,x] H (.ret (.tup [])) (wr H j q (o++l.flatten) (v+l.length)):=by
 have hxo:=hx o v;rw[hp.same]at hxo;have hj:=hp.lj;refine Qz hm Tryz.func105 c105 (by simp[rp]) λhcl => ?_;simp[i105,r105,hxo.vd,hxo.ug,hxo.sl,hxo.len];refine LI.cong (H':=wr H j q (o++(l.take 0).flatten) (v+0)) (by simpa using hp.same) ?_;refine Qup hp hx hl hL (λenv => ?_) l.length 0 _ (by omega) (by simp) (by simp) (by simp) (by simp);simp;exact Qi
theorem Qnd (hp:PrA H j q o v):Ok Tryz.prog 51 [rp j] H (.ret (bl (decide (20000<o.length)))) H:=by
 have hj:=hp.lj;have e1:Qn H j 0=[.own q 0 o.length 1 v]:=Qap hp.h1 rfl;refine Qz hm Tryz.func51 c51 (by simp[rp]) λhcl => ?_;simp[i51,r51,rp,e1];have e:decide ((20000:Int)<o.length)=decide (20000<o.length):=by congr 1; exact propext (by omega)
 rw[e];exact Qi
end
def QbV (n:Int):ZE:=Lib.decDigits n.toNat
def Qc0 (x:Int×(ZE->ZE)) (o:ZE):ZE :=
 if x.1=1\/x.1=2\/Qeq x.1=true then x.2 o else x.2 (o++[40])++[41]
def QdB:Bool->List (Int×(ZE->ZE))->ZE->ZE
 |_,[],o=>o
 |true,f::r,o=>QdB false r (f.2 o)
 |false,f::r,o=>QdB false r (f.2 (o++[44,32]))
def QeJ (fs:List (Int×(ZE->ZE))) (i:Nat) (o:ZE):ZE :=
 match fs[i]? with
 |some f=>Qc0 f o
 |none=>o
def Ex.opE:Ex->Int
 |.mk op _ _ _ _=>op
mutual
def prE:Ex->ZE->ZE
 |.mk op n nm l _=>λo =>
  if 20000<o.length then o else if op=1 then o++QbV n else if op=2 then o++nm
  else if Qeq op=true then QdB true (prF l) (o++(Qah op).1++[40])++[41]
  else if(Qah op).2=1 then QeJ (prF l) 0 (o++(Qah op).1++[32])
  else QeJ (prF l) 1 (QeJ (prF l) 0 o++[32]++(Qah op).1++[32])
def prF:List Ex->List (Int×(ZE->ZE))
 |[]=>[]
 |e::r=>(e.opE,prE e)::prF r
end
theorem QxN:∀ l:List Ex,prF l=l.map λe=>(e.opE,prE e)
 |[]=>by rw[prF]; rfl
 |e::r=>by rw[prF,QxN r]; rfl
def QaA (f:ZE->ZE):Prop:=∀ o,o.length<=(f o).length
theorem Qk1 {x:Int×(ZE->ZE)} (h:QaA x.2):QaA (Qc0 x):=by
 intro o;unfold Qc0;split
 . exact h o
 . have:=h (o++[40]);simp at this ⊢; omega
theorem Qhd:∀ (fs:List (Int×(ZE->ZE))) (b:Bool),(∀ f∈fs,QaA f.2)->QaA (QdB b fs)
 |[],b,_=>by intro o; cases b<;>exact Vb _
 |f::r,b,h=>by
  have hf:=h f (.head _);have hr:=Qhd r false (λg hg=>h g (.tail _ hg));intro o
  cases b
  . have h1:=hf (o++[44,32]); have h2:=hr (f.2 (o++[44,32]));simp only[QdB];simp at h1; omega
  . have h1:=hf o; have h2:=hr (f.2 o);simp only[QdB]; omega
theorem Qq8 {fs:List (Int×(ZE->ZE))} (h:∀ f∈fs,QaA f.2) (i:Nat):QaA (QeJ fs i):=by
 intro o;unfold QeJ;split
 . rename_i f hf;exact Qk1 (h f (Vs hf)) o
 . exact Vb _
mutual
theorem Qep:∀ e:Ex,QaA (prE e)
 |.mk op n nm l p=>by
  have h:=QgN l;have h1:=Qhd (prF l) true h;have h2:=Qq8 h 0;have h3:=Qq8 h 1;intro o;unfold prE;split
  . exact Vb _
  . split
    . simp
    . split
      . simp
      . split
        . have:=h1 (o++(Qah op).1++[40]);simp at this ⊢; omega
        . split
          . have:=h2 (o++(Qah op).1++[32]);simp at this ⊢; omega
          . have a:=h2 o;have b:=h3 (QeJ (prF l) 0 o++[32]++(Qah op).1++[32]);simp at b ⊢; omega
theorem QgN:∀ (l:List Ex),∀ f∈prF l,QaA f.2
 |[],f,h=>by rw[prF]at h; cases h
 |e::r,f,h=>by
  rw[prF]at h;rcases Ve.1 h with rfl|h
  . exact Qep e
  . exact QgN r f h
end
def NumK (n:Int):Prop:=∀ H,Ok Tryz.prog 106 [i64 n] H (.ret (st (B (QbV n)))) H
mutual
def Ex.prp:Ex->Prop
 |.mk op n nm l p=>QdU (.mk op n nm l p)=true/\nm.length<4611686018427387904/\(op=1->NumK n)/\Ex.prpL l
def Ex.prpL:List Ex->Prop
 |[]=>True
 |e::r=>e.prp/\Ex.prpL r
end
theorem Qir:∀ {l:List Ex},Ex.prpL l↔∀ e∈l,e.prp
 |[]=>by simp[Ex.prpL]
 |e::r=>by simp[Ex.prpL,Qir (l:=r)]
def PrK (k:ZN) (args:ZH) (F:ZE->ZE):Prop :=
 ∀ (H:ZG) (j q:Nat) (o:ZE) (v:Nat),PrA H j q o v->(F o).length<=140737488355328 ->
  OkP Tryz.prog k (rp j::args) (wr H j q o v) λout H'=>out=.ret (.tup [])/\∃ v',H'=wr H j q (F o) v'
section
variable {H:ZG} {j q v:Nat} {o:ZE}
@[simp] theorem Qxf (L:ZG) (k ver:Nat):Qn (wr H j q o v++L) (H.length+k) ver=Qn L k ver:=by
 have:=QfN (H:=wr H j q o v) (L:=L) (k:=k) (ver:=ver); simpa using this
@[simp] theorem QGf (L:ZG) (ver:Nat):Qn (wr H j q o v++L) H.length ver=Qn L 0 ver:=Qxf L 0 ver
@[simp] theorem QDT (L:ZG) (k:Nat) (f:AO->AO):Ab.setObj (wr H j q o v++L) (H.length+k) f=wr H j q o v++Ab.setObj L k f:=by
 have:=QkC (H:=wr H j q o v) (L:=L) (k:=k) (f:=f); simpa using this
theorem PrK.at {k:ZN} {args:ZH} {F:ZE->ZE} (h:PrK k args F) (hp:PrA H j q o v) (o:ZE) (v:Nat) (L:ZG) (hL:(F o).length<=140737488355328) :
 OkP Tryz.prog k (rp j::args) (wr H j q o v++L) λout H'=>out=.ret (.tup [])/\∃ v',H'=wr H j q (F o) v'++L:=by
 have h1:=h (wr H j q o v++L) j q o v ((hp.wr o v).app L) hL;rw[Qin (by simpa using hp.lj) (by simpa using hp.lq),QjC hp.h3]at h1;refine h1.mono ?_;rintro out H' ⟨rfl,v',rfl⟩;refine⟨rfl,v',?_⟩;rw[Qin (by simpa using hp.lj) (by simpa using hp.lq),QjC hp.h3]
theorem QbR (hp:PrA H j q o v) (o:ZE) (v:Nat) {L:ZG} {k T n:Nat} {l:ZD} (h:L[k]? = some ⟨wds l,T,0,true⟩) (hn:n=l.length) (hl:l.length<4611686018427387904) (hL:o.length+l.flatten.length<=140737488355328) :
 Ok Tryz.prog 105 [rp j,.own (H.length+k) 0 n 1 0] (wr H j q o v++L) (.ret (.tup [])) (wr H j q (o++l.flatten) (v+l.length)++L):=by
 have h1:=Qvg (H:=wr H j q o v++L) ((hp.wr o v).app L) (x:=.own (H.length+k) 0 n 1 0) (l:=l) (λo' v'=>by
  rw[Qin (by simpa using hp.lj) (by simpa using hp.lq)];have:=IsS.own1 (H:=wr (wr H j q o v) j q o' v') h hn;simpa using this) hl hL
 rw[Qin (by simpa using hp.lj) (by simpa using hp.lq),QjC hp.h3]at h1;exact h1
theorem Qsg (hp:PrA H j q o v) (o:ZE) (v:Nat) (L:ZG):Ok Tryz.prog 51 [rp j] (wr H j q o v++L) (.ret (bl (decide (20000<o.length)))) (wr H j q o v++L):=Qnd ((hp.wr o v).app L)
theorem Qdm (hp:PrA H j q o v) {o1 o2:ZE} {v1:Nat} (hcl:closed (wr H j q o v)) {n0:Nat} (hn:n0=H.length) (L:ZG) (he:o1=o2) :
 ∃ (y:SV) (H'':ZG),((Out.ret y)=.ret (.tup [])/\∃ v',H''=wr H j q o2 v')/\Cv n0 (.tup []) (wr H j q o1 v1++L) y H'':=by
 subst he;refine⟨_,_,⟨rfl,v1,rfl⟩,Qp 3 ?_ (by simpa using hn) (by simp)⟩;have:=Qvo (o:=o1) (v:=v1) (j:=j) hcl (by simpa using hp.lq)
 rwa [QjC hp.h3]at this
end
section
variable {H:ZG} {j q v:Nat} {o:ZE}
theorem QmJ {e:Ex} (h:PrK 73 [e.v] (prE e)):PrK 133 [e.v] (Qc0 (e.opE,prE e)):=by
 intro H j q o v hp hL;obtain⟨op,n,nm,l,p⟩:=e;have hj:=hp.lj; have hq:=hp.lq;refine Qa8 hm Tryz.func133 c133 (by simp[rp]) λhcl => ?_;have hdir:(op=1\/op=2\/Qeq op=true)->Qc0 (op,prE (.mk op n nm l p)) o=prE (.mk op n nm l p) o:=λh=>by unfold Qc0; rw[Zn h]
 simp only[Ex.opE]at hL ⊢;have key:=h.at hp;by_cases h1:op=1
 . rw[hdir (.inl h1)]at hL ⊢;simp -implicitDefEqProofs[Qkg,QiN,Ex.v,Ex.c,h1];refine Qcg _ _ _ _ ?_;subst h1;simp -implicitDefEqProofs;refine Q4 (key o v _ hL) ?_;rintro out H' ⟨rfl,v',rfl⟩;simp -implicitDefEqProofs;exact Qdm hp hcl (by simp) _ rfl
 by_cases h2:op=2
 . rw[hdir (.inr (.inl h2))]at hL ⊢;simp -implicitDefEqProofs[Qkg,QiN,Ex.v,Ex.c,h2];refine Qcg _ _ _ _ ?_;subst h2;simp -implicitDefEqProofs;refine Q4 (key o v _ hL) ?_;rintro out H' ⟨rfl,v',rfl⟩;simp -implicitDefEqProofs;exact Qdm hp hcl (by simp) _ rfl
 simp -implicitDefEqProofs[Qkg,QiN,Ex.v,Ex.c,h1,h2];refine QZ (r:=bl (Qeq op)) (λ_=>Qsj op) ?_;by_cases h3:Qeq op=true
 . rw[hdir (.inr (.inr h3))]at hL ⊢;simp -implicitDefEqProofs[h3];refine Q4 (key o v _ hL) ?_;rintro out H' ⟨rfl,v',rfl⟩;simp -implicitDefEqProofs;exact Qdm hp hcl (by simp) _ rfl
 . have hd:Qc0 (op,prE (.mk op n nm l p)) o=prE (.mk op n nm l p) (o++[40])++[41]:=by unfold Qc0; rw[Zm (by simp[h1,h2,h3])]
   rw[hd]at hL ⊢;have hg:=Qep (.mk op n nm l p) (o++[40]);rw[Vj]at hL;simp at hL hg;rw[Vi]at h3;simp -implicitDefEqProofs[h3];refine Qc (QbR hp o v (k:=1) (l:=[[40]]) rfl rfl (by simp) (by simp; omega)) ?_;simp -implicitDefEqProofs;refine Q4 (key (o++[40]) (v+1) _ (by omega)) ?_;rintro out H' ⟨rfl,v',rfl⟩;simp -implicitDefEqProofs;refine Qc (QbR hp _ v' (k:=2) (l:=[[41]]) rfl rfl (by simp) (by simp; omega)) ?_;simp -implicitDefEqProofs;exact Qdm hp hcl (by simp) _ rfl
theorem QxB (hp:PrA H j q o v) {l:List Ex} (hl:l.length<=100) (hE:∀ e∈l,PrK 73 [e.v] (prE e)) {res:ZE} (hL:res.length<=140737488355328) {N:Nat} {K:ZF}
 (hexit:∀ env v L,K (.exit 0) env (wr H j q res v++L)) :
 ∀ (m i:Nat) (o:ZE) (v:Nat) (L:ZG) (env:Env),i+m=l.length->QdB (decide (i=0)) (prF (l.drop i)) o=res->env.get 0=rp j->env.get 6=exS l->env.get 7=i64 l.length->env.get 8=i64 i->LI Tryz.prog N Qf Qkj env (wr H j q o v++L) K:=by
 intro m
 induction m with
 |zero =>
  intro i o v L env hi hr h0 h6 h7 h8;refine Qu hm Qkj.eq_1 ?_;have e:i=l.length:=by omega
  subst e;rw[Yu,prF]at hr;have hr:o=res:=by rw[<-hr]; cases decide (l.length=0)<;>rfl
  subst hr;simp[h0,h6,h7,h8,exS];exact hexit _ _ _
 |succ m ih =>
  intro i o v L env hi hr h0 h6 h7 h8;refine Qu hm Qkj.eq_1 ?_;have hlt:i<l.length:=by omega
  have hlt':(i:Int)<l.length:=by omega
  have hg:=QfJ hlt;have hlen:=Qfi l;have he:=hE l[i] (Vu hlt);rw[VS hlt,prF]at hr;have hE':∀ f∈prF (l.drop (i+1)),QaA f.2:=QgN _;have ih:=ih (i+1);have hg1:=Qhd (prF (l.drop (i+1))) false hE';generalize l[i]=e at hg he hr;have hgr:=Qep e;have hv:e.v=.agg e.c:=by cases e; rfl
  have he':=λo v L h=>he.at hp o v L h;simp only[hv]at he';by_cases h00:i=0
  . subst h00;have hr:QdB false (prF (l.drop 1)) (prE e o)=res:=hr;have h2:=hg1 (prE e o);rw[hr]at h2;simp at hg;simp[h0,h6,h7,h8,exS,hlt,hg,hlen];refine⟨by omega,Q4 (he' o v _ (by omega)) ?_⟩;rintro out H' ⟨rfl,v',rfl⟩;simp[h0,h6,h7,h8,exS];refine ih _ v' _ _ (by omega) hr ?_ ?_ ?_ ?_
    . simp
    . simp[exS]
    . simp
    . simp; rfl
  . have hr:QdB false (prF (l.drop (i+1))) (prE e (o++[44,32]))=res:=by
     rw[<-hr,decide_eq_false h00]; rfl
    have h2:=hg1 (prE e (o++[44,32]));have h3:=hgr (o++[44,32]);rw[hr]at h2;rw[Vj]at h3;simp at h3;have hpos:0<i:=by omega
    simp[h0,h6,h7,h8,exS,hlt',hg,hlen,hpos];refine⟨by omega,Qc (QbR hp o v (k:=L.length+1) (l:=[[44,32]]) (T:=9) (by simp; rfl) rfl (by simp) (by simp; omega)) ?_⟩;simp[h0,h6,h7,h8,exS];refine Q4 (he' (o++[44,32]) (v+1) _ (by omega)) ?_;rintro out H' ⟨rfl,v',rfl⟩;simp[h0,h6,h7,h8,exS];refine ih _ v' _ _ (by omega) (by simpa using hr) ?_ ?_ ?_ ?_;all_goals simp[exS,QaH (show i<9223372036854775807 by omega)]
theorem Qqo {l:List Ex} (hl:l.length<=100) (hE:∀ e∈l,PrK 73 [e.v] (prE e)):PrK 109 [exS l] (QdB true (prF l)):=by
 intro H j q o v hp hL;have hj:=hp.lj;refine Qa8 hm Tryz.func109 c109 (by simp[rp,exS]) λhcl => ?_;simp[i109,r109,exS];refine LI.cong (H':=wr H j q o v++[]) (by simp) ?_;refine QxB hp hl hE hL (λenv v L => ?_) l.length 0 o v [] _ (by omega) (by simp) (by simp) (by simp[exS]) (by simp) (by simp);simp;exact Qdm hp hcl (by simp) _ rfl
end
section
variable {H:ZG} {j q v:Nat} {o:ZE}
theorem QvK {op n p:Int} {nm:ZE} {l:List Ex} (he:(Ex.mk op n nm l p).prp) (hE:∀ e∈l,PrK 73 [e.v] (prE e)):PrK 73 [(Ex.mk op n nm l p).v] (prE (.mk op n nm l p)):=by
 intro H j q o v hp hL;have hj:=hp.lj; have hq:=hp.lq;unfold Ex.prp at he;obtain⟨hs,_,hN,_⟩:=he;refine Qa8 hm Tryz.func73 c73 (by simp[rp]) λhcl => ?_;have hG:∀ f∈prF l,QaA f.2:=QgN l;rw[prE]at hL ⊢;by_cases hf:20000<o.length
 . simp only[hf,Zs]at hL ⊢;simp -implicitDefEqProofs[i73,r73,Ex.v,Ex.c];refine Qc (Qsg hp o v _) ?_;simp -implicitDefEqProofs[hf];exact Qdm hp hcl (by simp) _ rfl
 simp only[hf,Zt]at hL ⊢;simp -implicitDefEqProofs[i73,r73,Ex.v,Ex.c];refine Qc (Qsg hp o v _) ?_;simp -implicitDefEqProofs[hf];refine Qc (QrA op) ?_;by_cases h1:op=1
 . subst h1;simp only[Zs,Vj]at hL ⊢;simp -implicitDefEqProofs;refine Qc (hN rfl _) ?_;simp -implicitDefEqProofs;refine Qc (QbR hp o v (k:=1) (l:=[QbV n]) rfl rfl (by simp) (by simpa using hL)) ?_;simp -implicitDefEqProofs;exact Qdm hp hcl (by simp) _ rfl
 by_cases h2:op=2
 . subst h2;simp only[Zs]at hL ⊢;simp -implicitDefEqProofs;refine Qc (QbR hp o v (k:=1) (l:=[nm]) rfl rfl (by simp) (by simpa using hL)) ?_;simp -implicitDefEqProofs;exact Qdm hp hcl (by simp) _ rfl
 have hlen:0<(Qah op).2/\(l.length:Int)=(Qah op).2:=by
  simp only[QdU,h1,h2,Zt,Va,Zq]at hs;exact hs.1.1
 simp only[h1,h2,Zt]at hL ⊢;simp -implicitDefEqProofs[h1,h2];refine Qc (Qsj op) ?_;by_cases h3:Qeq op=true
 . simp only[h3,Zs]at hL ⊢;have hg:=Qhd (prF l) true hG (o++(Qah op).1++[40]);simp at hL hg;have hl3:l.length<=3:=by
    have:op=18\/op=19\/op=20:=by simp only[Qeq,V3,Zq]at h3; omega
    rcases this with rfl|rfl|rfl<;>simp[Qah]at hlen<;>omega
   generalize hsg:(Qah op).1=s at *;simp -implicitDefEqProofs;refine Qc (QbR hp o v (k:=1) (l:=[s,[40]]) rfl rfl (by simp) (by simp; omega)) ?_;simp -implicitDefEqProofs;have k109:=λo v L h=>(Qqo (by omega) hE).at hp o v L h;simp only[exS]at k109;refine Q4 (k109 (o++(s++[40])) (v+2) _ (by omega)) ?_;rintro out H' ⟨rfl,v',rfl⟩;simp -implicitDefEqProofs;refine Qc (QbR hp _ v' (k:=2) (l:=[[41]]) rfl rfl (by simp) (by simp; omega)) ?_;simp -implicitDefEqProofs;exact Qdm hp hcl (by simp) _ rfl
 rw[Vi]at h3;simp only[h3,Vt,Zt]at hL ⊢;by_cases h4:(Qah op).2=1
 . simp only[h4,Zs]at hL ⊢;have hl1:l.length=1:=by omega
   obtain⟨a,rfl⟩:=List.length_eq_one_iff.1 hl1;have k133:=λo v L h=>(QmJ (hE a (by simp))).at hp o v L h;have hv:a.v=.agg a.c:=by cases a; rfl
   simp only[hv]at k133;have hgo:=Qk1 (x:=(a.opE,prE a)) (Qep a) (o++(Qah op).1++[32]);have hnth:∀ o,QeJ (prF [a]) 0 o=Qc0 (a.opE,prE a) o:=λo=>rfl;rw[hnth]at hL ⊢;have hg:List.take 5 (Ex.cL [a])=a.c:=by have:=QfJ (l:=[a]) (i:=0) (by simp); simpa using this
   have hcl5:(Ex.cL [a]).length=5:=Qfi [a];generalize hsg:(Qah op).1=s at *;simp at hgo hL;simp -implicitDefEqProofs;refine Qc (QbR hp o v (k:=1) (l:=[s,[32]]) rfl rfl (by simp) (by simp; omega)) ?_;simp -implicitDefEqProofs[hg,hcl5];refine Q4 (k133 (o++(s++[32])) (v+2) _ (by omega)) ?_;rintro out H' ⟨rfl,v',rfl⟩;simp -implicitDefEqProofs;exact Qdm hp hcl (by simp) _ rfl
 . simp only[h4,Zt]at hL ⊢;have hl2:l.length=2:=by
    have hop:op≠18/\op≠19/\op≠20:=by simpa[Qeq,and_assoc]using h3
    have:(Qah op).2=1\/(Qah op).2=2\/(Qah op).2=0:=by
     unfold Qah;repeat' split
     all_goals simp_all
    omega
   obtain⟨a,b,rfl⟩:∃ a b,l=[a,b]:=by
    match l,hl2 with
    |[a,b],_=>exact⟨a,b,rfl⟩
   have ka:=λo v L h=>(QmJ (hE a (by simp))).at hp o v L h;have kb:=λo v L h=>(QmJ (hE b (by simp))).at hp o v L h;have hva:a.v=.agg a.c:=by cases a; rfl
   have hvb:b.v=.agg b.c:=by cases b; rfl
   simp only[hva]at ka;simp only[hvb]at kb;have hna:∀ o,QeJ (prF [a,b]) 0 o=Qc0 (a.opE,prE a) o:=λo=>rfl;have hnb:∀ o,QeJ (prF [a,b]) 1 o=Qc0 (b.opE,prE b) o:=λo=>rfl;rw[hna,hnb]at hL ⊢;have hga:=Qk1 (x:=(a.opE,prE a)) (Qep a) o;have hgb:=Qk1 (x:=(b.opE,prE b)) (Qep b) (Qc0 (a.opE,prE a) o++[32]++(Qah op).1++[32]);have hg:List.take 5 (Ex.cL [a,b])=a.c:=by have:=QfJ (l:=[a,b]) (i:=0) (by simp); simpa using this
   have hg2:List.take 5 (List.drop 5 (Ex.cL [a,b]))=b.c:=by have:=QfJ (l:=[a,b]) (i:=1) (by simp); simpa using this
   have hcl5:(Ex.cL [a,b]).length=10:=Qfi [a,b];generalize hsg:(Qah op).1=s at *;simp at hgb hL;simp -implicitDefEqProofs[h4,hg,hcl5];refine Q4 (ka o v _ (by omega)) ?_;rintro out H' ⟨rfl,v',rfl⟩;generalize Qc0 (a.opE,prE a) o=o1 at *;simp -implicitDefEqProofs;refine Qc (QbR hp o1 v' (k:=1) (l:=[[32],s,[32]]) rfl rfl (by simp) (by simp; omega)) ?_;simp -implicitDefEqProofs[hg2,hcl5];refine Q4 (kb (o1++32::(s++[32])) (v'+3) _ (by omega)) ?_;rintro out H' ⟨rfl,v'',rfl⟩;simp -implicitDefEqProofs;exact Qdm hp hcl (by simp) _ rfl
mutual
theorem Qlz:∀ (e:Ex),e.prp->PrK 73 [e.v] (prE e)
 |.mk op n nm l p,he=>QvK he (Qpx l (by unfold Ex.prp at he; exact he.2.2.2))
theorem Qpx:∀ (l:List Ex),Ex.prpL l->∀ e∈l,PrK 73 [e.v] (prE e)
 |[],_,_,h=>by cases h
 |e::r,hl,x,hx=>by
  unfold Ex.prpL at hl;by_cases hh:x=e
  . rw[hh]; exact Qlz e hl.1
  . exact Qpx r hl.2 x (by simpa[hh]using hx)
end
end
def Qc6:IC:=.keep [3,4]
 (.seq
  (.seq
   (.reg [
     ⟨(some 11),none,.p (.mov (.t 3))⟩,
     ⟨(some 12),none,.p (.len (.t 11))⟩,
     ⟨(some 13),none,.p (.bin .gtr (.i .i64) (.t 12) (.c (i64 0)))⟩])
   (.cond (.t 13)
    .skip
    (.exit 0)))
  (.blk 1
   (.seq
    (.reg [
      ⟨(some 14),none,.p (.mov (.t 3))⟩,
      ⟨(some 15),none,.p (.mov (.t 3))⟩,
      ⟨(some 16),none,.p (.len (.t 15))⟩,
      ⟨(some 17),none,.p (.bin .sub (.i .i64) (.t 16) (.c (i64 1)))⟩,
      ⟨(some 18),none,.p (.ia 1 (.t 14) (.t 17))⟩,
      ⟨(some 19),none,.p (.ld1 (.t 18))⟩,
      ⟨(some 5),none,.p (.mov (.t 19))⟩])
    (.seq
     (.reg [
       ⟨(some 20),none,.p (.mov (.t 3))⟩,
       ⟨(some 21),none,.p (.mov (.t 3))⟩,
       ⟨(some 22),none,.p (.len (.t 21))⟩,
       ⟨(some 23),none,.p (.bin .sub (.i .i64) (.t 22) (.c (i64 1)))⟩,
       ⟨(some 24),none,.p (.sl 1 (.t 20) none (some (.t 23)))⟩,
       ⟨(some 3),none,.p (.mov (.t 24))⟩])
     (.seq
      (.seq
       (.reg [
         ⟨(some 25),none,.p (.mov (.t 5))⟩,
         ⟨(some 26),none,.p (.lnv (.t 25))⟩,
         ⟨(some 27),none,.p (.bin .eql (.i .i64) (.t 26) (.c (i64 0)))⟩,
         ⟨(some 28),none,.p (.mov (.t 27))⟩,
         ⟨(some 29),(some (28,false)),.p (.mov (.t 4))⟩,
         ⟨(some 30),(some (28,false)),.p (.mov (.t 5))⟩,
         ⟨(some 31),(some (28,false)),.p (.iav 5 (.t 30) (.c (i64 0)))⟩,
         ⟨(some 32),(some (28,false)),.p (.lkp (.p 25) false (i64 0) (.t 29) (.t 31))⟩,
         ⟨(some 33),(some (28,false)),.p (.mov (.t 5))⟩,
         ⟨(some 34),(some (28,false)),.p (.lnv (.t 33))⟩,
         ⟨(some 35),(some (28,false)),.p (.bin .geq (.i .i64) (.t 32) (.t 34))⟩,
         ⟨(some 36),none,.p (.pick (.t 28) (.c (bl true)) (.t 35))⟩])
       (.cond (.t 36)
        (.exit 1)
        .skip))
      (.seq
       (.reg [
         ⟨(some 37),none,.p (.mov (.t 4))⟩,
         ⟨(some 38),none,.p (.mov (.t 5))⟩,
         ⟨(some 39),none,.p (.iav 5 (.t 38) (.c (i64 0)))⟩,
         ⟨(some 40),none,.p (.mov (.t 5))⟩,
         ⟨(some 41),none,.p (.lnv (.t 40))⟩,
         ⟨none,none,.e (.mup (.p 25) (.t 37) (.t 39) (.t 41))⟩])
       (.seq
        (.reg [
          ⟨(some 42),none,.p (.mov (.t 5))⟩,
          ⟨(some 43),none,.p (.lnv (.t 42))⟩,
          ⟨(some 44),none,.p (.mov (.c (i64 0)))⟩])
        (.blk 2
         (.loop Qka)))))))))
def i72m:IC :=
 (.seq
  (.reg [
    ⟨(some 2),none,.p (.mov (.c (bl false)))⟩])
  (.seq
   (.reg [
     ⟨(some 8),none,.p (.mov (.t 0))⟩,
     ⟨(some 9),none,.e (.bsl 23 1 1 [.val (.slice none 0 0)] [(0,(.t 8))])⟩,
     ⟨(some 3),none,.p (.mov (.t 9))⟩])
   (.seq
    (.reg [
      ⟨(some 10),none,.e (.mkm 163)⟩,
      ⟨(some 4),none,.p (.mov (.t 10))⟩])
    (.seq
     (.blk 0
      (.loop Qc6))
     (.seq
      (.reg [
        ⟨(some 2),none,.p (.mov (.c (bl true)))⟩])
      .ret)))))
theorem c72m:Qdv Tryz.prog Qf Tryz.f72 i72m r72=true:=by kernel_rfl
section
variable {P:ZL}
theorem _root_.Go.Ab.Ok.kn (G:Qr) {f:ZN} {args:ZH} {H H':ZG} {out:Out} (h : @Ok _ _ knNone P f args H out H') : @Ok _ _ G P f args H out H':=by
 refine⟨h.1,λS vs hH hS hv=>(h.2 S vs hH (Sim.to G knNone hS (λq hq=>by cases hq)) hv).mono ?_⟩;rintro e w ⟨v,ρ',h1,h2,h3⟩;exact⟨v,ρ',h1,Sim.to knNone G h2 (@St.KF.ext _ _ G _ _ _ (@Sim.kf _ _ G _ hS) h1),h3⟩
end
section
variable [G0:Qr]
theorem LI.learn0 {P:ZL} {N:Nat} {D:Array Oper->List Nat->List Ins->Bool} {i:IC} {env:Env} {H:ZG} {K:ZF} (j p:Nat) {o:AO} {cells:ZH} {len:Nat}
 (ho:H[j]? = some o) (hl:o.live=true) (hp:o.cells[p]? = some (.slc cells len))
 (h:∀ (a:ZJ) (cap:Nat),LI P N D i env (H.set j ⟨o.cells.set p (.val (.slice a len cap)),o.ty,o.ver,true⟩) K) :
 LI P N D i env H K:=by
 intro c hc db S a hH hS he hN hd;subst hH;have h1:=hS.live j o ho hl
 cases hρ:S.ρ j with
 |none=>rw[hρ]at h1; rw[h1]at hp; simp at hp
 |some b =>
  rw[hρ]at h1;obtain⟨us,rest,h2,h3⟩:=h1;obtain⟨u,hu1,hu2⟩:=h3.get hp;obtain⟨ad,cap,rfl⟩:∃ ad cap,u=.slice ad len cap:=by
   cases hu2 with
   |nilslc=>exact⟨none,0,rfl⟩
   |slc cells len a cap us hc hl hi h=>exact⟨some a,cap,rfl⟩
  have hS':Sim ⟨S.ρ,S.H.set j ⟨o.cells.set p (.val (.slice ad len cap)),o.ty,o.ver,true⟩,S.w⟩:=by
   refine QnF hS ho hl ?_ ?_
   . intro s hs;rcases YY hs with hs|rfl
     . exact(hS.bel j o ho s hs).2 hl
     . rfl
   . intro us' hl' hv';have e:us'.length=us.length:=hv'.1.trans h3.1.symm;have:us'=us:=by
      unfold St.lies at hl';rw[hρ]at hl';obtain⟨rest',h4⟩:=hl';rw[h2]at h4;have h5:us++rest=us'++rest':=by simpa using h4
      exact(List.append_inj h5 e.symm).1.symm
     subst this;refine⟨us'.length,?_⟩;rw[VN];refine⟨by simpa using h3.1,λk s v hs hv => ?_⟩;by_cases hk:k=p
     . subst hk;rw[hu1]at hv; cases hv
       rw[Vo (Qj hp)]at hs; cases hs
       exact .val _
     . rw[Vf (by omega)]at hs;exact h3.2 k s v hs hv
  have hx:=Qgv ho hl (o.cells.set p (.val (.slice ad len cap)));have hd':=hd.ext hS hx;refine Qjo (h ad cap c hc db ⟨S.ρ,S.H.set j ⟨o.cells.set p (.val (.slice ad len cap)),o.ty,o.ver,true⟩,S.w⟩ a rfl hS' (he.ext hx) hN hd') λe a' w hp => ?_;obtain⟨x,env',ρ,H',k1,k2,k3,k4,k5,k6,k7⟩:=hp;exact⟨x,env',ρ,H',k1,hx.trans (k2.mono (hx.len (Vb _))),k3,k4,k5,k6,k7⟩
theorem Qaw.knownE {env:Env} {H:ZG} {k:Nat} {a:Addr} {len cap:Nat} (hg:env.get k=.val (.slice (some a) len cap)) {cells:ZH} (hk:(SV.slc cells len,Value.slice (some a) len cap)∈Qr.kn) :
 Qaw env H ((k,.slc cells len)::env) H:=by
 intro S tmps hH hS he;subst hH;refine⟨S.ρ,Ext.refl _ _,hS,⟨λt => ?_⟩⟩;simp only[Env.get];by_cases ht:k=t
 . subst ht;have:=he.get k;rw[hg]at this;rw[Zn rfl];generalize tmps.getD k undef=u at this
   cases this
   exact(hS.kf _ hk).2
 . rw[Zm ht]; exact he.get t
end
theorem Qnn {k:Value}:∀ {ks:ZI} {x:Value},x∈Q8 k ks->x∈ks\/x=k
 |[],x,h=>by simp[Q8]at h; exact .inr h
 |y::ks,x,h=>by
  rw[Q8]at h;split at h
  . exact .inl h
  . rcases Ve.1 h with rfl|h
    . exact .inl (.head _)
    . rcases Qnn h with h|h
      . exact .inl (.tail _ h)
      . exact .inr h
theorem Qnx {k:Value} {v:SV}:∀ {ks:ZI} {vs:ZH} {x:SV},x∈Q5 k v ks vs->x∈vs\/x=v
 |[],vs,x,h=>by simp[Q5]at h; exact .inr h
 |_::_,[],x,h=>by simp[Q5]at h; exact .inr h
 |a::ks,b::vs,x,h=>by
  rw[Q5]at h;split at h
  . rcases Ve.1 h with rfl|h
    . exact .inr rfl
    . exact .inl (.tail _ h)
  . rcases Ve.1 h with rfl|h
    . exact .inl (.head _)
    . rcases Qnx h with h|h
      . exact .inl (.tail _ h)
      . exact .inr h
theorem QnK {k:Value} {v:SV}:∀ {ks:ZI} {vs:ZH},ks.length=vs.length->(Q8 k ks).length=(Q5 k v ks vs).length
 |[],[],_=>rfl
 |a::ks,b::vs,h=>by
  rw[Q8,Q5];split
  . simpa using h
  . have:=QnK (k:=k) (v:=v) (ks:=ks) (vs:=vs) (by simpa using h);simp[this]
theorem QlP {k:Value}:∀ {ks:ZI} {vs:ZH} {x:SV},lkm k ks vs=some x->x∈vs
 |[],_,_,h=>by simp[lkm]at h
 |_::_,[],_,h=>by simp[lkm]at h
 |a::ks,b::vs,x,h=>by
  rw[lkm]at h;split at h
  . cases h; exact .head _
  . exact .tail _ (QlP h)
mutual
def Qd3:Ex->Nat
 |.mk _ _ _ l _=>QaZ l
def QaZ:List Ex->Nat
 |[]=>1
 |e::r=>Qd3 e+QaZ r
end
def Ex.lsE:Ex->List Ex
 |.mk _ _ _ l _=>l
def QcF (td:List (List Ex)):Nat:=(td.map QaZ).sum
theorem QhJ:∀ l:List Ex,1<=QaZ l
 |[]=>by simp[QaZ]
 |e::r=>by rw[QaZ]; have:=QhJ r; omega
theorem Qqv:∀ l:List Ex,QaZ l=1+QcF (l.map Ex.lsE)
 |[]=>rfl
 |e::r=>by
  obtain⟨a,b,c,d,f⟩:=e;rw[QaZ,Qqv r,Qd3];simp only[QcF,Vn,YI,Ex.lsE];omega
theorem Qlu (a b:List (List Ex)):QcF (a++b)=QcF a+QcF b:=by simp[QcF]
theorem Qq7:∀ td:List (List Ex),td.length<=QcF td
 |[]=>Vb _
 |l::r=>by
  have h1:=QhJ l;have h2:=Qq7 r;simp only[QcF,Vn,YI,Vh]at h2 ⊢;omega
def exR (td:List (List Ex)):ZH:=td.map exS
@[simp] theorem QnT (td:List (List Ex)):(exR td).length=td.length:=by simp[exR]
abbrev TS (td:List (List Ex)) (kp:ZI) (vp:ZH) (vt:Nat) (G:ZG):ZG:=⟨exR td,23,vt,true⟩::⟨.mk kp::vp,163,0,false⟩::G
structure TE (n:Nat) (td:List (List Ex)) (vt:Nat) (env:Env):Prop where
 s3:env.get 3=.own n 0 td.length 1 vt
 s4:env.get 4=.mp (n+1) 0
theorem QiR (i v:Nat):(SV.mp i v).ug=SV.mp i v:=rfl
theorem mo1 (H:ZG) (a:AO) (ks:ZI) (vs:ZH) (T:ZK) (G:ZG):SV.mapOf (H++a::⟨.mk ks::vs,T,0,false⟩::G) (.mp (H.length+1) 0)=some (ks,vs):=by
 simp[SV.mapOf]
section
variable [Qr] {H:ZG} {kp:ZI} {vp:ZH} {N:Nat} {K:ZF}
theorem Qv8 {vt:Nat} {G:ZG} {env:Env} (he:TE H.length [] vt env) (h:∀ env G,K (.exit 0) env (H++G)) :
 LI Tryz.prog N Qf Qc6 env (H++TS [] kp vp vt G) K:=by
 obtain⟨h3,h4⟩:=he;refine Qu hm Qc6.eq_1 ?_;simp[h3,h4];exact h _ _
theorem QAk {rest:List (List Ex)} {vt:Nat} {G:ZG} {env:Env} (hr:rest.length<2000000000) (he:TE H.length (rest++[[]]) vt env)
 (h:∀ G env,TE H.length rest vt env->LI Tryz.prog N Qf Qc6 env (H++TS rest kp vp vt G) K) :
 LI Tryz.prog N Qf Qc6 env (H++TS (rest++[[]]) kp vp vt G) K:=by
 obtain⟨h3,h4⟩:=he;have hl:(rest++[([]:List Ex)]).length=rest.length+1:=by simp
 rw[hl]at h3;have hcell:exR (rest++[[]])=exR rest++[.slc [] 0]:=by simp[exR,exS,Ex.cL]
 refine LI.learn0 H.length rest.length (o:=⟨exR (rest++[[]]),23,vt,true⟩) (cells:=[]) (len:=0) (by simp) rfl (by rw[hcell]; simp[exR]) λoa cap => ?_;have hset:(exR (rest++[[]])).set rest.length (.val (.slice oa 0 cap))=exR rest++[.val (.slice oa 0 cap)]:=by
  rw[hcell,Yg _ _ (by simp)]; simp
 refine LI.cong (H':=H++⟨exR rest++[.val (.slice oa 0 cap)],23,vt,true⟩::⟨.mk kp::vp,163,0,false⟩::G) (by rw[<-hset]; simp) ?_;have hcl:=QnT rest;have htk:List.take rest.length (exR rest++[SV.val (.slice oa 0 cap)])=exR rest:=VG hcl;have hcc:(exR rest++[SV.val (.slice oa 0 cap)]).length=rest.length+1:=by simp
 have hgd:(List.drop rest.length (exR rest++[SV.val (.slice oa 0 cap)]))=[.val (.slice oa 0 cap)]:=Y2 hcl;have w1:IntKind.i64.wrap (rest.length:Int)=(rest.length:Int):=QeU (by omega);refine Qu hm Qc6.eq_1 ?_;generalize exR rest++[SV.val (.slice oa 0 cap)]=cc at *;simp[h3,h4,w1,hgd];refine⟨by omega,LI.tell (Qaw.trunc (j:=H.length) (o:=⟨cc,23,vt,true⟩) (by simp) rfl rest.length) (LI.cong (H':=H++TS rest kp vp vt G) (by simp[htk]) (h G _ ⟨by simp,by simp⟩))⟩
theorem QuT {l:List Ex} (hl3:l.length<=100) (hok:∀ e∈l,e.prp) {rest:List (List Ex)} (hr:rest.length+200<2000000000)
 (h:∀ vt G env,TE H.length (rest++l.map Ex.lsE) vt env->K (.exit 2) env (H++TS (rest++l.map Ex.lsE) kp vp vt G)) :
 ∀ (m i vt:Nat) (G:ZG) (env:Env),i+m=l.length->TE H.length (rest++(l.take i).map Ex.lsE) vt env->env.get 42=exS l->env.get 43=i64 l.length->env.get 44=i64 i ->
  LI Tryz.prog N Qf Qka env (H++TS (rest++(l.take i).map Ex.lsE) kp vp vt G) K:=by
 intro m
 induction m with
 |zero =>
  intro i vt G env hi he h42 h43 h44;obtain⟨h3,h4⟩:=he;refine Qu hm Qka.eq_1 ?_;have e:i=l.length:=by omega
  subst e;rw[VN]at *;simp[h3,h4,h42,h43,h44];exact h vt G _ ⟨by simp,by simp⟩
 |succ m ih =>
  intro i vt G env hi he h42 h43 h44;obtain⟨h3,h4⟩:=he;refine Qu hm Qka.eq_1 ?_;have hlt:i<l.length:=by omega
  have hlt':(i:Int)<l.length:=by omega
  have hg:=QfJ hlt;have hcl':=Qfi l;have hoke:=hok _ (Vu hlt);have htk:rest++(l.take (i+1)).map Ex.lsE=(rest++(l.take i).map Ex.lsE)++[l[i].lsE]:=by
   rw[<-Zk hlt,YZ,Vz]; rfl
  have ih:=ih (i+1);rw[htk]at ih;have hrl:(rest++(l.take i).map Ex.lsE).length<2000000000:=by simp; omega
  generalize rest++(l.take i).map Ex.lsE=td at *;generalize l[i]=e at *;obtain⟨op,n,nm,le,p⟩:=e;unfold Ex.prp at hoke;have h130:=λH=>Ok.kn inferInstance (QwD (H:=H) (e:=.mk op n nm le p) hoke.1 hoke.2.1);have hex:=QnT td;simp[h3,h4,h42,h43,h44,exS,hlt',hg,hcl',Ex.c];refine⟨by omega,Qc (h130 _) ?_⟩;simp[h3,h4,h42,h43,h44,exS];refine⟨by omega,by omega,LI.cong ?_ (ih (vt+1) (G++[⟨[i64 op,i64 n,st (B nm),.slc (Ex.cL le) le.length,i64 p],25,0,true⟩,⟨[.slc (Ex.cL le) le.length],23,0,true⟩]) _ (by omega) ⟨?_,?_⟩ ?_ ?_ ?_)⟩
  . simp[exR,Ex.lsE,exS]
  . simp
  . simp
  . simp[exS]
  . simp
  . simp[QaH (show i<9223372036854775807 by omega)]
theorem Qx5 {l:List Ex} {rest:List (List Ex)} {a:Addr} {cap vt:Nat} {G:ZG} {env:Env} (hk:(exS l,Value.slice (some a) l.length cap)∈Qr.kn) (hl0:l≠[]) (hl3:l.length<=100) (hok:∀ e∈l,e.prp) (hr:rest.length+200<2000000000)
 (hkl:kp.length=vp.length) (hkn:∀ v∈kp,Qc2 v) (hvp:∀ x∈vp,∃ n,x=i64 n) (he:TE H.length (rest++[l]) vt env)
 (hskip:∀ G env,TE H.length rest vt env->LI Tryz.prog N Qf Qc6 env (H++TS rest kp vp vt G) K)
 (h:∀ kp' vp' vt G env,kp'.length=vp'.length->(∀ v∈kp',Qc2 v)->(∀ x∈vp',∃ n,x=i64 n)->TE H.length (rest++l.map Ex.lsE) vt env->LI Tryz.prog N Qf Qc6 env (H++TS (rest++l.map Ex.lsE) kp' vp' vt G) K) :
 LI Tryz.prog N Qf Qc6 env (H++⟨exR rest++[.val (.slice (some a) l.length cap)],23,vt,true⟩::⟨.mk kp::vp,163,0,false⟩::G) K:=by
 obtain⟨h3,h4⟩:=he;have hl:(rest++[l]).length=rest.length+1:=by simp
 rw[hl]at h3;have hknow:Qc2 (.pointer (some a)):=by
  refine⟨rfl,a,Ex.cL l,l.length,cap,rfl,hk,?_⟩
  cases l with
  |nil=>exact absurd rfl hl0
  |cons x r =>
   obtain⟨op,n,nm,l,p⟩:=x;exact⟨B nm,by rw[Ex.cL,Ex.c]; exact Yq _ (.tail _ (.tail _ (.head _)))⟩
 have hkall:∀ v∈Value.pointer (some a)::kp,(KK.p 25).knows v:=by
  intro v hv;rcases Ve.1 hv with rfl|hv
  . exact hknow
  . exact hkn v hv
 have hkis:∀ v∈kp,(KK.p 25).is v=true:=by
  intro v hv;obtain⟨_,b,_,_,_,rfl,_⟩:=hkn v hv;rfl
 have hl0':¬ (l.length:Int)=0:=by
  cases l with
  |nil=>exact absurd rfl hl0
  |cons x r=>simp; omega
 have hl00:¬ l.length=0:=by omega
 have hpos:0<l.length:=by omega
 have hcl:=QnT rest;have htk:List.take rest.length (exR rest++[SV.val (.slice (some a) l.length cap)])=exR rest:=VG hcl;have hcc:(exR rest++[SV.val (.slice (some a) l.length cap)]).length=rest.length+1:=by simp
 have hgd:(List.drop rest.length (exR rest++[SV.val (.slice (some a) l.length cap)]))=[.val (.slice (some a) l.length cap)]:=Y2 hcl;have w1:IntKind.i64.wrap (rest.length:Int)=(rest.length:Int):=QeU (by omega);refine Qu hm Qc6.eq_1 ?_;generalize exR rest++[SV.val (.slice (some a) l.length cap)]=cc at *;obtain⟨n,hn⟩:∃ n,(lkm (Value.pointer (some a)) kp vp).getD (i64 0)=i64 n:=by
  cases hlk:lkm (Value.pointer (some a)) kp vp with
  |none=>exact⟨0,rfl⟩
  |some x=>obtain⟨n,rfl⟩:=hvp x (QlP hlk); exact⟨n,rfl⟩
 have hal:((kp,vp):ZI×ZH).1.all (KK.p 25).is=true:=Vm.2 hkis;have add0:a.add 0=a:=Zn rfl;by_cases hmet:(l.length:Int)<=n
 . simp[h3,h4,w1,hgd,hl00,hpos,mo1,QiR,add0,hn,hmet,SV.isK,SV.key,SV.isP,SV.pval];refine⟨by omega,⟨rfl,hkis,hkall _ (.head _),λv hv=>hkall v (.tail _ hv)⟩,LI.tell (Qaw.trunc (j:=H.length) (o:=⟨cc,23,vt,true⟩) (by simp) rfl rest.length) (LI.cong (H':=H++TS rest kp vp vt G) (by simp[htk]) (hskip G _ ⟨by simp,by simp⟩))⟩
 . simp[h3,h4,w1,hgd,hl00,hpos,mo1,QiR,add0,hn,hmet,SV.isK,SV.key,SV.isP,SV.pval];refine⟨by omega,⟨rfl,hkis,hkall _ (.head _),λv hv=>hkall v (.tail _ hv)⟩,?_⟩;refine QbT (x:=(kp,vp)) (mo1 ..) rfl rfl hal ?_ (by simpa[SV.key,SV.pval]using hkall);simp[SV.key,SV.pval];refine LI.tell (Qaw.knownE (k:=42) (by simp) hk) ?_;refine LI.tell (Qaw.trunc (j:=H.length) (o:=⟨cc,23,vt,true⟩) (by simp) rfl rest.length) ?_;have hkl':=QnK (k:=Value.pointer (some a)) (v:=i64 l.length) hkl;have hkn':∀ v∈Q8 (Value.pointer (some a)) kp,Qc2 v:=λv hv=>by
    rcases Qnn hv with hv|rfl
    . exact hkn v hv
    . exact hknow
   have hvp':∀ x∈Q5 (Value.pointer (some a)) (i64 l.length) kp vp,∃ n,x=i64 n:=λx hx=>by
    rcases Qnx hx with hx|rfl
    . exact hvp x hx
    . exact⟨_,rfl⟩
   refine LI.cong (H':=H++TS (rest++(l.take 0).map Ex.lsE) (Q8 (Value.pointer (some a)) kp) (Q5 (Value.pointer (some a)) (i64 l.length) kp vp) vt G) (by simp[htk]) ?_;refine QuT hl3 hok hr (λvt G env he => ?_) l.length 0 vt G _ (by omega) ⟨?_,?_⟩ ?_ ?_ ?_
   . simp;exact h _ _ vt G env hkl' hkn' hvp' he
   all_goals simp[exS,h4]
theorem Quv {l:List Ex} {rest:List (List Ex)} {vt:Nat} {G:ZG} {env:Env} (hl0:l≠[]) (hl3:l.length<=100) (hok:∀ e∈l,e.prp) (hr:rest.length+200<2000000000)
 (hkl:kp.length=vp.length) (hkn:∀ v∈kp,Qc2 v) (hvp:∀ x∈vp,∃ n,x=i64 n) (he:TE H.length (rest++[l]) vt env)
 (h:∀ (kn:Qr) td kp' vp' vt G env,(td=rest\/td=rest++l.map Ex.lsE)->kp'.length=vp'.length->(∀ v∈kp',@Qc2 _ kn v)->(∀ x∈vp',∃ n,x=i64 n)->TE H.length td vt env -> @LI _ _ kn Tryz.prog N Qf Qc6 env (H++TS td kp' vp' vt G) K) :
 LI Tryz.prog N Qf Qc6 env (H++TS (rest++[l]) kp vp vt G) K:=by
 have hne:Ex.cL l≠[]:=by
  cases l with
  |nil=>exact absurd rfl hl0
  |cons x r=>obtain⟨a,b,c,d,e⟩:=x; simp[Ex.cL,Ex.c]
 have hcell:exR (rest++[l])=exR rest++[.slc (Ex.cL l) l.length]:=by simp[exR,exS]
 refine LI.learn H.length rest.length (o:=⟨exR (rest++[l]),23,vt,true⟩) (cells:=Ex.cL l) (len:=l.length) (by simp) rfl (by rw[hcell,Vk (by simp)]; simp) hne (Ex.undL 0 l) λa cap => ?_;have hset:(exR (rest++[l])).set rest.length (.val (.slice (some a) l.length cap))=exR rest++[.val (.slice (some a) l.length cap)]:=by
  rw[hcell,Yg _ _ (by simp)]; simp
 have hkn':∀ v∈kp,@Qc2 _ ⟨(.slc (Ex.cL l) l.length,.slice (some a) l.length cap)::Qr.kn⟩ v:=λv hv=>by
  obtain⟨hf,a,cells,len,cap,h1,h2,h3⟩:=hkn v hv;exact⟨hf,a,cells,len,cap,h1,VQ _ h2,h3⟩
 refine @LI.cong _ _ ⟨(.slc (Ex.cL l) l.length,.slice (some a) l.length cap)::Qr.kn⟩ _ _ _ _ _ _ _ _ ?_ (@Qx5 ⟨(.slc (Ex.cL l) l.length,.slice (some a) l.length cap)::Qr.kn⟩ H kp vp N K l rest a cap vt G env (Yx ..) hl0 hl3 hok hr hkl hkn' hvp he
  (λG env he=>h _ _ _ _ _ G env (.inl rfl) hkl hkn' hvp he) (λkp' vp' vt G env h1 h2 h3 he=>h _ _ _ _ _ G env (.inr rfl) h1 h2 h3 he))
 rw[<-hset]; simp
end
theorem QmU:∀ {e:Ex},e.prp->e.lsE.length<=3/\∀ x∈e.lsE,x.prp
 |.mk op n nm l p,h=>by
  unfold Ex.prp at h;refine⟨?_,Qir.1 h.2.2.2⟩;have hs:=h.1;simp only[QdU]at hs;show l.length<=3;split at hs
  . simp only[Va,Zq]at hs; rw[hs.1.2]; simp
  . split at hs
    . simp only[Va,Zq]at hs; rw[hs.1.2]; simp
    . simp only[Va,Zq]at hs;have h3:(Qah op).2<=3:=by
       unfold Qah;repeat' split
       all_goals simp
      have:=hs.1.1.2;omega
section
variable {H:ZG} {N:Nat} {K:ZF}
theorem Quf (hK:∀ env G,K (.exit 0) env (H++G)):∀ (M:Nat),M<1000000000->∀ (kn:Qr) (td:List (List Ex)) (kp:ZI) (vp:ZH) (vt:Nat) (G:ZG) (env:Env),QcF td<=M->(∀ l∈td,l.length<=100/\∀ e∈l,e.prp) ->
 kp.length=vp.length->(∀ v∈kp,@Qc2 _ kn v)->(∀ x∈vp,∃ n,x=i64 n)->TE H.length td vt env -> @LI _ _ kn Tryz.prog N Qf Qc6 env (H++TS td kp vp vt G) K:=by
 intro M
 induction M using Nat.strongRecOn with
 |ind M ih =>
  intro hM kn td kp vp vt G env hc hok hkl hkn hvp he;rcases List.eq_nil_or_concat td with rfl|⟨rest,l,rfl⟩
  . exact Qv8 he hK
  . rw[List.concat_eq_append]at *;have hrl:=Qq7 (rest++[l]);simp only[Vj,List.length_singleton]at hrl;rw[Qlu]at hc hrl;have hl1:QcF [l]=QaZ l:=by simp[QcF]
    rw[hl1]at hc hrl;have hpos:=QhJ l;have hce:=Qqv l;have hrest:∀ l∈rest,l.length<=100/\∀ e∈l,e.prp:=λx hx=>hok x (by simp[hx]);obtain⟨hl3,hle⟩:=hok l (by simp);by_cases hl0:l=[]
    . subst hl0;exact QAk (by omega) he λG env he=>ih (QcF rest) (by omega) (by omega) kn rest kp vp vt G env (Vb _) hrest hkl hkn hvp he
    . refine Quv hl0 hl3 hle (by omega) hkl hkn hvp he λkn' td kp' vp' vt G env htd h1 h2 h3 he2 => ?_;rcases htd with rfl|rfl
      . exact ih (QcF td) (by omega) (by omega) kn' td kp' vp' vt G env (Vb _) hrest h1 h2 h3 he2
      . refine ih (QcF (rest++l.map Ex.lsE)) (by rw[Qlu]; omega) (by rw[Qlu]; omega) kn' _ kp' vp' vt G env (Vb _) ?_ h1 h2 h3 he2;intro x hx;rcases Vq.1 hx with hx|hx
        . exact hrest x hx
        . obtain⟨e,he,rfl⟩:=Vy.1 hx;exact⟨Vg (QmU (hle e he)).1 (by omega),(QmU (hle e he)).2⟩
theorem ok72 {l:List Ex} (hl:l.length<=100) (hok:∀ e∈l,e.prp) (hc:QaZ l<1000000000):Ok Tryz.prog 72 [exS l] H (.ret (bl true)) H:=by
 refine Qz hm Tryz.func72 c72m (by simp[exS]) λhcl => ?_;simp[i72m,r72,exS];refine LI.cong (H':=H++TS [l] [] [] 0 []) (by simp[exR,exS]) ?_;refine Quf (λenv G => ?_) (QaZ l) hc _ [l] [] [] 0 [] _ (by simp[QcF]) (by simpa using ⟨hl,hok⟩) rfl (by simp) (by simp) ⟨?_,?_⟩
 . simp;exact Qp 3 hcl rfl (by simp)
 all_goals simp
end
def QeQ (e:Ex):ZE×Int :=
 if 20000<(prE e []).length then([],4)else if(Qai (prE e [])).2.1≠0 then([],(Qai (prE e [])).2.1)else(prE e [],0)
theorem Qry (s:ZE):Qac (B s)=s.map λb=>u8 b.toNat:=by simp[Qac]
theorem QqI:∀ (s:ZE) (acc:ByteArray),(Qd1 (s.map λb=>u8 b.toNat)).foldl (λr n=>r.push (UInt8.ofNat n.toNat)) acc=⟨acc.data++s.toArray⟩
 |[],acc=>by simp[Qd1]
 |b::r,acc=>by
  have h:=QqI r (acc.push b);have e:UInt8.ofNat ((((u8 b.toNat).u8n).getD 0).toNat)=b:=by
   show UInt8.ofNat (Int.toNat (b.toNat:Int))=b;rw[Int.toNat_natCast]; exact UInt8.ofNat_toNat
  rw[Vn,Qd1,Yz,e,h];congr 1;show acc.data.push b++r.toArray=_;simp
theorem Qpn (s:ZE):Qgg (List.take s.length (Qac (B s)))=B s:=by
 rw[VD (by rw[Qig]; exact Vb _),Qry,Qgg,QqI];simp[B,ByteArray.empty,ByteArray.emptyWithCapacity]; rfl
theorem Qq0 (s:ZE):QgV (Qac (B s)) s.length=true:=by
 rw[QgV,VD (by rw[Qig]; exact Vb _),Qig,Qry];simp only[Vb,decide_true,Bool.true_and,Vm];intro x hx;obtain⟨b,_,rfl⟩:=Vy.1 hx;rfl
section
variable {H:ZG}
theorem ok28 {e:Ex} (he:e.prp) (hc:Qd3 e<1000000000-1) (hL:(prE e []).length<=140737488355328):Ok Tryz.prog 28 [e.v] H (.ret (.tup [st (B (QeQ e).1),i64 (QeQ e).2])) H:=by
 have hD:=QbW (P:=Tryz.prog) hm;have h72:=λH=>(ok72 (H:=H) (l:=[e]) (by simp) (by simpa using he) (by simp[QaZ]; omega)).toP;have h73:=Qlz e he;have hv:e.v=.agg e.c:=by cases e; rfl
 have hce:Ex.cL [e]=e.c:=by simp[Ex.cL]
 have hc5:=Ex.c_len e;have hcok:QC e.c:=by cases e; intro s hs; simp[Ex.c]at hs; rcases hs with rfl|rfl|rfl|rfl|rfl<;>rfl
 rw[hv]at h73 ⊢;simp only[exS,hce]at h72;have hcc:e.c.take 5=e.c:=by rw[<-hc5,VN]
 have hcu:SV.underL 0 e.c=true:=by have:=Ex.undL 0 [e]; rwa [hce]at this
 refine Qkf hm Tryz.func28 c28 (by simp) λhcl => ?_;generalize e.c=c at *;rw[show i28=.seq (IC.nth 0 i28) (.seq (IC.nth 1 i28) (.seq (IC.nth 2 i28) (IC.tl 3 i28)))from rfl];generalize ht:IC.tl 3 i28=t3;refine WI.seq hD ?_;simp -implicitDefEqProofs[IC.nth,i28];refine⟨hcok,?_⟩;refine WI.seq hD ?_;simp -implicitDefEqProofs[hc5,hcc];refine⟨hcok,Q4 (OkP.give (H.length+1) 1 (o:=⟨c,25,0,true⟩) (by simp) rfl (OkP.cast (by simp[hcc,hc5]) rfl (h72 _))) ?_⟩;rintro out H' ⟨rfl,rfl⟩;simp -implicitDefEqProofs[AO.dead];refine WI.seq hD ?_;simp -implicitDefEqProofs;refine WI.tell (Qaw.own0 (j:=H.length+2) (p:=0) (o:=⟨[.val (.slice none 0 0)],85,0,true⟩) (by simp) rfl rfl 5 1) ?_;simp -implicitDefEqProofs;have hwr:∀ (o:ZE) (v:Nat),wr (H++[⟨c,25,0,true⟩,⟨[],25,1,false⟩,⟨[.own (H.length+3) 0 0 1 0],85,0,true⟩,⟨[],5,0,true⟩]) (H.length+2) (H.length+3) o v =
  H++[⟨c,25,0,true⟩,⟨[],25,1,false⟩,⟨[.own (H.length+3) 0 o.length 1 v],85,0,true⟩,⟨Qac (B o),5,v,true⟩]:=λo v=>by
  unfold wr prO byO;rw[Qib,Qib]; rfl
 have hp:PrA (H++[⟨c,25,0,true⟩,⟨[],25,1,false⟩,⟨[.own (H.length+3) 0 0 1 0],85,0,true⟩,⟨[],5,0,true⟩]) (H.length+2) (H.length+3) [] 0:=⟨by simp[prO],by simp[byO]; rfl,by omega⟩;have key:=h73 _ _ _ _ _ hp hL;have hful:=λv=>Qnd (hp.wr (prE e []) v);rw[hwr]at key;simp only[hwr]at key hful;have hsh:QeQ e=if 20000<(prE e []).length then([],4)else if(Qai (prE e [])).2.1≠0 then([],(Qai (prE e [])).2.1)else(prE e [],0):=rfl;generalize prE e []=s at *;generalize QeQ e=sh at *;refine WI.of_X hD ?_;rw[<-ht];simp -implicitDefEqProofs[IC.tl,i28,r28,hc5,hcc];refine Q4 (OkP.cast (by simp[rp]) (by simp; rfl) key) ?_;rintro out H' ⟨rfl,v',rfl⟩;simp -implicitDefEqProofs;refine Qc (hful v') ?_;by_cases h2:20000<s.length
 . rw[Zn h2]at hsh;subst hsh;simp -implicitDefEqProofs[h2];exact Qp 3 hcl rfl (by simp)
 rw[Zm h2]at hsh;have h11:=λH=>QiY (H:=H) (l:=s) (by omega);have hv':(Qai s).1.v=.agg (Qai s).1.c:=by cases (Qai s).1; rfl
 have hc5':=Ex.c_len (Qai s).1;have hcok':QC (Qai s).1.c:=by cases (Qai s).1; intro s hs; simp[Ex.c]at hs; rcases hs with rfl|rfl|rfl|rfl|rfl<;>rfl
 simp only[hv']at h11;have h11:=λH=>h11 H;generalize (Qai s).1.c=c2 at *;generalize (Qai s).2.1=er at *;generalize (Qai s).2.2=po at *;simp -implicitDefEqProofs[h2,Qq0,Qpn];refine Qc (h11 _) ?_;simp -implicitDefEqProofs[QK,hc5'];refine⟨hcok',?_⟩;by_cases h0:er=0
 . rw[Zn h0];rw[Zm (by simpa using h0)]at hsh;subst hsh;exact Qp 3 hcl rfl (by simp; rfl)
 . rw[Zm h0];rw[Zn h0]at hsh;subst hsh;exact Qp 3 hcl rfl (by simp)
end
def tx1:ZE:=[49,32,43,32,50,32,42,32,120]
def ex1:Ex:=.mk 8 0 [] [.mk 1 1 [] [] 0,.mk 5 0 [] [.mk 1 2 [] [] 4,.mk 2 0 [120] [] 8] 6] 2
theorem rd1:Qai tx1=(ex1,0,0):=by kernel_rfl
def tx2:ZE:=[97,32,45,32,98,32,45,32,99]
def tw2:ZE:=[40,97,32,45,32,98,41,32,45,32,99]
def ex2:Ex:=.mk 9 0 [] [.mk 9 0 [] [.mk 2 0 [97] [] 0,.mk 2 0 [98] [] 4] 2,.mk 2 0 [99] [] 8] 6
theorem rd2:Qai tx2=(ex2,0,0):=by kernel_rfl
theorem pr2:prE ex2 []=tw2:=by kernel_rfl
theorem rw2:(Qai tw2).2=(0,0):=by kernel_rfl
theorem sh2:QeQ ex2=(tw2,0):=by
 unfold QeQ;rw[pr2,rw2]; rfl
theorem pp2:ex2.prp:=by
 have h1:QdU (.mk 2 0 [97] [] 0)=true:=by kernel_rfl
 have h2:QdU (.mk 2 0 [98] [] 4)=true:=by kernel_rfl
 have h3:QdU (.mk 2 0 [99] [] 8)=true:=by kernel_rfl
 simp[ex2,Ex.prp,Ex.prpL,h1,h2,h3];decide
theorem cs2:Qd3 ex2<1000000000-1:=by decide
section
variable {H:ZG}
theorem ok17 {tx:ZE} {e:Ex} {s w:ZE} (hl:tx.length<4611686018427387904) (hr:Qai tx=(e,0,0)) (he:e.prp) (hc:Qd3 e<1000000000-1) (hL:(prE e []).length<=140737488355328) (hs:QeQ e=(s,0)) :
 Ok Tryz.prog 17 [st (B tx),st (B w)] H (.ret (bl (decide (s=w)))) H:=by
 have h11:=λH=>QiY (H:=H) (l:=tx) hl;have h28:=λH=>ok28 (H:=H) he hc hL;rw[hr]at h11;rw[hs]at h28;have hv:e.v=.agg e.c:=by cases e; rfl
 have hc5:=Ex.c_len e;have hcok:QC e.c:=by cases e; intro s hs; simp[Ex.c]at hs; rcases hs with rfl|rfl|rfl|rfl|rfl<;>rfl
 have hcc:e.c.take 5=e.c:=by rw[<-hc5,VN]
 simp only[hv,QK]at h11 h28;generalize e.c=c at *;refine Qz hm Tryz.func17 c17 (by simp) λhcl => ?_;simp[i17,r17];refine Qc (h11 _) ?_;simp[hc5,hcc];refine⟨hcok,?_⟩;refine Qc (h28 _) ?_;simp;exact Qp 3 hcl rfl (by simp)
theorem ok10:Ok Tryz.prog 10 [] H (.ret (bl true)) H:=by
 have hD:=QbW (P:=Tryz.prog) hm;have h11:=λH=>QiY (H:=H) (l:=tx1) (by decide);have h13:=λH=>QlG ex1 (by simp[ex1,Ex.sm,Ex.smL]) H;have h17:=λH=>ok17 (H:=H) (tx:=tx2) (w:=tw2) (by decide) rd2 pp2 cs2 (by rw[pr2]; decide) sh2;rw[rd1]at h11;simp only[decide_true]at h17;refine Qkf hm Tryz.func10 c10 rfl λhcl => ?_;rw[show i10=.seq (IC.nth 0 i10) (.seq (IC.nth 1 i10) (.seq (IC.nth 2 i10) (IC.tl 3 i10)))from rfl];generalize ht:IC.tl 3 i10=t3;refine WI.seq hD ?_;simp[IC.nth,i10];refine WI.seq hD ?_;simp;refine Qc (h11 _) ?_;simp[ex1,Ex.v,Ex.c,QK];refine WI.seq hD ?_;simp;refine⟨rfl,?_⟩;refine WI.keep [0,1,2,3] ?_;simp;refine WI.tell (Qaw.give hcl 2 2 rfl rfl) ?_;simp[AO.gv,AO.dead];refine WI.tell (Qaw.give hcl 3 2 rfl rfl) ?_;simp[AO.gv,AO.dead];refine WI.of_X hD ?_;rw[<-ht];simp[IC.tl,i10,r10];refine QZ (r:=bl true) (λ_=>(OkP.le ?_ (h13 _).toP).toOk) ?_
 . simp only[ex1,Ex.v,Ex.cL,Ex.c,Vv,Vx,VE,List.map,SV.strip,Vh,VK];repeat first
    |exact leL.nil
    |refine leL.cons ?_ ?_
    |exact SV.le.refl _
    |exact Qd4
    |refine Qnh ?_ _
    |refine QfL ?_
 simp;refine QeW (r:=bl true) (λ_=>h17 _) ?_;simp;exact Qp 3 hcl rfl (by simp)
end
theorem QH {c:Cx} {d:Nat} (s:ZE) {r:Rd} (h:Gd c d r):Gd c d (t2 c s r)/\r.a<=(t2 c s r).a:=Qdi s r h
theorem QgQ {c:Cx} {s:ZE} {r:Rd} (h:(t2 c s r).e=0):r.e=0/\(t2 c s r).a=r.a+1:=by
 unfold t2 Qh at *;split at h
 . rename_i hp;rw[Zn hp];exact⟨(Qf9 hp).1,rfl⟩
 . exfalso;simp only[Qg]at h;split at h
   . exact absurd h (show ¬ (11:Int)=0 by decide)
   . rename_i h2; exact h2 h
theorem Qqh {c:Cx} {d:Nat} {orP:Rd->Ex×Rd} (hk:Kp c d orP):∀ (n:Nat) (l:List Ex) (r:Rd),Gd c d r->Gd c d (Qak c orP n l r).2/\r.a<=(Qak c orP n l r).2.a
 |0,l,r,h=>⟨h,Vb _⟩
 |n+1,l,r,h=>by
  rw[Qak];split
  . obtain⟨h1,h2⟩:=QH [44] h;have h3:Gd c d (if l.length=32/\Qbw c (t2 c [44] r)=true then Qg c 12 (t2 c [44] r)else t2 c [44] r)/\(if l.length=32/\Qbw c (t2 c [44] r)=true then Qg c 12 (t2 c [44] r)else t2 c [44] r).a=(t2 c [44] r).a:=by
     split
     . obtain⟨h4,h5,_⟩:=Qfb (e:=12) (by decide) h1; exact⟨h4,h5⟩
     . exact⟨h1,rfl⟩
    dsimp only;generalize (if l.length=32/\Qbw c (t2 c [44] r)=true then Qg c 12 (t2 c [44] r)else t2 c [44] r)=r2 at h3 ⊢;obtain⟨h6,h7⟩:=hk _ h3.1;obtain⟨h8,h9⟩:=Qqh hk n (l++[(orP r2).1]) _ h6;exact⟨h8,by omega⟩
  . exact⟨h,Vb _⟩
theorem QoR {c:Cx} {d:Nat} {orP:Rd->Ex×Rd} (hk:Kp c d orP):Kp c d (QcD c orP):=by
 intro r h;obtain⟨h1,h2⟩:=hk r h;obtain⟨h3,h4⟩:=Qqh hk c.ts.length [(orP r).1] _ h1;exact⟨h3,Vg h2 h4⟩
def IC.tl:Nat->IC->IC
 |0,a=>a
 |k+1,.seq _ b=>IC.tl k b
 |_,a=>a
def IC.nth:Nat->IC->IC
 |0,.seq a _=>a
 |k+1,.seq _ b=>IC.nth k b
 |_,a=>a
abbrev nl:SV:=.val (.slice none 0 0)
@[simp] theorem Ex.take6 (e:Ex) (x:SV):List.take 6 (e.c++[x])=e.c++[x]:=VD (by simp)
def aZ:AO:=⟨[st (B []),nl,bl false,nl,st (B []),i64 0],89,0,true⟩
def Qbr (l:List Qo):AO:=⟨rws Qo.c l,91,l.length,true⟩
theorem Qo.len (s:Qo):s.c.length=7:=by simp[Qo.c]
theorem Qo.und (n:Nat) (s:Qo):SV.underL n s.c=true:=by simp[Qo.c,SV.underL,SV.underL_append,Ex.und]
@[simp] theorem QEo (n:Nat) (ks:List Nat) (L:ZG) (d:Nat) (l:List Qo):(rws Qo.c l).map (SV.fz n ks L (d+1))=rws Qo.c l:=QcM _ _ _ _ (Qe2 (Qo.und _) l)
theorem Qga {c:Cx} {d:Nat} {r:Rd} {P:Prop} [Decidable P] (h:Gd c d r):Gd c d (if P then Qg c 12 r else r)/\(if P then Qg c 12 r else r).a=r.a/\((if P then Qg c 12 r else r).e=0->r.e=0):=by
 split
 . obtain⟨h4,h5,h6⟩:=Qfb (e:=12) (by decide) h; exact⟨h4,h5,λh=>absurd h h6⟩
 . exact⟨h,rfl,λh=>h⟩
theorem QsC {c:Cx} {d:Nat} {orP:Rd->Ex×Rd} (hk:Kp c d orP) (l:List Qo) {r:Rd} (h:Gd c d r):Gd c d (QaD c orP l r).2/\r.a<=(QaD c orP l r).2.a/\((QaD c orP l r).2.e=0->r.a<(QaD c orP l r).2.a):=by
 unfold QaD;dsimp only;obtain⟨h1,h2,_⟩:=Qga (P:=l.length=32/\QP c r=true) h;generalize (if l.length=32/\QP c r=true then Qg c 12 r else r)=r1 at *;obtain⟨h3,h4⟩:=Qcf r1 h1;obtain⟨h5,h6⟩:=QH [61] h3;obtain⟨h7,h8⟩:=hk _ h5;obtain⟨h9,h10⟩:=QH [59] h7;refine⟨h9,by omega,λhe => ?_⟩;have:=(QgQ he).2;omega
section
variable {H:ZG} {c:Cx} {r:Rd} {j:Nat} {G:ZG} {nm:ZE} {xW:SV} {wh:List Ex} {hid:Bool} {sets:List Qo} {p:Int}
theorem QnE {d:Nat} {orP:Rd->Ex×Rd} (hk:Kp c d orP):∀ (n:Nat) (l:List Qo) (r:Rd),Gd c d r->Gd c d (QaO c orP n l r).2/\r.a<=(QaO c orP n l r).2.a
 |0,l,r,h=>⟨h,Vb _⟩
 |n+1,l,r,h=>by
  rw[QaO];split
  . obtain⟨h1,h2,_⟩:=QsC hk l h;obtain⟨h3,h4⟩:=QnE hk n (l++[(QaD c orP l r).1]) _ h1;exact⟨h3,Vg h2 h4⟩
  . exact⟨h,Vb _⟩
end
theorem Xc {P:ZL} {N:Nat} {D:Array Oper->List Nat->List Ins->Bool} {i:IC} {env:Env} {H H':ZG} {K:ZF} (e:H'=H) (h:X P N D i env H' K):X P N D i env H K:=by rw[<-e]; exact h
def Qfn (a:Qm):SV:=.agg a.c
theorem Qlt (n:Nat) (l:List Int):SV.underL n (QE l)=true:=(SV.underL_iff _ _).2 λs hs=>by
 simp[QE]at hs; obtain⟨a,_,rfl⟩:=hs; rfl
def zS:AO:=⟨[i64 0,st (B []),st (B []),i64 0,i64 0,nl,bl false,nl,nl,nl,nl,i64 0],78,0,true⟩
def QfB (x:Qb):SV:=.agg x.c
section
variable {H:ZG} {c:Cx} {r:Rd} {j:Nat} {G:ZG} {lb nm:ZE} {lo hi:Int} {xW xS:SV} {wt:List Ex} {all:Bool} {seen:List Int} {p:Int}
theorem Qq5 {d:Nat}:∀ (n:Nat) (l:List Int) (r:Rd),Gd c d r->Gd c d (QaB c n l r).2/\r.a<=(QaB c n l r).2.a
 |0,l,r,h=>⟨h,Vb _⟩
 |n+1,l,r,h=>by
  rw[QaB];split
  . dsimp only;obtain⟨h1,h2⟩:=QH [44] h;obtain⟨h3,h4,_⟩:=Qga (P:=l.length=32/\(t2 c [44] r).a<c.ts.length/\Qal c { t2 c [44] r with e:=0 } (λt=>decide (t.k=2))=true) h1;generalize (if l.length=32/\(t2 c [44] r).a<c.ts.length/\Qal c { t2 c [44] r with e:=0 } (λt=>decide (t.k=2))=true then Qg c 12 (t2 c [44] r)else t2 c [44] r)=r2 at *;obtain⟨h6,h7⟩:=Qcc r2 h3;obtain⟨h8,h9⟩:=Qq5 n (l++[(nmR c r2).1]) _ h6;exact⟨h8,by omega⟩
  . exact⟨h,Vb _⟩
theorem QqP {d:Nat}:Kp c d (QaC c):=by
 intro r h;unfold QaC;split
 . dsimp only;obtain⟨h1,h2⟩:=QH [115,101,101,110] h;obtain⟨h3,h4⟩:=QH [98,121] h1;split
   . obtain⟨h5,h6⟩:=QH [97,108,108] h3;exact⟨h5,by simp only; omega⟩
   . obtain⟨h5,h6⟩:=Qcc _ h3;obtain⟨h7,h8⟩:=Qq5 c.ts.length [(nmR c (t2 c [98,121] (t2 c [115,101,101,110] r))).1] _ h5;exact⟨h7,by simp only; omega⟩
 . exact⟨h,Vb _⟩
end
@[simp] theorem Qm.c_len (a:Qm):a.c.length=6:=rfl
@[simp] theorem Qm.take6 (a:Qm):List.take 6 a.c=a.c:=rfl
theorem Qm.und (n:Nat) (a:Qm):SV.underL n a.c=true:=by
 simp[Qm.c,exS,SV.underL,SV.under,Ex.undL,Qe2 (Qo.und n)]
theorem Qm.ok (a:Qm):QC a.c:=by
 intro s hs;simp[Qm.c]at hs;rcases hs with rfl|rfl|rfl|rfl|rfl|rfl<;>rfl
@[simp] theorem Qm.okT (a:Qm):QC a.c=True:=Zw a.ok
theorem Qhv {c:Cx} {d:Nat} (s:ZE):Kp c d (QaK c s):=by
 intro r h;unfold QaK;split
 . exact QH s h
 . exact⟨h,Vb _⟩
theorem Qg8 {c:Cx} {d:Nat} {orP:Rd->Ex×Rd} (hk:Kp c d orP) (s:ZE):Kp c d (QaM c orP s):=by
 intro r h;unfold QaM;split
 . obtain⟨h1,h2⟩:=QH s h;obtain⟨h3,h4⟩:=hk _ h1;exact⟨h3,Vg h2 h4⟩
 . exact⟨h,Vb _⟩
theorem QoH {c:Cx} {d:Nat}:Kp c d (Qa9 c):=by
 intro r h;unfold Qa9;split
 . obtain⟨h1,h2⟩:=QH [103,111,116,111] h;obtain⟨h3,h4⟩:=Qcf _ h1;obtain⟨h5,h6⟩:=QH [59] h3;exact⟨h5,by simp only; omega⟩
 . exact⟨h,Vb _⟩
theorem Qix {c:Cx} {d:Nat} {orP:Rd->Ex×Rd} (hk:Kp c d orP):Kp c d (QM c orP):=by
 intro r h;unfold QM;dsimp only;obtain⟨h1,i1⟩:=Qdi [97,99,116,105,111,110] r h;obtain⟨h2,i2⟩:=Qcf _ h1;obtain⟨h3,i3⟩:=Qg8 hk [119,104,101,110] _ h2;obtain⟨h4,i4⟩:=Qhv [104,105,100,100,101,110] _ h3;obtain⟨h5,i5⟩:=QH [123] h4;obtain⟨h6,i6⟩:=QnE hk (c.ts.length+1) [] _ h5;obtain⟨h7,i7⟩:=QH [125] h6;obtain⟨h8,i8⟩:=QoH _ h7;exact⟨h8,by omega⟩
theorem QqZ {c:Cx} {d:Nat} {orP:Rd->Ex×Rd} (hk:Kp c d orP) {r:Rd} (h1:Gd c d (Qh c [97,99,116,105,111,110] r).2):(Qh c [97,99,116,105,111,110] r).2.a<=(QM c orP r).2.a:=by
 unfold QM;dsimp only;obtain⟨h2,i2⟩:=Qcf _ h1;obtain⟨h3,i3⟩:=Qg8 hk [119,104,101,110] _ h2;obtain⟨h4,i4⟩:=Qhv [104,105,100,100,101,110] _ h3;obtain⟨h5,i5⟩:=QH [123] h4;obtain⟨h6,i6⟩:=QnE hk (c.ts.length+1) [] _ h5;obtain⟨h7,i7⟩:=QH [125] h6;obtain⟨h8,i8⟩:=QoH _ h7;omega
def Qq {α:Type} (F:Rd->α×Rd):Prop:=∀ r,r.e≠0->(F r).2=r
theorem QeP {c:Cx} {r:Rd} {e:Int} (h:r.e≠0):Qg c e r=r:=by unfold Qg; rw[Zm h]
theorem QaE {c:Cx} {r:Rd} (h:r.e≠0) (s:ZE):Qd c s r=false:=by
 rw[<-Vi]; exact λh2=>h (Qf9 h2).1
theorem QmM {c:Cx} {r:Rd} (h:r.e≠0):QP c r=false:=by
 rw[<-Vi]; exact λh2=>h (Qb4 h2).1
theorem Qn9 {c:Cx} {r:Rd} (h:r.e≠0):QaW c r=false:=by
 rw[<-Vi]; exact λh2=>h (Qb4 h2).1
theorem QdE {c:Cx} (s:ZE):Qq (Qh c s):=λr h=>by unfold Qh; rw[QaE h,QeP h]; rfl
theorem Q2 {c:Cx} (s:ZE) {r:Rd} (h:r.e≠0):t2 c s r=r:=QdE s r h
theorem Qd7 {c:Cx}:Qq (QO c):=λr h=>by unfold QO; rw[QmM h,QeP h]; rfl
theorem Qch {c:Cx}:Qq (nmR c):=λr h=>by unfold nmR; rw[Qn9 h,QeP h]; rfl
theorem Qhf {c:Cx} {r:Rd} (h:r.e≠0) (ops:List (ZE×Int)):Qam c ops r=none:=by
 cases ho:Qam c ops r with
 |none=>rfl
 |some op=>exact absurd (QdV ho).1 h
theorem QdH {c:Cx} {ops:List (ZE×Int)} {f:Rd->Ex×Rd} (hf:Qq f):Qq (Q7 c ops f):=by
 intro r h;unfold Q7;rw[hf r h]
 cases c.ts.length with
 |zero=>rfl
 |succ n=>rw[QaX,Qhf h]
theorem Qms {c:Cx} {f:Rd->Ex×Rd} (hf:Qq f):Qq (QaP c f):=by
 intro r h;unfold QaP;rw[hf r h,Qhf h];exact hf r h
theorem Qng {c:Cx} {cmp ntP:Rd->Ex×Rd} (hf:Qq cmp):Qq (QaS c cmp ntP):=by
 intro r h;unfold QaS;rw[Zm (by rw[QaE h]; decide)];exact hf r h
theorem Qfp {c:Cx} {orP facP:Rd->Ex×Rd}:Qq (QL c orP facP):=by
 intro r h;unfold QL;rw[Zn h]
theorem Qh8 (c:Cx) (d:Nat):Qq (Qcd c (lv c d)):=by
 have hn:Qq (lv c d).nt:=by
  cases d with
  |zero=>exact Qng (Qms (QdH (QdH Qfp)))
  |succ d=>exact Qng (Qms (QdH (QdH Qfp)))
 exact QdH (QdH hn)
theorem QdM {c:Cx} {orP:Rd->Ex×Rd} (s:ZE):Qq (QaM c orP s):=λr h=>by unfold QaM; rw[Zm (by rw[QaE h]; decide)]
theorem Qge {c:Cx} (s:ZE):Qq (QaK c s):=λr h=>by unfold QaK; rw[Zm (by rw[QaE h]; decide)]
theorem Qfy {c:Cx}:Qq (Qa9 c):=λr h=>by unfold Qa9; rw[Zm (by rw[QaE h]; decide)]
theorem QnB {c:Cx} {orP:Rd->Ex×Rd} (n:Nat) (l:List Qo):Qq (QaO c orP n l):=by
 intro r h
 cases n with
 |zero=>rfl
 |succ n=>rw[QaO,Zm (λh2=>h h2.1)]
theorem QhD {c:Cx} {orP:Rd->Ex×Rd}:Qq (QM c orP):=by
 intro r h;unfold QM;dsimp only;rw[QdE _ r h,Qd7 r h,QdM _ r h,Qge _ r h,Q2 _ h,QnB _ _ r h,Q2 _ h,Qfy r h]
section
variable {H:ZG} {c:Cx} {r:Rd} {j:Nat} {G:ZG} {lb:ZE} {w:Ex} {p:Int}
theorem QlQ {d:Nat} {orP:Rd->Ex×Rd} (hk:Kp c d orP):∀ (n:Nat) (l:List Qm) (r:Rd),Gd c d r->Gd c d (Qaf c orP 0 n l r).2/\r.a<=(Qaf c orP 0 n l r).2.a
 |0,l,r,h=>⟨h,Vb _⟩
 |n+1,l,r,h=>by
  rw[Qaf];split
  . dsimp only;obtain⟨h3,h4,_⟩:=Qga (P:=l.length=10) h;generalize (if l.length=10 then Qg c 12 r else r)=r2 at *;obtain⟨h6,h7⟩:=Qix hk r2 h3;obtain⟨h8,h9⟩:=QlQ hk n (l++[(QM c orP r2).1]) _ h6;exact⟨h8,by omega⟩
  . exact⟨h,Vb _⟩
end
theorem QAp {c:Cx} {d:Nat} {orP:Rd->Ex×Rd} (hk:Kp c d orP) (x:Qb):Kp c d (QdJ c orP x):=by
 intro r h;unfold QdJ;dsimp only;obtain⟨g1,i1⟩:=Qdi [100,101,97,108] r h;obtain⟨g2,i2⟩:=Qcf _ g1;obtain⟨g3,i3⟩:=QH [105,110] g2;obtain⟨g4,i4⟩:=Qcc _ g3;obtain⟨g5,i5⟩:=QH [46,46] g4;obtain⟨g6,i6⟩:=Qcc _ g5;obtain⟨g7,i7⟩:=Qg8 hk [119,101,105,103,104,116] _ g6;obtain⟨g8,i8⟩:=QqP _ g7;obtain⟨g9,i9⟩:=QH [59] g8;exact⟨g9,by omega⟩
theorem QtQ {c:Cx} {d:Nat} {orP:Rd->Ex×Rd} (hk:Kp c d orP) (x:Qb):Kp c d (QdF c orP x):=by
 intro r h;unfold QdF;dsimp only;obtain⟨g1,i1⟩:=Qdi [116,117,114,110] r h;obtain⟨g2,i2⟩:=hk _ g1;obtain⟨g3,i3⟩:=QH [123] g2;obtain⟨g4,i4⟩:=Qix hk _ g3;obtain⟨g5,i5⟩:=QlQ hk c.ts.length [(QM c orP (t2 c [123] (orP (Qh c [116,117,114,110] r).2).2)).1] _ g4;obtain⟨g6,i6⟩:=QH [125] g5;exact⟨g6,by omega⟩
theorem Qrf {c:Cx} {d:Nat}:Kp c d (Qay c):=by
 intro r h;unfold Qay;split
 . obtain⟨g1,i1⟩:=Qcf r h;obtain⟨g2,i2⟩:=QH [58] g1;exact⟨g2,by simp only; omega⟩
 . exact⟨h,Vb _⟩
theorem QrY {c:Cx} {d:Nat} {orP:Rd->Ex×Rd} (hk:Kp c d orP):Kp c d (Q0 c orP):=by
 intro r h;unfold Q0;dsimp only;obtain⟨g1,i1⟩:=Qrf r h;split
 . obtain⟨g2,i2⟩:=QAp hk _ _ g1;exact⟨g2,by omega⟩
 split
 . obtain⟨g2,i2⟩:=QtQ hk _ _ g1;exact⟨g2,by omega⟩
 . obtain⟨g2,i2⟩:=Qdi [101,110,100] _ g1;obtain⟨g3,i3⟩:=QH [123] g2;obtain⟨g4,i4⟩:=QH [112,97,121] g3;obtain⟨g5,i5⟩:=QoR hk _ g4;obtain⟨g6,i6⟩:=QH [59] g5;obtain⟨g7,i7⟩:=QH [125] g6;exact⟨g7,by simp only; omega⟩
theorem QpL {c:Cx} {d:Nat} {orP:Rd->Ex×Rd} (hk:Kp c d orP) {r:Rd} (h:Gd c d r) (he:(Q0 c orP r).2.e=0):r.a<(Q0 c orP r).2.a:=by
 unfold Q0 at he ⊢;dsimp only at he ⊢;obtain⟨g1,i1⟩:=Qrf r h;split at he
 . rename_i hp;rw[Zn hp];unfold QdJ at he ⊢;dsimp only at he ⊢;obtain⟨g1,i1⟩:=Qdi [100,101,97,108] _ g1;obtain⟨g2,i2⟩:=Qcf _ g1;obtain⟨g3,i3⟩:=QH [105,110] g2;obtain⟨g4,i4⟩:=Qcc _ g3;obtain⟨g5,i5⟩:=QH [46,46] g4;obtain⟨g6,i6⟩:=Qcc _ g5;obtain⟨g7,i7⟩:=Qg8 hk [119,101,105,103,104,116] _ g6;obtain⟨g8,i8⟩:=QqP _ g7;have:=(QgQ he).2;omega
 . rename_i hp;rw[Zm hp];split at he
   . rename_i hp;rw[Zn hp];unfold QdF at he ⊢;dsimp only at he ⊢;obtain⟨g1,i1⟩:=Qdi [116,117,114,110] _ g1;obtain⟨g2,i2⟩:=hk _ g1;obtain⟨g3,i3⟩:=QH [123] g2;obtain⟨g4,i4⟩:=Qix hk _ g3;obtain⟨g5,i5⟩:=QlQ hk c.ts.length [(QM c orP (t2 c [123] (orP (Qh c [116,117,114,110] (Qay c r).2).2).2)).1] _ g4;have:=(QgQ he).2;omega
   . rename_i hp;rw[Zm hp];dsimp only at he ⊢;obtain⟨g2,i2⟩:=Qdi [101,110,100] _ g1;obtain⟨g3,i3⟩:=QH [123] g2;obtain⟨g4,i4⟩:=QH [112,97,121] g3;obtain⟨g5,i5⟩:=QoR hk _ g4;obtain⟨g6,i6⟩:=QH [59] g5;have:=(QgQ he).2;omega
theorem Qb.c_len (x:Qb):x.c.length=12:=rfl
theorem Qb.und (n:Nat) (x:Qb):SV.underL n x.c=true:=by
 simp[Qb.c,exS,SV.underL,SV.under,Ex.undL,Qe2 (Qm.und n)]
@[simp] theorem Qb.fzm (n:Nat) (ks:List Nat) (L:ZG) (d:Nat) (x:Qb):x.c.map (SV.fz n ks L (d+1))=x.c:=QcM _ _ _ _ (Qb.und _ x)
theorem Qb.ok (x:Qb):QC x.c:=by
 intro s hs;simp[Qb.c]at hs;rcases hs with rfl|rfl|rfl|rfl|rfl|rfl|rfl|rfl|rfl|rfl|rfl|rfl<;>rfl
@[simp] theorem Qb.okT (x:Qb):QC x.c=True:=Zw x.ok
@[simp] theorem Qb.take12 (x:Qb):List.take 12 x.c=x.c:=rfl
@[simp] theorem Qb.len12 (x:Qb):x.c.length=12:=rfl
def lbO (lb:ZE):AO:=⟨[i64 0,st (B lb),st (B []),i64 0,i64 0,nl,bl false,nl,nl,nl,nl,i64 0],78,0,true⟩
theorem Qou {c:Cx} {d:Nat} (l:List Ql):Kp c d (Qa7 c l):=by
 intro r h;unfold Qa7;dsimp only;obtain⟨g0,i0⟩:=QH [118,97,114] h;obtain⟨g1,i1,_⟩:=Qga (P:=l.length=40/\QP c (t2 c [118,97,114] r)=true) g0;generalize (if l.length=40/\QP c (t2 c [118,97,114] r)=true then Qg c 12 (t2 c [118,97,114] r)else t2 c [118,97,114] r)=r1 at *;obtain⟨g2,i2⟩:=Qcf _ g1;obtain⟨g3,i3⟩:=QH [61] g2;obtain⟨g4,i4⟩:=Qhv [45] _ g3;obtain⟨g5,i5⟩:=Qcc _ g4;obtain⟨g6,i6⟩:=QH [59] g5;exact⟨g6,by omega⟩
theorem QuP {c:Cx} {d:Nat} (l:List Ql) {r:Rd} (h:Gd c d r) (he:(Qa7 c l r).2.e=0):r.a<(Qa7 c l r).2.a:=by
 unfold Qa7 at he ⊢;dsimp only at he ⊢;obtain⟨g0,i0⟩:=QH [118,97,114] h;obtain⟨g1,i1,_⟩:=Qga (P:=l.length=40/\QP c (t2 c [118,97,114] r)=true) g0;generalize (if l.length=40/\QP c (t2 c [118,97,114] r)=true then Qg c 12 (t2 c [118,97,114] r)else t2 c [118,97,114] r)=r1 at *;obtain⟨g2,i2⟩:=Qcf _ g1;obtain⟨g3,i3⟩:=QH [61] g2;obtain⟨g4,i4⟩:=Qhv [45] _ g3;obtain⟨g5,i5⟩:=Qcc _ g4;have:=(QgQ he).2;omega
theorem Qn4 {c:Cx} {d:Nat}:∀ (n:Nat) (l:List Ql) (r:Rd),Gd c d r->Gd c d (Q6 c n l r).2/\r.a<=(Q6 c n l r).2.a
 |0,l,r,h=>⟨h,Vb _⟩
 |n+1,l,r,h=>by
  rw[Q6];split
  . obtain⟨h6,h7⟩:=Qou l r h;obtain⟨h8,h9⟩:=Qn4 n (l++[(Qa7 c l r).1]) _ h6;exact⟨h8,by omega⟩
  . exact⟨h,Vb _⟩
theorem Ql.c_len (v:Ql):v.c.length=3:=rfl
theorem Ql.und (n:Nat) (v:Ql):SV.underL n v.c=true:=rfl
def zR:AO:=⟨[st (B []),i64 0,nl,nl],36,0,true⟩
def Qdo (l:List Ql):AO:=⟨rws Ql.c l,75,l.length,true⟩
def Qdp (l:List Qb):AO:=⟨rws Qb.c l,78,l.length,true⟩
theorem QAF {c:Cx}:Qq (Qay c):=λr h=>by unfold Qay; rw[Zm (by rw[QmM h]; decide)]
theorem QfR {c:Cx}:Qq (QaC c):=λr h=>by unfold QaC; rw[Zm (by rw[QaE h]; decide)]
theorem Qhx {c:Cx} {orP:Rd->Ex×Rd} (ho:Qq orP):Qq (QcD c orP):=by
 intro r h;unfold QcD;rw[ho r h]
 cases c.ts.length with
 |zero=>rfl
 |succ n=>rw[Qak,Zm (by rw[QaE h]; decide)]
theorem Qk0 {c:Cx} {orP:Rd->Ex×Rd} (ho:Qq orP):Qq (Q0 c orP):=by
 intro r h;unfold Q0;dsimp only;rw[QAF r h,Zm (by rw[QaE h]; decide),Zm (by rw[QaE h]; decide)];dsimp only;rw[QdE _ r h,Q2 _ h,Q2 _ h,Qhx ho r h,Q2 _ h,Q2 _ h]
def Qby (r:Qx):SV:=.agg r.c
theorem QzF (e p:Int):SV.le (.tup [.agg [st (B []),i64 0,nl,nl],.agg [i64 e,i64 p]]) (.tup [Qby Qeb,QK e p]) :=
 Qi2 (leL.cons (QfL (leL.cons (SV.le.refl _) (leL.cons (SV.le.refl _) (leL.cons Qd4 (leL.cons Qd4 leL.nil))))) (leL.cons (SV.le.refl _) leL.nil))
section
variable {c:Cx} {r:Rd}
theorem QvB (hb:Qbw c r=false):QaW c r=false/\QP c r=false/\Qd c [110,111,116] r=false/\Qd c [45] r=false/\Qd c [40] r=false/\Qd c [109,105,110] r=false/\Qd c [109,97,120] r=false/\Qd c [105,102] r=false:=by
 unfold Qbw at hb;simpa[Y7,and_assoc]using hb
theorem QA3 {ops:List (ZE×Int)} {F:Rd->Ex×Rd} (h:(F r).2.e≠0):(Q7 c ops F r).2=(F r).2:=by
 unfold Q7; rw[Qlw h]
theorem QAy (he:r.e=0) (hb:Qbw c r=false) (d:Nat):(Qcd c (lv c d) r).2=Qg c 11 r:=by
 obtain⟨h1,h2,h3,h4,h5,h6,h7,h8⟩:=QvB hb;have hfe:(Qg c 11 r).e≠0:=by simp[Qg,he]
 have hf:∀ orP facP,(QL c orP facP r).2=Qg c 11 r:=by
  intro orP facP;unfold QL;have hw:QaT.find? (λw=>Qd c w.1 r)=none:=by simp[QaT,h6,h7,h8]
  rw[Zm (by simp[he]),Zm (by simp[h2]),Zm (by simp[h4]),Zm (by simp[h5]),hw];simp[nmR,h1]
 have hb2:∀ ops (F:Rd->Ex×Rd),(F r).2=Qg c 11 r->(Q7 c ops F r).2=Qg c 11 r:=λops F h=>by
  rw[QA3 (by rw[h]; exact hfe),h]
 have hn:∀ orP facP ntP,(QaS c (Qh3 c (QL c orP facP)) ntP r).2=Qg c 11 r:=by
  intro orP facP ntP;unfold QaS;rw[Zm (by simp[h3])];unfold Qh3 QaP;have h9:=hb2 Qbe _ (hb2 Qa6 _ (hf orP facP));rw[h9,Qhf hfe];exact h9
 have hnt:((lv c d).nt r).2=Qg c 11 r:=by
  cases d with
  |zero=>exact hn _ _ _
  |succ d=>exact hn _ _ _
 exact hb2 orO _ (hb2 QbM _ hnt)
def Qbj (c:Cx) (full:Bool) (r:Rd):ZE×Rd:=QO c (if full=true/\QP c r=true then Qg c 12 r else r)
def Qca (c:Cx) (full:Bool) (r:Rd):Int×Rd:=nmR c (if full=true/\QaW c r=true then Qg c 12 r else r)
end
theorem Qaa {α:Type} {c:Cx} {j k:Nat} {args:ZH} {G:ZG} {f:α->SV} {q:α×Rd} {K:Out->ZG->Prop} (h:OkP Tryz.prog k args G (PdV c G j f q))
 (hok:q.2.e=0->K (.ret (f q.1)) (G.set j (pdO c q.2))) (hbad:q.2.e≠0->∀ H',Qt G [j] H'->K (.pan (QV q.2.e q.2.p)) H'):QdS Tryz.prog (.fn (.func k) [] []) args G K:=by
 refine Q4 h ?_;intro o H' hp;unfold PdV at hp;by_cases he:q.2.e=0
 . rw[Zn he]at hp; obtain⟨rfl,rfl⟩:=hp; exact hok he
 . rw[Zm he]at hp; obtain⟨rfl,hk⟩:=hp; exact hbad he H' hk
theorem PdV.pan {α:Type} {c:Cx} {j:Nat} {f:α->SV} {G H':ZG} {q:α×Rd} (he:q.2.e≠0) (h:Qt G [j] H'):PdV c G j f q (.pan (QV q.2.e q.2.p)) H':=by
 unfold PdV; rw[Zm he]; exact⟨rfl,h⟩
theorem PdV.ret {α:Type} {c:Cx} {j:Nat} {f:α->SV} {G H':ZG} {q:α×Rd} (he:q.2.e=0) (h:H'=G.set j (pdO c q.2)):PdV c G j f q (.ret (f q.1)) H':=by
 unfold PdV; rw[Zn he]; exact⟨rfl,h⟩
theorem PdV.fail {α:Type} {c:Cx} {j:Nat} {f:α->SV} {G H':ZG} {q:α×Rd} {r:Rd} {e:Int} (hr:r.e=0) (he:e≠0) (hq:q.2=Qg c e r) (h:Qt G [j] H'):PdV c G j f q (.pan (QV e (Qk c r))) H':=by
 have f1:(Qg c e r).e=e/\(Qg c e r).p=Qk c r:=by simp[Qg,hr]
 have:=PdV.pan (c:=c) (f:=f) (q:=q) (by rw[hq,f1.1]; exact he) h
 rwa [hq,f1.1,f1.2]at this
theorem PdV.got {α:Type} {c:Cx} {j:Nat} {f:α->SV} {G H':ZG} {q:α×Rd} {x:α} {r:Rd} {o:Out} (he:r.e=0) (hq:q=(x,r)) (ho:o=.ret (f x)) (h:H'=G.set j (pdO c r)):PdV c G j f q o H':=by
 subst hq ho; exact PdV.ret (q:=(x,r)) he h
theorem Qvk {c:Cx} {r:Rd} (he:r.e=0) (hp:QP c r=true):(Qbj c true r).2=Qg c 12 r:=by
 have hb:(Qg c 12 r).e≠0:=by simp[Qg,he]
 unfold Qbj;rw[Zn ⟨rfl,hp⟩];unfold QO;rw[QmM hb,QeP hb]; rfl
theorem Qwz {c:Cx} {r:Rd} (hp:QP c r=true):Qbj c false r=((tkR c r).tx,Qa r):=by
 have hlt:=(Qb4 hp).2.1;unfold Qbj;rw[Zm (by simp)];unfold QO;rw[Zn hp]; simp[tkR,hlt,List.getD]
theorem QyN {c:Cx} {r:Rd} (full:Bool) (hp:QP c r=false):(Qbj c full r).2=Qg c 11 r:=by
 unfold Qbj;rw[Zm (by simp[hp])];unfold QO;rw[hp]; rfl
theorem QA7 {c:Cx} {r:Rd} (he:r.e=0) (hp:QaW c r=true):(Qca c true r).2=Qg c 12 r:=by
 have hb:(Qg c 12 r).e≠0:=by simp[Qg,he]
 unfold Qca;rw[Zn ⟨rfl,hp⟩];unfold nmR;rw[Qn9 hb,QeP hb]; rfl
theorem Qyc {c:Cx} {r:Rd} (hp:QaW c r=true):Qca c false r=((tkR c r).n,Qa r):=by
 have hlt:=(Qb4 hp).2.1;unfold Qca;rw[Zm (by simp)];unfold nmR;rw[Zn hp]; simp[tkR,hlt,List.getD]
theorem QyY {c:Cx} {r:Rd} (full:Bool) (hp:QaW c r=false):(Qca c full r).2=Qg c 11 r:=by
 unfold Qca;rw[Zm (by simp[hp])];unfold nmR;rw[hp]; rfl
def exN (l:List Ex):SV:=if l=[]then nl else exS l
def inN (l:List Int):SV:=if l=[]then nl else .slc (QE l) l.length
section
variable {H:ZG} {c:Cx} {r:Rd} {j:Nat}
theorem Qnf (ho:H[j]? = some (pdO c r)) (hl:r.a<4611686018427387904) (he:r.e=0) (full:Bool):OkP Tryz.prog 88 [rp j,bl full] H (PdV c H j (λs=>st (B s)) (Qbj c full r)):=by
 have hj:=Qj ho;have h92:=Qgp ho he;have h140:=QfV ho hl;have h11:=Qdg ho 11;have h12:=Qdg ho 12;refine Qa8 hm Tryz.func88 c88 (by simp[rp]) λhcl => ?_;simp[i88,r88,rp];refine Qc (by simpa[rp]using h92) ?_;by_cases hp:QP c r=true
 . cases full with
   |true =>
    simp[hp];refine Qc (by simpa[rp]using h12) ?_;simp;exact⟨_,_,PdV.fail he (by decide) (Qvk he hp) (Qt.refl _ _),Qi⟩
   |false =>
    simp[hp];refine Qc (by simpa[rp]using h140) ?_;simp[Tok.v,Tok.c];exact⟨_,_,PdV.got (r:=Qa r) he (Qwz hp) rfl rfl,Qi⟩
 . rw[Vi]at hp;simp[hp];refine Qc (by simpa[rp]using h11) ?_;simp;exact⟨_,_,PdV.fail he (by decide) (QyN full hp) (Qt.refl _ _),Qi⟩
theorem QiI (ho:H[j]? = some (pdO c r)) (hl:r.a<4611686018427387904) (he:r.e=0) (full:Bool):OkP Tryz.prog 89 [rp j,bl full] H (PdV c H j i64 (Qca c full r)):=by
 have hj:=Qj ho;have h139:=Qes ho;have h140:=QfV ho hl;have h11:=Qdg ho 11;have h12:=Qdg ho 12;have hnt:=QkL (c:=c) he;refine Qa8 hm Tryz.func89 c89 (by simp[rp]) λhcl => ?_;simp[i89,r89,rp];refine Qc (by simpa[rp]using h139) ?_;by_cases hp:QaW c r=true
 . have hk:(tkR c r).k=2:=by rw[hp]at hnt; exact Zv hnt.symm
   cases full with
   |true =>
    simp[Tok.v,Tok.c,hk];refine Qc (by simpa[rp]using h12) ?_;simp;exact⟨_,_,PdV.fail he (by decide) (QA7 he hp) (Qt.refl _ _),Qi⟩
   |false =>
    simp[Tok.v,Tok.c,hk];refine Qc (by simpa[rp]using h140) ?_;simp[Tok.v,Tok.c];exact⟨_,_,PdV.got (r:=Qa r) he (Qyc hp) rfl rfl,Qi⟩
 . rw[Vi]at hp;have hk:¬ (tkR c r).k=2:=by rw[hp]at hnt; exact of_decide_eq_false hnt.symm
   simp[Tok.v,Tok.c,hk];refine Qc (by simpa[rp]using h11) ?_;simp;exact⟨_,_,PdV.fail he (by decide) (QyY full hp) (Qt.refl _ _),Qi⟩
theorem QcO {s:ZE} (hp:Qd c s r=true):t2 c s r=Qa r:=by simp[t2,Qh,hp]
theorem QpF (hn:QY c) {d:Nat} {F:Rd->Ex×Rd} (hF:PdC c 32 [] F d) {s:ZE} (hs:QcH s=true) (ho:H[j]? = some (pdO c r)) (hl:c.ts.length<4611686018427387904) (hg:Gd c d r) (he:r.e=0) :
 OkP Tryz.prog 181 [rp j,st (B s),.fn (.func 32) [rp j] []] H (PdV c H j exN (QaM c F s r)):=by
 have hj:=Qj ho;have ha:=hg.a;have h90:=QcW hn ho (by omega) he hs;refine Qa8 hm Tryz.func181 c181 (by simp[rp]) λhcl => ?_;simp[i181,r181,rp];refine Qc (by simpa[rp]using h90) ?_;unfold Q9;by_cases hp:Qd c s r=true
 . have hg2:=hg.next (Qaj hp)
   have hc:=hF (G:=H.set j (pdO c (Qa r))) (j:=j) (r:=Qa r) (by simp[hj]) hg2 he;have hopt:QaM c F s r=([(F (Qa r)).1],(F (Qa r)).2):=by unfold QaM; rw[Zn hp,QcO hp]
   rw[hopt];simp[hp];refine QsD (a:=[rp j]) (b:=[]) (by simpa[rp]using hc) ?_;intro o H' hq;unfold PdP PdV at hq;generalize F (Qa r)=q at hq ⊢;by_cases he2:q.2.e=0
   . rw[Zn he2]at hq;obtain⟨rfl,rfl⟩:=hq;rw[VA];simp[Ex.v];refine⟨_,_,PdV.ret (q:=([q.1],q.2)) he2 rfl,?_⟩;refine Qp 3 (QbN (c:=c) (a:=q.2.a) (v:=q.2.v) hcl) (by simp) ?_;simp[exN,exS,Ex.cL]
   . rw[Zm he2]at hq;obtain⟨rfl,hk⟩:=hq;simp;exact⟨_,_,PdV.pan (q:=([q.1],q.2)) he2 ((Qt.set (by simp) _).trans hk),Qi⟩
 . have hopt:QaM c F s r=([],r):=by unfold QaM; rw[Zm hp]
   rw[hopt];simp[hp];refine⟨_,_,PdV.got (r:=r) he rfl (o:=.ret nl) rfl (QcI ho).symm,?_⟩;rw[QcI ho];exact Qi
def wdN (l:ZD):SV:=if l=[]then nl else .slc (wds l) l.length
theorem QuK (hn:QY c) {F:Rd->ZE×Rd} {f:SV} (hvd:f.vd=true) (hug:f.ug=f) (hfu:f.under H.length=true) {s:ZE} (hs:QcH s=true) (ho:H[j]? = some (pdO c r)) (hl:c.ts.length<4611686018427387904) (ha:r.a<=c.ts.length) (he:r.e=0)
 (hF:Qd c s r=true->Qfj Tryz.prog f [] (H.set j (pdO c (Qa r))) (PdV c (H.set j (pdO c (Qa r))) j (λs=>st (B s)) (F (Qa r)))) :
 OkP Tryz.prog 202 [rp j,st (B s),f] H (PdV c H j wdN (if Qd c s r=true then([(F (Qa r)).1],(F (Qa r)).2)else([],r))):=by
 have hj:=Qj ho;have hopt1:Qd c s r=true->(if Qd c s r=true then([(F (Qa r)).1],(F (Qa r)).2)else(([],r):ZD×Rd))=([(F (Qa r)).1],(F (Qa r)).2):=λh=>Zn h;have hopt2:¬ Qd c s r=true->(if Qd c s r=true then([(F (Qa r)).1],(F (Qa r)).2)else(([],r):ZD×Rd))=([],r):=λh=>Zm h;generalize (if Qd c s r=true then([(F (Qa r)).1],(F (Qa r)).2)else(([],r):ZD×Rd))=res at hopt1 hopt2 ⊢;have h90:=QcW hn ho (by omega) he hs;refine Qa8 hm Tryz.func202 c202 (by simp[rp]) λhcl => ?_;simp[i202,r202,rp];refine Qc (by simpa[rp]using h90) ?_;unfold Q9;by_cases hp:Qd c s r=true
 . have hc:=hF hp;rw[hopt1 hp];clear hopt1 hopt2;simp[hp];refine Qpp hc ?_;intro o H' hq;unfold PdV at hq;generalize F (Qa r)=q at hq ⊢;by_cases he2:q.2.e=0
   . rw[Zn he2]at hq;obtain⟨rfl,rfl⟩:=hq;rw[VA];simp;refine⟨_,_,PdV.ret (q:=([q.1],q.2)) he2 rfl,?_⟩;refine Qp 3 (QbN (c:=c) (a:=q.2.a) (v:=q.2.v) hcl) (by simp) ?_;simp[wdN,wds]
   . rw[Zm he2]at hq;obtain⟨rfl,hk⟩:=hq;simp;exact⟨_,_,PdV.pan (q:=([q.1],q.2)) he2 ((Qt.set (by simp) _).trans hk),Qi⟩
 . rw[hopt2 hp];simp[hp];refine⟨_,_,PdV.got (r:=r) he rfl (o:=.ret nl) rfl (QcI ho).symm,?_⟩;rw[QcI ho];exact Qi
theorem QxD (hn:QY c) (ho:H[j]? = some (pdO c r)) (he:r.e=0):Ok Tryz.prog 183 [rp j] H (.ret (bl (Qbw c r))) H:=by
 have hj:=Qj ho;have h92:=Qgp ho he;have h139:=Qes ho;have hnt:=QkL (c:=c) he;have h93:=Qfs (H:=H++[⟨[st (B [110,111,116]),st (B [45]),st (B [40]),st (B [109,105,110]),st (B [109,97,120]),st (B [105,102])],9,0,true⟩]) (c:=c) (r:=r) (j:=j) (by rw[Vc hj]; exact ho) (x:=.own H.length 0 6 1 0) (l:=[[110,111,116],[45],[40],[109,105,110],[109,97,120],[105,102]]) (IsS.own1 (k:=0) rfl rfl) (by simp);have hb:Qbw c r=(QP c r||QaW c r||decide ((tkR c r).tx∈[[110,111,116],[45],[40],[109,105,110],[109,97,120],[105,102]])):=by
  unfold Qbw;rw[QcS hn (s:=[110,111,116]) rfl he,QcS hn (s:=[45]) rfl he,QcS hn (s:=[40]) rfl he,QcS hn (s:=[109,105,110]) rfl he,QcS hn (s:=[109,97,120]) rfl he,QcS hn (s:=[105,102]) rfl he];rw[Bool.eq_iff_iff];simp[or_assoc];constructor
  . rintro(h|h|h)<;>simp[h]
  . rintro(h|h|h)<;>simp[h]
 rw[hb];refine Qz hm Tryz.func183 c183 (by simp[rp]) λhcl => ?_;simp[i183,r183,rp];refine Qc (by simpa[rp]using h92) ?_;by_cases hf:QP c r=true
 . simp[hf];refine Qcg _ _ _ _ ?_;simp[hf];refine Qcg _ _ _ _ ?_;simp[hf];exact Qi
 . rw[Vi]at hf;simp[hf];refine QZ (r:=(tkR c r).v) (λ_=>by simpa[rp,SV.strip]using h139) ?_;by_cases hk:QaW c r=true
   . have hk2:(tkR c r).k=2:=by rw[hk]at hnt; exact Zv hnt.symm
     simp[hf,Tok.v,Tok.c,hk2];refine Qcg _ _ _ _ ?_;simp[hf,hk,Tok.v,Tok.c,hk2];exact Qi
   . rw[Vi]at hk;have hk2:¬ (tkR c r).k=2:=by rw[hk]at hnt; exact of_decide_eq_false hnt.symm
     simp[hf,Tok.v,Tok.c,hk2];refine QZ (r:=bl (decide ((tkR c r).tx∈[[110,111,116],[45],[40],[109,105,110],[109,97,120],[105,102]]))) (λ_=>by simpa[rp,SV.strip]using h93) ?_;simp[hf,hk,Tok.v,Tok.c,hk2];exact Qp 2 hcl rfl rfl
end
def w2 (H:ZG) (j k:Nat) (o p:AO):ZG:=(H.set j o).set k p
structure J2 (H:ZG) (j k:Nat):Prop where
 lj:j<H.length
 lk:k<H.length
 ne:j≠k
section
variable {H:ZG} {j k:Nat} {o p:AO}
@[simp] theorem Qk5:(w2 H j k o p).length=H.length:=by simp[w2]
theorem Qbx (h:J2 H j k) (L:ZG):(w2 H j k o p++L)[j]? = some o:=by
 rw[Vc (by simpa using h.lj),w2,Vf (Ne.symm h.ne),Vo h.lj]
theorem QjS (h:J2 H j k) (L:ZG):(w2 H j k o p++L)[k]? = some p:=by
 rw[Vc (by simpa using h.lk),w2,Vo (by simpa using h.lk)]
theorem Qa5 (h:J2 H j k) (L:ZG) (o':AO):(w2 H j k o p++L).set j o'=w2 H j k o' p++L:=by
 rw[Vl _ _ (by simpa using h.lj),w2,List.set_comm _ _ (Ne.symm h.ne),VA]; rfl
theorem Qqm (h:J2 H j k) (L:ZG) (p':AO):(w2 H j k o p++L).set k p'=w2 H j k o p'++L:=by
 rw[Vl _ _ (by simpa using h.lk),w2,VA]; rfl
theorem Qe5 (h:J2 H j k) (cs:ZH) (T:ZK) (L:ZG):Qn (w2 H j k o ⟨cs,T,0,true⟩++L) k 0=cs:=Qap (o:=⟨cs,T,0,true⟩) (QjS h L) rfl
theorem QfC (h:J2 H j k) (L:ZG) (f:AO->AO):Ab.setObj (w2 H j k o p++L) k f=w2 H j k o (f p)++L:=by
 rw[QbX (QjS h L),Qqm h]
theorem Qm9 (h1:H[j]? = some o) (h2:H[k]? = some p):w2 H j k o p=H:=by
 rw[w2,QcI h1,QcI h2]
@[simp] theorem QCW (L:ZG) (i ver:Nat):Qn (w2 H j k o p++L) (H.length+i) ver=Qn L i ver:=by
 have:=QfN (H:=w2 H j k o p) (L:=L) (k:=i) (ver:=ver); simpa using this
@[simp] theorem QB9 (L:ZG) (i:Nat) (f:AO->AO):Ab.setObj (w2 H j k o p++L) (H.length+i) f=w2 H j k o p++Ab.setObj L i f:=by
 have:=QkC (H:=w2 H j k o p) (L:=L) (k:=i) (f:=f); simpa using this
@[simp] theorem QDY (L:ZG) (i ver:Nat) (T:ZK) (m:Nat):QbB (w2 H j k o p++L) (H.length+i) ver T m=QbB L i ver T m:=by
 have:=QoA (H:=w2 H j k o p) (L:=L) (k:=i) (ver:=ver) (T:=T) (m:=m); simpa using this
theorem Qt.w2 {H' L:ZG} (hJ:J2 H j k) (h:Qt (w2 H j k o p++L) [j] H'):Qt H [j,k] H':=by
 refine⟨Vg (by simp) h.len,λi hi hn => ?_⟩;simp only[Ve,VC,Zu,not_or]at hn;rw[h.at_ i (by simp; omega) (by simp[hn.1]),Vc (by simpa using hi),Proofs.YtmkdpmfhlfhjkaaGreatDoor.w2,Vf (Ne.symm hn.2),Vf (Ne.symm hn.1)]
end
structure Rw (n:Nat) (L:ZG) (x y:SV):Prop where
 cell:x.isCell=true
 ycell:y.isCell=true
 fz:∀ M d,SV.fz n [] (L++M) (d+2) x=y
theorem Rw.und {n:Nat} {L:ZG} {x:SV} (h:x.isCell=true) (hu:x.under n=true):Rw n L x x:=⟨h,h,λM d=>Qc3 hu⟩
theorem Rw.own {n q m sz ver T:Nat} {L:ZG} {cells:ZH} (h:L[q]? = some ⟨cells,T,ver,true⟩) (hl:cells.length=m*sz) (hu:SV.underL n cells=true):Rw n L (.own (n+q) 0 m sz ver) (.slc cells m):=by
 refine⟨rfl,rfl,λM d => ?_⟩;have hq:(L++M)[q]? = some ⟨cells,T,ver,true⟩:=by rw[Vc (Qj h)]; exact h
 have hnu:¬ (SV.own (n+q) 0 m sz ver).under n=true:=by simp[SV.under]
 have e:n+q-n=q:=by omega
 have hp:Qbf [] q=none:=rfl;rw[SV.fz,Zm hnu];simp only[e,hq,hp];rw[Zn ⟨Zo,Zo,by simp[hl]⟩];simp only[Yt];rw[VD (by omega),QcM _ _ _ _ hu]
def acN (l:List Qm):SV:=if l=[]then nl else .slc (rws Qm.c l) l.length
def Qb.cN (x:Qb):ZH:=[i64 x.k,st (B x.lb),st (B x.nm),i64 x.lo,i64 x.hi,exN x.wt,bl x.all,inN x.seen,exN x.who,acN x.acts,exN x.pays,i64 x.p]
def stO (x:Qb):AO:=⟨Qb.cN x,78,0,true⟩
theorem QiT (l:List Ex):SV.le (exN l) (exS l):=by
 unfold exN; split
 . rename_i h; subst h; exact Qd4
 . exact SV.le.refl _
theorem QAV (l:List Int):SV.le (inN l) (.slc (QE l) l.length):=by
 unfold inN; split
 . rename_i h; subst h; exact Qd4
 . exact SV.le.refl _
theorem Qw9 (l:List Qm):SV.le (acN l) (.slc (rws Qm.c l) l.length):=by
 unfold acN; split
 . rename_i h; subst h; exact Qd4
 . exact SV.le.refl _
theorem QzE (x:Qb):leL (Qb.cN x) (Qb.c x) :=
 leL.cons (SV.le.refl _) (leL.cons (SV.le.refl _) (leL.cons (SV.le.refl _) (leL.cons (SV.le.refl _) (leL.cons (SV.le.refl _) (leL.cons (QiT _) (leL.cons (SV.le.refl _) (leL.cons (QAV _) (leL.cons (QiT _) (leL.cons (Qw9 _) (leL.cons (QiT _) (leL.cons (SV.le.refl _) leL.nil)))))))))))
@[simp] theorem QuQ (l:List Ex):(exN l).isCell=true:=by unfold exN; split<;>rfl
@[simp] theorem QGD (l:List Int):(inN l).isCell=true:=by unfold inN; split<;>rfl
@[simp] theorem QC5 (l:List Qm):(acN l).isCell=true:=by unfold acN; split<;>rfl
@[simp] theorem Qta (n:Nat) (l:List Ex):(exN l).under n=true:=by unfold exN; split<;>simp[exS,SV.under,Ex.undL]
@[simp] theorem QDi (n:Nat) (l:List Int):(inN l).under n=true:=by unfold inN; split<;>simp[SV.under]
@[simp] theorem QD4 (n:Nat) (l:List Qm):(acN l).under n=true:=by unfold acN; split<;>simp[SV.under,Qe2 (Qm.und _)]
@[simp] theorem exN_vd (l:List Ex):(exN l).vd=true:=by unfold exN; split<;>rfl
@[simp] theorem QBx (l:List Ex):(exN l).flat=[exN l]:=by unfold exN; split<;>rfl
@[simp] theorem exN_ug (l:List Ex):(exN l).ug=exN l:=by unfold exN; split<;>rfl
def PdS (c:Cx) (G:ZG) (j k:Nat) (q:Qb×Rd) (o:Out) (H':ZG):Prop :=
 if q.2.e=0 then o=.ret (.tup [])/\H'=w2 G j k (pdO c q.2) (stO q.1)else o=.pan (QV q.2.e q.2.p)/\Qt G [j,k] H'
section
variable {H:ZG} {c:Cx} {r:Rd} {j k:Nat}
theorem PdS.ret {G H':ZG} {q:Qb×Rd} (he:q.2.e=0) (h:H'=w2 G j k (pdO c q.2) (stO q.1)):PdS c G j k q (.ret (.tup [])) H':=by unfold PdS; rw[Zn he]; exact⟨rfl,h⟩
theorem PdS.pan {G H':ZG} {q:Qb×Rd} (he:q.2.e≠0) (h:Qt G [j,k] H'):PdS c G j k q (.pan (QV q.2.e q.2.p)) H':=by unfold PdS; rw[Zm he]; exact⟨rfl,h⟩
theorem Qxo {p:AO} (hcl:closed H) (hJ:J2 H j k):∀ (i:Nat) (o:AO),i≠k->(w2 H j k (pdO c r) p)[i]? = some o->∀ s∈o.cells,s.under H.length=true:=by
 intro i o hi ho s hs;rw[w2,Vf (Ne.symm hi)]at ho;by_cases hij:i=j
 . subst hij;rw[Vo hJ.lj]at ho
   cases ho
   exact(SV.underL_iff _ _).1 (Qqw _ _ _ _) s hs
 . rw[Vf (Ne.symm hij)]at ho;exact hcl i o ho s hs
theorem QmN {n0:Nat} (hn0:n0=H.length) (hcl:closed H) (hJ:J2 H j k) {cells:ZH} {x:Qb} {L:ZG} (hfz:cells.map (SV.fz H.length [] L 3)=Qb.cN x) :
 Cv n0 (.tup []) (w2 H j k (pdO c r) ⟨cells,78,0,true⟩++L) (.tup []) (w2 H j k (pdO c r) (stO x)):=by
 have hk0:=QjS (o:=pdO c r) (p:=⟨cells,78,0,true⟩) hJ [];rw[VE]at hk0;have hz:=Qds.one (H0:=w2 H j k (pdO c r) ⟨cells,78,0,true⟩) (L:=L) (ks:=[]) (d:=3) (j:=k) (o:=⟨cells,78,0,true⟩) (by rw[Qk5]; exact Qxo hcl hJ) hk0 rfl (by
  rw[Qk5,hfz];intro s hs;simp[Qb.cN]at hs;rcases hs with rfl|rfl|rfl|rfl|rfl|rfl|rfl|rfl|rfl|rfl|rfl|rfl<;>simp)
 rw[Qk5,hfz]at hz;have hs:(w2 H j k (pdO c r) ⟨cells,78,0,true⟩).set k ⟨Qb.cN x,78,0,true⟩=w2 H j k (pdO c r) (stO x):=by rw[w2,VA]; rfl
 rw[hs]at hz;have:=Qui (n0:=n0) (r:=.tup []) (Hx:=w2 H j k (pdO c r) ⟨cells,78,0,true⟩++L) 3 rfl (by rw[Qk5,hn0]; exact Vb _) hz;exact this
theorem QzB {s:ZE}:Q9 c s r=if Qd c s r=true then Qa r else r:=rfl
theorem Qfz (hn:QY c) (hct:c.ts.length<4611686018427387904) (hJ:J2 H j k) {p:AO} {L:ZG} {q n T ver:Nat} {l:ZD} (hL:L[q]? = some ⟨wds l,T,ver,true⟩) (hn':n=l.length) (hl:l.length<4611686018427387904) (hw:∀ s∈l,QcH s=true) (he:r.e=0) (ha:r.a<=c.ts.length) :
 OkP Tryz.prog 87 [rp j,.own (H.length+q) 0 n 1 ver] (w2 H j k (pdO c r) p++L) (PdV c (w2 H j k (pdO c r) p++L) j (λ_:Unit=>.tup []) ((),QcC c l r)):=by
 refine Qkd hn (Qbx hJ L) (λo => ?_) hl hct hw he ha;have:=QjG (G:=w2 H j k (pdO c r) p) (L:=L) (j:=j) (k:=q) (by simpa using hJ.lj) hL hn' o;simpa using this
end
theorem QyA {c:Cx} {r:Rd} (he:r.e=0) (l:List Int):(if l.length=32/\r.a<c.ts.length/\Qal c { r with e:=0 } (λt=>decide (t.k=2))=true then Qg c 12 r else r)=if decide (l.length=32)=true/\QaW c r=true then Qg c 12 r else r:=by
 have hr:({ r with e:=0 }:Rd)=r:=by cases r; simp only at he; subst he; rfl
 rw[hr];have:(l.length=32/\r.a<c.ts.length/\Qal c r (λt=>decide (t.k=2))=true)↔(decide (l.length=32)=true/\QaW c r=true):=by
  simp only[Zq];constructor
  . rintro⟨h1,_,h3⟩; exact⟨h1,h3⟩
  . rintro⟨h1,h3⟩; exact⟨h1,(Qb4 h3).2.1,h3⟩
 simp only[this]
theorem QlI {c:Cx} {n:Nat} {l:List Int} {r:Rd} (h:r.e≠0):QaB c n l r=(l,r):=by
 cases n with
 |zero=>rfl
 |succ n=>rw[QaB,Zm (by rw[QaE h]; decide)]
theorem Qvt {c:Cx} {d:Nat} {r:Rd} (full:Bool) (h:Gd c d r):Gd c d (Qca c full r).2/\r.a<=(Qca c full r).2.a:=by
 unfold Qca;obtain⟨h1,h2,_⟩:=Qga (P:=full=true/\QaW c r=true) h;obtain⟨h3,h4⟩:=Qcc _ h1;exact⟨h3,by omega⟩
theorem Qre {c:Cx} {d:Nat} {r:Rd} (full:Bool) (h:Gd c d r):Gd c d (Qbj c full r).2/\r.a<=(Qbj c full r).2.a:=by
 unfold Qbj;obtain⟨h1,h2,_⟩:=Qga (P:=full=true/\QP c r=true) h;obtain⟨h3,h4⟩:=Qcf _ h1;exact⟨h3,by omega⟩
theorem QhG (c:Cx) (r:Rd):Qca c false r=nmR c r:=by unfold Qca; rw[Zm (by simp)]
theorem Qhw (c:Cx) (r:Rd):Qbj c false r=QO c r:=by unfold Qbj; rw[Zm (by simp)]
theorem Qau (c:Cx) (s:ZE) (r:Rd):QcC c [s] r=t2 c s r:=rfl
theorem Qik (c:Cx) (s s':ZE) (r:Rd):QcC c [s,s'] r=t2 c s' (t2 c s r):=rfl
theorem QAH (l:List Int) (n:Int):QE (l++[n])=QE l++[i64 n]:=by simp[QE]
section
variable {H:ZG} {c:Cx} {r:Rd} {j k:Nat} {lb nm:ZE} {lo hi p:Int} {wt:List Ex}
def dlC (lb nm:ZE) (lo hi:Int) (wt:List Ex) (all:Bool) (xS:SV) (p:Int):ZH:=[i64 1,st (B lb),st (B nm),i64 lo,i64 hi,exN wt,bl all,xS,nl,nl,nl,i64 p]
theorem Qw6 (hn:QY c) (h20:c.ts.length<=20000) (hcl:closed H) (hJ:J2 H j k) (he:r.e=0) (ha:r.a<=c.ts.length) {all:Bool} {seen:List Int} {xS:SV} {L:ZG} (hS:Rw H.length L xS (inN seen)) {env:Env} (h0:env.get 0=rp j) {res:Qb×Rd}
 (hres:(⟨1,lb,nm,lo,hi,wt,all,seen,[],[],[],p⟩,t2 c [59] r)=res) :
 X Tryz.prog Tryz.f147.ntmps Qf (IC.tl 8 Qas) env (w2 H j k (pdO c r) ⟨dlC lb nm lo hi wt all xS p,78,0,true⟩++L) (FinP H.length Qfc (PdS c H j k res)):=by
 have hct:c.ts.length<4611686018427387904:=by omega
 subst hres;have hw:=Qfz (p:=⟨dlC lb nm lo hi wt all xS p,78,0,true⟩) (L:=L++[⟨[st (B [59])],9,0,true⟩]) (q:=L.length) (n:=1) (T:=9) (ver:=0) (l:=[[59]]) hn hct hJ (by simp[wds]) rfl (by simp) (by intro s hs; simp at hs; subst hs; rfl) he ha;simp -implicitDefEqProofs[IC.tl,Qas,Qfc,h0,rp];refine Qaa (by simpa[rp]using hw) (λhe2 => ?_) (λhe2 H' hk => ?_)
 . rw[Qa5 hJ];simp -implicitDefEqProofs;rw[Qau]at he2 ⊢;refine⟨_,_,PdS.ret (q:=(⟨1,lb,nm,lo,hi,wt,all,seen,[],[],[],p⟩,t2 c [59] r)) he2 rfl,?_⟩;refine QmN rfl hcl hJ ?_;have e1:=hS.fz [⟨[st (B [59])],9,0,true⟩] 1;have e2:=(Rw.und (QuQ wt) (Qta H.length wt) (L:=L)).fz [⟨[st (B [59])],9,0,true⟩] 1;simp only[dlC,Vn,VU,Qb.cN,e1,e2];simp[exN,acN]
 . simp -implicitDefEqProofs;exact⟨_,_,PdS.pan (q:=(⟨1,lb,nm,lo,hi,wt,all,seen,[],[],[],p⟩,t2 c [59] r)) he2 (hk.w2 hJ),Qi⟩
theorem QuF (hn:QY c) (h20:c.ts.length<=20000) (hJ:J2 H j k) {d:Nat} {N:Nat} {K:ZF} {res:List Int×Rd} {L:ZG}
 (hexit:∀ l m M env,res.2.e=0->res.1=l->l.length=m+1->Gd c d res.2->env.get 0=rp j->K (.exit 0) env (w2 H j k (pdO c res.2) ⟨dlC lb nm lo hi wt false (.own (H.length+L.length) 0 (m+1) 1 m) p,78,0,true⟩++(L++⟨QE l,3,m,true⟩::M)))
 (hpan:res.2.e≠0->∀ env H',Qt H [j,k] H'->K (.panic (QV res.2.e res.2.p)) env H') :
 ∀ (n:Nat) (l:List Int) (m:Nat) (r:Rd) (M:ZG) (env:Env),c.ts.length<=r.a+n->l.length=m+1->l.length<=r.a+1->QaB c n l r=res->Gd c d r->r.e=0->env.get 0=rp j->env.get 1=rp k ->
  LI Tryz.prog N Qf Qjv env (w2 H j k (pdO c r) ⟨dlC lb nm lo hi wt false (.own (H.length+L.length) 0 (m+1) 1 m) p,78,0,true⟩++(L++⟨QE l,3,m,true⟩::M)) K:=by
 have hct:c.ts.length<4611686018427387904:=by omega
 intro n
 induction n with
 |zero =>
  intro l m r M env hna hlm hla hr hg he h0 h1;refine Qu hm Qjv.eq_1 ?_;have hp:Qd c [44] r=false:=by rw[<-Vi]; intro h; have:=Qaj h; omega
  have h90:=λp L=>QcW hn (Qbx (o:=pdO c r) (p:=p) hJ L) (by have:=hg.a; omega) he (s:=[44]) rfl;simp -implicitDefEqProofs[h0,h1,rp];refine Qc (by simpa[rp]using h90 _ _) ?_;simp only[Q9,hp];simp -implicitDefEqProofs[h0,h1];rw[Qa5 hJ];simp only[QaB]at hr;subst hr;exact hexit l m M _ he rfl hlm hg (by simp)
 |succ n ih =>
  intro l m r M env hna hlm hla hr hg he h0 h1;refine Qu hm Qjv.eq_1 ?_;have h90:=λp L=>QcW hn (Qbx (o:=pdO c r) (p:=p) hJ L) (by have:=hg.a; omega) he (s:=[44]) rfl;simp -implicitDefEqProofs[h0,h1,rp];refine Qc (by simpa[rp]using h90 _ _) ?_;rw[QaB]at hr;by_cases hp:Qd c [44] r=true
  . rw[Zn hp]at hr;have hlt:=Qaj hp;have hla2:=hg.a;have hg1:=hg.next hlt
    have he1:(Qa r).e=0:=he;have ha1:(Qa r).a=r.a+1:=rfl;rw[QcO hp]at hr;simp only[]at hr;rw[QyA he1]at hr;have hr2:QaB c n (l++[(Qca c (decide (l.length=32)) (Qa r)).1]) (Qca c (decide (l.length=32)) (Qa r)).2=res:=hr;have hd:(decide ((m:Int)+1=32))=decide (l.length=32):=by rw[ZC]; omega
    have h89:=λp L=>QiI (Qbx (o:=pdO c (Qa r)) (p:=p) hJ L) (by omega) he1 (decide (l.length=32));obtain⟨k1,k2⟩:=Qvt (decide (l.length=32)) hg1;simp only[Q9,hp,Zs];rw[Qa5 hJ];have e2:=λo cs L f=>QfC (o:=o) (p:=⟨cs,78,0,true⟩) hJ L f;have e3:=λo cs L=>Qe5 (o:=o) hJ cs 78 L;simp -implicitDefEqProofs[h0,h1,rp,e3,dlC,hd];generalize Qca c (decide (l.length=32)) (Qa r)=q at hr2 h89 k1 k2;refine Qaa (by simpa[rp,dlC]using h89 _ _) (λhe2 => ?_) (λhe2 H' hk => ?_)
    . rw[Qa5 hJ];simp -implicitDefEqProofs[e2,e3];have hil:(QE l).length=m+1:=by simp[QE,hlm]
      simp -implicitDefEqProofs;refine⟨by omega,by omega,hlm,?_⟩;refine LI.cong ?_ (ih (l++[q.1]) (m+1) q.2 (M++[⟨[i64 q.1],3,0,true⟩]) _ (by omega) (by simp[hlm]) (by simp; omega) hr2 k1 he2 ?_ ?_)
      . simp[QAH,dlC]
      all_goals simp[rp]
    . simp -implicitDefEqProofs;rw[QlI he2]at hr2;subst hr2;exact hpan he2 _ _ (hk.w2 hJ)
  . rw[Zm hp]at hr;rw[Vi]at hp;simp only[Q9,hp];simp -implicitDefEqProofs[h0,h1];rw[Qa5 hJ];subst hr;exact hexit l m M _ he rfl hlm hg (by simp)
end
section
variable {H:ZG} {c:Cx} {r:Rd} {j k:Nat} {lb nm:ZE} {lo hi p:Int} {wt:List Ex}
theorem QkA {c:Cx} {s:ZE} {r:Rd}:(Qh c s r).2=t2 c s r:=rfl
theorem QAE (hp:Qd c [115,101,101,110] r=false):QaC c r=((false,[]),r):=by unfold QaC; rw[Zm (by simp[hp])]
theorem QyE (hp:Qd c [115,101,101,110] r=true) (hb:(t2 c [98,121] (Qa r)).e≠0):(QaC c r).2=t2 c [98,121] (Qa r):=by
 unfold QaC;rw[Zn hp,QcO hp];dsimp only;generalize t2 c [98,121] (Qa r)=r1 at hb ⊢;rw[Zm (by rw[QaE hb]; decide),Qch r1 hb,QlI hb]
theorem QxG (hp:Qd c [115,101,101,110] r=true) (h2:Qd c [97,108,108] (t2 c [98,121] (Qa r))=true):QaC c r=((true,[]),Qa (t2 c [98,121] (Qa r))):=by
 unfold QaC;rw[Zn hp,QcO hp];dsimp only;rw[Zn h2,QcO h2]
theorem QAa (hp:Qd c [115,101,101,110] r=true) (h2:Qd c [97,108,108] (t2 c [98,121] (Qa r))=false) {r1:Rd} (h1:t2 c [98,121] (Qa r)=r1):QaC c r=((false,(QaB c c.ts.length [(nmR c r1).1] (nmR c r1).2).1),(QaB c c.ts.length [(nmR c r1).1] (nmR c r1).2).2):=by
 subst h1;unfold QaC;rw[Zn hp,QcO hp];dsimp only;rw[Zm (by rw[h2]; decide)]
theorem QAq (hn:QY c) (h20:c.ts.length<=20000) (hcl:closed H) (hJ:J2 H j k) {d:Nat} (hg:Gd c d r) (he:r.e=0) {L:ZG} {env:Env} (h0:env.get 0=rp j) (h1:env.get 1=rp k) {res:Qb×Rd}
 (hres:(⟨1,lb,nm,lo,hi,wt,(QaC c r).1.1,(QaC c r).1.2,[],[],[],p⟩,t2 c [59] (QaC c r).2)=res) :
 X Tryz.prog Tryz.f147.ntmps Qf (IC.tl 7 Qas) env (w2 H j k (pdO c r) ⟨dlC lb nm lo hi wt false nl p,78,0,true⟩++L) (FinP H.length Qfc (PdS c H j k res)):=by
 have hct:c.ts.length<4611686018427387904:=by omega
 have ha:=hg.a;have tail:∀ (r:Rd) (all:Bool) (seen:List Int) (xS:SV) (L:ZG) (env:Env),r.e=0->r.a<=c.ts.length->Rw H.length L xS (inN seen)->env.get 0=rp j->(⟨1,lb,nm,lo,hi,wt,all,seen,[],[],[],p⟩,t2 c [59] r)=res->_:=λr all seen xS L env he ha hS h0 hr=>Qw6 (lb:=lb) (nm:=nm) (lo:=lo) (hi:=hi) (p:=p) (wt:=wt) hn h20 hcl hJ he ha hS h0 hr;have bad:∀ rf:Rd,rf.e≠0->(QaC c r).2=rf->∀ H',Qt H [j,k] H'->PdS c H j k res (.pan (QV rf.e rf.p)) H':=by
  intro rf hf hs H' hk;have:res.2=rf:=by rw[<-hres]; simp only[hs]; exact Q2 _ hf
  rw[<-this]at hf ⊢;exact PdS.pan hf hk
 have h90:=λp L=>QcW hn (Qbx (o:=pdO c r) (p:=p) hJ L) (by omega) he (s:=[115,101,101,110]) rfl;have e2:=λo cs L f=>QfC (o:=o) (p:=⟨cs,78,0,true⟩) hJ L f;have e3:=λo cs L=>Qe5 (o:=o) hJ cs 78 L;rw[show IC.tl 7 Qas=.seq (IC.nth 7 Qas) (IC.tl 8 Qas)from rfl];generalize IC.tl 8 Qas=t8 at tail ⊢;simp[IC.nth,Qas,Qfc,h0,h1,rp];refine Qc (by simpa[rp]using h90 _ _) ?_;rw[Qa5 hJ];by_cases hp:Qd c [115,101,101,110] r=true
 . have hg1:=hg.next (Qaj hp)
   have he1:(Qa r).e=0:=he;simp only[Q9,hp,Zs];have hw:=Qfz (p:=⟨dlC lb nm lo hi wt false nl p,78,0,true⟩) (L:=L++[⟨[st (B [98,121])],9,0,true⟩]) (q:=L.length) (n:=1) (T:=9) (ver:=0) (l:=[[98,121]]) hn hct hJ (by simp[wds]) rfl (by simp) (by intro s hs; simp at hs; subst hs; rfl) he1 hg1.a;have hgb:=(QH (c:=c) (d:=d) [98,121] hg1).1;simp;refine Qaa (by simpa[rp]using hw) (λhe2 => ?_) (λhe2 H' hk => ?_)
   . rw[Qa5 hJ];simp only[Qau]at he2 ⊢;have hab:=QxG (c:=c) (r:=r) hp;have hli:=QAa (c:=c) (r:=r) hp;generalize t2 c [98,121] (Qa r)=r1 at hgb he2 hab hli ⊢;have ha1:=hgb.a;have h90:=λp L=>QcW hn (Qbx (o:=pdO c r1) (p:=p) hJ L) (by omega) he2 (s:=[97,108,108]) rfl;simp;refine Qc (by simpa[rp]using h90 _ _) ?_;rw[Qa5 hJ];by_cases hp2:Qd c [97,108,108] r1=true
     . have hg2:=hgb.next (Qaj hp2)
       simp only[Q9,hp2,Zs];simp[e2,e3,dlC];have hx:=tail (Qa r1) true [] nl (L++[⟨[st (B [98,121])],9,0,true⟩]) ((54,rp k)::env) he2 hg2.a (Rw.und rfl rfl) (by simp[h0]) (by rw[<-hres,hab hp2]);refine Xc ?_ (tail (Qa r1) true [] nl (L++[⟨[st (B [98,121])],9,0,true⟩]) _ he2 hg2.a (Rw.und rfl rfl) ?_ (by rw[<-hres,hab hp2]))
       . simp[dlC]
       . simp[h0,rp]
     . rw[Vi]at hp2;have hli:=hli hp2 rfl;have h89:=λp L=>QiI (Qbx (o:=pdO c r1) (p:=p) hJ L) (by omega) he2 false;have hkn:=Qcc (c:=c) (d:=d) r1 hgb;simp only[QhG]at h89;simp only[Q9,hp2];simp[e2,e3,dlC];generalize nmR c r1=q at hkn h89 hli;obtain⟨k1,k2⟩:=hkn;refine Qaa (by simpa[rp]using h89 _ _) (λhe3 => ?_) (λhe3 H' hk => ?_)
       . rw[Qa5 hJ];simp[e2,e3,dlC];generalize hs:QaB c c.ts.length [q.1] q.2=s at hli;refine LI.cong (H':=w2 H j k (pdO c q.2) ⟨dlC lb nm lo hi wt false (.own (H.length+(L++[⟨[st (B [98,121])],9,0,true⟩]:ZG).length) 0 (0+1) 1 0) p,78,0,true⟩++((L++[⟨[st (B [98,121])],9,0,true⟩])++⟨QE [q.1],3,0,true⟩::[])) (by simp[dlC,QE]) ?_;refine QuF hn h20 hJ (L:=L++[⟨[st (B [98,121])],9,0,true⟩]) (res:=s) (λl m M env hs0 hsl hlm hgs h0 => ?_) (λhs0 env H' hk => ?_) c.ts.length [q.1] 0 q.2 [] _ (by omega) rfl (by simp) hs k1 he3 ?_ ?_
         . simp;have hR:Rw H.length ((L++[⟨[st (B [98,121])],9,0,true⟩])++⟨QE l,3,m,true⟩::M) (.own (H.length+(L++[⟨[st (B [98,121])],9,0,true⟩]:ZG).length) 0 (m+1) 1 m) (inN l):=by
            have:=Rw.own (n:=H.length) (q:=(L++[⟨[st (B [98,121])],9,0,true⟩]:ZG).length) (m:=m+1) (sz:=1) (ver:=m) (T:=3) (L:=(L++[⟨[st (B [98,121])],9,0,true⟩])++⟨QE l,3,m,true⟩::M) (cells:=QE l) (by simp) (by simp[QE,hlm]) (Qlt _ _);have hne:l≠[]:=by rintro rfl; simp at hlm
            rw[inN,Zm hne,hlm]; exact this
           have hx:=tail s.2 false l _ _ env hs0 hgs.a hR h0 (by rw[<-hres,hli,hsl]);exact Xc (by simp[dlC]) hx
         . simp;exact⟨_,_,bad s.2 hs0 (by rw[hli]) _ hk,Qi⟩
         all_goals simp[h0,h1,rp]
       . simp;rw[QlI he3]at hli;exact⟨_,_,bad q.2 he3 (by rw[hli]) _ (hk.w2 hJ),Qi⟩
   . simp;rw[Qau]at he2;exact⟨_,_,bad _ he2 (QyE hp he2) _ (hk.w2 hJ),Qi⟩
 . rw[Vi]at hp;simp only[Q9,hp];simp;exact tail r false [] nl L _ he ha (Rw.und rfl rfl) (by simp[h0,rp]) (by rw[<-hres,QAE hp])
end
def sC (lb:ZE) (p:Int):ZH:=[i64 0,st (B lb),st (B []),i64 0,i64 0,nl,bl false,nl,nl,nl,nl,i64 p]
section
variable {H:ZG} {c:Cx} {r:Rd} {j k:Nat} {lb:ZE} {p:Int} {F:Rd->Ex×Rd}
def QfD (c:Cx) (F:Rd->Ex×Rd) (lb:ZE) (p:Int) (r:Rd):Qb×Rd :=
 let nm:=QO c r
 let lo:=nmR c (t2 c [105,110] nm.2)
 let hi:=nmR c (t2 c [46,46] lo.2)
 let w:=QaM c F [119,101,105,103,104,116] hi.2
 let s:=QaC c w.2
 (⟨1,lb,nm.1,lo.1,hi.1,w.1,s.1.1,s.1.2,[],[],[],p⟩,t2 c [59] s.2)
theorem QlD (c:Cx) (s:ZE) (r:Rd):(Qh c s r).1=Qk c r:=rfl
theorem Qvi (r:Rd):QdJ c F { QdD with lb:=lb } r=QfD c F lb (Qk c r) (t2 c [100,101,97,108] r):=by
 unfold QdJ QfD;simp only[QdD,QlD,QkA]
theorem Qqi {o p:AO} (h:J2 H j k):(w2 H j k o p)[j]? = some o:=by simpa using Qbx (o:=o) (p:=p) h []
theorem Qr3 {o p:AO} (h:J2 H j k) (o':AO):(w2 H j k o p).set j o'=w2 H j k o' p:=by simpa using Qa5 (o:=o) (p:=p) h [] o'
theorem Qls {o:AO} (h:J2 H j k) (cs:ZH) (T:ZK):Qn (w2 H j k o ⟨cs,T,0,true⟩) k 0=cs:=by simpa using Qe5 (o:=o) h cs T []
theorem Qmv {o p:AO} (h:J2 H j k) (f:AO->AO):Ab.setObj (w2 H j k o p) k f=w2 H j k o (f p):=by simpa using QfC (o:=o) (p:=p) h [] f
set_option maxHeartbeats 2000000 in
theorem Qtv (hn:QY c) (h20:c.ts.length<=20000) (hcl:closed H) (hJ:J2 H j k) {d:Nat} (hF:PdC c 32 [] F d) (hkF:Kp c d F) (hst:Qq F) (hg:Gd c d r) (he:r.e=0) {L:ZG} {env:Env} (h0:env.get 0=rp j) (h1:env.get 1=rp k) {nm:ZE} {res:Qb×Rd}
 (hres:(λlo:Int×Rd=>(λhi:Int×Rd=>(λw:List Ex×Rd=>(λs:(Bool×List Int)×Rd=>((⟨1,lb,nm,lo.1,hi.1,w.1,s.1.1,s.1.2,[],[],[],p⟩,t2 c [59] s.2):Qb×Rd)) (QaC c w.2)) (QaM c F [119,101,105,103,104,116] hi.2)) (nmR c (t2 c [46,46] lo.2))) (nmR c (t2 c [105,110] r))=res) :
 X Tryz.prog Tryz.f147.ntmps Qf (IC.tl 2 Qas) env (w2 H j k (pdO c r) ⟨dlC lb nm 0 0 [] false nl p,78,0,true⟩++L) (FinP H.length Qfc (PdS c H j k res)):=by
 have hct:c.ts.length<4611686018427387904:=by omega
 have ha:=hg.a;have tail:∀ (lo hi:Int) (wt:List Ex) (r:Rd) (L:ZG) (env:Env),Gd c d r->r.e=0->env.get 0=rp j->env.get 1=rp k->(⟨1,lb,nm,lo,hi,wt,(QaC c r).1.1,(QaC c r).1.2,[],[],[],p⟩,t2 c [59] (QaC c r).2)=res->_:=λlo hi wt r L env hg he h0 h1 hr=>QAq (lb:=lb) (nm:=nm) (lo:=lo) (hi:=hi) (p:=p) (wt:=wt) (L:=L) hn h20 hcl hJ hg he h0 h1 hr;have bad:∀ rf:Rd,rf.e≠0->res.2=rf->∀ H',Qt H [j,k] H'->PdS c H j k res (.pan (QV rf.e rf.p)) H':=by
  intro rf hf hs H' hk;rw[<-hs]at hf ⊢;exact PdS.pan hf hk
 have e2:=λo cs L f=>QfC (o:=o) (p:=⟨cs,78,0,true⟩) hJ L f;have e3:=λo cs L=>Qe5 (o:=o) hJ cs 78 L;rw[show IC.tl 2 Qas=.seq (IC.nth 2 Qas) (IC.tl 3 Qas)from rfl,show IC.tl 3 Qas=.seq (IC.nth 3 Qas) (IC.tl 4 Qas)from rfl,show IC.tl 4 Qas=.seq (IC.nth 4 Qas) (IC.tl 5 Qas)from rfl,show IC.tl 5 Qas=.seq (IC.nth 5 Qas) (IC.tl 6 Qas)from rfl,show IC.tl 6 Qas=.seq (IC.nth 6 Qas) (IC.tl 7 Qas)from rfl];generalize IC.tl 7 Qas=t7 at tail ⊢;have hw:=Qfz (p:=⟨dlC lb nm 0 0 [] false nl p,78,0,true⟩) (L:=L++[⟨[st (B [105,110])],9,0,true⟩]) (q:=L.length) (n:=1) (T:=9) (ver:=0) (l:=[[105,110]]) hn hct hJ (by simp[wds]) rfl (by simp) (by intro s hs; simp at hs; subst hs; rfl) he ha;have hg1:=(QH (c:=c) (d:=d) [105,110] hg).1;simp -implicitDefEqProofs[IC.nth,Qas,Qfc,h0,rp];refine Qaa (by simpa[rp]using hw) (λhe1 => ?_) (λhe1 H' hk => ?_)
 . rw[Qa5 hJ];simp only[Qau]at he1 ⊢;generalize t2 c [105,110] r=r1 at hg1 he1 hres ⊢;have ha1:=hg1.a;have h89:=λp L=>QiI (Qbx (o:=pdO c r1) (p:=p) hJ L) (by omega) he1 false;simp only[QhG]at h89;have hg2:=(Qcc (c:=c) (d:=d) r1 hg1).1;simp -implicitDefEqProofs[h0,h1,rp];generalize nmR c r1=q at hg2 h89 hres;refine Qaa (by simpa[rp]using h89 _ _) (λhe2 => ?_) (λhe2 H' hk => ?_)
   . rw[Qa5 hJ];simp -implicitDefEqProofs[h0,h1,rp,e2,e3,dlC];have hw:=Qfz (p:=⟨dlC lb nm q.1 0 [] false nl p,78,0,true⟩) (L:=(L++[⟨[st (B [105,110])],9,0,true⟩])++[⟨[st (B [46,46])],9,0,true⟩]) (q:=(L++[(⟨[st (B [105,110])],9,0,true⟩:AO)]).length) (n:=1) (T:=9) (ver:=0) (l:=[[46,46]]) hn hct hJ (by simp[wds]) rfl (by simp) (by intro s hs; simp at hs; subst hs; rfl) he2 hg2.a;have hg3:=(QH (c:=c) (d:=d) [46,46] hg2).1;refine Qaa (by simpa[rp,dlC]using hw) (λhe3 => ?_) (λhe3 H' hk => ?_)
     . rw[Qa5 hJ];simp only[Qau]at he3 ⊢;try simp only at hres
       generalize t2 c [46,46] q.2=r3 at hg3 he3 hres ⊢;have ha3:=hg3.a;have h89:=λp L=>QiI (Qbx (o:=pdO c r3) (p:=p) hJ L) (by omega) he3 false;simp only[QhG]at h89;have hg4:=(Qcc (c:=c) (d:=d) r3 hg3).1;simp -implicitDefEqProofs[h0,h1,rp];generalize nmR c r3=q4 at hg4 h89 hres;refine Qaa (by simpa[rp]using h89 _ _) (λhe4 => ?_) (λhe4 H' hk => ?_)
       . rw[Qa5 hJ];simp -implicitDefEqProofs[h0,h1,rp,e2,e3];have h181:=λp L=>QpF hn hF (s:=[119,101,105,103,104,116]) rfl (Qbx (o:=pdO c q4.2) (p:=p) hJ L) hct hg4 he4;have hg5:=(Qg8 hkF [119,101,105,103,104,116] _ hg4).1;try simp only at hres
         generalize QaM c F [119,101,105,103,104,116] q4.2=q5 at hg5 h181 hres;refine Qaa (by simpa[rp]using h181 _ _) (λhe5 => ?_) (λhe5 H' hk => ?_)
         . rw[Qa5 hJ];simp -implicitDefEqProofs[h0,h1,rp,e2,e3];refine Xc ?_ (tail q.1 q4.1 q5.1 q5.2 (L++[⟨[st (B [105,110])],9,0,true⟩,⟨[st (B [46,46])],9,0,true⟩]) _ hg5 he5 ?_ ?_ hres)
           . simp[dlC]
           all_goals simp[h0,h1,rp]
         . simp -implicitDefEqProofs;refine⟨_,_,bad _ he5 ?_ _ (hk.w2 hJ),Qi⟩;rw[<-hres,QfR _ he5,Q2 _ he5]
       . simp -implicitDefEqProofs;refine⟨_,_,bad _ he4 ?_ _ (hk.w2 hJ),Qi⟩;rw[<-hres];simp only[QdM _ _ he4,QfR _ he4,Q2 _ he4]
     . simp -implicitDefEqProofs;rw[Qau]at he3;refine⟨_,_,bad _ he3 ?_ _ (hk.w2 hJ),Qi⟩;rw[<-hres];simp only[Qch _ he3,QdM _ _ he3,QfR _ he3,Q2 _ he3]
   . simp -implicitDefEqProofs;refine⟨_,_,bad _ he2 ?_ _ (hk.w2 hJ),Qi⟩;rw[<-hres];simp only[Qch _ he2,QdM _ _ he2,QfR _ he2,Q2 _ he2]
 . simp -implicitDefEqProofs;rw[Qau]at he1;refine⟨_,_,bad _ he1 ?_ _ (hk.w2 hJ),Qi⟩;rw[<-hres];simp only[Qch _ he1,QdM _ _ he1,QfR _ he1,Q2 _ he1]
set_option maxHeartbeats 2000000 in
theorem QAz (hn:QY c) (h20:c.ts.length<=20000) (hJ:J2 H j k) {d:Nat} (hF:PdC c 32 [] F d) (hkF:Kp c d F) (hst:Qq F) (ho:H[j]? = some (pdO c r)) (hk0:H[k]? = some ⟨sC lb p,78,0,true⟩) (hg:Gd c d r) (he:r.e=0) :
 OkP Tryz.prog 147 [rp j,rp k] H (PdS c H j k (QfD c F lb p r)):=by
 have hct:c.ts.length<4611686018427387904:=by omega
 have ha:=hg.a;have e2:=λo cs f=>Qmv (o:=o) (p:=⟨cs,78,0,true⟩) hJ f;have e3:=λo cs=>Qls (o:=o) hJ cs 78;refine Qa8 hm Tryz.func147 c147 (by simp[rp]) λhcl => ?_;refine Xc (H':=w2 H j k (pdO c r) ⟨sC lb p,78,0,true⟩) (Qm9 ho hk0) ?_;have hg1:=(Qcf (c:=c) (d:=d) r hg).1;have h88:=λp=>Qnf (Qqi (o:=pdO c r) (p:=p) hJ) (by omega) he false;simp only[Qhw]at h88;have tail:∀ (nm:ZE) (r:Rd) (L:ZG) (env:Env) (res:Qb×Rd),Gd c d r->r.e=0->env.get 0=rp j->env.get 1=rp k->_->_:=λnm r L env res hg he h0 h1 hr=>Qtv (lb:=lb) (nm:=nm) (p:=p) (L:=L) (res:=res) hn h20 hcl hJ hF hkF hst hg he h0 h1 hr;rw[show Qas=.seq (IC.nth 0 Qas) (.seq (IC.nth 1 Qas) (IC.tl 2 Qas))from rfl];generalize IC.tl 2 Qas=t2' at tail ⊢;generalize hres:QfD c F lb p r=res;unfold QfD at hres;simp -implicitDefEqProofs[IC.nth,Qas,Qfc,rp,e2,e3,sC];generalize QO c r=q at hg1 h88 hres;refine Qaa (by simpa[rp]using h88 _) (λhe1 => ?_) (λhe1 H' hk => ?_)
 . rw[Qr3 hJ];simp -implicitDefEqProofs[e2,e3];refine Xc ?_ (tail q.1 q.2 [] _ res hg1 he1 ?_ ?_ hres)
   . simp[dlC,exN]
   all_goals simp[rp]
 . simp -implicitDefEqProofs;have hb:res.2=q.2:=by
    rw[<-hres];simp only[Qch _ he1,QdM _ _ he1,QfR _ he1,Q2 _ he1]
   have hk':Qt H [j,k] H':=(show Qt (w2 H j k (pdO c r) _++[]) [j] H' by simpa using hk).w2 hJ;rw[<-hb]at he1 ⊢;exact⟨_,_,PdS.pan he1 hk',Qi⟩
end
theorem Qp4 {P:ZL} (hm:P.follows .mixedOrders=true) {f:ZN} {fn:Func} {i:IC} {rs:List RS} (hf:P.funcs[f]? = some fn) (hc:Qdv P Qf fn i rs=true)
 {args:ZH} {H:ZG} {Pt:Out->ZG->Prop} (hn:args.length=fn.params.size+fn.nfree)
 (hx:closed H->WI P fn.ntmps Qf i (Qce args) H (FinP H.length rs Pt)):OkP P f args H Pt:=by
 unfold Qdv at hc;rw[Va,Va,Va]at hc;obtain⟨⟨⟨h1,h2⟩,h3⟩,h4⟩:=hc;split at h1
 . rename_i c hb;exact QkQ hf hb (by simpa using h2) (by rw[hn]; simpa using h4) h3 λhcl=>hx hcl c h1
 . cases h1
section
variable {H:ZG} {c:Cx} {r:Rd} {j:Nat}
theorem QbU (hj:j<H.length) (o:AO) (L:ZG):(H.set j o++L)[j]? = some o:=by rw[Vc (by simpa using hj)]; simp[hj]
theorem QaN (hj:j<H.length) (o o':AO) (L:ZG):(H.set j o++L).set j o'=H.set j o'++L:=by rw[Vl _ _ (by simpa using hj),VA]
theorem QnM (hj:j<H.length) (r:Rd) (L:ZG):Ok Tryz.prog 91 [rp j] (H.set j (pdO c r)++L) (.ret (i64 (Qk c r))) (H.set j (pdO c r)++L):=QfX (QbU hj _ _)
theorem Qh4 (hn:QY c) (hj:j<H.length) (hl:r.a<4611686018427387904) (he:r.e=0) (L:ZG) {s:ZE} (hs:QcH s=true):Ok Tryz.prog 90 [rp j,st (B s)] (H.set j (pdO c r)++L) (.ret (bl (Qd c s r))) (H.set j (pdO c (Q9 c s r))++L):=by
 have:=QcW hn (QbU hj (pdO c r) L) hl he hs
 rwa [QaN hj]at this
theorem Qh5 (hj:j<H.length) (hl:r.a<4611686018427387904) (he:r.e=0) (L:ZG) (full:Bool):OkP Tryz.prog 88 [rp j,bl full] (H.set j (pdO c r)++L) (PdV c (H.set j (pdO c r)++L) j (λs=>st (B s)) (Qbj c full r)):=Qnf (QbU hj (pdO c r) L) hl he full
theorem Qoh (hj:j<H.length) (hl:r.a<4611686018427387904) (he:r.e=0) (L:ZG) (full:Bool):OkP Tryz.prog 89 [rp j,bl full] (H.set j (pdO c r)++L) (PdV c (H.set j (pdO c r)++L) j i64 (Qca c full r)):=QiI (QbU hj (pdO c r) L) hl he full
theorem QdX (hn:QY c) (hct:c.ts.length<4611686018427387904) (hj:j<H.length) {L:ZG} {q n T ver:Nat} {l:ZD} (hL:L[q]? = some ⟨wds l,T,ver,true⟩) (hn':n=l.length) (hl:l.length<4611686018427387904) (hw:∀ s∈l,QcH s=true) (he:r.e=0) (ha:r.a<=c.ts.length) :
 OkP Tryz.prog 87 [rp j,.own (H.length+q) 0 n 1 ver] (H.set j (pdO c r)++L) (PdV c (H.set j (pdO c r)++L) j (λ_:Unit=>.tup []) ((),QcC c l r)):=by
 refine Qkd hn (QbU hj _ L) (λo => ?_) hl hct hw he ha;have:=QjG (G:=H.set j (pdO c r)) (L:=L) (j:=j) (k:=q) (by simpa using hj) hL hn' o;simpa using this
def QgZ (c:Cx) (r:Rd):ZE×Rd:=((QO c r).1,t2 c [59] (QO c r).2)
theorem QvT (hn:QY c) (hct:c.ts.length<4611686018427387904) {q:Nat} (hq:H[q]? = some (bxO j)) (ho:H[j]? = some (pdO c r)) (he:r.e=0) (ha:r.a<=c.ts.length):OkP Tryz.prog 201 [rp q] H (PdV c H j (λs=>st (B s)) (QgZ c r)):=by
 have hj:=Qj ho;have hqj:=Qj hq;have hne:j≠q:=by
  rintro rfl;rw[hq]at ho;simp only[bxO,pdO,Option.some.injEq,AO.mk.injEq]at ho;have:=Zp List.length ho.1;simp[pdC]at this
 have e1:Qn H q 0=[rp j]:=Qap (o:=bxO j) hq rfl;have e1s:∀ o L,Qn (H.set j o++L) q 0=[rp j]:=λo L=>Qap (o:=bxO j) (by rw[Vc (by simpa using hqj),Vf hne]; exact hq) rfl;have e1n:∀ o,Qn (H.set j o) q 0=[rp j]:=λo=>by simpa using e1s o []
 have h88:=Qnf ho (by omega) he false;simp only[Qhw]at h88;have hwk:(QO c r).2.a<=c.ts.length:=by
  unfold QO; split
  . rename_i h; exact(Qb4 h).2.1
  . unfold Qg; split<;>exact ha
 refine Qa8 hm Tryz.func201 c201 (by simp[rp]) λhcl => ?_;unfold QgZ;simp -implicitDefEqProofs[i201,r201,rp,e1];generalize QO c r=w at h88 hwk ⊢;refine Qaa (by simpa[rp]using h88) (λhe1 => ?_) (λhe1 H' hk => ?_)
 . simp -implicitDefEqProofs[rp,e1n];have hw:=QdX (r:=w.2) (L:=[⟨[st (B [59])],9,0,true⟩]) (q:=0) (n:=1) (T:=9) (ver:=0) (l:=[[59]]) hn hct hj (by simp[wds]) rfl (by simp) (by intro s hs; simp at hs; subst hs; rfl) he1 hwk;refine Qaa (by simpa[rp]using hw) (λhe2 => ?_) (λhe2 H' hk => ?_)
   . rw[QaN hj];simp -implicitDefEqProofs;simp only[Qau]at he2 ⊢;exact⟨_,_,PdV.got he2 rfl rfl rfl,Qp 2 (QbN (c:=c) (a:=(t2 c [59] w.2).a) (v:=(t2 c [59] w.2).v) hcl) (by simp) rfl⟩
   . simp -implicitDefEqProofs;rw[Qau]at he2;exact⟨_,_,PdV.pan (q:=(w.1,t2 c [59] w.2)) he2 hk.of_set,Qi⟩
 . simp -implicitDefEqProofs;refine⟨_,_,PdV.eqv (q:=w) (.inr ⟨he1,?_,?_⟩) (PdV.pan he1 hk),Qi⟩<;>simp only[Q2 _ he1]
theorem QxE {F:Rd->Ex×Rd} (l:List Qo):QaD c F l r=(⟨(Qbj c (decide (l.length=32)) r).1,(F (t2 c [61] (Qbj c (decide (l.length=32)) r).2)).1,Qk c r⟩,t2 c [59] (F (t2 c [61] (Qbj c (decide (l.length=32)) r).2)).2):=by
 have hh:Qk c (if l.length=32/\QP c r=true then Qg c 12 r else r)=Qk c r:=by
  split
  . unfold Qg; split<;>rfl
  . rfl
 unfold QaD Qbj;simp only[hh,Zq]
theorem Qez {F:Rd->Ex×Rd} {n:Nat} {l:List Qo} (h:r.e≠0):QaO c F n l r=(l,r):=by
 cases n with
 |zero=>rfl
 |succ n=>rw[QaO,Zm (λh2=>h h2.1)]
def QaJ (n:Nat) (nm:ZE) (wh:List Ex) (hid:Bool) (m:Nat) (go:ZE) (p:Int):AO:=⟨[st (B nm),exN wh,bl hid,.own (n+3) 0 m 7 m,st (B go),i64 p],89,0,true⟩
set_option maxHeartbeats 2000000 in
theorem QyK (hn:QY c) (h20:c.ts.length<=20000) (hj:j<H.length) {d:Nat} {F:Rd->Ex×Rd} (hF:PdC c 32 [] F d) (hkF:Kp c d F) (hst:Qq F) {nm:ZE} {wh:List Ex} {hid:Bool} {p:Int} {N:Nat} {K:ZF} {res:List Qo×Rd}
 (hexit:∀ env G,res.2.e=0->Qd c [125] res.2=true->Gd c d res.2->env.get 1=rp H.length->env.get 2=rp (H.length+1)->env.get 3=rp (H.length+2)->K (.exit 0) env (H.set j (pdO c (Qa res.2))++(bxO j::aZ::QaJ H.length nm wh hid res.1.length [] p::Qbr res.1::G)))
 (hpan:res.2.e≠0->∀ env H',Qt H [j] H'->K (.panic (QV res.2.e res.2.p)) env H') :
 ∀ (n:Nat) (l:List Qo) (r:Rd) (G:ZG) (env:Env),c.ts.length<r.a+n->l.length<=r.a->QaO c F n l r=res->Gd c d r->r.e=0->env.get 1=rp H.length->env.get 2=rp (H.length+1)->env.get 3=rp (H.length+2) ->
  LI Tryz.prog N Qf QmL env (H.set j (pdO c r)++(bxO j::aZ::QaJ H.length nm wh hid l.length [] p::Qbr l::G)) K:=by
 have hct:c.ts.length<4611686018427387904:=by omega
 intro n
 induction n with
 |zero=>intro l r G env hna hla hr hg; have:=hg.a; omega
 |succ n ih =>
  intro l r G env hna hla hr hg he h1 h2 h3;have ha:=hg.a;refine Qu hm QmL.eq_1 ?_;have h90:=Qh4 (r:=r) hn hj (by omega) he (s:=[125]);simp -implicitDefEqProofs[h1,h2,h3,rp,bxO];refine Qc (by simpa[rp]using h90 _ rfl) ?_;rw[QaO]at hr;by_cases hp:Qd c [125] r=true
  . rw[Zm (by simp[hp])]at hr;subst hr;simp only[Q9,hp,Zs];simp -implicitDefEqProofs;exact hexit _ G he hp hg (by simp[rp]) (by simp[rp]) (by simp[rp])
  . rw[Vi]at hp;rw[Zn ⟨he,hp⟩]at hr;obtain⟨k1,k2,k3⟩:=QsC hkF l hg;have hseq:=QxE (c:=c) (r:=r) (F:=F) l;have hd:(decide ((l.length:Int)=32))=decide (l.length=32):=by rw[ZC]; omega
    have h88:=λL=>Qh5 (c:=c) (r:=r) hj (by omega) he L (decide (l.length=32));have hgw:=(Qre (decide (l.length=32)) hg).1;simp only[Q9,hp];simp -implicitDefEqProofs[QaJ];refine Qc (by simpa[rp]using QnM (c:=c) hj r _) ?_;simp -implicitDefEqProofs[hd];generalize Qbj c (decide (l.length=32)) r=w at h88 hseq hgw;refine⟨rfl,?_⟩;refine Qaa (by simpa[rp]using h88 _) (λhe1 => ?_) (λhe1 H' hk => ?_)
    . rw[QaN hj];simp -implicitDefEqProofs;have hg2:=(QH (c:=c) (d:=d) [61] hgw).1;have hw:=QdX (H:=H) (j:=j) (r:=w.2) (L:=bxO j::aZ::QaJ H.length nm wh hid l.length [] p::Qbr l::(G++[⟨[st (B w.1),i64 0,i64 0,st (B []),nl,i64 0,i64 (Qk c r)],91,0,true⟩,⟨[st (B [61])],9,0,true⟩])) (q:=G.length+1+4) (n:=1) (T:=9) (ver:=0) (l:=[[61]]) hn hct hj (by simp[wds]) rfl (by simp) (by intro s hs; simp at hs; subst hs; rfl) he1 hgw.a;refine Qaa (by simpa[rp,bxO,QaJ]using hw) (λhe2 => ?_) (λhe2 H' hk => ?_)
      . rw[QaN hj];simp only[Qau]at he2 ⊢;generalize t2 c [61] w.2=r2 at hg2 he2 hseq ⊢;have hc:=λL=>hF (QbU hj (pdO c r2) L) hg2 he2;have hg3:=(hkF _ hg2).1;simp -implicitDefEqProofs;refine Q4 (by simpa[rp]using hc _) ?_;intro o H' hq;unfold PdP PdV at hq;generalize F r2=x at hq hg3 hseq;by_cases he3:x.2.e=0
        . rw[Zn he3]at hq;obtain⟨rfl,rfl⟩:=hq;rw[QaN hj];simp -implicitDefEqProofs[Ex.v];have hw:=QdX (H:=H) (j:=j) (r:=x.2) (L:=bxO j::aZ::QaJ H.length nm wh hid l.length [] p::Qbr l::(G++[⟨st (B w.1)::(x.1.c++[i64 (Qk c r)]),91,0,true⟩,⟨[st (B [61])],9,0,true⟩,⟨[st (B [59])],9,0,true⟩])) (q:=G.length+2+4) (n:=1) (T:=9) (ver:=0) (l:=[[59]]) hn hct hj (by simp[wds]) rfl (by simp) (by intro s hs; simp at hs; subst hs; rfl) he3 hg3.a;refine Qaa (by simpa[rp,bxO,QaJ]using hw) (λhe4 => ?_) (λhe4 H' hk => ?_)
          . rw[QaN hj];simp only[Qau]at he4 ⊢;simp -implicitDefEqProofs[Qbr,QaI Qo.len];refine⟨by omega,by omega,?_⟩;have hs4:(QaD c F l r).2.e=0:=by rw[hseq]; exact he4
            have ha4:=k1.a;have k3':=k3 hs4;refine LI.cong ?_ (ih (l++[(QaD c F l r).1]) (QaD c F l r).2 (G++[⟨st (B w.1)::(x.1.c++[i64 (Qk c r)]),91,0,true⟩,⟨[st (B [61])],9,0,true⟩,⟨[st (B [59])],9,0,true⟩,⟨st (B w.1)::(x.1.c++[i64 (Qk c r)]),91,0,true⟩]) _ (by omega) (by simp; omega) hr k1 hs4 ?_ ?_ ?_)
            . rw[hseq];simp[QaJ,Qbr,Qgk,rws,Qo.c,bxO,rp]
            all_goals simp[rp]
          . simp -implicitDefEqProofs;rw[Qau]at he4;have hs4:(QaD c F l r).2=t2 c [59] x.2:=by rw[hseq]
            rw[Qez (by rw[hs4]; exact he4),hs4]at hr;subst hr;exact hpan he4 _ _ hk.of_set
        . rw[Zm he3]at hq;obtain⟨rfl,hk⟩:=hq;simp -implicitDefEqProofs;have hs4:(QaD c F l r).2=x.2:=by rw[hseq]; exact Q2 _ he3
          rw[Qez (by rw[hs4]; exact he3),hs4]at hr;subst hr;exact hpan he3 _ _ hk.of_set
      . simp -implicitDefEqProofs;rw[Qau]at he2;have hs4:(QaD c F l r).2=t2 c [61] w.2:=by rw[hseq]; simp only[hst _ he2,Q2 _ he2]
        rw[Qez (by rw[hs4]; exact he2),hs4]at hr;subst hr;exact hpan he2 _ _ hk.of_set
    . simp -implicitDefEqProofs;have hs4:(QaD c F l r).2=w.2:=by rw[hseq]; simp only[Q2 _ he1,hst _ he1]
      rw[Qez (by rw[hs4]; exact he1),hs4]at hr;subst hr;exact hpan he1 _ _ hk.of_set
end
section
variable {H:ZG} {c:Cx} {r:Rd} {j:Nat} {nm:ZE} {wh:List Ex} {hid:Bool} {sets:List Qo} {p:Int}
theorem Qqc {x y:AO} {o:AO} {go:ZE} {G:ZG} (hcl:closed (H.set j o)) :
 Cv H.length (.agg [st (B nm),exN wh,bl hid,.own (H.length+3) 0 sets.length 7 sets.length,st (B go),i64 p]) (H.set j o++(x::y::QaJ H.length nm wh hid sets.length go p::Qbr sets::G)) (Qfn ⟨nm,wh,hid,sets,go,p⟩) (H.set j o):=by
 refine Cv.le (Qp (n0:=H.length) 4 hcl (by simp) rfl) ?_;have e:(rws Qo.c sets).take (sets.length*7)=rws Qo.c sets:=VD (by rw[QaI Qo.len]; exact Vb _);have h1:SV.fz H.length [] (x::y::QaJ H.length nm wh hid sets.length go p::Qbr sets::G) 3 (exN wh)=exN wh:=Qc3 (Qta _ _);simp only[Qbr]at h1;simp[Qm.c,Qfn,Qbr,QaI Qo.len,e,h1];exact QfL (leL.cons (SV.le.refl _) (leL.cons (QiT _) (leL.cons (SV.le.refl _) (leL.cons (SV.le.refl _) (leL.cons (SV.le.refl _) (leL.cons (SV.le.refl _) leL.nil))))))
theorem QuB (hp:Qd c [103,111,116,111] r=false):Qa9 c r=([],r):=by unfold Qa9; rw[Zm (by simp[hp])]
theorem Qxb (hp:Qd c [103,111,116,111] r=true):Qa9 c r=QgZ c (Qa r):=by unfold Qa9 QgZ; rw[Zn hp,QcO hp]
theorem Qwy (hn:QY c) (h20:c.ts.length<=20000) (hj:j<H.length) (hcl:closed H) (he:r.e=0) (ha:r.a<=c.ts.length) {G:ZG} {env:Env} {res:Qm×Rd}
 (hres:(⟨nm,wh,hid,sets,(Qa9 c r).1,p⟩,(Qa9 c r).2)=res) (h1:env.get 1=rp H.length) (h2:env.get 2=rp (H.length+1)) (h3:env.get 3=rp (H.length+2)) :
 X Tryz.prog Tryz.f182.ntmps Qf (IC.tl 8 Qao) env (H.set j (pdO c r)++(bxO j::aZ::QaJ H.length nm wh hid sets.length [] p::Qbr sets::G)) (FinP H.length Qg9 (PdV c H j Qfn res)):=by
 have hct:c.ts.length<4611686018427387904:=by omega
 have h202:=QuK (H:=H.set j (pdO c r)++(bxO j::aZ::QaJ H.length nm wh hid sets.length [] p::Qbr sets::G)) hn (F:=QgZ c) (f:=.fn (.func 201) [] [rp H.length]) rfl rfl (by simp[rp,SV.under,SV.underL]) (s:=[103,111,116,111]) rfl (QbU hj (pdO c r) _) hct ha he
  (λhp=>by
   have hlt:=Qaj hp;rw[QaN hj];refine Qmr (a:=[]) (b:=[rp H.length]) (by
    have:=QvT (H:=H.set j (pdO c (Qa r))++(bxO j::aZ::QaJ H.length nm wh hid sets.length [] p::Qbr sets::G)) (q:=H.length) hn hct (by simp) (QbU hj (pdO c (Qa r)) _) he hlt;simpa using this))
 have hy:=Qxb (c:=c) (r:=r);have hno:=QuB (c:=c) (r:=r);by_cases hp:Qd c [103,111,116,111] r=true
 . rw[Zn hp]at h202;rw[hy hp]at hres;generalize QgZ c (Qa r)=g at h202 hres;simp[IC.tl,Qao,Qg9,h1,rp,bxO];refine Qaa (by simpa[rp,bxO]using h202) (λhe1 => ?_) (λhe1 H' hk => ?_)
   . rw[QaN hj];simp[wdN,wds];refine Qu hm QkV.eq_1 ?_;simp[h2,h3,rp,QaJ,aZ];refine Qu hm QkV.eq_1 ?_;simp;refine⟨_,_,PdV.got (x:=⟨nm,wh,hid,sets,g.1,p⟩) he1 hres.symm rfl rfl,?_⟩;have hc1:closed (H.set j (pdO c g.2)):=QbN (c:=c) (a:=g.2.a) (v:=g.2.v) hcl;have:=Qqc (nm:=nm) (wh:=wh) (hid:=hid) (sets:=sets) (p:=p) (go:=g.1) (x:=bxO j) (y:=⟨[st (B nm),exN wh,bl hid,.own (H.length+3) 0 sets.length 7 sets.length,st (B g.1),i64 p],89,0,true⟩) (G:=G) hc1;simpa[QaJ,bxO,rp]using this
   . simp;have hb:res.2=g.2:=by rw[<-hres]
     rw[<-hb]at he1 ⊢;exact⟨_,_,PdV.pan he1 hk.of_set,Qi⟩
 . rw[Zm hp]at h202;rw[Vi]at hp;rw[hno hp]at hres;simp[IC.tl,Qao,Qg9,h1,rp,bxO];refine Qaa (by simpa[rp,bxO]using h202) (λhe1 => ?_) (λhe1 H' hk=>absurd he he1);rw[QaN hj];have n1:(SV.val (Value.slice none 0 0)).isSl=true:=rfl;have n2:(SV.val (Value.slice none 0 0)).slen=0:=rfl;simp[wdN,n1,n2];refine Qu hm QkV.eq_1 ?_;simp[h2,h3,rp,QaJ,aZ];refine⟨_,_,PdV.got (x:=⟨nm,wh,hid,sets,[],p⟩) he hres.symm rfl rfl,?_⟩;have hc1:closed (H.set j (pdO c r)):=QbN (c:=c) (a:=r.a) (v:=r.v) hcl;have:=Qqc (nm:=nm) (wh:=wh) (hid:=hid) (sets:=sets) (p:=p) (go:=[]) (x:=bxO j) (y:=⟨[st (B nm),exN wh,bl hid,.own (H.length+3) 0 sets.length 7 sets.length,st (B []),i64 p],89,0,true⟩) (G:=G) hc1;simpa[QaJ,bxO,rp]using this
theorem QwI (hn:QY c) (h20:c.ts.length<=20000) (hj:j<H.length) (hcl:closed H) {d:Nat} {F:Rd->Ex×Rd} (hF:PdC c 32 [] F d) (hkF:Kp c d F) (hst:Qq F) (hg:Gd c d r) (he:r.e=0) {G:ZG} {env:Env} {res:Qm×Rd}
 (hres:(λs:List Qo×Rd=>((⟨nm,wh,hid,s.1,(Qa9 c (t2 c [125] s.2)).1,p⟩,(Qa9 c (t2 c [125] s.2)).2):Qm×Rd)) (QaO c F (c.ts.length+1) [] (t2 c [123] r))=res) (h1:env.get 1=rp H.length) (h2:env.get 2=rp (H.length+1)) (h3:env.get 3=rp (H.length+2)) :
 X Tryz.prog Tryz.f182.ntmps Qf (IC.tl 6 Qao) env (H.set j (pdO c r)++(bxO j::aZ::QaJ H.length nm wh hid 0 [] p::Qbr []::G)) (FinP H.length Qg9 (PdV c H j Qfn res)):=by
 have hct:c.ts.length<4611686018427387904:=by omega
 have tail:∀ (sets:List Qo) (r:Rd) (G:ZG) (env:Env),r.e=0->r.a<=c.ts.length->(⟨nm,wh,hid,sets,(Qa9 c r).1,p⟩,(Qa9 c r).2)=res->env.get 1=rp H.length->env.get 2=rp (H.length+1)->env.get 3=rp (H.length+2)->_:=λsets r G env he ha hr h1 h2 h3=>Qwy (G:=G) hn h20 hj hcl he ha hr h1 h2 h3;rw[show IC.tl 6 Qao=.seq (IC.nth 6 Qao) (IC.tl 7 Qao)from rfl,show IC.tl 7 Qao=.seq (IC.nth 7 Qao) (IC.tl 8 Qao)from rfl];generalize IC.tl 8 Qao=t8 at tail ⊢;have hw:=QdX (H:=H) (j:=j) (r:=r) (L:=bxO j::aZ::QaJ H.length nm wh hid 0 [] p::Qbr []::(G++[⟨[st (B [123])],9,0,true⟩])) (q:=G.length+4) (n:=1) (T:=9) (ver:=0) (l:=[[123]]) hn hct hj (by simp[wds]) rfl (by simp) (by intro s hs; simp at hs; subst hs; rfl) he hg.a;have hg1:=(QH (c:=c) (d:=d) [123] hg).1;simp[IC.nth,Qao,h1,rp,bxO];refine Qaa (by simpa[rp,bxO,QaJ]using hw) (λhe1 => ?_) (λhe1 H' hk => ?_)
 . rw[QaN hj];simp only[Qau]at he1 ⊢;generalize t2 c [123] r=r1 at hg1 he1 hres ⊢;simp;generalize hs:QaO c F (c.ts.length+1) [] r1=s at hres;refine LI.cong (H':=H.set j (pdO c r1)++(bxO j::aZ::QaJ H.length nm wh hid ([]:List Qo).length [] p::Qbr []::(G++[⟨[st (B [123])],9,0,true⟩]))) (by simp[bxO,rp]) ?_;refine QyK hn h20 hj hF hkF hst (res:=s) (λenv G hs0 hp hgs h1 h2 h3 => ?_) (λhs0 env H' hk => ?_) (c.ts.length+1) [] r1 _ _ (by omega) (by simp) hs hg1 he1 ?_ ?_ ?_
   . simp;exact tail s.1 (Qa s.2) G env hs0 (Qaj hp) (by rw[<-hres]; simp only[QcO hp]) h1 h2 h3
   . simp;have hb:res.2=s.2:=by
      rw[<-hres];simp only[Q2 _ hs0,Qfy _ hs0]
     rw[<-hb]at hs0 ⊢;exact⟨_,_,PdV.pan hs0 hk,Qi⟩
   all_goals simp[h1,h2,h3,rp]
 . simp;rw[Qau]at he1;have hb:res.2=t2 c [123] r:=by
    rw[<-hres,Qez he1];simp only[Q2 _ he1,Qfy _ he1]
   simp only[Qau];rw[<-hb]at he1 ⊢;exact⟨_,_,PdV.pan he1 hk.of_set,Qi⟩
theorem Qti (s:ZE):QaK c s r=(Qd c s r,Q9 c s r):=by
 unfold QaK Q9;by_cases hp:Qd c s r=true
 . rw[Zn hp,Zn hp,QcO hp,hp]
 . rw[Zm hp,Zm hp]; rw[Vi]at hp; rw[hp]
theorem QAP (hn:QY c) (h20:c.ts.length<=20000) (hj:j<H.length) (hcl:closed H) {d:Nat} {F:Rd->Ex×Rd} (hF:PdC c 32 [] F d) (hkF:Kp c d F) (hst:Qq F) (hg:Gd c d r) (he:r.e=0) {env:Env} {res:Qm×Rd}
 (hres:QM c F r=res) (h1:env.get 1=rp H.length) (h2:env.get 2=rp (H.length+1)) (h3:env.get 3=rp (H.length+2)) :
 X Tryz.prog Tryz.f182.ntmps Qf (IC.tl 2 Qao) env (H.set j (pdO c r)++(bxO j::aZ::QaJ H.length [] [] false 0 [] (Qk c r)::Qbr []::[])) (FinP H.length Qg9 (PdV c H j Qfn res)):=by
 have hct:c.ts.length<4611686018427387904:=by omega
 have tail:∀ (nm:ZE) (wh:List Ex) (hid:Bool) (r':Rd) (G:ZG) (env:Env),Gd c d r'->r'.e=0->_->env.get 1=rp H.length->env.get 2=rp (H.length+1)->env.get 3=rp (H.length+2)->_:=λnm wh hid r' G env hg he hr h1 h2 h3=>QwI (G:=G) (nm:=nm) (wh:=wh) (hid:=hid) (p:=Qk c r) (r:=r') (res:=res) hn h20 hj hcl hF hkF hst hg he hr h1 h2 h3;have bad:∀ rf:Rd,rf.e≠0->res.2=rf->∀ H',Qt H [j] H'->PdV c H j Qfn res (.pan (QV rf.e rf.p)) H':=by
  intro rf hf hs H' hk;rw[<-hs]at hf ⊢;exact PdV.pan hf hk
 unfold QM at hres;simp only[QlD,QkA]at hres;rw[show IC.tl 2 Qao=.seq (IC.nth 2 Qao) (IC.tl 3 Qao)from rfl,show IC.tl 3 Qao=.seq (IC.nth 3 Qao) (IC.tl 4 Qao)from rfl,show IC.tl 4 Qao=.seq (IC.nth 4 Qao) (IC.tl 5 Qao)from rfl,show IC.tl 5 Qao=.seq (IC.nth 5 Qao) (IC.tl 6 Qao)from rfl];generalize IC.tl 6 Qao=t6 at tail ⊢;generalize Qk c r=pp at tail hres ⊢;have hw:=QdX (H:=H) (j:=j) (r:=r) (L:=bxO j::aZ::QaJ H.length [] [] false 0 [] pp::Qbr []::[⟨[st (B [97,99,116,105,111,110])],9,0,true⟩]) (q:=4) (n:=1) (T:=9) (ver:=0) (l:=[[97,99,116,105,111,110]]) hn hct hj (by simp[wds]) rfl (by simp) (by intro s hs; simp at hs; subst hs; rfl) he hg.a;have hg1:=(QH (c:=c) (d:=d) [97,99,116,105,111,110] hg).1;simp[IC.nth,Qao,h1,rp,bxO];refine Qaa (by simpa[rp,bxO,QaJ]using hw) (λhe1 => ?_) (λhe1 H' hk => ?_)
 . rw[QaN hj];simp only[Qau]at he1 ⊢;generalize t2 c [97,99,116,105,111,110] r=r1 at hg1 he1 hres ⊢;have h88:=λL=>Qh5 (c:=c) (r:=r1) hj (by have:=hg1.a; omega) he1 L false;simp only[Qhw]at h88;have hg2:=(Qcf (c:=c) (d:=d) r1 hg1).1;simp[h1,h3,rp,QaJ];generalize QO c r1=w at hg2 h88 hres;refine Qaa (by simpa[rp]using h88 _) (λhe2 => ?_) (λhe2 H' hk => ?_)
   . rw[QaN hj];simp;have h181:=λL=>QpF hn hF (s:=[119,104,101,110]) rfl (QbU hj (pdO c w.2) L) hct hg2 he2;have hg3:=(Qg8 hkF [119,104,101,110] _ hg2).1;generalize QaM c F [119,104,101,110] w.2=q3 at hg3 h181 hres;refine Qaa (by simpa[rp]using h181 _) (λhe3 => ?_) (λhe3 H' hk => ?_)
     . rw[QaN hj];simp[h1,h3,rp];have h90:=λL=>Qh4 (c:=c) (r:=q3.2) hn hj (by have:=hg3.a; omega) he3 L (s:=[104,105,100,100,101,110]) rfl;have hg4:=(Qhv [104,105,100,100,101,110] _ hg3).1;have he4:(Q9 c [104,105,100,100,101,110] q3.2).e=0:=by unfold Q9; split<;>exact he3
       refine Qc (by simpa[rp]using h90 _) ?_;rw[Qti]at hg4 hres;simp[h1,h3,rp];refine Xc ?_ (tail w.1 q3.1 (Qd c [104,105,100,100,101,110] q3.2) (Q9 c [104,105,100,100,101,110] q3.2) [⟨[st (B [97,99,116,105,111,110])],9,0,true⟩] _ hg4 he4 hres ?_ ?_ ?_)
       . simp[bxO,QaJ,rp,Qbr,rws]
       all_goals simp[h1,h2,h3,rp]
     . simp;refine⟨_,_,bad _ he3 ?_ _ hk.of_set,Qi⟩;rw[<-hres];simp only[Qge _ _ he3,Q2 _ he3,Qez he3,Qfy _ he3]
   . simp;refine⟨_,_,bad _ he2 ?_ _ hk.of_set,Qi⟩;rw[<-hres];simp only[QdM _ _ he2,Qge _ _ he2,Q2 _ he2,Qez he2,Qfy _ he2]
 . simp;rw[Qau]at he1;refine⟨_,_,bad _ he1 ?_ _ hk.of_set,Qi⟩;rw[<-hres];simp only[Qd7 _ he1,QdM _ _ he1,Qge _ _ he1,Q2 _ he1,Qez he1,Qfy _ he1]
theorem Qy9 (hn:QY c) (h20:c.ts.length<=20000) {d:Nat} {F:Rd->Ex×Rd} (hF:PdC c 32 [] F d) (hkF:Kp c d F) (hst:Qq F) (ho:H[j]? = some (pdO c r)) (hg:Gd c d r) (he:r.e=0):OkP Tryz.prog 182 [rp j] H (PdV c H j Qfn (QM c F r)):=by
 have hj:=Qj ho;have h91:=λL=>QfX (H:=H++L) (c:=c) (r:=r) (j:=j) (by rw[Vc hj]; exact ho);refine Qp4 hm Tryz.func182 c182 (by simp[rp]) λhcl => ?_;have tail:∀ env:Env,env.get 1=rp H.length->env.get 2=rp (H.length+1)->env.get 3=rp (H.length+2)->_:=λenv h1 h2 h3=>QAP (r:=r) (res:=QM c F r) hn h20 hj hcl hF hkF hst hg he rfl h1 h2 h3;rw[show Qao=.seq (IC.nth 0 Qao) (.seq (IC.nth 1 Qao) (IC.tl 2 Qao))from rfl];generalize IC.tl 2 Qao=t2' at tail ⊢;refine WI.seq (QbW hm) ?_;simp[IC.nth,Qao,rp];refine WI.seq (QbW hm) ?_;simp;refine Qc (by simpa[rp]using h91 _) ?_;simp;refine⟨rfl,WI.tell (Qaw.own0 (j:=H.length+2) (p:=3) (o:=⟨[st (B []),nl,bl false,nl,st (B []),i64 (Qk c r)],89,0,true⟩) (by simp) rfl rfl 91 7) ?_⟩;refine WI.cong (H':=H.set j (pdO c r)++(bxO j::aZ::QaJ H.length [] [] false 0 [] (Qk c r)::Qbr []::[])) ?_ ?_
 . rw[QcI ho];simp[aZ,QaJ,Qbr,rws,bxO,rp,exN]
 . exact WI.of_X (QbW hm) (tail _ (by simp[rp]) (by simp[rp]) (by simp[rp]))
end
end Go.Proofs.YtmkdpmfhlfhjkaaGreatDoor
