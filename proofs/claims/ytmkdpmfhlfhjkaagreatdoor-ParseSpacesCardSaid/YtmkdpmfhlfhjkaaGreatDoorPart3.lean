/- Steps of the proof. -/
import Derived.Test.YtmkdpmfhlfhjkaaGreatDoorPart2
import Derived.Test.YtmkdpmfhlfhjkaaGreatDoorPWT
import Derived.Test.YtmkdpmfhlfhjkaaGreatDoorCore4
set_option linter.all false
namespace Go.Proofs.YtmkdpmfhlfhjkaaGreatDoor
open Go.Ab
structure Qm where
 nm:ZE
 n:Int
 p:Int
structure Qp where
 nm:ZE
 e:Ex
 p:Int
structure Qn where
 nm:ZE
 wh:List Ex
 hid:Bool
 sets:List Qp
 go:ZE
 p:Int
structure Qb where
 k:Int
 lb:ZE
 nm:ZE
 lo:Int
 hi:Int
 wt:List Ex
 all:Bool
 seen:List Int
 who:List Ex
 acts:List Qn
 pays:List Ex
 p:Int
structure QC where
 nm:ZE
 pl:Int
 vars:List Qm
 stages:List Qb
def exS (l:List Ex):SV:=.slc (Ex.cL l) l.length
def Qm.c (v:Qm):ZH:=[st (B v.nm),i64 v.n,i64 v.p]
def Qp.c (s:Qp):ZH:=st (B s.nm)::(s.e.c++[i64 s.p])
def Qn.c (a:Qn):ZH:=[st (B a.nm),exS a.wh,bl a.hid,.slc (rws Qp.c a.sets) a.sets.length,st (B a.go),i64 a.p]
def Qb.c (x:Qb):ZH:=[i64 x.k,st (B x.lb),st (B x.nm),i64 x.lo,i64 x.hi,exS x.wt,bl x.all,.slc (QM x.seen) x.seen.length,exS x.who,.slc (rws Qn.c x.acts) x.acts.length,exS x.pays,i64 x.p]
def QC.c (r:QC):ZH:=[st (B r.nm),i64 r.pl,.slc (rws Qm.c r.vars) r.vars.length,.slc (rws Qb.c r.stages) r.stages.length]
def QdE:Qb:=⟨0,[],[],0,0,[],false,[],[],[],[],0⟩
def Qeb:QC:=⟨[],0,[],[]⟩
section
variable (c:Cx) (orP:Rd->Ex×Rd)
def t2 (s:ZE) (r:Rd):Rd:=(Qh c s r).2
def QaQ (s:ZE) (r:Rd):List Ex×Rd:=if Qd c s r=true then([(orP (t2 c s r)).1],(orP (t2 c s r)).2)else([],r)
def QaR (s:ZE) (r:Rd):Bool×Rd:=if Qd c s r=true then(true,t2 c s r)else(false,r)
def QaK (l:List Qp) (r:Rd):Qp×Rd :=
 let r1:=if l.length=32/\QU c r=true then Qg c 12 r else r
 let w:=QK c r1
 let x:=orP (t2 c [61] w.2)
 (⟨w.1,x.1,Qk c r1⟩,t2 c [59] x.2)
def QaS:Nat->List Qp->Rd->List Qp×Rd
 |0,l,r=>(l,r)
 |n+1,l,r=>if r.e=0/\Qd c [125] r=false then QaS n (l++[(QaK c orP l r).1]) (QaK c orP l r).2 else(l,r)
def Qbj (r:Rd):ZE×Rd :=
 if Qd c [103,111,116,111] r=true then((QK c (t2 c [103,111,116,111] r)).1,t2 c [59] (QK c (t2 c [103,111,116,111] r)).2)else([],r)
def QQ (r:Rd):Qn×Rd :=
 let t:=Qh c [97,99,116,105,111,110] r
 let nm:=QK c t.2
 let w:=QaQ c orP [119,104,101,110] nm.2
 let h:=QaR c [104,105,100,100,101,110] w.2
 let s:=QaS c orP (c.ts.length+1) [] (t2 c [123] h.2)
 let g:=Qbj c (t2 c [125] s.2)
 (⟨nm.1,w.1,h.1,s.1,g.1,t.1⟩,g.2)
def Qao:Nat->List Ex->Rd->List Ex×Rd
 |0,l,r=>(l,r)
 |n+1,l,r=>if Qd c [44] r=true then
  let r1:=t2 c [44] r
  let r2:=if l.length=32/\QbE c r1=true then Qg c 12 r1 else r1
  Qao n (l++[(orP r2).1]) (orP r2).2
  else(l,r)
def Qcr (r:Rd):List Ex×Rd:=Qao c orP c.ts.length [(orP r).1] (orP r).2
def QaE:Nat->List Int->Rd->List Int×Rd
 |0,l,r=>(l,r)
 |n+1,l,r=>if Qd c [44] r=true then
  let r1:=t2 c [44] r
  let r2:=if l.length=32/\r1.a<c.ts.length/\Qaj c { r1 with e:=0 } (λt=>decide (t.k=2))=true then Qg c 12 r1 else r1
  QaE n (l++[(nmR c r2).1]) (nmR c r2).2
  else(l,r)
def QaI (r:Rd):(Bool×List Int)×Rd :=
 if Qd c [115,101,101,110] r=true then
  let r1:=t2 c [98,121] (t2 c [115,101,101,110] r)
  if Qd c [97,108,108] r1=true then((true,[]),t2 c [97,108,108] r1)
  else
   let s:=QaE c c.ts.length [(nmR c r1).1] (nmR c r1).2
   ((false,s.1),s.2)
 else((false,[]),r)
def QdB (x:Qb) (r:Rd):Qb×Rd :=
 let t:=Qh c [100,101,97,108] r
 let nm:=QK c t.2
 let lo:=nmR c (t2 c [105,110] nm.2)
 let hi:=nmR c (t2 c [46,46] lo.2)
 let w:=QaQ c orP [119,101,105,103,104,116] hi.2
 let s:=QaI c w.2
 ({ x with k:=1,p:=t.1,nm:=nm.1,lo:=lo.1,hi:=hi.1,wt:=w.1,all:=s.1.1,seen:=s.1.2 },t2 c [59] s.2)
def Qak (fuel:Nat):Nat->List Qn->Rd->List Qn×Rd
 |0,l,r=>(l,r)
 |n+1,l,r=>if Qd c [97,99,116,105,111,110] r=true then
  let r1:=if l.length=10 then Qg c 12 r else r
  Qak fuel n (l++[(QQ c orP r1).1]) (QQ c orP r1).2
  else(l,r)
def QdA (x:Qb) (r:Rd):Qb×Rd :=
 let t:=Qh c [116,117,114,110] r
 let w:=orP t.2
 let a:=QQ c orP (t2 c [123] w.2)
 let l:=Qak c orP 0 c.ts.length [a.1] a.2
 ({ x with k:=2,p:=t.1,who:=[w.1],acts:=l.1 },t2 c [125] l.2)
def QaB (r:Rd):ZE×Rd:=if QU c r=true then((QK c r).1,t2 c [58] (QK c r).2)else([],r)
def Q8 (r:Rd):Qb×Rd :=
 let l:=QaB c r
 let x:={ QdE with lb:=l.1 }
 if Qd c [100,101,97,108] l.2=true then QdB c orP x l.2
 else if Qd c [116,117,114,110] l.2=true then QdA c orP x l.2
 else
  let t:=Qh c [101,110,100] l.2
  let e:=Qcr c orP (t2 c [112,97,121] (t2 c [123] t.2))
  ({ x with k:=3,p:=t.1,pays:=e.1 },t2 c [125] (t2 c [59] e.2))
def Qbb (l:List Qm) (r:Rd):Qm×Rd :=
 let r0:=t2 c [118,97,114] r
 let r1:=if l.length=40/\QU c r0=true then Qg c 12 r0 else r0
 let w:=QK c r1
 let r2:=t2 c [61] w.2
 let s:=QaR c [45] r2
 let n:=nmR c s.2
 (⟨w.1,IntKind.i64.wrap ((if s.1 then -1 else 1)*n.1),Qk c r1⟩,t2 c [59] n.2)
def Qab:Nat->List Qm->Rd->List Qm×Rd
 |0,l,r=>(l,r)
 |n+1,l,r=>if Qd c [118,97,114] r=true then Qab n (l++[(Qbb c l r).1]) (Qbb c l r).2 else(l,r)
def QaW (l:List Qb) (r:Rd):Rd :=
 if l.length=100/\(QU c r||Qd c [100,101,97,108] r||Qd c [116,117,114,110] r||Qd c [101,110,100] r)=true then Qg c 12 r else r
def QL:Nat->List Qb->Rd->List Qb×Rd
 |0,l,r=>(l,r)
 |n+1,l,r=>if r.e=0/\(l=[]\/r.a<c.ts.length)then
  QL n (l++[(Q8 c orP (QaW c l r)).1]) (Q8 c orP (QaW c l r)).2
  else(l,r)
def QbU:QC×Int×Int :=
 let w:=QK c (t2 c [103,97,109,101] ⟨0,0,0,0⟩)
 let n:=nmR c (t2 c [112,108,97,121,101,114,115] (t2 c [59] w.2))
 let v:=Qab c c.ts.length [] (t2 c [59] n.2)
 let s:=QL c orP (c.ts.length+1) [] v.2
 if s.2.e≠0 then(Qeb,s.2.e,s.2.p)else(⟨w.1,n.1,v.1,s.1⟩,0,0)
end
def QG (l:ZE):QC×Int×Int :=
 if(Qi l).2.1≠0 then(Qeb,(Qi l).2)else QbU ⟨(Qi l).1,l.length⟩ (orT ⟨(Qi l).1,l.length⟩)
mutual
def Ex.sm:Ex->Prop
 |.mk _ _ _ l _=>l.length<=3/\Ex.smL l
def Ex.smL:List Ex->Prop
 |[]=>True
 |e::r=>e.sm/\Ex.smL r
end
theorem Qnz:∀ {l:List Ex},Ex.smL l↔∀ e∈l,e.sm
 |[]=>by simp[Ex.smL]
 |e::r=>by simp[Ex.smL,Qnz (l:=r)]
theorem Qdw:zE.sm:=by simp[zE,Ex.sm,Ex.smL]
theorem QrS (op n:Int) (nm:ZE) (p:Int):(Ex.mk op n nm [] p).sm:=by simp[Ex.sm,Ex.smL]
theorem Qpi {op n:Int} {nm:ZE} {p:Int} {a:Ex} (h:a.sm):(Ex.mk op n nm [a] p).sm:=by simp[Ex.sm,Ex.smL,h]
theorem QsL {op n:Int} {nm:ZE} {p:Int} {a b:Ex} (h:a.sm) (h2:b.sm):(Ex.mk op n nm [a,b] p).sm:=by simp[Ex.sm,Ex.smL,h,h2]
section
variable {c:Cx} {F G:Rd->Ex×Rd}
theorem Qps {ops:List (ZE×Int)} (hF:∀ r,(F r).1.sm):∀ (n:Nat) (e:Ex) (r:Rd),e.sm->(QaC c ops F n e r).1.sm
 |0,e,r,h=>h
 |n+1,e,r,h=>by
  rw[QaC];split
  . exact Qps hF n _ _ (QsL h (hF _))
  . exact h
theorem QkE {ops:List (ZE×Int)} (hF:∀ r,(F r).1.sm) (r:Rd):(QS c ops F r).1.sm:=Qps hF _ _ _ (hF r)
theorem QCz (hF:∀ r,(F r).1.sm) (r:Rd):(Qar c F r).1.sm:=by
 unfold Qar;split
 . exact QsL (hF _) (hF _)
 . exact hF _
theorem QBQ (hF:∀ r,(F r).1.sm) (hG:∀ r,(G r).1.sm) (r:Rd):(Qat c F G r).1.sm:=by
 unfold Qat;split
 . split
   . exact Qdw
   . exact Qpi (hG _)
 . exact hF _
theorem Qpf (hF:∀ r,(F r).1.sm):∀ (m:Nat) (l:List Ex) (r:Rd),(∀ x∈l,x.sm)->∀ l',(QH c F m l r).1=some l'->l'.length=l.length+m/\∀ x∈l',x.sm
 |0,l,r,h,l',h'=>by
  simp only[QH,Option.some.injEq]at h';subst h'; exact⟨rfl,h⟩
 |m+1,l,r,h,l',h'=>by
  rw[QH]at h';split at h'
  . cases h'
  . have:=Qpf hF m _ _ (λx hx=>by
     rcases Vq.1 hx with hx|hx
     . exact h x hx
     . rw[VU.1 hx]; exact hF _) l' h'
    refine⟨by rw[this.1]; simp; omega,this.2⟩
theorem QxY {s:ZE} {op p:Int} {m:Nat} (hm:m<=2) (hF:∀ r,(F r).1.sm) (r:Rd):(Qcf c F s op m p r).1.sm:=by
 unfold Qcf;simp only[];split
 . exact Qdw
 . have:=Qpf (c:=c) hF m [(F (Qr c [40] (Qh c s r).2).2).1] (F (Qr c [40] (Qh c s r).2).2).2 (λx hx=>by rw[VU.1 hx]; exact hF _);generalize QH c F m [(F (Qr c [40] (Qh c s r).2).2).1] (F (Qr c [40] (Qh c s r).2).2).2=q at this ⊢;obtain⟨o,r3⟩:=q
   cases o with
   |none=>exact Qdw
   |some l =>
    obtain⟨h1,h2⟩:=this l rfl;simp only[Ex.sm];exact⟨by rw[h1]; simp; omega,Qnz.2 h2⟩
theorem QwO (hF:∀ r,(F r).1.sm) (hG:∀ r,(G r).1.sm) (r:Rd):(QF c F G r).1.sm:=by
 unfold QF;split
 . exact Qdw
 . split
   . exact QrS _ _ _ _
   . split
     . split
       . exact Qdw
       . exact Qpi (hG _)
     . split
       . split
         . exact Qdw
         . exact hF _
       . split
         . rename_i w hw;have:w∈QaN:=List.mem_of_find?_eq_some hw;refine QxY ?_ hF r;simp[QaN]at this;rcases this with rfl|rfl|rfl<;>decide
         . exact QrS _ _ _ _
theorem Qxb (c:Cx):∀ d:Nat,(∀ r,((lv c d).fac r).1.sm)/\(∀ r,((lv c d).nt r).1.sm)/\∀ r,(Q6 c (lv c d) r).1.sm:=by
 have step:∀ (o f n:Rd->Ex×Rd),(∀ r,(o r).1.sm)->(∀ r,(f r).1.sm)->(∀ r,(n r).1.sm)->(∀ r,((lvS c o f n).fac r).1.sm)/\(∀ r,((lvS c o f n).nt r).1.sm)/\∀ r,(Q6 c (lvS c o f n) r).1.sm:=by
  intro o f n h1 h2 h3;have a1:∀ r,(QF c o f r).1.sm:=QwO h1 h2;have a2:∀ r,(Qat c (Qgt c (QF c o f)) n r).1.sm:=QBQ (QCz (QkE (QkE a1))) h3;exact⟨a1,a2,QkE (QkE a2)⟩
 intro d
 induction d with
 |zero=>exact step _ _ _ (λ_=>Qdw) (λ_=>Qdw) (λ_=>Qdw)
 |succ d ih=>exact step _ _ _ ih.2.2 ih.1 ih.2.1
end
theorem QuG (l:ZE):(QO l).1.sm:=by
 unfold QO;split
 . exact Qdw
 . unfold QbL;have h:=(Qxb ⟨(Qi l).1,l.length⟩ 40).2.2 ⟨0,0,0,0⟩;change (orT ⟨(Qi l).1,l.length⟩ ⟨0,0,0,0⟩).1.sm at h;generalize orT ⟨(Qi l).1,l.length⟩ ⟨0,0,0,0⟩=q at h ⊢;simp only[];repeat' split
   all_goals first|exact Qdw|exact h
theorem Qe9 {l:List Ex} {i:Nat} (h:i<l.length):((Ex.cL l).drop (i*5)).take 5=l[i].c:=by
 rw[QoA,Qeg Ex.c_len h,VN (by simp)]
section
variable {H:ZG}
theorem QxU {l:List Ex} (hl:l.length<=3) (hIH:∀ e∈l,∀ H,Ok Tryz.prog 13 [e.v,e.v] H (.ret (bl true)) H) {N:Nat} {K:ZF}
 (hexit:∀ env G,K (.exit 0) env (H++G)) :
 ∀ (k i:Nat) (G:ZG) (env:Env),i+k=l.length->env.get 0=exS l->env.get 1=exS l->env.get 5=i64 i ->
  LI Tryz.prog N Qf Qk3 env (H++G) K:=by
 intro k
 induction k with
 |zero =>
  intro i G env hi h0 h1 h5;refine Qu hm Qk3.eq_1 ?_;have e:i=l.length:=by omega
  subst e;simp[h0,h1,h5,exS];exact hexit _ _
 |succ k ih =>
  intro i G env hi h0 h1 h5;refine Qu hm Qk3.eq_1 ?_;have hlt:i<l.length:=by omega
  have hlt':(i:Int)<l.length:=by omega
  have hg:=Qe9 hlt;have hlen:=Qfg l;have h9:=hIH l[i] (Vt hlt);generalize l[i]=e at hg h9;simp[h0,h1,h5,exS,hlt',hg,hlen];refine⟨by omega,QeF (r:=bl true) (λ_=>h9 _) ?_⟩;simp[h0,h1,h5,exS];refine ih (i+1) G _ (by omega) ?_ ?_ ?_;all_goals simp[exS,QaJ (show i<9223372036854775807 by omega)]
mutual
theorem Qmv:∀ (e:Ex),e.sm->∀ (H:ZG),Ok Tryz.prog 13 [e.v,e.v] H (.ret (bl true)) H
 |.mk op n nm l p,he,H=>by
  unfold Ex.sm at he;have hIH:=Qr0 l he.2;have h37:∀ H,Ok Tryz.prog 37 [exS l,exS l] H (.ret (bl true)) H:=λH=>by
   refine Qz hm Tryz.func37 c37 (by simp) λhcl => ?_;simp[i37,r37,exS];refine LI.cong (H':=H++[]) (by simp) ?_;refine QxU he.1 hIH (λenv G => ?_) l.length 0 [] _ (by omega) ?_ ?_ ?_
   . simp;refine Qq 2 hcl rfl ?_;simp
   all_goals simp[exS]
  refine Qz hm Tryz.func13 c13 (by simp) λhcl => ?_;simp[i13,r13,Ex.v,Ex.c];refine QZ (r:=bl true) (λ_=>h37 _) ?_;simp;refine Qq 2 hcl rfl ?_;simp
theorem Qr0:∀ (l:List Ex),Ex.smL l->∀ e∈l,∀ (H:ZG),Ok Tryz.prog 13 [e.v,e.v] H (.ret (bl true)) H
 |[],_,_,h=>by cases h
 |e::r,hl,x,hx=>by
  unfold Ex.smL at hl;by_cases hh:x=e
  . rw[hh]; exact Qmv e hl.1
  . exact Qr0 r hl.2 x (by simpa[hh]using hx)
end
end
def Qbh (k:Int) (tx:ZE) (n:Int):Int :=
 if tx=[]\/k<1\/3<k\/cAt tx 0=1\/tx.getD 0 0=35 then 3 else
  match Qx tx 0 with
  |.tok t q=>if q≠tx.length\/t.k≠k then 3 else if t.n≠n then 2 else 0
  |_=>3
theorem QlB {l:ZE} {p q:Nat} (c1:cAt l p≠1) (c5:l.getD p 0≠35):Qx l p≠.skip q:=by
 intro hst;unfold Qx at hst;rw[Zn c1]at hst;have key:∀ k q',QV l p k q'≠.skip q:=by intro k q' h; unfold QV at h; split at h<;>cases h
 split at hst
 . exact key _ _ hst
 . split at hst
   . exact key _ _ hst
   . split at hst
     . exact key _ _ hst
     . first
       |exact key _ _ hst
       | (rw[Zn c5]at hst; exact key _ _ hst)
def zC:ZH:=[i64 0,st (B []),i64 0,i64 0]
def tC (k:Int) (tx:ZE) (n:Int) (a:SV):ZH:=[i64 k,st (B tx),i64 n,a]
def Qcg (A:ZG) (tc fc:ZH) (tx:ZE) (r:Bool) (lo:AO) (L:ZG):ZG :=
 A++⟨tc,52,0,true⟩::⟨fc,52,0,true⟩::⟨[st (B tx)],9,0,true⟩::⟨[bl r],4,0,true⟩::lo::L
def e25 (A:ZG) (c:SV):Env:=[(1,.ptr (.own (A.length+1) 0 0 0 0) 0),(2,.ptr (.own A.length 0 0 0 0) 0),(3,.ptr (.own (A.length+2) 0 0 0 0) 0),(4,.ptr (.own (A.length+3) 0 0 0 0) 0),(27,c)]
section
variable {A:ZG} {tx:ZE}
theorem Qyf {c a:SV} {k n:Int} {t:Tok} (L:ZG) :
 YlP Tryz.prog (A.length+4) [t.v,.val .nilIface] (Qcg A (tC k tx n a) zC tx false (lpo Tryz.prog 46 Qf 1 [28,29] Qc5 Qdg ((e25 A c).vals 46) .ready) L) λo H' =>
  o=.ret (bl false)/\∃ cs L,H'=Qcg A (tC k tx n a) t.c tx (decide (t.tx=tx)&&decide (t.k=k)) (lpo Tryz.prog 46 Qf 1 [28,29] Qc5 Qdg cs .ret) L:=by
 refine QhY (N:=46) (env:=e25 A c) hm Qc5.eq_1 Qdg.eq_1 (by simp[Qcg]; rfl) (by simp[e25]) (by decide) rfl λhcl => ?_;generalize hlo:lpo Tryz.prog 46 Qf 1 [28,29] Qc5 Qdg ((e25 A c).vals 46) .ready=lo;simp[e25,Qcg,tC,zC,Tok.v,Tok.c];refine⟨_,hlo.symm,_,by simp; rfl,.ret,false,_,⟨rfl,rfl⟩,⟨rfl,(e25 A c).vals 46,L++[⟨t.c,52,0,true⟩],rfl⟩,Qhy ?_⟩;simp[e25,Tok.c]
theorem QwL {c a:SV} {k n e:Int} {p:Nat} (L:ZG) :
 YlP Tryz.prog (A.length+4) [zT,.ifc 115 (QE e p)] (Qcg A (tC k tx n a) zC tx false (lpo Tryz.prog 46 Qf 1 [28,29] Qc5 Qdg ((e25 A c).vals 46) .ready) L) λo H' =>
  o=.ret (bl false)/\∃ cs L,H'=Qcg A (tC k tx n a) zC tx false (lpo Tryz.prog 46 Qf 1 [28,29] Qc5 Qdg cs .ret) L:=by
 refine QhY (N:=46) (env:=e25 A c) hm Qc5.eq_1 Qdg.eq_1 (by simp[Qcg]; rfl) (by simp[e25]) (by decide) rfl λhcl => ?_;generalize hlo:lpo Tryz.prog 46 Qf 1 [28,29] Qc5 Qdg ((e25 A c).vals 46) .ready=lo;simp[e25,Qcg,tC,zC,zT];refine⟨_,hlo.symm,_,by simp; rfl,.ret,false,_,⟨rfl,rfl⟩,⟨rfl,(e25 A c).vals 46,L++[⟨zC,52,0,true⟩],rfl⟩,Qhy ?_⟩;simp[e25,zC]
def Q7 (k:Int) (tx:ZE):Bool×ZH :=
 if tx=[]\/40<tx.length\/cAt tx 0=1\/tx.getD 0 0=35 then(false,zC)else
  match Qx tx 0 with
  |.tok t _=>(decide (t.tx=tx)&&decide (t.k=k),t.c)
  |_=>(false,zC)
end
abbrev o25 (c:ZH):AO:=⟨c,52,0,true⟩
theorem Qyq {A:ZG} {x o o':AO} (h:closed (A++[x,o])) (hu:∀ s∈o'.cells,s.under (A.length+2)=true):closed (A++[x,o']):=by
 intro i p hp s hs;have e:(A++[x,o']).length=(A++[x,o]).length:=by simp
 rw[e];by_cases hi:i=A.length+1
 . subst hi;have:p=o':=by simpa using hp.symm
   subst this;simpa using hu s hs
 . have:(A++[x,o])[i]? = some p:=by
    rcases Vs i (A.length+1)with h1|h1
    . rw[show A++[x,o']=(A++[x])++[o']by simp,Vc (by simp; omega)]at hp;rw[show A++[x,o]=(A++[x])++[o]by simp,Vc (by simp; omega)];exact hp
    . have:=Ql hp;simp at this; omega
   exact h i p this s hs
section
variable {A:ZG} {tx:ZE}
theorem QuI (hl:tx.length<4611686018427387904) (k n:Int) (a:SV) :
 Ok Tryz.prog 170 [st (B tx),.ptr (.own (A.length+1) 0 0 0 0) 0,.ptr (.own A.length 0 0 0 0) 0] (A++[o25 (tC k tx n a),o25 zC]) (.ret (bl (Q7 k tx).1)) (A++[o25 (tC k tx n a),o25 (Q7 k tx).2]):=by
 refine Qz hm Tryz.func170 c170 (by simp) λhcl => ?_;have fin:∀ {b:Bool} {fc:ZH} {L:ZG},Q7 k tx=(b,fc)->(∀ s∈fc,s.under (A.length+2)=true) ->
  Cv (A++[o25 (tC k tx n a),o25 zC]).length (bl b) (A++o25 (tC k tx n a)::o25 fc::L) (bl (Q7 k tx).1) (A++[o25 (tC k tx n a),o25 (Q7 k tx).2]):=by
  intro b fc L h hu;rw[h];have:=Qq (H:=A++[o25 (tC k tx n a),o25 fc]) (L:=L) (n0:=(A++[o25 (tC k tx n a),o25 zC]).length) (r1:=bl b) (r:=bl b) 4 (Qyq hcl hu) (by simp) (by simp);simpa using this
 have hz:∀ s∈zC,s.under (A.length+2)=true:=by intro s hs; simp[zC]at hs; rcases hs with rfl|rfl|rfl|rfl<;>rfl
 by_cases h1:tx=[]
 . have hr:Q7 k tx=(false,zC):=by unfold Q7; rw[Zo (.inl h1)]
   have f:=λL=>fin (L:=L) hr hz;generalize Q7 k tx=g at f hr;subst h1;simp -implicitDefEqProofs[Qi7,QjD];refine Qcm _ _ _ _ ?_;simp -implicitDefEqProofs;exact(by simpa using f _)
 have hpos:0<tx.length:=Yg.2 h1;have hg:tx.getD 0 0=tx[0]:=by simp[hpos]
 have f1:((tx[0].toNat:Int)=35)↔tx[0]=35:=u8i tx[0] 35;by_cases h2:40<tx.length
 . have hr:Q7 k tx=(false,zC):=by unfold Q7; rw[Zo (.inr (.inl h2))]
   have f:=λL=>fin (L:=L) hr hz;have h2':(40:Int)<tx.length:=by omega
   simp -implicitDefEqProofs[Qi7,QjD,h1,h2'];refine Qcm _ _ _ _ ?_;simp -implicitDefEqProofs;exact(by simpa using f _)
 have h2':¬ (40:Int)<tx.length:=by omega
 simp -implicitDefEqProofs[Qi7,QjD,h1,h2',hpos];refine QZ (r:=i64 (cls tx[0].toNat)) (λ_=>by rw[Qqb]; exact QkT _) ?_;have hca:cls tx[0].toNat=cAt tx 0:=(Qyi hpos).symm;by_cases h4:cAt tx 0=1
 . have hr:Q7 k tx=(false,zC):=by unfold Q7; rw[Zo (.inr (.inr (.inl h4)))]
   have f:=λL=>fin (L:=L) hr hz;simp -implicitDefEqProofs[hca,h4];exact(by simpa using f _)
 by_cases h5:tx[0]=35
 . have hr:Q7 k tx=(false,zC):=by unfold Q7; rw[Zo (.inr (.inr (.inr (by rw[hg]; exact h5))))]
   have f:=λL=>fin (L:=L) hr hz;simp -implicitDefEqProofs[hpos,h5];exact(by simpa using f _)
 have h5':¬ ((tx[0].toNat:Int)=35):=λh=>h5 (f1.1 h);have hr:Q7 k tx=match Qx tx 0 with
  |.tok t _=>(decide (t.tx=tx)&&decide (t.k=k),t.c)
  |_=>(false,zC):=by unfold Q7; rw[Zn (by rw[hg]; rintro(h|h|h|h)<;>first|contradiction|omega)]<;>cases Qx tx 0<;>rfl
 simp -implicitDefEqProofs[hca,h4,hpos,h5'];refine Qc ok70 ?_;simp -implicitDefEqProofs[QkG];obtain⟨m,hm1⟩:∃ m,tx.length=m+1:=⟨tx.length-1,by omega⟩;have hes:QB tx=match Qx tx 0 with
  |.skip q=>evs tx m q
  |.tok t q=>.tok t::evs tx m q
  |.flt e=>[.flt e 0]:=by unfold QB; rw[hm1]; simp only[evs]; rw[Zo (by omega)]<;>cases Qx tx 0<;>rfl
 refine Qrx (Pt:=λo H'=>(∃ v,o=.ret v)/\∃ cs L,H'=Qcg A (tC k tx n a) (Q7 k tx).2 tx (Q7 k tx).1 (lpo Tryz.prog 46 Qf 1 [28,29] Qc5 Qdg cs .ret) L) ?_ ?_
 . refine OkP.cast (args':=[.yl (A.length+4),.ptr (.slc [st (B tx)] 0) 0]) (H':=Qcg A (tC k tx n a) zC tx false (lpo Tryz.prog 46 Qf 1 [28,29] Qc5 Qdg ((e25 A (.fn (.func 123) [] [.ptr (.slc [st (B tx)] 0) 0])).vals 46) .ready) []) (by simp) (by simp[Qcg,e25]) ?_;refine(Qr8 (J:=λi H'=>i=0/\∃ L,H'=Qcg A (tC k tx n a) zC tx false (lpo Tryz.prog 46 Qf 1 [28,29] Qc5 Qdg ((e25 A (.fn (.func 123) [] [.ptr (.slc [st (B tx)] 0) 0])).vals 46) .ready) L)
    (Q:=λH'=>∃ cs L,H'=Qcg A (tC k tx n a) (Q7 k tx).2 tx (Q7 k tx).1 (lpo Tryz.prog 46 Qf 1 [28,29] Qc5 Qdg cs .ret) L) (y:=A.length+4) (es:=QB tx) rfl hl ?_ ?_ ?_ ⟨rfl,[],rfl⟩).mono ?_
   . rintro i H' L' ⟨h0,L,rfl⟩;exact⟨h0,L++L',by simp[Qcg]⟩
   . rintro i t H' hi ⟨rfl,L,rfl⟩;have hst:∃ q,Qx tx 0=.tok t q:=by
      rw[hes]at hi
      cases hs:Qx tx 0 with
      |skip q=>exact(QlB h4 (by rw[hg]; exact h5) hs).elim
      |tok t' q=>rw[hs]at hi; simp at hi; exact⟨q,by rw[hi]⟩
      |flt e=>rw[hs]at hi; simp at hi
     obtain⟨q,hst⟩:=hst;rw[hst]at hr;refine(Qyf (c:=.fn (.func 123) [] [.ptr (.slc [st (B tx)] 0) 0]) (a:=a) (k:=k) (n:=n) (t:=t) L).mono ?_;rintro o H' ⟨rfl,cs,L',rfl⟩;exact .inr ⟨rfl,cs,L',by rw[hr]⟩
   . rintro i e p H' hi ⟨rfl,L,rfl⟩;have hst:Qx tx 0=.flt e:=by
      rw[hes]at hi
      cases hs:Qx tx 0 with
      |skip q=>exact(QlB h4 (by rw[hg]; exact h5) hs).elim
      |tok t' q=>rw[hs]at hi; simp at hi
      |flt e'=>rw[hs]at hi; simp at hi; rw[hi.1]
     rw[hst]at hr;refine(QwL (c:=.fn (.func 123) [] [.ptr (.slc [st (B tx)] 0) 0]) (a:=a) (k:=k) (n:=n) (e:=e) (p:=p) L).mono ?_;rintro o H' ⟨rfl,cs,L',rfl⟩;exact⟨⟨_,rfl⟩,cs,L',by rw[hr]⟩
   . rintro o H' ⟨hv,(⟨h0,_⟩|hq)⟩
     . exfalso;have:=Zp List.length hes
       cases hs:Qx tx 0 with
       |skip q=>exact QlB h4 (by rw[hg]; exact h5) hs
       |tok t' q=>rw[hs,h0]at this; simp at this
       |flt e'=>rw[hs,h0]at this; simp at this
     . exact⟨hv,hq⟩
 . rintro out H' ⟨⟨v,rfl⟩,cs,L,rfl⟩;refine⟨.ret,_,by simp[Qcg]; rfl,?_⟩;simp -implicitDefEqProofs[Qcg];have hsu:∀ s∈(Q7 k tx).2,s.under (A.length+2)=true:=by
    rw[hr]
    cases Qx tx 0 with
    |tok t q=>intro s hs; simp[Tok.c]at hs; rcases hs with rfl|rfl|rfl|rfl<;>rfl
    |skip q=>exact hz
    |flt e=>exact hz
   have f:=λL=>fin (L:=L) (b:=(Q7 k tx).1) (fc:=(Q7 k tx).2) rfl hsu;exact(by simpa using f _)
end
section
variable {A H:ZG} {tx:ZE}
theorem Qyj (hl:tx.length<4611686018427387904) (k n e:Int) (a:SV) :
 Ok Tryz.prog 171 [st (B tx),.fn (.func 170) [] [.ptr (.own (A.length+1) 0 0 0 0) 0,.ptr (.own A.length 0 0 0 0) 0],i64 e] (A++[o25 (tC k tx n a),o25 zC]) (.ret (i64 (if(Q7 k tx).1=true then 0 else e))) (A++[o25 (tC k tx n a),o25 (Q7 k tx).2]):=by
 refine Qz hm Tryz.func171 c171 (by simp) λhcl => ?_;simp[i171,r171];refine Qc (QuI (A:=A) hl k n a) ?_;by_cases hb:(Q7 k tx).1=true
 . simp[hb];exact Qj
 . rw[Vk]at hb;simp[hb];exact Qj
theorem Qzd {fc:ZH} {o:AO} (m:Int) (n:Int) (hf:fc.getD 2 .any=i64 m) (hlen:fc.length=4):Ok Tryz.prog 173 [i64 n,.ptr (.own (A.length+1) 0 0 0 0) 0] (A++[o,o25 fc]) (.ret (bl (decide (n=m)))) (A++[o,o25 fc]):=by
 refine Qz hm Tryz.func173 c173 (by simp) λhcl => ?_
 match fc,hlen with
 |[x0,x1,x2,x3],_ =>
  have:x2=i64 m:=by simpa using hf
  subst this;simp[i173,r173];exact Qj
theorem QzL {fc:ZH} {o:AO} (m n e:Int) (hf:fc.getD 2 .any=i64 m) (hlen:fc.length=4) :
 Ok Tryz.prog 172 [i64 n,.fn (.func 173) [] [.ptr (.own (A.length+1) 0 0 0 0) 0],i64 e] (A++[o,o25 fc]) (.ret (i64 (if n=m then 0 else e))) (A++[o,o25 fc]):=by
 refine Qz hm Tryz.func172 c172 (by simp) λhcl => ?_;simp[i172,r172];refine Qc (Qzd (A:=A) m n hf hlen) ?_;by_cases hb:n=m
 . simp[hb];exact Qj
 . simp[hb];exact Qj
end
theorem Ql3 {l:ZE} {p q q':Nat} {k:Int} {t:Tok} (h:QV l p k q=.tok t q'):t.tx=cut l p q/\(whE l k (cut l p q) p).1=0:=by
 unfold QV at h;split at h
 . cases h
 . rename_i hn; cases h; exact⟨rfl,by simpa using hn⟩
theorem Qtf {l:ZE} {p q:Nat} {t:Tok} (hp:p<l.length) (h:Qx l p=.tok t q):t.tx=cut l p q/\1<=t.k/\t.k<=3/\q-p<=40:=by
 have hq:=mkq h hp;unfold Qx at h;split at h
 . cases h
 . split at h
   . have hk:=QdL h;have hx:=Ql3 h;obtain⟨rfl,hk,_⟩:=hk;refine⟨hx.1,by omega,by omega,?_⟩;have hlen:=Qmz (l:=l) (Nat.le_of_lt hq.1) hq.2;rcases Vs 40 (Qas l [2,3] p-p)with h40|h40
     . have h2:=hx.2;unfold whE at h2;rw[hlen]at h2;split at h2
       . cases h2
       . rw[Zo ⟨rfl,h40⟩]at h2; cases h2
     . exact h40
   . split at h
     . have hk:=QdL h;have hx:=Ql3 h;obtain⟨rfl,hk,_⟩:=hk;refine⟨hx.1,by omega,by omega,?_⟩;have hlen:=Qmz (l:=l) (Nat.le_of_lt hq.1) hq.2;rcases Vs 10 (Qas l [3] p-p)with h10|h10
       . exfalso;have h2:=hx.2;unfold whE at h2;split at h2
         . cases h2
         . rw[Zn (λh=>absurd h.1 (by decide)),Zn (by decide)]at h2;split at h2
           . cases h2
           . rename_i hz;have hv:=QBJ (tx:=cut l p (Qas l [3] p)) Qko (by omega) (λh=>hz ⟨by omega,h⟩);rw[(QBC (tx:=cut l p (Qas l [3] p)) (m:=0) Qko (by omega) (by omega)).2 hv]at h2
             cases h2
       . omega
     . split at h
       . have hk:=QdL h;have hx:=Ql3 h;obtain⟨rfl,hk,_⟩:=hk;refine⟨hx.1,by omega,by omega,?_⟩;unfold Qba;split
         . omega
         . split<;>omega
       . split at h
         . cases h
         . have hk:=(QdL h).1;omega
theorem Qus {k n m:Int} {tx:ZE} (hm:(Q7 k tx).2.getD 2 .any=i64 m):(if(Q7 k tx).1=true then(if n=m then 0 else 2)else 3)=Qbh k tx n:=by
 have e3:(Q7 k tx).1=false->Qbh k tx n=3->(if(Q7 k tx).1=true then(if n=m then 0 else 2)else 3)=Qbh k tx n:=λa b=>by rw[a,b]; simp
 by_cases h1:tx=[]
 . exact e3 (by unfold Q7; rw[Zo (.inl h1)]) (by unfold Qbh; rw[Zo (.inl h1)])
 have hpos:0<tx.length:=Yg.2 h1;by_cases h4:cAt tx 0=1
 . exact e3 (by unfold Q7; rw[Zo (.inr (.inr (.inl h4)))]) (by unfold Qbh; rw[Zo (.inr (.inr (.inr (.inl h4))))])
 by_cases h5:tx.getD 0 0=35
 . exact e3 (by unfold Q7; rw[Zo (.inr (.inr (.inr h5)))]) (by unfold Qbh; rw[Zo (.inr (.inr (.inr (.inr h5))))])
 cases hst:Qx tx 0 with
 |skip q=>exact(QlB h4 h5 hst).elim
 |flt e=>exact e3 (by unfold Q7; rw[hst]; split<;>rfl) (by unfold Qbh; rw[hst]; split<;>rfl)
 |tok t q =>
  obtain⟨g1,g2,g3,g4⟩:=Qtf hpos hst;have hq:=mkq hst hpos;have hcut:cut tx 0 q=tx.take q:=by simp[cut]
  have hx:t.tx=tx↔q=tx.length:=by
   rw[g1,hcut];constructor
   . intro h; have:=Zp List.length h; simp at this; omega
   . intro h; rw[h,VI]
  by_cases hk:k<1\/3<k
  . refine e3 ?_ (by unfold Qbh; rw[Zo (by rcases hk with h|h; exact .inr (.inl h); exact .inr (.inr (.inl h)))]);unfold Q7; rw[hst]; split
    . rfl
    . have:¬ t.k=k:=by omega
      simp[this]
  . have hc:Qbh k tx n=if q≠tx.length\/t.k≠k then 3 else if t.n≠n then 2 else 0:=by
     unfold Qbh; rw[Zn (by rintro(h|h|h|h|h)<;>first|contradiction|omega),hst]
    by_cases h40:40<tx.length
    . exact e3 (by unfold Q7; rw[Zo (.inr (.inl h40))]) (by rw[hc,Zo (.inl (by omega))])
    . have hs:Q7 k tx=(decide (t.tx=tx)&&decide (t.k=k),t.c):=by
       unfold Q7; rw[Zn (by rintro(h|h|h|h)<;>first|contradiction|omega),hst]
      have hmm:m=t.n:=by
       rw[hs]at hm;have:i64 t.n=i64 m:=hm;unfold i64 at this
       cases this; rfl
      by_cases a1:q=tx.length
      . by_cases a2:t.k=k
        . have e:(decide (t.tx=tx)&&decide (t.k=k))=true:=by simp[hx.2 a1,a2]
          have hc2:Qbh k tx n=if t.n≠n then 2 else 0:=by rw[hc,Zn (by rintro(h|h)<;>contradiction)]
          rw[hs,hc2,hmm];simp only[e,Zs];by_cases a3:n=t.n
          . simp[a3]
          . rw[Zn a3,Zo (λh:t.n=n=>a3 h.symm)]
        . exact e3 (by rw[hs]; simp[a2]) (by rw[hc,Zo (.inr a2)])
      . have hne:¬ t.tx=tx:=λh=>a1 (hx.1 h);exact e3 (by rw[hs]; simp[hne]) (by rw[hc,Zo (.inl a1)])
theorem QuK (k:Int) (tx:ZE):∃ m,(Q7 k tx).2.getD 2 .any=i64 m/\(Q7 k tx).2.length=4:=by
 unfold Q7;split
 . exact⟨0,rfl,rfl⟩
 . split
   . rename_i t _ _; exact⟨t.n,rfl,rfl⟩
   . exact⟨0,rfl,rfl⟩
section
variable {H:ZG} {tx:ZE}
theorem QoT (hl:tx.length<4611686018427387904) (k n:Int) (a:SV) (ha:a.isCell=true):Ok Tryz.prog 134 [.agg [i64 k,st (B tx),i64 n,a]] H (.ret (i64 (Qbh k tx n))) H:=by
 refine Qz hm Tryz.func134 c134 (by simp) λhcl => ?_;obtain⟨m,hm1,hm2⟩:=QuK k tx;rw[<-Qus (k:=k) (n:=n) (tx:=tx) hm1];simp[i134,r134,ha];refine Qc (Qyj (A:=H) hl k n 3 a) ?_;by_cases hb:(Q7 k tx).1=true
 . simp[hb,tC];refine Qc (QzL (A:=H) m n 2 hm1 hm2) ?_;by_cases hn:n=m
   . simp[hn];exact Qq 4 hcl rfl (by simp)
   . simp[hn];exact Qq 4 hcl rfl (by simp)
 . rw[Vk]at hb;simp[hb];exact Qq 4 hcl rfl (by simp)
end
def sgn2:ZD:=[[42],[47],[37],[43],[45],[61,61],[33,61],[60],[60,61],[62],[62,61],[97,110,100],[111,114]]
def Qan (op:Int):ZE×Int :=
 if op=3 then([45],1)else if op=4 then([110,111,116],1)else if op=18 then([109,105,110],2)else if op=19 then([109,97,120],2)
 else if op=20 then([105,102],3)else if op<5\/17<op then([],0)else(sgn2.getD (op-5).toNat [],2)
def Qen (op:Int):Bool:=decide (op=18)||decide (op=19)||decide (op=20)
def Qb8 (s:ZE):Bool:=decide (Qbh 1 s 0=0) && !decide (s∈Qa0)
def QdY:Ex->Bool
 |.mk op n nm l _ =>
  if op=1 then decide (nm=[])&&decide (l=[])&&decide (0<=n/\n<=1000000000)
  else if op=2 then decide (n=0)&&decide (l=[])&&Qb8 nm
  else decide (0<(Qan op).2)&&decide ((l.length:Int)=(Qan op).2)&&decide (n=0)&&decide (nm=[])
def Ex.nmE:Ex->ZE
 |.mk _ _ nm _ _=>nm
section
variable {H:ZG}
theorem QsY (a n b:Int):Ok Tryz.prog 102 [i64 a,i64 n,i64 b] H (.ret (bl (decide (a<=n/\n<=b)))) H:=by
 refine Qz hm Tryz.func102 c102 (by simp) λhcl => ?_;by_cases h:a<=n
 . simp -implicitDefEqProofs[QmT,Qof,h];exact Qj
 . simp -implicitDefEqProofs[QmT,Qof,h];exact Qj
theorem Qs5 (op:Int):Ok Tryz.prog 132 [i64 op] H (.ret (bl (Qen op))) H:=by
 refine Qz hm Tryz.func132 c132 (by simp) λhcl => ?_;unfold Qen;by_cases h:op=18
 . simp -implicitDefEqProofs[Qju,Qka,h];exact Qj
 . by_cases h2:op=19
   . simp -implicitDefEqProofs[Qju,Qka,h2];exact Qj
   . simp -implicitDefEqProofs[Qju,Qka,h,h2];exact Qj
theorem QsB (op:Int):Ok Tryz.prog 131 [i64 op] H (.ret (.tup [st (B (Qan op).1),i64 (Qan op).2])) H:=by
 refine Qz hm Tryz.func131 c131 (by simp) λhcl => ?_;by_cases h1:op=3
 . subst h1; simp -implicitDefEqProofs[Qe5,Qe3,Qan]; exact Qj
 by_cases h2:op=4
 . subst h2; simp -implicitDefEqProofs[Qe5,Qe3,Qan]; exact Qj
 by_cases h3:op=18
 . subst h3; simp -implicitDefEqProofs[Qe5,Qe3,Qan]; exact Qj
 by_cases h4:op=19
 . subst h4; simp -implicitDefEqProofs[Qe5,Qe3,Qan]; exact Qj
 by_cases h5:op=20
 . subst h5; simp -implicitDefEqProofs[Qe5,Qe3,Qan]; exact Qj
 by_cases h6:op<5
 . simp -implicitDefEqProofs[Qe5,Qe3,Qan,h1,h2,h3,h4,h5,h6]; exact Qj
 by_cases h7:17<op
 . simp -implicitDefEqProofs[Qe5,Qe3,Qan,h1,h2,h3,h4,h5,h6,h7]; exact Qj
 obtain⟨k,rfl⟩:∃ k:Nat,op=(k:Int)+5:=⟨(op-5).toNat,by omega⟩;have hk:k<13:=by omega
 have w:IntKind.i64.wrap ((k:Int)+5-5)=k:=by
  have:(k:Int)+5-5=k:=by omega
  rw[this]; exact Qfn (by omega)
 have w2:IntKind.i64.wrap (k:Int)=k:=Qfn (by omega);have hk':(k:Int)<13:=by omega
 simp -implicitDefEqProofs[Qe5,Qe3,h1,h2,h3,h4,h5,h6,h7,w2,hk,hk'];refine⟨by omega,Qq 3 hcl rfl ?_⟩;have e:Qan ((k:Int)+5)=(sgn2.getD k [],2):=by
  unfold Qan;rw[Zn h1,Zn h2,Zn h3,Zn h4,Zn h5,Zn (by omega)];have:((k:Int)+5-5).toNat=k:=by omega
  rw[this]
 rw[e];have:k=0\/k=1\/k=2\/k=3\/k=4\/k=5\/k=6\/k=7\/k=8\/k=9\/k=10\/k=11\/k=12:=by omega
 rcases this with rfl|rfl|rfl|rfl|rfl|rfl|rfl|rfl|rfl|rfl|rfl|rfl|rfl<;>rfl
theorem QtV {s:ZE} (hl:s.length<4611686018427387904):Ok Tryz.prog 101 [st (B s)] H (.ret (bl (Qb8 s))) H:=by
 refine Qz hm Tryz.func101 c101 (by simp) λhcl => ?_;simp -implicitDefEqProofs[i101,r101];refine Qc (QoT hl 1 0 (i64 0) rfl) ?_;by_cases h:Qbh 1 s 0=0
 . simp -implicitDefEqProofs[h];refine QZ (r:=bl (decide (s∈Qa0))) (λ_=>Qp1 s) ?_;simp -implicitDefEqProofs[h];have e:Qb8 s = !decide (s∈Qa0):=by simp[Qb8,h]
   rw[e]; exact Qj
 . simp -implicitDefEqProofs[h];refine Qcm _ _ _ _ ?_;simp -implicitDefEqProofs;have e:Qb8 s=false:=by simp[Qb8,h]
   rw[e]; exact Qj
theorem QvO {e:Ex} (hs:QdY e=true) (hnm:e.nmE.length<4611686018427387904):Ok Tryz.prog 130 [e.v] H (.ret (bl true)) H:=by
 obtain⟨op,n,nm,l,p⟩:=e;refine Qz hm Tryz.func130 c130 (by simp) λhcl => ?_;simp only[QdY]at hs;by_cases h1:op=1
 . rw[Zo h1]at hs;simp only[Va,Zq]at hs;obtain⟨⟨rfl,rfl⟩,h3,h4⟩:=hs;subst h1;simp -implicitDefEqProofs[Qkp,QkU,Ex.v,Ex.c];refine QZ (r:=bl true) (λ_=>by have h:=λH=>QsY (H:=H) 0 n 1000000000; rw[decide_eq_true (And.intro h3 h4)]at h; exact h _) ?_;simp -implicitDefEqProofs;exact Qq 3 hcl rfl (by simp)
 by_cases h2:op=2
 . rw[Zn h1,Zo h2]at hs;simp only[Va,Zq]at hs;obtain⟨⟨rfl,rfl⟩,h3⟩:=hs;subst h2;simp -implicitDefEqProofs[Qkp,QkU,Ex.v,Ex.c];refine QZ (r:=bl true) (λ_=>by have h:=λH=>QtV (H:=H) (s:=nm) hnm; rw[h3]at h; exact h _) ?_;simp -implicitDefEqProofs;exact Qq 3 hcl rfl (by simp)
 rw[Zn h1,Zn h2]at hs;simp only[Va,Zq]at hs;obtain⟨⟨⟨h3,h4⟩,rfl⟩,rfl⟩:=hs;simp -implicitDefEqProofs[Qkp,QkU,Ex.v,Ex.c,h1,h2];refine Qc (QsB op) ?_;simp -implicitDefEqProofs[h3,h4];exact Qq 3 hcl rfl (by simp)
end
def byO (o:ZE) (v:Nat):AO:=⟨Qai (B o),5,v,true⟩
def prO (q n v:Nat):AO:=⟨[.own q 0 n 1 v],85,0,true⟩
structure PrA (G:ZG) (j q:Nat) (o:ZE) (v:Nat):Prop where
 h1:G[j]? = some (prO q o.length v)
 h2:G[q]? = some (byO o v)
 h3:j≠q
def wr (G:ZG) (j q:Nat) (o:ZE) (v:Nat):ZG:=(G.set j (prO q o.length v)).set q (byO o v)
@[simp] theorem wr_len (G:ZG) (j q:Nat) (o:ZE) (v:Nat):(wr G j q o v).length=G.length:=by simp[wr]
theorem QhQ (o:ZE):(Qai (B o)).length=o.length:=by simp[Qai]
section
variable {G H:ZG} {j q v:Nat} {o:ZE}
theorem PrA.lj (h:PrA G j q o v):j<G.length:=Ql h.h1
theorem PrA.lq (h:PrA G j q o v):q<G.length:=Ql h.h2
theorem PrA.wr (h:PrA G j q o v) (o':ZE) (v':Nat):PrA (wr G j q o' v') j q o' v':=by
 have hj:=h.lj; have hq:=h.lq; have hne:=h.h3;refine⟨?_,?_,hne⟩
 . unfold Proofs.YtmkdpmfhlfhjkaaGreatDoor.wr;rw[Vf (λe=>hne e.symm),Vo hj]
 . unfold Proofs.YtmkdpmfhlfhjkaaGreatDoor.wr;rw[Vo (by simpa using hq)]
theorem PrA.app (h:PrA G j q o v) (L:ZG):PrA (G++L) j q o v :=
 ⟨by rw[Vc h.lj]; exact h.h1,by rw[Vc h.lq]; exact h.h2,h.h3⟩
theorem PrA.same (h:PrA G j q o v):Proofs.YtmkdpmfhlfhjkaaGreatDoor.wr G j q o v=G:=by
 unfold Proofs.YtmkdpmfhlfhjkaaGreatDoor.wr;rw[QcZ h.h1,QcZ h.h2]
theorem QjE (hne:j≠q) (o':ZE) (v':Nat):wr (wr G j q o v) j q o' v'=wr G j q o' v':=by
 unfold wr;rw[List.set_comm _ _ (λe=>hne e.symm),VD,VD]
theorem QhT (hj:j<G.length) (hq:q<G.length) (L:ZG):wr (G++L) j q o v=wr G j q o v++L:=by
 unfold wr;rw[Vm _ _ hj,Vm _ _ (by simpa using hq)]
theorem Qxm (h:closed G) (hq:q<G.length):closed (wr G j q o v):=by
 unfold wr;refine Qfj (Qfj h j ?_) q ?_
 . simp[prO,SV.underL,SV.under,hq]
 . rw[SV.underL_iff];intro s hs;simp only[byO,Qai,Vx]at hs;obtain⟨b,_,rfl⟩:=hs; rfl
theorem QAq {l:ZD} {i:Nat} (h:i<l.length):(l.take (i+1)).flatten=(l.take i).flatten++l[i]:=by
 rw[<-Y5 h,Zf]; simp
theorem Qxq {hne:j≠q} {o s:ZE} {v:Nat}:((wr H j q o v).set q ⟨(byO o v).cells++Qai (B s),(byO o v).ty,(byO o v).ver+1,(byO o v).live⟩).set j
     ⟨.own q 0 (o.length+s.length) 1 (v+1)::(prO q o.length v).cells.tail,(prO q o.length v).ty,(prO q o.length v).ver,(prO q o.length v).live⟩=wr H j q (o++s) (v+1):=by
 have e1:(⟨(byO o v).cells++Qai (B s),(byO o v).ty,(byO o v).ver+1,(byO o v).live⟩:AO)=byO (o++s) (v+1):=by simp[byO,Qai]
 have e2:(⟨.own q 0 (o.length+s.length) 1 (v+1)::(prO q o.length v).cells.tail,(prO q o.length v).ty,(prO q o.length v).ver,(prO q o.length v).live⟩:AO)=prO q (o++s).length (v+1):=by simp[prO]
 rw[e1,e2];unfold wr;rw[VD,List.set_comm _ _ (λe=>hne e.symm),VD]
theorem Qz0 (hp:PrA H j q o v) {x:SV} {l:ZD} (hx:∀ o v,IsS (wr H j q o v) x l) (hl:l.length<4611686018427387904) (hL:o.length+l.flatten.length<=140737488355328) {N:Nat} {K:ZF}
 (hexit:∀ env,K (.exit 0) env (wr H j q (o++l.flatten) (v+l.length))) :
 ∀ (m i:Nat) (env:Env),i+m=l.length->env.get 0=rp j->env.get 6=x->env.get 7=i64 l.length->env.get 8=i64 i->LI Tryz.prog N Qf QjM env (wr H j q (o++(l.take i).flatten) (v+i)) K:=by
 intro m
 induction m with
 |zero =>
  intro i env hi h0 h6 h7 h8;refine Qu hm QjM.eq_1 ?_;have e:i=l.length:=by omega
  subst e;simp[h0,h6,h7,h8];exact hexit _
 |succ m ih =>
  intro i env hi h0 h6 h7 h8;refine Qu hm QjM.eq_1 ?_;have hlt:i<l.length:=by omega
  have hlt':(i:Int)<l.length:=by omega
  have hxo:=hx (o++(l.take i).flatten) (v+i);have hv:=hxo.vA [] hlt;have ho:=hxo.okA [] hlt;simp only[VE]at hv ho;have htk:(l.take (i+1)).flatten=(l.take i).flatten++l[i]:=QAq hlt;have hle:((l.take i).flatten++l[i]).length<=l.flatten.length:=by
   rw[<-htk];conv=>rhs; rw[<-Ym (i+1) l]
   rw[Zf,Vj]; omega
  rw[Vj]at hle;have ih:=ih (i+1);rw[htk]at ih;generalize l[i]=s at hv htk hle ih;have hw:=hp.wr (o++(l.take i).flatten) (v+i);generalize ho':o++(l.take i).flatten=o' at hw hxo hv ho;have ho'l:o'.length=o.length+(l.take i).flatten.length:=by rw[<-ho',Vj]
  have e1:Qo (wr H j q o' (v+i)) j 0=[.own q 0 o'.length 1 (v+i)]:=Qav hw.h1 rfl;have e2:QbB (wr H j q o' (v+i)) q (v+i) 5 (o'.length*1):=⟨_,hw.h2,rfl,rfl,rfl,by simp[byO,QhQ]⟩;have e3:∀ f,Ab.setObj (wr H j q o' (v+i)) q f=(wr H j q o' (v+i)).set q (f (byO o' (v+i))):=λf=>Qb5 hw.h2 f;have e4:∀ (y:AO) f,Ab.setObj ((wr H j q o' (v+i)).set q y) j f=((wr H j q o' (v+i)).set q y).set j (f (prO q o'.length (v+i))):=λy f=>Qb5 (by rw[Vf (λe=>hp.h3 e.symm)]; exact hw.h1) f;have e5:∀ (y:AO),Qo ((wr H j q o' (v+i)).set q y) j 0=[.own q 0 o'.length 1 (v+i)]:=λy=>Qav (o:=prO q o'.length (v+i)) (by rw[Vf (λe=>hp.h3 e.symm)]; exact hw.h1) rfl;simp[h0,h6,h7,h8,hlt',hxo.vd,hxo.ug,hxo.sl,hxo.len,hv,ho,rp,e1,e3,e4,e5];refine⟨by omega,by simpa using e2,LI.cong (Qxq (hne:=hp.h3)).symm ?_⟩;subst ho';rw[VC];exact ih _ (by omega) (by simp[rp]) (by simp) (by simp) (by simp[QaJ (show i<9223372036854775807 by omega)])
theorem QzU (hp:PrA H j q o v) {x:SV} {l:ZD} (hx:∀ o v,IsS (wr H j q o v) x l) (hl:l.length<4611686018427387904) (hL:o.length+l.flatten.length<=140737488355328) :
 Ok Tryz.prog 105 [rp j,x] H (.ret (.tup [])) (wr H j q (o++l.flatten) (v+l.length)):=by
 have hxo:=hx o v;rw[hp.same]at hxo;have hj:=hp.lj;refine Qz hm Tryz.func105 c105 (by simp[rp]) λhcl => ?_;simp[i105,r105,hxo.vd,hxo.ug,hxo.sl,hxo.len];refine LI.cong (H':=wr H j q (o++(l.take 0).flatten) (v+0)) (by simpa using hp.same) ?_;refine Qz0 hp hx hl hL (λenv => ?_) l.length 0 _ (by omega) (by simp) (by simp) (by simp) (by simp);simp;exact Qj
theorem Qn4 (hp:PrA H j q o v):Ok Tryz.prog 51 [rp j] H (.ret (bl (decide (20000<o.length)))) H:=by
 have hj:=hp.lj;have e1:Qo H j 0=[.own q 0 o.length 1 v]:=Qav hp.h1 rfl;refine Qz hm Tryz.func51 c51 (by simp[rp]) λhcl => ?_;simp[i51,r51,rp,e1];have e:decide ((20000:Int)<o.length)=decide (20000<o.length):=by congr 1; exact propext (by omega)
 rw[e];exact Qj
end
def QbT (n:Int):ZE:=Lib.decDigits n.toNat
def Qdk (x:Int×(ZE->ZE)) (o:ZE):ZE :=
 if x.1=1\/x.1=2\/Qen x.1=true then x.2 o else x.2 (o++[40])++[41]
def QdC:Bool->List (Int×(ZE->ZE))->ZE->ZE
 |_,[],o=>o
 |true,f::r,o=>QdC false r (f.2 o)
 |false,f::r,o=>QdC false r (f.2 (o++[44,32]))
def QeW (fs:List (Int×(ZE->ZE))) (i:Nat) (o:ZE):ZE :=
 match fs[i]? with
 |some f=>Qdk f o
 |none=>o
def Ex.opE:Ex->Int
 |.mk op _ _ _ _=>op
mutual
def prE:Ex->ZE->ZE
 |.mk op n nm l _=>λo =>
  if 20000<o.length then o else if op=1 then o++QbT n else if op=2 then o++nm
  else if Qen op=true then QdC true (prF l) (o++(Qan op).1++[40])++[41]
  else if(Qan op).2=1 then QeW (prF l) 0 (o++(Qan op).1++[32])
  else QeW (prF l) 1 (QeW (prF l) 0 o++[32]++(Qan op).1++[32])
def prF:List Ex->List (Int×(ZE->ZE))
 |[]=>[]
 |e::r=>(e.opE,prE e)::prF r
end
theorem Qy3:∀ l:List Ex,prF l=l.map λe=>(e.opE,prE e)
 |[]=>by rw[prF]; rfl
 |e::r=>by rw[prF,Qy3 r]; rfl
def QaF (f:ZE->ZE):Prop:=∀ o,o.length<=(f o).length
theorem QjI {x:Int×(ZE->ZE)} (h:QaF x.2):QaF (Qdk x):=by
 intro o;unfold Qdk;split
 . exact h o
 . have:=h (o++[40]);simp at this ⊢; omega
theorem Qhq:∀ (fs:List (Int×(ZE->ZE))) (b:Bool),(∀ f∈fs,QaF f.2)->QaF (QdC b fs)
 |[],b,_=>by intro o; cases b<;>exact Vb _
 |f::r,b,h=>by
  have hf:=h f (.head _);have hr:=Qhq r false (λg hg=>h g (.tail _ hg));intro o
  cases b
  . have h1:=hf (o++[44,32]); have h2:=hr (f.2 (o++[44,32]));simp only[QdC];simp at h1; omega
  . have h1:=hf o; have h2:=hr (f.2 o);simp only[QdC]; omega
theorem QqT {fs:List (Int×(ZE->ZE))} (h:∀ f∈fs,QaF f.2) (i:Nat):QaF (QeW fs i):=by
 intro o;unfold QeW;split
 . rename_i f hf;exact QjI (h f (Vv hf)) o
 . exact Vb _
mutual
theorem Qd9:∀ e:Ex,QaF (prE e)
 |.mk op n nm l p=>by
  have h:=QgU l;have h1:=Qhq (prF l) true h;have h2:=QqT h 0;have h3:=QqT h 1;intro o;unfold prE;split
  . exact Vb _
  . split
    . simp
    . split
      . simp
      . split
        . have:=h1 (o++(Qan op).1++[40]);simp at this ⊢; omega
        . split
          . have:=h2 (o++(Qan op).1++[32]);simp at this ⊢; omega
          . have a:=h2 o;have b:=h3 (QeW (prF l) 0 o++[32]++(Qan op).1++[32]);simp at b ⊢; omega
theorem QgU:∀ (l:List Ex),∀ f∈prF l,QaF f.2
 |[],f,h=>by rw[prF]at h; cases h
 |e::r,f,h=>by
  rw[prF]at h;rcases Vd.1 h with rfl|h
  . exact Qd9 e
  . exact QgU r f h
end
def NumK (n:Int):Prop:=∀ H,Ok Tryz.prog 106 [i64 n] H (.ret (st (B (QbT n)))) H
mutual
def Ex.prp:Ex->Prop
 |.mk op n nm l p=>QdY (.mk op n nm l p)=true/\nm.length<4611686018427387904/\(op=1->NumK n)/\Ex.prpL l
def Ex.prpL:List Ex->Prop
 |[]=>True
 |e::r=>e.prp/\Ex.prpL r
end
theorem Qic:∀ {l:List Ex},Ex.prpL l↔∀ e∈l,e.prp
 |[]=>by simp[Ex.prpL]
 |e::r=>by simp[Ex.prpL,Qic (l:=r)]
def PrK (k:ZN) (args:ZH) (F:ZE->ZE):Prop :=
 ∀ (H:ZG) (j q:Nat) (o:ZE) (v:Nat),PrA H j q o v->(F o).length<=140737488355328 ->
  OkP Tryz.prog k (rp j::args) (wr H j q o v) λout H'=>out=.ret (.tup [])/\∃ v',H'=wr H j q (F o) v'
section
variable {H:ZG} {j q v:Nat} {o:ZE}
@[simp] theorem QCj (L:ZG) (k ver:Nat):Qo (wr H j q o v++L) (H.length+k) ver=Qo L k ver:=by
 have:=QfX (H:=wr H j q o v) (L:=L) (k:=k) (ver:=ver); simpa using this
@[simp] theorem QGm (L:ZG) (ver:Nat):Qo (wr H j q o v++L) H.length ver=Qo L 0 ver:=QCj L 0 ver
@[simp] theorem QCM (L:ZG) (k:Nat) (f:AO->AO):Ab.setObj (wr H j q o v++L) (H.length+k) f=wr H j q o v++Ab.setObj L k f:=by
 have:=Qji (H:=wr H j q o v) (L:=L) (k:=k) (f:=f); simpa using this
theorem PrK.at {k:ZN} {args:ZH} {F:ZE->ZE} (h:PrK k args F) (hp:PrA H j q o v) (o:ZE) (v:Nat) (L:ZG) (hL:(F o).length<=140737488355328) :
 OkP Tryz.prog k (rp j::args) (wr H j q o v++L) λout H'=>out=.ret (.tup [])/\∃ v',H'=wr H j q (F o) v'++L:=by
 have h1:=h (wr H j q o v++L) j q o v ((hp.wr o v).app L) hL;rw[QhT (by simpa using hp.lj) (by simpa using hp.lq),QjE hp.h3]at h1;refine h1.mono ?_;rintro out H' ⟨rfl,v',rfl⟩;refine⟨rfl,v',?_⟩;rw[QhT (by simpa using hp.lj) (by simpa using hp.lq),QjE hp.h3]
theorem QbW (hp:PrA H j q o v) (o:ZE) (v:Nat) {L:ZG} {k T n:Nat} {l:ZD} (h:L[k]? = some ⟨wds l,T,0,true⟩) (hn:n=l.length) (hl:l.length<4611686018427387904) (hL:o.length+l.flatten.length<=140737488355328) :
 Ok Tryz.prog 105 [rp j,.own (H.length+k) 0 n 1 0] (wr H j q o v++L) (.ret (.tup [])) (wr H j q (o++l.flatten) (v+l.length)++L):=by
 have h1:=QzU (H:=wr H j q o v++L) ((hp.wr o v).app L) (x:=.own (H.length+k) 0 n 1 0) (l:=l) (λo' v'=>by
  rw[QhT (by simpa using hp.lj) (by simpa using hp.lq)];have:=IsS.own1 (H:=wr (wr H j q o v) j q o' v') h hn;simpa using this) hl hL
 rw[QhT (by simpa using hp.lj) (by simpa using hp.lq),QjE hp.h3]at h1;exact h1
theorem Qtb (hp:PrA H j q o v) (o:ZE) (v:Nat) (L:ZG):Ok Tryz.prog 51 [rp j] (wr H j q o v++L) (.ret (bl (decide (20000<o.length)))) (wr H j q o v++L):=Qn4 ((hp.wr o v).app L)
theorem QdS (hp:PrA H j q o v) {o1 o2:ZE} {v1:Nat} (hcl:closed (wr H j q o v)) {n0:Nat} (hn:n0=H.length) (L:ZG) (he:o1=o2) :
 ∃ (y:SV) (H'':ZG),((Out.ret y)=.ret (.tup [])/\∃ v',H''=wr H j q o2 v')/\Cv n0 (.tup []) (wr H j q o1 v1++L) y H'':=by
 subst he;refine⟨_,_,⟨rfl,v1,rfl⟩,Qq 3 ?_ (by simpa using hn) (by simp)⟩;have:=Qxm (o:=o1) (v:=v1) (j:=j) hcl (by simpa using hp.lq)
 rwa [QjE hp.h3]at this
end
section
variable {H:ZG} {j q v:Nat} {o:ZE}
theorem Qmg {e:Ex} (h:PrK 73 [e.v] (prE e)):PrK 133 [e.v] (Qdk (e.opE,prE e)):=by
 intro H j q o v hp hL;obtain⟨op,n,nm,l,p⟩:=e;have hj:=hp.lj; have hq:=hp.lq;refine Qbd hm Tryz.func133 c133 (by simp[rp]) λhcl => ?_;have hdir:(op=1\/op=2\/Qen op=true)->Qdk (op,prE (.mk op n nm l p)) o=prE (.mk op n nm l p) o:=λh=>by unfold Qdk; rw[Zo h]
 simp only[Ex.opE]at hL ⊢;have key:=h.at hp;by_cases h1:op=1
 . rw[hdir (.inl h1)]at hL ⊢;simp -implicitDefEqProofs[QjJ,Qjh,Ex.v,Ex.c,h1];refine Qcm _ _ _ _ ?_;subst h1;simp -implicitDefEqProofs;refine Q5 (key o v _ hL) ?_;rintro out H' ⟨rfl,v',rfl⟩;simp -implicitDefEqProofs;exact QdS hp hcl (by simp) _ rfl
 by_cases h2:op=2
 . rw[hdir (.inr (.inl h2))]at hL ⊢;simp -implicitDefEqProofs[QjJ,Qjh,Ex.v,Ex.c,h2];refine Qcm _ _ _ _ ?_;subst h2;simp -implicitDefEqProofs;refine Q5 (key o v _ hL) ?_;rintro out H' ⟨rfl,v',rfl⟩;simp -implicitDefEqProofs;exact QdS hp hcl (by simp) _ rfl
 simp -implicitDefEqProofs[QjJ,Qjh,Ex.v,Ex.c,h1,h2];refine QZ (r:=bl (Qen op)) (λ_=>Qs5 op) ?_;by_cases h3:Qen op=true
 . rw[hdir (.inr (.inr h3))]at hL ⊢;simp -implicitDefEqProofs[h3];refine Q5 (key o v _ hL) ?_;rintro out H' ⟨rfl,v',rfl⟩;simp -implicitDefEqProofs;exact QdS hp hcl (by simp) _ rfl
 . have hd:Qdk (op,prE (.mk op n nm l p)) o=prE (.mk op n nm l p) (o++[40])++[41]:=by unfold Qdk; rw[Zn (by simp[h1,h2,h3])]
   rw[hd]at hL ⊢;have hg:=Qd9 (.mk op n nm l p) (o++[40]);rw[Vj]at hL;simp at hL hg;rw[Vk]at h3;simp -implicitDefEqProofs[h3];refine Qc (QbW hp o v (k:=1) (l:=[[40]]) rfl rfl (by simp) (by simp; omega)) ?_;simp -implicitDefEqProofs;refine Q5 (key (o++[40]) (v+1) _ (by omega)) ?_;rintro out H' ⟨rfl,v',rfl⟩;simp -implicitDefEqProofs;refine Qc (QbW hp _ v' (k:=2) (l:=[[41]]) rfl rfl (by simp) (by simp; omega)) ?_;simp -implicitDefEqProofs;exact QdS hp hcl (by simp) _ rfl
theorem QCo (hp:PrA H j q o v) {l:List Ex} (hl:l.length<=100) (hE:∀ e∈l,PrK 73 [e.v] (prE e)) {res:ZE} (hL:res.length<=140737488355328) {N:Nat} {K:ZF}
 (hexit:∀ env v L,K (.exit 0) env (wr H j q res v++L)) :
 ∀ (m i:Nat) (o:ZE) (v:Nat) (L:ZG) (env:Env),i+m=l.length->QdC (decide (i=0)) (prF (l.drop i)) o=res->env.get 0=rp j->env.get 6=exS l->env.get 7=i64 l.length->env.get 8=i64 i->LI Tryz.prog N Qf Qi1 env (wr H j q o v++L) K:=by
 intro m
 induction m with
 |zero =>
  intro i o v L env hi hr h0 h6 h7 h8;refine Qu hm Qi1.eq_1 ?_;have e:i=l.length:=by omega
  subst e;rw[Yo,prF]at hr;have hr:o=res:=by rw[<-hr]; cases decide (l.length=0)<;>rfl
  subst hr;simp[h0,h6,h7,h8,exS];exact hexit _ _ _
 |succ m ih =>
  intro i o v L env hi hr h0 h6 h7 h8;refine Qu hm Qi1.eq_1 ?_;have hlt:i<l.length:=by omega
  have hlt':(i:Int)<l.length:=by omega
  have hg:=Qe9 hlt;have hlen:=Qfg l;have he:=hE l[i] (Vt hlt);rw[VT hlt,prF]at hr;have hE':∀ f∈prF (l.drop (i+1)),QaF f.2:=QgU _;have ih:=ih (i+1);have hg1:=Qhq (prF (l.drop (i+1))) false hE';generalize l[i]=e at hg he hr;have hgr:=Qd9 e;have hv:e.v=.agg e.c:=by cases e; rfl
  have he':=λo v L h=>he.at hp o v L h;simp only[hv]at he';by_cases h00:i=0
  . subst h00;have hr:QdC false (prF (l.drop 1)) (prE e o)=res:=hr;have h2:=hg1 (prE e o);rw[hr]at h2;simp at hg;simp[h0,h6,h7,h8,exS,hlt,hg,hlen];refine⟨by omega,Q5 (he' o v _ (by omega)) ?_⟩;rintro out H' ⟨rfl,v',rfl⟩;simp[h0,h6,h7,h8,exS];refine ih _ v' _ _ (by omega) hr ?_ ?_ ?_ ?_
    . simp
    . simp[exS]
    . simp
    . simp; rfl
  . have hr:QdC false (prF (l.drop (i+1))) (prE e (o++[44,32]))=res:=by
     rw[<-hr,decide_eq_false h00]; rfl
    have h2:=hg1 (prE e (o++[44,32]));have h3:=hgr (o++[44,32]);rw[hr]at h2;rw[Vj]at h3;simp at h3;have hpos:0<i:=by omega
    simp[h0,h6,h7,h8,exS,hlt',hg,hlen,hpos];refine⟨by omega,Qc (QbW hp o v (k:=L.length+1) (l:=[[44,32]]) (T:=9) (by simp; rfl) rfl (by simp) (by simp; omega)) ?_⟩;simp[h0,h6,h7,h8,exS];refine Q5 (he' (o++[44,32]) (v+1) _ (by omega)) ?_;rintro out H' ⟨rfl,v',rfl⟩;simp[h0,h6,h7,h8,exS];refine ih _ v' _ _ (by omega) (by simpa using hr) ?_ ?_ ?_ ?_;all_goals simp[exS,QaJ (show i<9223372036854775807 by omega)]
theorem QoR {l:List Ex} (hl:l.length<=100) (hE:∀ e∈l,PrK 73 [e.v] (prE e)):PrK 109 [exS l] (QdC true (prF l)):=by
 intro H j q o v hp hL;have hj:=hp.lj;refine Qbd hm Tryz.func109 c109 (by simp[rp,exS]) λhcl => ?_;simp[i109,r109,exS];refine LI.cong (H':=wr H j q o v++[]) (by simp) ?_;refine QCo hp hl hE hL (λenv v L => ?_) l.length 0 o v [] _ (by omega) (by simp) (by simp) (by simp[exS]) (by simp) (by simp);simp;exact QdS hp hcl (by simp) _ rfl
end
section
variable {H:ZG} {j q v:Nat} {o:ZE}
theorem QzN {op n p:Int} {nm:ZE} {l:List Ex} (he:(Ex.mk op n nm l p).prp) (hE:∀ e∈l,PrK 73 [e.v] (prE e)):PrK 73 [(Ex.mk op n nm l p).v] (prE (.mk op n nm l p)):=by
 intro H j q o v hp hL;have hj:=hp.lj; have hq:=hp.lq;unfold Ex.prp at he;obtain⟨hs,_,hN,_⟩:=he;refine Qbd hm Tryz.func73 c73 (by simp[rp]) λhcl => ?_;have hG:∀ f∈prF l,QaF f.2:=QgU l;rw[prE]at hL ⊢;by_cases hf:20000<o.length
 . simp only[hf,Zs]at hL ⊢;simp -implicitDefEqProofs[i73,r73,Ex.v,Ex.c];refine Qc (Qtb hp o v _) ?_;simp -implicitDefEqProofs[hf];exact QdS hp hcl (by simp) _ rfl
 simp only[hf,Zu]at hL ⊢;simp -implicitDefEqProofs[i73,r73,Ex.v,Ex.c];refine Qc (Qtb hp o v _) ?_;simp -implicitDefEqProofs[hf];refine Qc (QsB op) ?_;by_cases h1:op=1
 . subst h1;simp only[Zs,Vj]at hL ⊢;simp -implicitDefEqProofs;refine Qc (hN rfl _) ?_;simp -implicitDefEqProofs;refine Qc (QbW hp o v (k:=1) (l:=[QbT n]) rfl rfl (by simp) (by simpa using hL)) ?_;simp -implicitDefEqProofs;exact QdS hp hcl (by simp) _ rfl
 by_cases h2:op=2
 . subst h2;simp only[Zs]at hL ⊢;simp -implicitDefEqProofs;refine Qc (QbW hp o v (k:=1) (l:=[nm]) rfl rfl (by simp) (by simpa using hL)) ?_;simp -implicitDefEqProofs;exact QdS hp hcl (by simp) _ rfl
 have hlen:0<(Qan op).2/\(l.length:Int)=(Qan op).2:=by
  simp only[QdY,h1,h2,Zu,Va,Zq]at hs;exact hs.1.1
 simp only[h1,h2,Zu]at hL ⊢;simp -implicitDefEqProofs[h1,h2];refine Qc (Qs5 op) ?_;by_cases h3:Qen op=true
 . simp only[h3,Zs]at hL ⊢;have hg:=Qhq (prF l) true hG (o++(Qan op).1++[40]);simp at hL hg;have hl3:l.length<=3:=by
    have:op=18\/op=19\/op=20:=by simp only[Qen,V4,Zq]at h3; omega
    rcases this with rfl|rfl|rfl<;>simp[Qan]at hlen<;>omega
   generalize hsg:(Qan op).1=s at *;simp -implicitDefEqProofs;refine Qc (QbW hp o v (k:=1) (l:=[s,[40]]) rfl rfl (by simp) (by simp; omega)) ?_;simp -implicitDefEqProofs;have k109:=λo v L h=>(QoR (by omega) hE).at hp o v L h;simp only[exS]at k109;refine Q5 (k109 (o++(s++[40])) (v+2) _ (by omega)) ?_;rintro out H' ⟨rfl,v',rfl⟩;simp -implicitDefEqProofs;refine Qc (QbW hp _ v' (k:=2) (l:=[[41]]) rfl rfl (by simp) (by simp; omega)) ?_;simp -implicitDefEqProofs;exact QdS hp hcl (by simp) _ rfl
 rw[Vk]at h3;simp only[h3,Vw,Zu]at hL ⊢;by_cases h4:(Qan op).2=1
 . simp only[h4,Zs]at hL ⊢;have hl1:l.length=1:=by omega
   obtain⟨a,rfl⟩:=List.length_eq_one_iff.1 hl1;have k133:=λo v L h=>(Qmg (hE a (by simp))).at hp o v L h;have hv:a.v=.agg a.c:=by cases a; rfl
   simp only[hv]at k133;have hgo:=QjI (x:=(a.opE,prE a)) (Qd9 a) (o++(Qan op).1++[32]);have hnth:∀ o,QeW (prF [a]) 0 o=Qdk (a.opE,prE a) o:=λo=>rfl;rw[hnth]at hL ⊢;have hg:List.take 5 (Ex.cL [a])=a.c:=by have:=Qe9 (l:=[a]) (i:=0) (by simp); simpa using this
   have hcl5:(Ex.cL [a]).length=5:=Qfg [a];generalize hsg:(Qan op).1=s at *;simp at hgo hL;simp -implicitDefEqProofs;refine Qc (QbW hp o v (k:=1) (l:=[s,[32]]) rfl rfl (by simp) (by simp; omega)) ?_;simp -implicitDefEqProofs[hg,hcl5];refine Q5 (k133 (o++(s++[32])) (v+2) _ (by omega)) ?_;rintro out H' ⟨rfl,v',rfl⟩;simp -implicitDefEqProofs;exact QdS hp hcl (by simp) _ rfl
 . simp only[h4,Zu]at hL ⊢;have hl2:l.length=2:=by
    have hop:op≠18/\op≠19/\op≠20:=by simpa[Qen,and_assoc]using h3
    have:(Qan op).2=1\/(Qan op).2=2\/(Qan op).2=0:=by
     unfold Qan;repeat' split
     all_goals simp_all
    omega
   obtain⟨a,b,rfl⟩:∃ a b,l=[a,b]:=by
    match l,hl2 with
    |[a,b],_=>exact⟨a,b,rfl⟩
   have ka:=λo v L h=>(Qmg (hE a (by simp))).at hp o v L h;have kb:=λo v L h=>(Qmg (hE b (by simp))).at hp o v L h;have hva:a.v=.agg a.c:=by cases a; rfl
   have hvb:b.v=.agg b.c:=by cases b; rfl
   simp only[hva]at ka;simp only[hvb]at kb;have hna:∀ o,QeW (prF [a,b]) 0 o=Qdk (a.opE,prE a) o:=λo=>rfl;have hnb:∀ o,QeW (prF [a,b]) 1 o=Qdk (b.opE,prE b) o:=λo=>rfl;rw[hna,hnb]at hL ⊢;have hga:=QjI (x:=(a.opE,prE a)) (Qd9 a) o;have hgb:=QjI (x:=(b.opE,prE b)) (Qd9 b) (Qdk (a.opE,prE a) o++[32]++(Qan op).1++[32]);have hg:List.take 5 (Ex.cL [a,b])=a.c:=by have:=Qe9 (l:=[a,b]) (i:=0) (by simp); simpa using this
   have hg2:List.take 5 (List.drop 5 (Ex.cL [a,b]))=b.c:=by have:=Qe9 (l:=[a,b]) (i:=1) (by simp); simpa using this
   have hcl5:(Ex.cL [a,b]).length=10:=Qfg [a,b];generalize hsg:(Qan op).1=s at *;simp at hgb hL;simp -implicitDefEqProofs[h4,hg,hcl5];refine Q5 (ka o v _ (by omega)) ?_;rintro out H' ⟨rfl,v',rfl⟩;generalize Qdk (a.opE,prE a) o=o1 at *;simp -implicitDefEqProofs;refine Qc (QbW hp o1 v' (k:=1) (l:=[[32],s,[32]]) rfl rfl (by simp) (by simp; omega)) ?_;simp -implicitDefEqProofs[hg2,hcl5];refine Q5 (kb (o1++32::(s++[32])) (v'+3) _ (by omega)) ?_;rintro out H' ⟨rfl,v'',rfl⟩;simp -implicitDefEqProofs;exact QdS hp hcl (by simp) _ rfl
mutual
theorem QnY:∀ (e:Ex),e.prp->PrK 73 [e.v] (prE e)
 |.mk op n nm l p,he=>QzN he (Qqt l (by unfold Ex.prp at he; exact he.2.2.2))
theorem Qqt:∀ (l:List Ex),Ex.prpL l->∀ e∈l,PrK 73 [e.v] (prE e)
 |[],_,_,h=>by cases h
 |e::r,hl,x,hx=>by
  unfold Ex.prpL at hl;by_cases hh:x=e
  . rw[hh]; exact QnY e hl.1
  . exact Qqt r hl.2 x (by simpa[hh]using hx)
end
end
def Qdj:IC:=.keep [3,4]
 (.seq
  (.seq
   (.reg [
     ⟨(some 11),none,.p (.mov (.t 3))⟩,
     ⟨(some 12),none,.p (.len (.t 11))⟩,
     ⟨(some 13),none,.p (.bin .gtr (.i .i64) (.t 12) (.c (i64 0)))⟩])
   (.cond (.t 13)
    .skip
    (.exit 0)))
  (.blk 1
   (.seq
    (.reg [
      ⟨(some 14),none,.p (.mov (.t 3))⟩,
      ⟨(some 15),none,.p (.mov (.t 3))⟩,
      ⟨(some 16),none,.p (.len (.t 15))⟩,
      ⟨(some 17),none,.p (.bin .sub (.i .i64) (.t 16) (.c (i64 1)))⟩,
      ⟨(some 18),none,.p (.ia 1 (.t 14) (.t 17))⟩,
      ⟨(some 19),none,.p (.ld1 (.t 18))⟩,
      ⟨(some 5),none,.p (.mov (.t 19))⟩])
    (.seq
     (.reg [
       ⟨(some 20),none,.p (.mov (.t 3))⟩,
       ⟨(some 21),none,.p (.mov (.t 3))⟩,
       ⟨(some 22),none,.p (.len (.t 21))⟩,
       ⟨(some 23),none,.p (.bin .sub (.i .i64) (.t 22) (.c (i64 1)))⟩,
       ⟨(some 24),none,.p (.sl 1 (.t 20) none (some (.t 23)))⟩,
       ⟨(some 3),none,.p (.mov (.t 24))⟩])
     (.seq
      (.seq
       (.reg [
         ⟨(some 25),none,.p (.mov (.t 5))⟩,
         ⟨(some 26),none,.p (.lnv (.t 25))⟩,
         ⟨(some 27),none,.p (.bin .eql (.i .i64) (.t 26) (.c (i64 0)))⟩,
         ⟨(some 28),none,.p (.mov (.t 27))⟩,
         ⟨(some 29),(some (28,false)),.p (.mov (.t 4))⟩,
         ⟨(some 30),(some (28,false)),.p (.mov (.t 5))⟩,
         ⟨(some 31),(some (28,false)),.p (.iav 5 (.t 30) (.c (i64 0)))⟩,
         ⟨(some 32),(some (28,false)),.p (.lkp (.p 25) false (i64 0) (.t 29) (.t 31))⟩,
         ⟨(some 33),(some (28,false)),.p (.mov (.t 5))⟩,
         ⟨(some 34),(some (28,false)),.p (.lnv (.t 33))⟩,
         ⟨(some 35),(some (28,false)),.p (.bin .geq (.i .i64) (.t 32) (.t 34))⟩,
         ⟨(some 36),none,.p (.pick (.t 28) (.c (bl true)) (.t 35))⟩])
       (.cond (.t 36)
        (.exit 1)
        .skip))
      (.seq
       (.reg [
         ⟨(some 37),none,.p (.mov (.t 4))⟩,
         ⟨(some 38),none,.p (.mov (.t 5))⟩,
         ⟨(some 39),none,.p (.iav 5 (.t 38) (.c (i64 0)))⟩,
         ⟨(some 40),none,.p (.mov (.t 5))⟩,
         ⟨(some 41),none,.p (.lnv (.t 40))⟩,
         ⟨none,none,.e (.mup (.p 25) (.t 37) (.t 39) (.t 41))⟩])
       (.seq
        (.reg [
          ⟨(some 42),none,.p (.mov (.t 5))⟩,
          ⟨(some 43),none,.p (.lnv (.t 42))⟩,
          ⟨(some 44),none,.p (.mov (.c (i64 0)))⟩])
        (.blk 2
         (.loop QkF)))))))))
def i72m:IC :=
 (.seq
  (.reg [
    ⟨(some 2),none,.p (.mov (.c (bl false)))⟩])
  (.seq
   (.reg [
     ⟨(some 8),none,.p (.mov (.t 0))⟩,
     ⟨(some 9),none,.e (.bsl 23 1 1 [.val (.slice none 0 0)] [(0,(.t 8))])⟩,
     ⟨(some 3),none,.p (.mov (.t 9))⟩])
   (.seq
    (.reg [
      ⟨(some 10),none,.e (.mkm 163)⟩,
      ⟨(some 4),none,.p (.mov (.t 10))⟩])
    (.seq
     (.blk 0
      (.loop Qdj))
     (.seq
      (.reg [
        ⟨(some 2),none,.p (.mov (.c (bl true)))⟩])
      .ret)))))
theorem c72m:QdG Tryz.prog Qf Tryz.f72 i72m r72=true:=by kernel_rfl
section
variable {P:ZL}
theorem _root_.Go.Ab.Ok.kn (G:Qv) {f:ZN} {args:ZH} {H H':ZG} {out:Out} (h : @Ok _ _ knNone P f args H out H') : @Ok _ _ G P f args H out H':=by
 refine⟨h.1,λS vs hH hS hv=>(h.2 S vs hH (Sim.to G knNone hS (λq hq=>by cases hq)) hv).mono ?_⟩;rintro e w ⟨v,ρ',h1,h2,h3⟩;exact⟨v,ρ',h1,Sim.to knNone G h2 (@St.KF.ext _ _ G _ _ _ (@Sim.kf _ _ G _ hS) h1),h3⟩
end
section
variable [G0:Qv]
theorem LI.learn0 {P:ZL} {N:Nat} {D:Array Oper->List Nat->List Ins->Bool} {i:IC} {env:Env} {H:ZG} {K:ZF} (j p:Nat) {o:AO} {cells:ZH} {len:Nat}
 (ho:H[j]? = some o) (hl:o.live=true) (hp:o.cells[p]? = some (.slc cells len))
 (h:∀ (a:ZJ) (cap:Nat),LI P N D i env (H.set j ⟨o.cells.set p (.val (.slice a len cap)),o.ty,o.ver,true⟩) K) :
 LI P N D i env H K:=by
 intro c hc db S a hH hS he hN hd;subst hH;have h1:=hS.live j o ho hl
 cases hρ:S.ρ j with
 |none=>rw[hρ]at h1; rw[h1]at hp; simp at hp
 |some b =>
  rw[hρ]at h1;obtain⟨us,rest,h2,h3⟩:=h1;obtain⟨u,hu1,hu2⟩:=h3.get hp;obtain⟨ad,cap,rfl⟩:∃ ad cap,u=.slice ad len cap:=by
   cases hu2 with
   |nilslc=>exact⟨none,0,rfl⟩
   |slc cells len a cap us hc hl hi h=>exact⟨some a,cap,rfl⟩
  have hS':Sim ⟨S.ρ,S.H.set j ⟨o.cells.set p (.val (.slice ad len cap)),o.ty,o.ver,true⟩,S.w⟩:=by
   refine Qoi hS ho hl ?_ ?_
   . intro s hs;rcases Y2 hs with hs|rfl
     . exact(hS.bel j o ho s hs).2 hl
     . rfl
   . intro us' hl' hv';have e:us'.length=us.length:=hv'.1.trans h3.1.symm;have:us'=us:=by
      unfold St.lies at hl';rw[hρ]at hl';obtain⟨rest',h4⟩:=hl';rw[h2]at h4;have h5:us++rest=us'++rest':=by simpa using h4
      exact(List.append_inj h5 e.symm).1.symm
     subst this;refine⟨us'.length,?_⟩;rw[VI];refine⟨by simpa using h3.1,λk s v hs hv => ?_⟩;by_cases hk:k=p
     . subst hk;rw[hu1]at hv; cases hv
       rw[Vo (Ql hp)]at hs; cases hs
       exact .val _
     . rw[Vf (by omega)]at hs;exact h3.2 k s v hs hv
  have hx:=QgJ ho hl (o.cells.set p (.val (.slice ad len cap)));have hd':=hd.ext hS hx;refine QjB (h ad cap c hc db ⟨S.ρ,S.H.set j ⟨o.cells.set p (.val (.slice ad len cap)),o.ty,o.ver,true⟩,S.w⟩ a rfl hS' (he.ext hx) hN hd') λe a' w hp => ?_;obtain⟨x,env',ρ,H',k1,k2,k3,k4,k5,k6,k7⟩:=hp;exact⟨x,env',ρ,H',k1,hx.trans (k2.mono (hx.len (Vb _))),k3,k4,k5,k6,k7⟩
theorem Qaw.knownE {env:Env} {H:ZG} {k:Nat} {a:Addr} {len cap:Nat} (hg:env.get k=.val (.slice (some a) len cap)) {cells:ZH} (hk:(SV.slc cells len,Value.slice (some a) len cap)∈Qv.kn) :
 Qaw env H ((k,.slc cells len)::env) H:=by
 intro S tmps hH hS he;subst hH;refine⟨S.ρ,Ext.refl _ _,hS,⟨λt => ?_⟩⟩;simp only[Env.get];by_cases ht:k=t
 . subst ht;have:=he.get k;rw[hg]at this;rw[Zo rfl];generalize tmps.getD k undef=u at this
   cases this
   exact(hS.kf _ hk).2
 . rw[Zn ht]; exact he.get t
end
theorem QlN {k:Value}:∀ {ks:ZI} {x:Value},x∈Qac k ks->x∈ks\/x=k
 |[],x,h=>by simp[Qac]at h; exact .inr h
 |y::ks,x,h=>by
  rw[Qac]at h;split at h
  . exact .inl h
  . rcases Vd.1 h with rfl|h
    . exact .inl (.head _)
    . rcases QlN h with h|h
      . exact .inl (.tail _ h)
      . exact .inr h
theorem QmQ {k:Value} {v:SV}:∀ {ks:ZI} {vs:ZH} {x:SV},x∈Qaa k v ks vs->x∈vs\/x=v
 |[],vs,x,h=>by simp[Qaa]at h; exact .inr h
 |_::_,[],x,h=>by simp[Qaa]at h; exact .inr h
 |a::ks,b::vs,x,h=>by
  rw[Qaa]at h;split at h
  . rcases Vd.1 h with rfl|h
    . exact .inr rfl
    . exact .inl (.tail _ h)
  . rcases Vd.1 h with rfl|h
    . exact .inl (.head _)
    . rcases QmQ h with h|h
      . exact .inl (.tail _ h)
      . exact .inr h
theorem QmC {k:Value} {v:SV}:∀ {ks:ZI} {vs:ZH},ks.length=vs.length->(Qac k ks).length=(Qaa k v ks vs).length
 |[],[],_=>rfl
 |a::ks,b::vs,h=>by
  rw[Qac,Qaa];split
  . simpa using h
  . have:=QmC (k:=k) (v:=v) (ks:=ks) (vs:=vs) (by simpa using h);simp[this]
theorem Qm2 {k:Value}:∀ {ks:ZI} {vs:ZH} {x:SV},lkm k ks vs=some x->x∈vs
 |[],_,_,h=>by simp[lkm]at h
 |_::_,[],_,h=>by simp[lkm]at h
 |a::ks,b::vs,x,h=>by
  rw[lkm]at h;split at h
  . cases h; exact .head _
  . exact .tail _ (Qm2 h)
mutual
def Qcz:Ex->Nat
 |.mk _ _ _ l _=>Qau l
def Qau:List Ex->Nat
 |[]=>1
 |e::r=>Qcz e+Qau r
end
def Ex.lsE:Ex->List Ex
 |.mk _ _ _ l _=>l
def QcK (td:List (List Ex)):Nat:=(td.map Qau).sum
theorem Qhv:∀ l:List Ex,1<=Qau l
 |[]=>by simp[Qau]
 |e::r=>by rw[Qau]; have:=Qhv r; omega
theorem QtJ:∀ l:List Ex,Qau l=1+QcK (l.map Ex.lsE)
 |[]=>rfl
 |e::r=>by
  obtain⟨a,b,c,d,f⟩:=e;rw[Qau,QtJ r,Qcz];simp only[QcK,Vg,VO,Ex.lsE];omega
theorem Qop (a b:List (List Ex)):QcK (a++b)=QcK a+QcK b:=by simp[QcK]
theorem QqU:∀ td:List (List Ex),td.length<=QcK td
 |[]=>Vb _
 |l::r=>by
  have h1:=Qhv l;have h2:=QqU r;simp only[QcK,Vg,VO,Vh]at h2 ⊢;omega
def exR (td:List (List Ex)):ZH:=td.map exS
@[simp] theorem Qmx (td:List (List Ex)):(exR td).length=td.length:=by simp[exR]
abbrev TS (td:List (List Ex)) (kp:ZI) (vp:ZH) (vt:Nat) (G:ZG):ZG:=⟨exR td,23,vt,true⟩::⟨.mk kp::vp,163,0,false⟩::G
structure TE (n:Nat) (td:List (List Ex)) (vt:Nat) (env:Env):Prop where
 s3:env.get 3=.own n 0 td.length 1 vt
 s4:env.get 4=.mp (n+1) 0
theorem Qly (i v:Nat):(SV.mp i v).ug=SV.mp i v:=rfl
theorem mo1 (H:ZG) (a:AO) (ks:ZI) (vs:ZH) (T:ZK) (G:ZG):SV.mapOf (H++a::⟨.mk ks::vs,T,0,false⟩::G) (.mp (H.length+1) 0)=some (ks,vs):=by
 simp[SV.mapOf]
section
variable [Qv] {H:ZG} {kp:ZI} {vp:ZH} {N:Nat} {K:ZF}
theorem QuD {vt:Nat} {G:ZG} {env:Env} (he:TE H.length [] vt env) (h:∀ env G,K (.exit 0) env (H++G)) :
 LI Tryz.prog N Qf Qdj env (H++TS [] kp vp vt G) K:=by
 obtain⟨h3,h4⟩:=he;refine Qu hm Qdj.eq_1 ?_;simp[h3,h4];exact h _ _
theorem QxX {rest:List (List Ex)} {vt:Nat} {G:ZG} {env:Env} (hr:rest.length<2000000000) (he:TE H.length (rest++[[]]) vt env)
 (h:∀ G env,TE H.length rest vt env->LI Tryz.prog N Qf Qdj env (H++TS rest kp vp vt G) K) :
 LI Tryz.prog N Qf Qdj env (H++TS (rest++[[]]) kp vp vt G) K:=by
 obtain⟨h3,h4⟩:=he;have hl:(rest++[([]:List Ex)]).length=rest.length+1:=by simp
 rw[hl]at h3;have hcell:exR (rest++[[]])=exR rest++[.slc [] 0]:=by simp[exR,exS,Ex.cL]
 refine LI.learn0 H.length rest.length (o:=⟨exR (rest++[[]]),23,vt,true⟩) (cells:=[]) (len:=0) (by simp) rfl (by rw[hcell]; simp[exR]) λoa cap => ?_;have hset:(exR (rest++[[]])).set rest.length (.val (.slice oa 0 cap))=exR rest++[.val (.slice oa 0 cap)]:=by
  rw[hcell,Yf _ _ (by simp)]; simp
 refine LI.cong (H':=H++⟨exR rest++[.val (.slice oa 0 cap)],23,vt,true⟩::⟨.mk kp::vp,163,0,false⟩::G) (by rw[<-hset]; simp) ?_;have hcl:=Qmx rest;have htk:List.take rest.length (exR rest++[SV.val (.slice oa 0 cap)])=exR rest:=VN hcl;have hcc:(exR rest++[SV.val (.slice oa 0 cap)]).length=rest.length+1:=by simp
 have hgd:(List.drop rest.length (exR rest++[SV.val (.slice oa 0 cap)]))=[.val (.slice oa 0 cap)]:=Y6 hcl;have w1:IntKind.i64.wrap (rest.length:Int)=(rest.length:Int):=Qfn (by omega);refine Qu hm Qdj.eq_1 ?_;generalize exR rest++[SV.val (.slice oa 0 cap)]=cc at *;simp[h3,h4,w1,hgd];refine⟨by omega,LI.tell (Qaw.trunc (j:=H.length) (o:=⟨cc,23,vt,true⟩) (by simp) rfl rest.length) (LI.cong (H':=H++TS rest kp vp vt G) (by simp[htk]) (h G _ ⟨by simp,by simp⟩))⟩
theorem Qxw {l:List Ex} (hl3:l.length<=100) (hok:∀ e∈l,e.prp) {rest:List (List Ex)} (hr:rest.length+200<2000000000)
 (h:∀ vt G env,TE H.length (rest++l.map Ex.lsE) vt env->K (.exit 2) env (H++TS (rest++l.map Ex.lsE) kp vp vt G)) :
 ∀ (m i vt:Nat) (G:ZG) (env:Env),i+m=l.length->TE H.length (rest++(l.take i).map Ex.lsE) vt env->env.get 42=exS l->env.get 43=i64 l.length->env.get 44=i64 i ->
  LI Tryz.prog N Qf QkF env (H++TS (rest++(l.take i).map Ex.lsE) kp vp vt G) K:=by
 intro m
 induction m with
 |zero =>
  intro i vt G env hi he h42 h43 h44;obtain⟨h3,h4⟩:=he;refine Qu hm QkF.eq_1 ?_;have e:i=l.length:=by omega
  subst e;rw[VI]at *;simp[h3,h4,h42,h43,h44];exact h vt G _ ⟨by simp,by simp⟩
 |succ m ih =>
  intro i vt G env hi he h42 h43 h44;obtain⟨h3,h4⟩:=he;refine Qu hm QkF.eq_1 ?_;have hlt:i<l.length:=by omega
  have hlt':(i:Int)<l.length:=by omega
  have hg:=Qe9 hlt;have hcl':=Qfg l;have hoke:=hok _ (Vt hlt);have htk:rest++(l.take (i+1)).map Ex.lsE=(rest++(l.take i).map Ex.lsE)++[l[i].lsE]:=by
   rw[<-Y5 hlt,Yn,VC]; rfl
  have ih:=ih (i+1);rw[htk]at ih;have hrl:(rest++(l.take i).map Ex.lsE).length<2000000000:=by simp; omega
  generalize rest++(l.take i).map Ex.lsE=td at *;generalize l[i]=e at *;obtain⟨op,n,nm,le,p⟩:=e;unfold Ex.prp at hoke;have h130:=λH=>Ok.kn inferInstance (QvO (H:=H) (e:=.mk op n nm le p) hoke.1 hoke.2.1);have hex:=Qmx td;simp[h3,h4,h42,h43,h44,exS,hlt',hg,hcl',Ex.c];refine⟨by omega,Qc (h130 _) ?_⟩;simp[h3,h4,h42,h43,h44,exS];refine⟨by omega,by omega,LI.cong ?_ (ih (vt+1) (G++[⟨[i64 op,i64 n,st (B nm),.slc (Ex.cL le) le.length,i64 p],25,0,true⟩,⟨[.slc (Ex.cL le) le.length],23,0,true⟩]) _ (by omega) ⟨?_,?_⟩ ?_ ?_ ?_)⟩
  . simp[exR,Ex.lsE,exS]
  . simp
  . simp
  . simp[exS]
  . simp
  . simp[QaJ (show i<9223372036854775807 by omega)]
theorem Qyb {l:List Ex} {rest:List (List Ex)} {a:Addr} {cap vt:Nat} {G:ZG} {env:Env} (hk:(exS l,Value.slice (some a) l.length cap)∈Qv.kn) (hl0:l≠[]) (hl3:l.length<=100) (hok:∀ e∈l,e.prp) (hr:rest.length+200<2000000000)
 (hkl:kp.length=vp.length) (hkn:∀ v∈kp,Qdn v) (hvp:∀ x∈vp,∃ n,x=i64 n) (he:TE H.length (rest++[l]) vt env)
 (hskip:∀ G env,TE H.length rest vt env->LI Tryz.prog N Qf Qdj env (H++TS rest kp vp vt G) K)
 (h:∀ kp' vp' vt G env,kp'.length=vp'.length->(∀ v∈kp',Qdn v)->(∀ x∈vp',∃ n,x=i64 n)->TE H.length (rest++l.map Ex.lsE) vt env->LI Tryz.prog N Qf Qdj env (H++TS (rest++l.map Ex.lsE) kp' vp' vt G) K) :
 LI Tryz.prog N Qf Qdj env (H++⟨exR rest++[.val (.slice (some a) l.length cap)],23,vt,true⟩::⟨.mk kp::vp,163,0,false⟩::G) K:=by
 obtain⟨h3,h4⟩:=he;have hl:(rest++[l]).length=rest.length+1:=by simp
 rw[hl]at h3;have hknow:Qdn (.pointer (some a)):=by
  refine⟨rfl,a,Ex.cL l,l.length,cap,rfl,hk,?_⟩
  cases l with
  |nil=>exact absurd rfl hl0
  |cons x r =>
   obtain⟨op,n,nm,l,p⟩:=x;exact⟨B nm,by rw[Ex.cL,Ex.c]; exact Yu _ (.tail _ (.tail _ (.head _)))⟩
 have hkall:∀ v∈Value.pointer (some a)::kp,(KK.p 25).knows v:=by
  intro v hv;rcases Vd.1 hv with rfl|hv
  . exact hknow
  . exact hkn v hv
 have hkis:∀ v∈kp,(KK.p 25).is v=true:=by
  intro v hv;obtain⟨_,b,_,_,_,rfl,_⟩:=hkn v hv;rfl
 have hl0':¬ (l.length:Int)=0:=by
  cases l with
  |nil=>exact absurd rfl hl0
  |cons x r=>simp; omega
 have hl00:¬ l.length=0:=by omega
 have hpos:0<l.length:=by omega
 have hcl:=Qmx rest;have htk:List.take rest.length (exR rest++[SV.val (.slice (some a) l.length cap)])=exR rest:=VN hcl;have hcc:(exR rest++[SV.val (.slice (some a) l.length cap)]).length=rest.length+1:=by simp
 have hgd:(List.drop rest.length (exR rest++[SV.val (.slice (some a) l.length cap)]))=[.val (.slice (some a) l.length cap)]:=Y6 hcl;have w1:IntKind.i64.wrap (rest.length:Int)=(rest.length:Int):=Qfn (by omega);refine Qu hm Qdj.eq_1 ?_;generalize exR rest++[SV.val (.slice (some a) l.length cap)]=cc at *;obtain⟨n,hn⟩:∃ n,(lkm (Value.pointer (some a)) kp vp).getD (i64 0)=i64 n:=by
  cases hlk:lkm (Value.pointer (some a)) kp vp with
  |none=>exact⟨0,rfl⟩
  |some x=>obtain⟨n,rfl⟩:=hvp x (Qm2 hlk); exact⟨n,rfl⟩
 have hal:((kp,vp):ZI×ZH).1.all (KK.p 25).is=true:=Vn.2 hkis;have add0:a.add 0=a:=Zo rfl;by_cases hmet:(l.length:Int)<=n
 . simp[h3,h4,w1,hgd,hl00,hpos,mo1,Qly,add0,hn,hmet,SV.isK,SV.key,SV.isP,SV.pval];refine⟨by omega,⟨rfl,hkis,hkall _ (.head _),λv hv=>hkall v (.tail _ hv)⟩,LI.tell (Qaw.trunc (j:=H.length) (o:=⟨cc,23,vt,true⟩) (by simp) rfl rest.length) (LI.cong (H':=H++TS rest kp vp vt G) (by simp[htk]) (hskip G _ ⟨by simp,by simp⟩))⟩
 . simp[h3,h4,w1,hgd,hl00,hpos,mo1,Qly,add0,hn,hmet,SV.isK,SV.key,SV.isP,SV.pval];refine⟨by omega,⟨rfl,hkis,hkall _ (.head _),λv hv=>hkall v (.tail _ hv)⟩,?_⟩;refine QbX (x:=(kp,vp)) (mo1 ..) rfl rfl hal ?_ (by simpa[SV.key,SV.pval]using hkall);simp[SV.key,SV.pval];refine LI.tell (Qaw.knownE (k:=42) (by simp) hk) ?_;refine LI.tell (Qaw.trunc (j:=H.length) (o:=⟨cc,23,vt,true⟩) (by simp) rfl rest.length) ?_;have hkl':=QmC (k:=Value.pointer (some a)) (v:=i64 l.length) hkl;have hkn':∀ v∈Qac (Value.pointer (some a)) kp,Qdn v:=λv hv=>by
    rcases QlN hv with hv|rfl
    . exact hkn v hv
    . exact hknow
   have hvp':∀ x∈Qaa (Value.pointer (some a)) (i64 l.length) kp vp,∃ n,x=i64 n:=λx hx=>by
    rcases QmQ hx with hx|rfl
    . exact hvp x hx
    . exact⟨_,rfl⟩
   refine LI.cong (H':=H++TS (rest++(l.take 0).map Ex.lsE) (Qac (Value.pointer (some a)) kp) (Qaa (Value.pointer (some a)) (i64 l.length) kp vp) vt G) (by simp[htk]) ?_;refine Qxw hl3 hok hr (λvt G env he => ?_) l.length 0 vt G _ (by omega) ⟨?_,?_⟩ ?_ ?_ ?_
   . simp;exact h _ _ vt G env hkl' hkn' hvp' he
   all_goals simp[exS,h4]
theorem Qzj {l:List Ex} {rest:List (List Ex)} {vt:Nat} {G:ZG} {env:Env} (hl0:l≠[]) (hl3:l.length<=100) (hok:∀ e∈l,e.prp) (hr:rest.length+200<2000000000)
 (hkl:kp.length=vp.length) (hkn:∀ v∈kp,Qdn v) (hvp:∀ x∈vp,∃ n,x=i64 n) (he:TE H.length (rest++[l]) vt env)
 (h:∀ (kn:Qv) td kp' vp' vt G env,(td=rest\/td=rest++l.map Ex.lsE)->kp'.length=vp'.length->(∀ v∈kp',@Qdn _ kn v)->(∀ x∈vp',∃ n,x=i64 n)->TE H.length td vt env -> @LI _ _ kn Tryz.prog N Qf Qdj env (H++TS td kp' vp' vt G) K) :
 LI Tryz.prog N Qf Qdj env (H++TS (rest++[l]) kp vp vt G) K:=by
 have hne:Ex.cL l≠[]:=by
  cases l with
  |nil=>exact absurd rfl hl0
  |cons x r=>obtain⟨a,b,c,d,e⟩:=x; simp[Ex.cL,Ex.c]
 have hcell:exR (rest++[l])=exR rest++[.slc (Ex.cL l) l.length]:=by simp[exR,exS]
 refine LI.learn H.length rest.length (o:=⟨exR (rest++[l]),23,vt,true⟩) (cells:=Ex.cL l) (len:=l.length) (by simp) rfl (by rw[hcell,Vl (by simp)]; simp) hne (Ex.undL 0 l) λa cap => ?_;have hset:(exR (rest++[l])).set rest.length (.val (.slice (some a) l.length cap))=exR rest++[.val (.slice (some a) l.length cap)]:=by
  rw[hcell,Yf _ _ (by simp)]; simp
 have hkn':∀ v∈kp,@Qdn _ ⟨(.slc (Ex.cL l) l.length,.slice (some a) l.length cap)::Qv.kn⟩ v:=λv hv=>by
  obtain⟨hf,a,cells,len,cap,h1,h2,h3⟩:=hkn v hv;exact⟨hf,a,cells,len,cap,h1,VL _ h2,h3⟩
 refine @LI.cong _ _ ⟨(.slc (Ex.cL l) l.length,.slice (some a) l.length cap)::Qv.kn⟩ _ _ _ _ _ _ _ _ ?_ (@Qyb ⟨(.slc (Ex.cL l) l.length,.slice (some a) l.length cap)::Qv.kn⟩ H kp vp N K l rest a cap vt G env (YB ..) hl0 hl3 hok hr hkl hkn' hvp he
  (λG env he=>h _ _ _ _ _ G env (.inl rfl) hkl hkn' hvp he) (λkp' vp' vt G env h1 h2 h3 he=>h _ _ _ _ _ G env (.inr rfl) h1 h2 h3 he))
 rw[<-hset]; simp
end
theorem QlZ:∀ {e:Ex},e.prp->e.lsE.length<=3/\∀ x∈e.lsE,x.prp
 |.mk op n nm l p,h=>by
  unfold Ex.prp at h;refine⟨?_,Qic.1 h.2.2.2⟩;have hs:=h.1;simp only[QdY]at hs;show l.length<=3;split at hs
  . simp only[Va,Zq]at hs; rw[hs.1.2]; simp
  . split at hs
    . simp only[Va,Zq]at hs; rw[hs.1.2]; simp
    . simp only[Va,Zq]at hs;have h3:(Qan op).2<=3:=by
       unfold Qan;repeat' split
       all_goals simp
      have:=hs.1.1.2;omega
section
variable {H:ZG} {N:Nat} {K:ZF}
theorem QAX (hK:∀ env G,K (.exit 0) env (H++G)):∀ (M:Nat),M<1000000000->∀ (kn:Qv) (td:List (List Ex)) (kp:ZI) (vp:ZH) (vt:Nat) (G:ZG) (env:Env),QcK td<=M->(∀ l∈td,l.length<=100/\∀ e∈l,e.prp) ->
 kp.length=vp.length->(∀ v∈kp,@Qdn _ kn v)->(∀ x∈vp,∃ n,x=i64 n)->TE H.length td vt env -> @LI _ _ kn Tryz.prog N Qf Qdj env (H++TS td kp vp vt G) K:=by
 intro M
 induction M using Nat.strongRecOn with
 |ind M ih =>
  intro hM kn td kp vp vt G env hc hok hkl hkn hvp he;rcases List.eq_nil_or_concat td with rfl|⟨rest,l,rfl⟩
  . exact QuD he hK
  . rw[List.concat_eq_append]at *;have hrl:=QqU (rest++[l]);simp only[Vj,List.length_singleton]at hrl;rw[Qop]at hc hrl;have hl1:QcK [l]=Qau l:=by simp[QcK]
    rw[hl1]at hc hrl;have hpos:=Qhv l;have hce:=QtJ l;have hrest:∀ l∈rest,l.length<=100/\∀ e∈l,e.prp:=λx hx=>hok x (by simp[hx]);obtain⟨hl3,hle⟩:=hok l (by simp);by_cases hl0:l=[]
    . subst hl0;exact QxX (by omega) he λG env he=>ih (QcK rest) (by omega) (by omega) kn rest kp vp vt G env (Vb _) hrest hkl hkn hvp he
    . refine Qzj hl0 hl3 hle (by omega) hkl hkn hvp he λkn' td kp' vp' vt G env htd h1 h2 h3 he2 => ?_;rcases htd with rfl|rfl
      . exact ih (QcK td) (by omega) (by omega) kn' td kp' vp' vt G env (Vb _) hrest h1 h2 h3 he2
      . refine ih (QcK (rest++l.map Ex.lsE)) (by rw[Qop]; omega) (by rw[Qop]; omega) kn' _ kp' vp' vt G env (Vb _) ?_ h1 h2 h3 he2;intro x hx;rcases Vq.1 hx with hx|hx
        . exact hrest x hx
        . obtain⟨e,he,rfl⟩:=Vx.1 hx;exact⟨Vi (QlZ (hle e he)).1 (by omega),(QlZ (hle e he)).2⟩
theorem ok72 {l:List Ex} (hl:l.length<=100) (hok:∀ e∈l,e.prp) (hc:Qau l<1000000000):Ok Tryz.prog 72 [exS l] H (.ret (bl true)) H:=by
 refine Qz hm Tryz.func72 c72m (by simp[exS]) λhcl => ?_;simp[i72m,r72,exS];refine LI.cong (H':=H++TS [l] [] [] 0 []) (by simp[exR,exS]) ?_;refine QAX (λenv G => ?_) (Qau l) hc _ [l] [] [] 0 [] _ (by simp[QcK]) (by simpa using ⟨hl,hok⟩) rfl (by simp) (by simp) ⟨?_,?_⟩
 . simp;exact Qq 3 hcl rfl (by simp)
 all_goals simp
end
def QeY (e:Ex):ZE×Int :=
 if 20000<(prE e []).length then([],4)else if(QO (prE e [])).2.1≠0 then([],(QO (prE e [])).2.1)else(prE e [],0)
theorem QqI (s:ZE):Qai (B s)=s.map λb=>u8 b.toNat:=by simp[Qai]
theorem QsH:∀ (s:ZE) (acc:ByteArray),(QdT (s.map λb=>u8 b.toNat)).foldl (λr n=>r.push (UInt8.ofNat n.toNat)) acc=⟨acc.data++s.toArray⟩
 |[],acc=>by simp[QdT]
 |b::r,acc=>by
  have h:=QsH r (acc.push b);have e:UInt8.ofNat ((((u8 b.toNat).u8n).getD 0).toNat)=b:=by
   show UInt8.ofNat (Int.toNat (b.toNat:Int))=b;rw[Int.toNat_natCast]; exact UInt8.ofNat_toNat
  rw[Vg,QdT,YD,e,h];congr 1;show acc.data.push b++r.toArray=_;simp
theorem Qpt (s:ZE):Qge (List.take s.length (Qai (B s)))=B s:=by
 rw[VB (by rw[QhQ]; exact Vb _),QqI,Qge,QsH];simp[B,ByteArray.empty,ByteArray.emptyWithCapacity]; rfl
theorem Qot (s:ZE):QgZ (Qai (B s)) s.length=true:=by
 rw[QgZ,VB (by rw[QhQ]; exact Vb _),QhQ,QqI];simp only[Vb,decide_true,Bool.true_and,Vn];intro x hx;obtain⟨b,_,rfl⟩:=Vx.1 hx;rfl
section
variable {H:ZG}
theorem ok28 {e:Ex} (he:e.prp) (hc:Qcz e<1000000000-1) (hL:(prE e []).length<=140737488355328):Ok Tryz.prog 28 [e.v] H (.ret (.tup [st (B (QeY e).1),i64 (QeY e).2])) H:=by
 have hD:=Qb1 (P:=Tryz.prog) hm;have h72:=λH=>(ok72 (H:=H) (l:=[e]) (by simp) (by simpa using he) (by simp[Qau]; omega)).toP;have h73:=QnY e he;have hv:e.v=.agg e.c:=by cases e; rfl
 have hce:Ex.cL [e]=e.c:=by simp[Ex.cL]
 have hc5:=Ex.c_len e;have hcok:QD e.c:=by cases e; intro s hs; simp[Ex.c]at hs; rcases hs with rfl|rfl|rfl|rfl|rfl<;>rfl
 rw[hv]at h73 ⊢;simp only[exS,hce]at h72;have hcc:e.c.take 5=e.c:=by rw[<-hc5,VI]
 have hcu:SV.underL 0 e.c=true:=by have:=Ex.undL 0 [e]; rwa [hce]at this
 refine Qkg hm Tryz.func28 c28 (by simp) λhcl => ?_;generalize e.c=c at *;rw[show i28=.seq (IC.nth 0 i28) (.seq (IC.nth 1 i28) (.seq (IC.nth 2 i28) (IC.tl 3 i28)))from rfl];generalize ht:IC.tl 3 i28=t3;refine WI.seq hD ?_;simp -implicitDefEqProofs[IC.nth,i28];refine⟨hcok,?_⟩;refine WI.seq hD ?_;simp -implicitDefEqProofs[hc5,hcc];refine⟨hcok,Q5 (OkP.give (H.length+1) 1 (o:=⟨c,25,0,true⟩) (by simp) rfl (OkP.cast (by simp[hcc,hc5]) rfl (h72 _))) ?_⟩;rintro out H' ⟨rfl,rfl⟩;simp -implicitDefEqProofs[AO.dead];refine WI.seq hD ?_;simp -implicitDefEqProofs;refine WI.tell (Qaw.own0 (j:=H.length+2) (p:=0) (o:=⟨[.val (.slice none 0 0)],85,0,true⟩) (by simp) rfl rfl 5 1) ?_;simp -implicitDefEqProofs;have hwr:∀ (o:ZE) (v:Nat),wr (H++[⟨c,25,0,true⟩,⟨[],25,1,false⟩,⟨[.own (H.length+3) 0 0 1 0],85,0,true⟩,⟨[],5,0,true⟩]) (H.length+2) (H.length+3) o v =
  H++[⟨c,25,0,true⟩,⟨[],25,1,false⟩,⟨[.own (H.length+3) 0 o.length 1 v],85,0,true⟩,⟨Qai (B o),5,v,true⟩]:=λo v=>by
  unfold wr prO byO;rw[Qh5,Qh5]; rfl
 have hp:PrA (H++[⟨c,25,0,true⟩,⟨[],25,1,false⟩,⟨[.own (H.length+3) 0 0 1 0],85,0,true⟩,⟨[],5,0,true⟩]) (H.length+2) (H.length+3) [] 0:=⟨by simp[prO],by simp[byO]; rfl,by omega⟩;have key:=h73 _ _ _ _ _ hp hL;have hful:=λv=>Qn4 (hp.wr (prE e []) v);rw[hwr]at key;simp only[hwr]at key hful;have hsh:QeY e=if 20000<(prE e []).length then([],4)else if(QO (prE e [])).2.1≠0 then([],(QO (prE e [])).2.1)else(prE e [],0):=rfl;generalize prE e []=s at *;generalize QeY e=sh at *;refine WI.of_X hD ?_;rw[<-ht];simp -implicitDefEqProofs[IC.tl,i28,r28,hc5,hcc];refine Q5 (OkP.cast (by simp[rp]) (by simp; rfl) key) ?_;rintro out H' ⟨rfl,v',rfl⟩;simp -implicitDefEqProofs;refine Qc (hful v') ?_;by_cases h2:20000<s.length
 . rw[Zo h2]at hsh;subst hsh;simp -implicitDefEqProofs[h2];exact Qq 3 hcl rfl (by simp)
 rw[Zn h2]at hsh;have h11:=λH=>Qhg (H:=H) (l:=s) (by omega);have hv':(QO s).1.v=.agg (QO s).1.c:=by cases (QO s).1; rfl
 have hc5':=Ex.c_len (QO s).1;have hcok':QD (QO s).1.c:=by cases (QO s).1; intro s hs; simp[Ex.c]at hs; rcases hs with rfl|rfl|rfl|rfl|rfl<;>rfl
 simp only[hv']at h11;have h11:=λH=>h11 H;generalize (QO s).1.c=c2 at *;generalize (QO s).2.1=er at *;generalize (QO s).2.2=po at *;simp -implicitDefEqProofs[h2,Qot,Qpt];refine Qc (h11 _) ?_;simp -implicitDefEqProofs[QE,hc5'];refine⟨hcok',?_⟩;by_cases h0:er=0
 . rw[Zo h0];rw[Zn (by simpa using h0)]at hsh;subst hsh;exact Qq 3 hcl rfl (by simp; rfl)
 . rw[Zn h0];rw[Zo h0]at hsh;subst hsh;exact Qq 3 hcl rfl (by simp)
end
def tx1:ZE:=[49,32,43,32,50,32,42,32,120]
def ex1:Ex:=.mk 8 0 [] [.mk 1 1 [] [] 0,.mk 5 0 [] [.mk 1 2 [] [] 4,.mk 2 0 [120] [] 8] 6] 2
theorem rd1:QO tx1=(ex1,0,0):=by kernel_rfl
def tx2:ZE:=[97,32,45,32,98,32,45,32,99]
def tw2:ZE:=[40,97,32,45,32,98,41,32,45,32,99]
def ex2:Ex:=.mk 9 0 [] [.mk 9 0 [] [.mk 2 0 [97] [] 0,.mk 2 0 [98] [] 4] 2,.mk 2 0 [99] [] 8] 6
theorem rd2:QO tx2=(ex2,0,0):=by kernel_rfl
theorem pr2:prE ex2 []=tw2:=by kernel_rfl
theorem rw2:(QO tw2).2=(0,0):=by kernel_rfl
theorem sh2:QeY ex2=(tw2,0):=by
 unfold QeY;rw[pr2,rw2]; rfl
theorem pp2:ex2.prp:=by
 have h1:QdY (.mk 2 0 [97] [] 0)=true:=by kernel_rfl
 have h2:QdY (.mk 2 0 [98] [] 4)=true:=by kernel_rfl
 have h3:QdY (.mk 2 0 [99] [] 8)=true:=by kernel_rfl
 simp[ex2,Ex.prp,Ex.prpL,h1,h2,h3];decide
theorem cs2:Qcz ex2<1000000000-1:=by decide
section
variable {H:ZG}
theorem ok17 {tx:ZE} {e:Ex} {s w:ZE} (hl:tx.length<4611686018427387904) (hr:QO tx=(e,0,0)) (he:e.prp) (hc:Qcz e<1000000000-1) (hL:(prE e []).length<=140737488355328) (hs:QeY e=(s,0)) :
 Ok Tryz.prog 17 [st (B tx),st (B w)] H (.ret (bl (decide (s=w)))) H:=by
 have h11:=λH=>Qhg (H:=H) (l:=tx) hl;have h28:=λH=>ok28 (H:=H) he hc hL;rw[hr]at h11;rw[hs]at h28;have hv:e.v=.agg e.c:=by cases e; rfl
 have hc5:=Ex.c_len e;have hcok:QD e.c:=by cases e; intro s hs; simp[Ex.c]at hs; rcases hs with rfl|rfl|rfl|rfl|rfl<;>rfl
 have hcc:e.c.take 5=e.c:=by rw[<-hc5,VI]
 simp only[hv,QE]at h11 h28;generalize e.c=c at *;refine Qz hm Tryz.func17 c17 (by simp) λhcl => ?_;simp[i17,r17];refine Qc (h11 _) ?_;simp[hc5,hcc];refine⟨hcok,?_⟩;refine Qc (h28 _) ?_;simp;exact Qq 3 hcl rfl (by simp)
theorem ok10:Ok Tryz.prog 10 [] H (.ret (bl true)) H:=by
 have hD:=Qb1 (P:=Tryz.prog) hm;have h11:=λH=>Qhg (H:=H) (l:=tx1) (by decide);have h13:=λH=>Qmv ex1 (by simp[ex1,Ex.sm,Ex.smL]) H;have h17:=λH=>ok17 (H:=H) (tx:=tx2) (w:=tw2) (by decide) rd2 pp2 cs2 (by rw[pr2]; decide) sh2;rw[rd1]at h11;simp only[decide_true]at h17;refine Qkg hm Tryz.func10 c10 rfl λhcl => ?_;rw[show i10=.seq (IC.nth 0 i10) (.seq (IC.nth 1 i10) (.seq (IC.nth 2 i10) (IC.tl 3 i10)))from rfl];generalize ht:IC.tl 3 i10=t3;refine WI.seq hD ?_;simp[IC.nth,i10];refine WI.seq hD ?_;simp;refine Qc (h11 _) ?_;simp[ex1,Ex.v,Ex.c,QE];refine WI.seq hD ?_;simp;refine⟨rfl,?_⟩;refine WI.keep [0,1,2,3] ?_;simp;refine WI.tell (Qaw.give hcl 2 2 rfl rfl) ?_;simp[AO.gv,AO.dead];refine WI.tell (Qaw.give hcl 3 2 rfl rfl) ?_;simp[AO.gv,AO.dead];refine WI.of_X hD ?_;rw[<-ht];simp[IC.tl,i10,r10];refine QZ (r:=bl true) (λ_=>(OkP.le ?_ (h13 _).toP).toOk) ?_
 . simp only[ex1,Ex.v,Ex.cL,Ex.c,Vr,VA,VE,List.map,SV.strip,Vh,VH];repeat first
    |exact leL.nil
    |refine leL.cons ?_ ?_
    |exact SV.le.refl _
    |exact QdV
    |refine QlK ?_ _
    |refine Qga ?_
 simp;refine QeF (r:=bl true) (λ_=>h17 _) ?_;simp;exact Qq 3 hcl rfl (by simp)
end
theorem QN {c:Cx} {d:Nat} (s:ZE) {r:Rd} (h:Gd c d r):Gd c d (t2 c s r)/\r.a<=(t2 c s r).a:=Qda s r h
theorem Qhc {c:Cx} {s:ZE} {r:Rd} (h:(t2 c s r).e=0):r.e=0/\(t2 c s r).a=r.a+1:=by
 unfold t2 Qh at *;split at h
 . rename_i hp;rw[Zo hp];exact⟨(QfR hp).1,rfl⟩
 . exfalso;simp only[Qg]at h;split at h
   . exact absurd h (show ¬ (11:Int)=0 by decide)
   . rename_i h2; exact h2 h
theorem QqL {c:Cx} {d:Nat} {orP:Rd->Ex×Rd} (hk:Kp c d orP):∀ (n:Nat) (l:List Ex) (r:Rd),Gd c d r->Gd c d (Qao c orP n l r).2/\r.a<=(Qao c orP n l r).2.a
 |0,l,r,h=>⟨h,Vb _⟩
 |n+1,l,r,h=>by
  rw[Qao];split
  . obtain⟨h1,h2⟩:=QN [44] h;have h3:Gd c d (if l.length=32/\QbE c (t2 c [44] r)=true then Qg c 12 (t2 c [44] r)else t2 c [44] r)/\(if l.length=32/\QbE c (t2 c [44] r)=true then Qg c 12 (t2 c [44] r)else t2 c [44] r).a=(t2 c [44] r).a:=by
     split
     . obtain⟨h4,h5,_⟩:=QfM (e:=12) (by decide) h1; exact⟨h4,h5⟩
     . exact⟨h1,rfl⟩
    dsimp only;generalize (if l.length=32/\QbE c (t2 c [44] r)=true then Qg c 12 (t2 c [44] r)else t2 c [44] r)=r2 at h3 ⊢;obtain⟨h6,h7⟩:=hk _ h3.1;obtain⟨h8,h9⟩:=QqL hk n (l++[(orP r2).1]) _ h6;exact⟨h8,by omega⟩
  . exact⟨h,Vb _⟩
theorem Qp2 {c:Cx} {d:Nat} {orP:Rd->Ex×Rd} (hk:Kp c d orP):Kp c d (Qcr c orP):=by
 intro r h;obtain⟨h1,h2⟩:=hk r h;obtain⟨h3,h4⟩:=QqL hk c.ts.length [(orP r).1] _ h1;exact⟨h3,Vi h2 h4⟩
def IC.tl:Nat->IC->IC
 |0,a=>a
 |k+1,.seq _ b=>IC.tl k b
 |_,a=>a
def IC.nth:Nat->IC->IC
 |0,.seq a _=>a
 |k+1,.seq _ b=>IC.nth k b
 |_,a=>a
abbrev nl:SV:=.val (.slice none 0 0)
@[simp] theorem Ex.take6 (e:Ex) (x:SV):List.take 6 (e.c++[x])=e.c++[x]:=VB (by simp)
def aZ:AO:=⟨[st (B []),nl,bl false,nl,st (B []),i64 0],89,0,true⟩
def Qby (l:List Qp):AO:=⟨rws Qp.c l,91,l.length,true⟩
theorem Qp.len (s:Qp):s.c.length=7:=by simp[Qp.c]
theorem Qp.und (n:Nat) (s:Qp):SV.underL n s.c=true:=by simp[Qp.c,SV.underL,SV.underL_append,Ex.und]
@[simp] theorem QGq (n:Nat) (ks:List Nat) (L:ZG) (d:Nat) (l:List Qp):(rws Qp.c l).map (SV.fz n ks L (d+1))=rws Qp.c l:=QcN _ _ _ _ (QeU (Qp.und _) l)
theorem Qgk {c:Cx} {d:Nat} {r:Rd} {P:Prop} [Decidable P] (h:Gd c d r):Gd c d (if P then Qg c 12 r else r)/\(if P then Qg c 12 r else r).a=r.a/\((if P then Qg c 12 r else r).e=0->r.e=0):=by
 split
 . obtain⟨h4,h5,h6⟩:=QfM (e:=12) (by decide) h; exact⟨h4,h5,λh=>absurd h h6⟩
 . exact⟨h,rfl,λh=>h⟩
theorem QpB {c:Cx} {d:Nat} {orP:Rd->Ex×Rd} (hk:Kp c d orP) (l:List Qp) {r:Rd} (h:Gd c d r):Gd c d (QaK c orP l r).2/\r.a<=(QaK c orP l r).2.a/\((QaK c orP l r).2.e=0->r.a<(QaK c orP l r).2.a):=by
 unfold QaK;dsimp only;obtain⟨h1,h2,_⟩:=Qgk (P:=l.length=32/\QU c r=true) h;generalize (if l.length=32/\QU c r=true then Qg c 12 r else r)=r1 at *;obtain⟨h3,h4⟩:=Qcq r1 h1;obtain⟨h5,h6⟩:=QN [61] h3;obtain⟨h7,h8⟩:=hk _ h5;obtain⟨h9,h10⟩:=QN [59] h7;refine⟨h9,by omega,λhe => ?_⟩;have:=(Qhc he).2;omega
section
variable {H:ZG} {c:Cx} {r:Rd} {j:Nat} {G:ZG} {nm:ZE} {xW:SV} {wh:List Ex} {hid:Bool} {sets:List Qp} {p:Int}
theorem Qni {d:Nat} {orP:Rd->Ex×Rd} (hk:Kp c d orP):∀ (n:Nat) (l:List Qp) (r:Rd),Gd c d r->Gd c d (QaS c orP n l r).2/\r.a<=(QaS c orP n l r).2.a
 |0,l,r,h=>⟨h,Vb _⟩
 |n+1,l,r,h=>by
  rw[QaS];split
  . obtain⟨h1,h2,_⟩:=QpB hk l h;obtain⟨h3,h4⟩:=Qni hk n (l++[(QaK c orP l r).1]) _ h1;exact⟨h3,Vi h2 h4⟩
  . exact⟨h,Vb _⟩
end
theorem Xc {P:ZL} {N:Nat} {D:Array Oper->List Nat->List Ins->Bool} {i:IC} {env:Env} {H H':ZG} {K:ZF} (e:H'=H) (h:X P N D i env H' K):X P N D i env H K:=by rw[<-e]; exact h
def Qe7 (a:Qn):SV:=.agg a.c
theorem Qm4 (n:Nat) (l:List Int):SV.underL n (QM l)=true:=(SV.underL_iff _ _).2 λs hs=>by
 simp[QM]at hs; obtain⟨a,_,rfl⟩:=hs; rfl
def zS:AO:=⟨[i64 0,st (B []),st (B []),i64 0,i64 0,nl,bl false,nl,nl,nl,nl,i64 0],78,0,true⟩
def Qfz (x:Qb):SV:=.agg x.c
section
variable {H:ZG} {c:Cx} {r:Rd} {j:Nat} {G:ZG} {lb nm:ZE} {lo hi:Int} {xW xS:SV} {wt:List Ex} {all:Bool} {seen:List Int} {p:Int}
theorem Qsz {d:Nat}:∀ (n:Nat) (l:List Int) (r:Rd),Gd c d r->Gd c d (QaE c n l r).2/\r.a<=(QaE c n l r).2.a
 |0,l,r,h=>⟨h,Vb _⟩
 |n+1,l,r,h=>by
  rw[QaE];split
  . dsimp only;obtain⟨h1,h2⟩:=QN [44] h;obtain⟨h3,h4,_⟩:=Qgk (P:=l.length=32/\(t2 c [44] r).a<c.ts.length/\Qaj c { t2 c [44] r with e:=0 } (λt=>decide (t.k=2))=true) h1;generalize (if l.length=32/\(t2 c [44] r).a<c.ts.length/\Qaj c { t2 c [44] r with e:=0 } (λt=>decide (t.k=2))=true then Qg c 12 (t2 c [44] r)else t2 c [44] r)=r2 at *;obtain⟨h6,h7⟩:=Qch r2 h3;obtain⟨h8,h9⟩:=Qsz n (l++[(nmR c r2).1]) _ h6;exact⟨h8,by omega⟩
  . exact⟨h,Vb _⟩
theorem Qs4 {d:Nat}:Kp c d (QaI c):=by
 intro r h;unfold QaI;split
 . dsimp only;obtain⟨h1,h2⟩:=QN [115,101,101,110] h;obtain⟨h3,h4⟩:=QN [98,121] h1;split
   . obtain⟨h5,h6⟩:=QN [97,108,108] h3;exact⟨h5,by simp only; omega⟩
   . obtain⟨h5,h6⟩:=Qch _ h3;obtain⟨h7,h8⟩:=Qsz c.ts.length [(nmR c (t2 c [98,121] (t2 c [115,101,101,110] r))).1] _ h5;exact⟨h7,by simp only; omega⟩
 . exact⟨h,Vb _⟩
end
@[simp] theorem Qn.c_len (a:Qn):a.c.length=6:=rfl
@[simp] theorem Qn.take6 (a:Qn):List.take 6 a.c=a.c:=rfl
theorem Qn.und (n:Nat) (a:Qn):SV.underL n a.c=true:=by
 simp[Qn.c,exS,SV.underL,SV.under,Ex.undL,QeU (Qp.und n)]
theorem Qn.ok (a:Qn):QD a.c:=by
 intro s hs;simp[Qn.c]at hs;rcases hs with rfl|rfl|rfl|rfl|rfl|rfl<;>rfl
@[simp] theorem Qn.okT (a:Qn):QD a.c=True:=Zv a.ok
theorem QiC {c:Cx} {d:Nat} (s:ZE):Kp c d (QaR c s):=by
 intro r h;unfold QaR;split
 . exact QN s h
 . exact⟨h,Vb _⟩
theorem QgM {c:Cx} {d:Nat} {orP:Rd->Ex×Rd} (hk:Kp c d orP) (s:ZE):Kp c d (QaQ c orP s):=by
 intro r h;unfold QaQ;split
 . obtain⟨h1,h2⟩:=QN s h;obtain⟨h3,h4⟩:=hk _ h1;exact⟨h3,Vi h2 h4⟩
 . exact⟨h,Vb _⟩
theorem Qoq {c:Cx} {d:Nat}:Kp c d (Qbj c):=by
 intro r h;unfold Qbj;split
 . obtain⟨h1,h2⟩:=QN [103,111,116,111] h;obtain⟨h3,h4⟩:=Qcq _ h1;obtain⟨h5,h6⟩:=QN [59] h3;exact⟨h5,by simp only; omega⟩
 . exact⟨h,Vb _⟩
theorem QiV {c:Cx} {d:Nat} {orP:Rd->Ex×Rd} (hk:Kp c d orP):Kp c d (QQ c orP):=by
 intro r h;unfold QQ;dsimp only;obtain⟨h1,i1⟩:=Qda [97,99,116,105,111,110] r h;obtain⟨h2,i2⟩:=Qcq _ h1;obtain⟨h3,i3⟩:=QgM hk [119,104,101,110] _ h2;obtain⟨h4,i4⟩:=QiC [104,105,100,100,101,110] _ h3;obtain⟨h5,i5⟩:=QN [123] h4;obtain⟨h6,i6⟩:=Qni hk (c.ts.length+1) [] _ h5;obtain⟨h7,i7⟩:=QN [125] h6;obtain⟨h8,i8⟩:=Qoq _ h7;exact⟨h8,by omega⟩
theorem QtK {c:Cx} {d:Nat} {orP:Rd->Ex×Rd} (hk:Kp c d orP) {r:Rd} (h1:Gd c d (Qh c [97,99,116,105,111,110] r).2):(Qh c [97,99,116,105,111,110] r).2.a<=(QQ c orP r).2.a:=by
 unfold QQ;dsimp only;obtain⟨h2,i2⟩:=Qcq _ h1;obtain⟨h3,i3⟩:=QgM hk [119,104,101,110] _ h2;obtain⟨h4,i4⟩:=QiC [104,105,100,100,101,110] _ h3;obtain⟨h5,i5⟩:=QN [123] h4;obtain⟨h6,i6⟩:=Qni hk (c.ts.length+1) [] _ h5;obtain⟨h7,i7⟩:=QN [125] h6;obtain⟨h8,i8⟩:=Qoq _ h7;omega
def Qt {α:Type} (F:Rd->α×Rd):Prop:=∀ r,r.e≠0->(F r).2=r
theorem Qeq {c:Cx} {r:Rd} {e:Int} (h:r.e≠0):Qg c e r=r:=by unfold Qg; rw[Zn h]
theorem QaM {c:Cx} {r:Rd} (h:r.e≠0) (s:ZE):Qd c s r=false:=by
 rw[<-Vk]; exact λh2=>h (QfR h2).1
theorem QnP {c:Cx} {r:Rd} (h:r.e≠0):QU c r=false:=by
 rw[<-Vk]; exact λh2=>h (QbV h2).1
theorem QpM {c:Cx} {r:Rd} (h:r.e≠0):QaX c r=false:=by
 rw[<-Vk]; exact λh2=>h (QbV h2).1
theorem Qdi {c:Cx} (s:ZE):Qt (Qh c s):=λr h=>by unfold Qh; rw[QaM h,Qeq h]; rfl
theorem Q9 {c:Cx} (s:ZE) {r:Rd} (h:r.e≠0):t2 c s r=r:=Qdi s r h
theorem Qek {c:Cx}:Qt (QK c):=λr h=>by unfold QK; rw[QnP h,Qeq h]; rfl
theorem Qco {c:Cx}:Qt (nmR c):=λr h=>by unfold nmR; rw[QpM h,Qeq h]; rfl
theorem Qhp {c:Cx} {r:Rd} (h:r.e≠0) (ops:List (ZE×Int)):Qal c ops r=none:=by
 cases ho:Qal c ops r with
 |none=>rfl
 |some op=>exact absurd (Qc0 ho).1 h
theorem QdI {c:Cx} {ops:List (ZE×Int)} {f:Rd->Ex×Rd} (hf:Qt f):Qt (QS c ops f):=by
 intro r h;unfold QS;rw[hf r h]
 cases c.ts.length with
 |zero=>rfl
 |succ n=>rw[QaC,Qhp h]
theorem Qmh {c:Cx} {f:Rd->Ex×Rd} (hf:Qt f):Qt (Qar c f):=by
 intro r h;unfold Qar;rw[hf r h,Qhp h];exact hf r h
theorem QlR {c:Cx} {cmp ntP:Rd->Ex×Rd} (hf:Qt cmp):Qt (Qat c cmp ntP):=by
 intro r h;unfold Qat;rw[Zn (by rw[QaM h]; decide)];exact hf r h
theorem Qfk {c:Cx} {orP facP:Rd->Ex×Rd}:Qt (QF c orP facP):=by
 intro r h;unfold QF;rw[Zo h]
theorem QiZ (c:Cx) (d:Nat):Qt (Q6 c (lv c d)):=by
 have hn:Qt (lv c d).nt:=by
  cases d with
  |zero=>exact QlR (Qmh (QdI (QdI Qfk)))
  |succ d=>exact QlR (Qmh (QdI (QdI Qfk)))
 exact QdI (QdI hn)
theorem QdU {c:Cx} {orP:Rd->Ex×Rd} (s:ZE):Qt (QaQ c orP s):=λr h=>by unfold QaQ; rw[Zn (by rw[QaM h]; decide)]
theorem QfS {c:Cx} (s:ZE):Qt (QaR c s):=λr h=>by unfold QaR; rw[Zn (by rw[QaM h]; decide)]
theorem Qfu {c:Cx}:Qt (Qbj c):=λr h=>by unfold Qbj; rw[Zn (by rw[QaM h]; decide)]
theorem Qob {c:Cx} {orP:Rd->Ex×Rd} (n:Nat) (l:List Qp):Qt (QaS c orP n l):=by
 intro r h
 cases n with
 |zero=>rfl
 |succ n=>rw[QaS,Zn (λh2=>h h2.1)]
theorem QiT {c:Cx} {orP:Rd->Ex×Rd}:Qt (QQ c orP):=by
 intro r h;unfold QQ;dsimp only;rw[Qdi _ r h,Qek r h,QdU _ r h,QfS _ r h,Q9 _ h,Qob _ _ r h,Q9 _ h,Qfu r h]
section
variable {H:ZG} {c:Cx} {r:Rd} {j:Nat} {G:ZG} {lb:ZE} {w:Ex} {p:Int}
theorem Qoh {d:Nat} {orP:Rd->Ex×Rd} (hk:Kp c d orP):∀ (n:Nat) (l:List Qn) (r:Rd),Gd c d r->Gd c d (Qak c orP 0 n l r).2/\r.a<=(Qak c orP 0 n l r).2.a
 |0,l,r,h=>⟨h,Vb _⟩
 |n+1,l,r,h=>by
  rw[Qak];split
  . dsimp only;obtain⟨h3,h4,_⟩:=Qgk (P:=l.length=10) h;generalize (if l.length=10 then Qg c 12 r else r)=r2 at *;obtain⟨h6,h7⟩:=QiV hk r2 h3;obtain⟨h8,h9⟩:=Qoh hk n (l++[(QQ c orP r2).1]) _ h6;exact⟨h8,by omega⟩
  . exact⟨h,Vb _⟩
end
theorem QAs {c:Cx} {d:Nat} {orP:Rd->Ex×Rd} (hk:Kp c d orP) (x:Qb):Kp c d (QdB c orP x):=by
 intro r h;unfold QdB;dsimp only;obtain⟨g1,i1⟩:=Qda [100,101,97,108] r h;obtain⟨g2,i2⟩:=Qcq _ g1;obtain⟨g3,i3⟩:=QN [105,110] g2;obtain⟨g4,i4⟩:=Qch _ g3;obtain⟨g5,i5⟩:=QN [46,46] g4;obtain⟨g6,i6⟩:=Qch _ g5;obtain⟨g7,i7⟩:=QgM hk [119,101,105,103,104,116] _ g6;obtain⟨g8,i8⟩:=Qs4 _ g7;obtain⟨g9,i9⟩:=QN [59] g8;exact⟨g9,by omega⟩
theorem Qvb {c:Cx} {d:Nat} {orP:Rd->Ex×Rd} (hk:Kp c d orP) (x:Qb):Kp c d (QdA c orP x):=by
 intro r h;unfold QdA;dsimp only;obtain⟨g1,i1⟩:=Qda [116,117,114,110] r h;obtain⟨g2,i2⟩:=hk _ g1;obtain⟨g3,i3⟩:=QN [123] g2;obtain⟨g4,i4⟩:=QiV hk _ g3;obtain⟨g5,i5⟩:=Qoh hk c.ts.length [(QQ c orP (t2 c [123] (orP (Qh c [116,117,114,110] r).2).2)).1] _ g4;obtain⟨g6,i6⟩:=QN [125] g5;exact⟨g6,by omega⟩
theorem Qqa {c:Cx} {d:Nat}:Kp c d (QaB c):=by
 intro r h;unfold QaB;split
 . obtain⟨g1,i1⟩:=Qcq r h;obtain⟨g2,i2⟩:=QN [58] g1;exact⟨g2,by simp only; omega⟩
 . exact⟨h,Vb _⟩
theorem Qsa {c:Cx} {d:Nat} {orP:Rd->Ex×Rd} (hk:Kp c d orP):Kp c d (Q8 c orP):=by
 intro r h;unfold Q8;dsimp only;obtain⟨g1,i1⟩:=Qqa r h;split
 . obtain⟨g2,i2⟩:=QAs hk _ _ g1;exact⟨g2,by omega⟩
 split
 . obtain⟨g2,i2⟩:=Qvb hk _ _ g1;exact⟨g2,by omega⟩
 . obtain⟨g2,i2⟩:=Qda [101,110,100] _ g1;obtain⟨g3,i3⟩:=QN [123] g2;obtain⟨g4,i4⟩:=QN [112,97,121] g3;obtain⟨g5,i5⟩:=Qp2 hk _ g4;obtain⟨g6,i6⟩:=QN [59] g5;obtain⟨g7,i7⟩:=QN [125] g6;exact⟨g7,by simp only; omega⟩
theorem Qr2 {c:Cx} {d:Nat} {orP:Rd->Ex×Rd} (hk:Kp c d orP) {r:Rd} (h:Gd c d r) (he:(Q8 c orP r).2.e=0):r.a<(Q8 c orP r).2.a:=by
 unfold Q8 at he ⊢;dsimp only at he ⊢;obtain⟨g1,i1⟩:=Qqa r h;split at he
 . rename_i hp;rw[Zo hp];unfold QdB at he ⊢;dsimp only at he ⊢;obtain⟨g1,i1⟩:=Qda [100,101,97,108] _ g1;obtain⟨g2,i2⟩:=Qcq _ g1;obtain⟨g3,i3⟩:=QN [105,110] g2;obtain⟨g4,i4⟩:=Qch _ g3;obtain⟨g5,i5⟩:=QN [46,46] g4;obtain⟨g6,i6⟩:=Qch _ g5;obtain⟨g7,i7⟩:=QgM hk [119,101,105,103,104,116] _ g6;obtain⟨g8,i8⟩:=Qs4 _ g7;have:=(Qhc he).2;omega
 . rename_i hp;rw[Zn hp];split at he
   . rename_i hp;rw[Zo hp];unfold QdA at he ⊢;dsimp only at he ⊢;obtain⟨g1,i1⟩:=Qda [116,117,114,110] _ g1;obtain⟨g2,i2⟩:=hk _ g1;obtain⟨g3,i3⟩:=QN [123] g2;obtain⟨g4,i4⟩:=QiV hk _ g3;obtain⟨g5,i5⟩:=Qoh hk c.ts.length [(QQ c orP (t2 c [123] (orP (Qh c [116,117,114,110] (QaB c r).2).2).2)).1] _ g4;have:=(Qhc he).2;omega
   . rename_i hp;rw[Zn hp];dsimp only at he ⊢;obtain⟨g2,i2⟩:=Qda [101,110,100] _ g1;obtain⟨g3,i3⟩:=QN [123] g2;obtain⟨g4,i4⟩:=QN [112,97,121] g3;obtain⟨g5,i5⟩:=Qp2 hk _ g4;obtain⟨g6,i6⟩:=QN [59] g5;have:=(Qhc he).2;omega
theorem Qb.c_len (x:Qb):x.c.length=12:=rfl
theorem Qb.und (n:Nat) (x:Qb):SV.underL n x.c=true:=by
 simp[Qb.c,exS,SV.underL,SV.under,Ex.undL,QeU (Qn.und n)]
@[simp] theorem Qb.fzm (n:Nat) (ks:List Nat) (L:ZG) (d:Nat) (x:Qb):x.c.map (SV.fz n ks L (d+1))=x.c:=QcN _ _ _ _ (Qb.und _ x)
theorem Qb.ok (x:Qb):QD x.c:=by
 intro s hs;simp[Qb.c]at hs;rcases hs with rfl|rfl|rfl|rfl|rfl|rfl|rfl|rfl|rfl|rfl|rfl|rfl<;>rfl
@[simp] theorem Qb.okT (x:Qb):QD x.c=True:=Zv x.ok
@[simp] theorem Qb.take12 (x:Qb):List.take 12 x.c=x.c:=rfl
@[simp] theorem Qb.len12 (x:Qb):x.c.length=12:=rfl
def lbO (lb:ZE):AO:=⟨[i64 0,st (B lb),st (B []),i64 0,i64 0,nl,bl false,nl,nl,nl,nl,i64 0],78,0,true⟩
theorem Qo3 {c:Cx} {d:Nat} (l:List Qm):Kp c d (Qbb c l):=by
 intro r h;unfold Qbb;dsimp only;obtain⟨g0,i0⟩:=QN [118,97,114] h;obtain⟨g1,i1,_⟩:=Qgk (P:=l.length=40/\QU c (t2 c [118,97,114] r)=true) g0;generalize (if l.length=40/\QU c (t2 c [118,97,114] r)=true then Qg c 12 (t2 c [118,97,114] r)else t2 c [118,97,114] r)=r1 at *;obtain⟨g2,i2⟩:=Qcq _ g1;obtain⟨g3,i3⟩:=QN [61] g2;obtain⟨g4,i4⟩:=QiC [45] _ g3;obtain⟨g5,i5⟩:=Qch _ g4;obtain⟨g6,i6⟩:=QN [59] g5;exact⟨g6,by omega⟩
theorem Qy2 {c:Cx} {d:Nat} (l:List Qm) {r:Rd} (h:Gd c d r) (he:(Qbb c l r).2.e=0):r.a<(Qbb c l r).2.a:=by
 unfold Qbb at he ⊢;dsimp only at he ⊢;obtain⟨g0,i0⟩:=QN [118,97,114] h;obtain⟨g1,i1,_⟩:=Qgk (P:=l.length=40/\QU c (t2 c [118,97,114] r)=true) g0;generalize (if l.length=40/\QU c (t2 c [118,97,114] r)=true then Qg c 12 (t2 c [118,97,114] r)else t2 c [118,97,114] r)=r1 at *;obtain⟨g2,i2⟩:=Qcq _ g1;obtain⟨g3,i3⟩:=QN [61] g2;obtain⟨g4,i4⟩:=QiC [45] _ g3;obtain⟨g5,i5⟩:=Qch _ g4;have:=(Qhc he).2;omega
theorem Qrl {c:Cx} {d:Nat}:∀ (n:Nat) (l:List Qm) (r:Rd),Gd c d r->Gd c d (Qab c n l r).2/\r.a<=(Qab c n l r).2.a
 |0,l,r,h=>⟨h,Vb _⟩
 |n+1,l,r,h=>by
  rw[Qab];split
  . obtain⟨h6,h7⟩:=Qo3 l r h;obtain⟨h8,h9⟩:=Qrl n (l++[(Qbb c l r).1]) _ h6;exact⟨h8,by omega⟩
  . exact⟨h,Vb _⟩
theorem Qm.c_len (v:Qm):v.c.length=3:=rfl
theorem Qm.und (n:Nat) (v:Qm):SV.underL n v.c=true:=rfl
def zR:AO:=⟨[st (B []),i64 0,nl,nl],36,0,true⟩
def Qdy (l:List Qm):AO:=⟨rws Qm.c l,75,l.length,true⟩
def Qdu (l:List Qb):AO:=⟨rws Qb.c l,78,l.length,true⟩
theorem Qv8 {c:Cx}:Qt (QaB c):=λr h=>by unfold QaB; rw[Zn (by rw[QnP h]; decide)]
theorem Qgl {c:Cx}:Qt (QaI c):=λr h=>by unfold QaI; rw[Zn (by rw[QaM h]; decide)]
theorem Qim {c:Cx} {orP:Rd->Ex×Rd} (ho:Qt orP):Qt (Qcr c orP):=by
 intro r h;unfold Qcr;rw[ho r h]
 cases c.ts.length with
 |zero=>rfl
 |succ n=>rw[Qao,Zn (by rw[QaM h]; decide)]
theorem QjP {c:Cx} {orP:Rd->Ex×Rd} (ho:Qt orP):Qt (Q8 c orP):=by
 intro r h;unfold Q8;dsimp only;rw[Qv8 r h,Zn (by rw[QaM h]; decide),Zn (by rw[QaM h]; decide)];dsimp only;rw[Qdi _ r h,Q9 _ h,Q9 _ h,Qim ho r h,Q9 _ h,Q9 _ h]
def QbG (r:QC):SV:=.agg r.c
theorem QzJ (e p:Int):SV.le (.tup [.agg [st (B []),i64 0,nl,nl],.agg [i64 e,i64 p]]) (.tup [QbG Qeb,QE e p]) :=
 Qj9 (leL.cons (Qga (leL.cons (SV.le.refl _) (leL.cons (SV.le.refl _) (leL.cons QdV (leL.cons QdV leL.nil))))) (leL.cons (SV.le.refl _) leL.nil))
section
variable {c:Cx} {r:Rd}
theorem Qva (hb:QbE c r=false):QaX c r=false/\QU c r=false/\Qd c [110,111,116] r=false/\Qd c [45] r=false/\Qd c [40] r=false/\Qd c [109,105,110] r=false/\Qd c [109,97,120] r=false/\Qd c [105,102] r=false:=by
 unfold QbE at hb;simpa[Zb,and_assoc]using hb
theorem Qzl {ops:List (ZE×Int)} {F:Rd->Ex×Rd} (h:(F r).2.e≠0):(QS c ops F r).2=(F r).2:=by
 unfold QS; rw[Qma h]
theorem QCe (he:r.e=0) (hb:QbE c r=false) (d:Nat):(Q6 c (lv c d) r).2=Qg c 11 r:=by
 obtain⟨h1,h2,h3,h4,h5,h6,h7,h8⟩:=Qva hb;have hfe:(Qg c 11 r).e≠0:=by simp[Qg,he]
 have hf:∀ orP facP,(QF c orP facP r).2=Qg c 11 r:=by
  intro orP facP;unfold QF;have hw:QaN.find? (λw=>Qd c w.1 r)=none:=by simp[QaN,h6,h7,h8]
  rw[Zn (by simp[he]),Zn (by simp[h2]),Zn (by simp[h4]),Zn (by simp[h5]),hw];simp[nmR,h1]
 have hb2:∀ ops (F:Rd->Ex×Rd),(F r).2=Qg c 11 r->(QS c ops F r).2=Qg c 11 r:=λops F h=>by
  rw[Qzl (by rw[h]; exact hfe),h]
 have hn:∀ orP facP ntP,(Qat c (Qgt c (QF c orP facP)) ntP r).2=Qg c 11 r:=by
  intro orP facP ntP;unfold Qat;rw[Zn (by simp[h3])];unfold Qgt Qar;have h9:=hb2 Qa6 _ (hb2 QaV _ (hf orP facP));rw[h9,Qhp hfe];exact h9
 have hnt:((lv c d).nt r).2=Qg c 11 r:=by
  cases d with
  |zero=>exact hn _ _ _
  |succ d=>exact hn _ _ _
 exact hb2 orO _ (hb2 Qbx _ hnt)
def Qbl (c:Cx) (full:Bool) (r:Rd):ZE×Rd:=QK c (if full=true/\QU c r=true then Qg c 12 r else r)
def Qck (c:Cx) (full:Bool) (r:Rd):Int×Rd:=nmR c (if full=true/\QaX c r=true then Qg c 12 r else r)
end
theorem Qaf {α:Type} {c:Cx} {j k:Nat} {args:ZH} {G:ZG} {f:α->SV} {q:α×Rd} {K:Out->ZG->Prop} (h:OkP Tryz.prog k args G (PdV c G j f q))
 (hok:q.2.e=0->K (.ret (f q.1)) (G.set j (pdO c q.2))) (hbad:q.2.e≠0->∀ H',Qw G [j] H'->K (.pan (Q0 q.2.e q.2.p)) H'):Qdr Tryz.prog (.fn (.func k) [] []) args G K:=by
 refine Q5 h ?_;intro o H' hp;unfold PdV at hp;by_cases he:q.2.e=0
 . rw[Zo he]at hp; obtain⟨rfl,rfl⟩:=hp; exact hok he
 . rw[Zn he]at hp; obtain⟨rfl,hk⟩:=hp; exact hbad he H' hk
theorem PdV.pan {α:Type} {c:Cx} {j:Nat} {f:α->SV} {G H':ZG} {q:α×Rd} (he:q.2.e≠0) (h:Qw G [j] H'):PdV c G j f q (.pan (Q0 q.2.e q.2.p)) H':=by
 unfold PdV; rw[Zn he]; exact⟨rfl,h⟩
theorem PdV.ret {α:Type} {c:Cx} {j:Nat} {f:α->SV} {G H':ZG} {q:α×Rd} (he:q.2.e=0) (h:H'=G.set j (pdO c q.2)):PdV c G j f q (.ret (f q.1)) H':=by
 unfold PdV; rw[Zo he]; exact⟨rfl,h⟩
theorem PdV.fail {α:Type} {c:Cx} {j:Nat} {f:α->SV} {G H':ZG} {q:α×Rd} {r:Rd} {e:Int} (hr:r.e=0) (he:e≠0) (hq:q.2=Qg c e r) (h:Qw G [j] H'):PdV c G j f q (.pan (Q0 e (Qk c r))) H':=by
 have f1:(Qg c e r).e=e/\(Qg c e r).p=Qk c r:=by simp[Qg,hr]
 have:=PdV.pan (c:=c) (f:=f) (q:=q) (by rw[hq,f1.1]; exact he) h
 rwa [hq,f1.1,f1.2]at this
theorem PdV.got {α:Type} {c:Cx} {j:Nat} {f:α->SV} {G H':ZG} {q:α×Rd} {x:α} {r:Rd} {o:Out} (he:r.e=0) (hq:q=(x,r)) (ho:o=.ret (f x)) (h:H'=G.set j (pdO c r)):PdV c G j f q o H':=by
 subst hq ho; exact PdV.ret (q:=(x,r)) he h
theorem Qzf {c:Cx} {r:Rd} (he:r.e=0) (hp:QU c r=true):(Qbl c true r).2=Qg c 12 r:=by
 have hb:(Qg c 12 r).e≠0:=by simp[Qg,he]
 unfold Qbl;rw[Zo ⟨rfl,hp⟩];unfold QK;rw[QnP hb,Qeq hb]; rfl
theorem Qvq {c:Cx} {r:Rd} (hp:QU c r=true):Qbl c false r=((tkR c r).tx,Qa r):=by
 have hlt:=(QbV hp).2.1;unfold Qbl;rw[Zn (by simp)];unfold QK;rw[Zo hp]; simp[tkR,hlt,List.getD]
theorem Qxa {c:Cx} {r:Rd} (full:Bool) (hp:QU c r=false):(Qbl c full r).2=Qg c 11 r:=by
 unfold Qbl;rw[Zn (by simp[hp])];unfold QK;rw[hp]; rfl
theorem Qzs {c:Cx} {r:Rd} (he:r.e=0) (hp:QaX c r=true):(Qck c true r).2=Qg c 12 r:=by
 have hb:(Qg c 12 r).e≠0:=by simp[Qg,he]
 unfold Qck;rw[Zo ⟨rfl,hp⟩];unfold nmR;rw[QpM hb,Qeq hb]; rfl
theorem QxA {c:Cx} {r:Rd} (hp:QaX c r=true):Qck c false r=((tkR c r).n,Qa r):=by
 have hlt:=(QbV hp).2.1;unfold Qck;rw[Zn (by simp)];unfold nmR;rw[Zo hp]; simp[tkR,hlt,List.getD]
theorem Qum {c:Cx} {r:Rd} (full:Bool) (hp:QaX c r=false):(Qck c full r).2=Qg c 11 r:=by
 unfold Qck;rw[Zn (by simp[hp])];unfold nmR;rw[hp]; rfl
def exN (l:List Ex):SV:=if l=[]then nl else exS l
def inN (l:List Int):SV:=if l=[]then nl else .slc (QM l) l.length
section
variable {H:ZG} {c:Cx} {r:Rd} {j:Nat}
theorem Qme (ho:H[j]? = some (pdO c r)) (hl:r.a<4611686018427387904) (he:r.e=0) (full:Bool):OkP Tryz.prog 88 [rp j,bl full] H (PdV c H j (λs=>st (B s)) (Qbl c full r)):=by
 have hj:=Ql ho;have h92:=Qhb ho he;have h140:=Qf8 ho hl;have h11:=Qc3 ho 11;have h12:=Qc3 ho 12;refine Qbd hm Tryz.func88 c88 (by simp[rp]) λhcl => ?_;simp[i88,r88,rp];refine Qc (by simpa[rp]using h92) ?_;by_cases hp:QU c r=true
 . cases full with
   |true =>
    simp[hp];refine Qc (by simpa[rp]using h12) ?_;simp;exact⟨_,_,PdV.fail he (by decide) (Qzf he hp) (Qw.refl _ _),Qj⟩
   |false =>
    simp[hp];refine Qc (by simpa[rp]using h140) ?_;simp[Tok.v,Tok.c];exact⟨_,_,PdV.got (r:=Qa r) he (Qvq hp) rfl rfl,Qj⟩
 . rw[Vk]at hp;simp[hp];refine Qc (by simpa[rp]using h11) ?_;simp;exact⟨_,_,PdV.fail he (by decide) (Qxa full hp) (Qw.refl _ _),Qj⟩
theorem Qh0 (ho:H[j]? = some (pdO c r)) (hl:r.a<4611686018427387904) (he:r.e=0) (full:Bool):OkP Tryz.prog 89 [rp j,bl full] H (PdV c H j i64 (Qck c full r)):=by
 have hj:=Ql ho;have h139:=Qea ho;have h140:=Qf8 ho hl;have h11:=Qc3 ho 11;have h12:=Qc3 ho 12;have hnt:=Qkv (c:=c) he;refine Qbd hm Tryz.func89 c89 (by simp[rp]) λhcl => ?_;simp[i89,r89,rp];refine Qc (by simpa[rp]using h139) ?_;by_cases hp:QaX c r=true
 . have hk:(tkR c r).k=2:=by rw[hp]at hnt; exact Zw hnt.symm
   cases full with
   |true =>
    simp[Tok.v,Tok.c,hk];refine Qc (by simpa[rp]using h12) ?_;simp;exact⟨_,_,PdV.fail he (by decide) (Qzs he hp) (Qw.refl _ _),Qj⟩
   |false =>
    simp[Tok.v,Tok.c,hk];refine Qc (by simpa[rp]using h140) ?_;simp[Tok.v,Tok.c];exact⟨_,_,PdV.got (r:=Qa r) he (QxA hp) rfl rfl,Qj⟩
 . rw[Vk]at hp;have hk:¬ (tkR c r).k=2:=by rw[hp]at hnt; exact of_decide_eq_false hnt.symm
   simp[Tok.v,Tok.c,hk];refine Qc (by simpa[rp]using h11) ?_;simp;exact⟨_,_,PdV.fail he (by decide) (Qum full hp) (Qw.refl _ _),Qj⟩
theorem QcX {s:ZE} (hp:Qd c s r=true):t2 c s r=Qa r:=by simp[t2,Qh,hp]
theorem QpX (hn:Q4 c) {d:Nat} {F:Rd->Ex×Rd} (hF:PdC c 32 [] F d) {s:ZE} (hs:QcW s=true) (ho:H[j]? = some (pdO c r)) (hl:c.ts.length<4611686018427387904) (hg:Gd c d r) (he:r.e=0) :
 OkP Tryz.prog 181 [rp j,st (B s),.fn (.func 32) [rp j] []] H (PdV c H j exN (QaQ c F s r)):=by
 have hj:=Ql ho;have ha:=hg.a;have h90:=Qde hn ho (by omega) he hs;refine Qbd hm Tryz.func181 c181 (by simp[rp]) λhcl => ?_;simp[i181,r181,rp];refine Qc (by simpa[rp]using h90) ?_;unfold Qae;by_cases hp:Qd c s r=true
 . have hg2:=hg.next (Qam hp)
   have hc:=hF (G:=H.set j (pdO c (Qa r))) (j:=j) (r:=Qa r) (by simp[hj]) hg2 he;have hopt:QaQ c F s r=([(F (Qa r)).1],(F (Qa r)).2):=by unfold QaQ; rw[Zo hp,QcX hp]
   rw[hopt];simp[hp];refine QrD (a:=[rp j]) (b:=[]) (by simpa[rp]using hc) ?_;intro o H' hq;unfold PdP PdV at hq;generalize F (Qa r)=q at hq ⊢;by_cases he2:q.2.e=0
   . rw[Zo he2]at hq;obtain⟨rfl,rfl⟩:=hq;rw[VD];simp[Ex.v];refine⟨_,_,PdV.ret (q:=([q.1],q.2)) he2 rfl,?_⟩;refine Qq 3 (QbQ (c:=c) (a:=q.2.a) (v:=q.2.v) hcl) (by simp) ?_;simp[exN,exS,Ex.cL]
   . rw[Zn he2]at hq;obtain⟨rfl,hk⟩:=hq;simp;exact⟨_,_,PdV.pan (q:=([q.1],q.2)) he2 ((Qw.set (by simp) _).trans hk),Qj⟩
 . have hopt:QaQ c F s r=([],r):=by unfold QaQ; rw[Zn hp]
   rw[hopt];simp[hp];refine⟨_,_,PdV.got (r:=r) he rfl (o:=.ret nl) rfl (QcZ ho).symm,?_⟩;rw[QcZ ho];exact Qj
def wdN (l:ZD):SV:=if l=[]then nl else .slc (wds l) l.length
theorem Qw8 (hn:Q4 c) {F:Rd->ZE×Rd} {f:SV} (hvd:f.vd=true) (hug:f.ug=f) (hfu:f.under H.length=true) {s:ZE} (hs:QcW s=true) (ho:H[j]? = some (pdO c r)) (hl:c.ts.length<4611686018427387904) (ha:r.a<=c.ts.length) (he:r.e=0)
 (hF:Qd c s r=true->QfB Tryz.prog f [] (H.set j (pdO c (Qa r))) (PdV c (H.set j (pdO c (Qa r))) j (λs=>st (B s)) (F (Qa r)))) :
 OkP Tryz.prog 202 [rp j,st (B s),f] H (PdV c H j wdN (if Qd c s r=true then([(F (Qa r)).1],(F (Qa r)).2)else([],r))):=by
 have hj:=Ql ho;have hopt1:Qd c s r=true->(if Qd c s r=true then([(F (Qa r)).1],(F (Qa r)).2)else(([],r):ZD×Rd))=([(F (Qa r)).1],(F (Qa r)).2):=λh=>Zo h;have hopt2:¬ Qd c s r=true->(if Qd c s r=true then([(F (Qa r)).1],(F (Qa r)).2)else(([],r):ZD×Rd))=([],r):=λh=>Zn h;generalize (if Qd c s r=true then([(F (Qa r)).1],(F (Qa r)).2)else(([],r):ZD×Rd))=res at hopt1 hopt2 ⊢;have h90:=Qde hn ho (by omega) he hs;refine Qbd hm Tryz.func202 c202 (by simp[rp]) λhcl => ?_;simp[i202,r202,rp];refine Qc (by simpa[rp]using h90) ?_;unfold Qae;by_cases hp:Qd c s r=true
 . have hc:=hF hp;rw[hopt1 hp];clear hopt1 hopt2;simp[hp];refine Qtt hc ?_;intro o H' hq;unfold PdV at hq;generalize F (Qa r)=q at hq ⊢;by_cases he2:q.2.e=0
   . rw[Zo he2]at hq;obtain⟨rfl,rfl⟩:=hq;rw[VD];simp;refine⟨_,_,PdV.ret (q:=([q.1],q.2)) he2 rfl,?_⟩;refine Qq 3 (QbQ (c:=c) (a:=q.2.a) (v:=q.2.v) hcl) (by simp) ?_;simp[wdN,wds]
   . rw[Zn he2]at hq;obtain⟨rfl,hk⟩:=hq;simp;exact⟨_,_,PdV.pan (q:=([q.1],q.2)) he2 ((Qw.set (by simp) _).trans hk),Qj⟩
 . rw[hopt2 hp];simp[hp];refine⟨_,_,PdV.got (r:=r) he rfl (o:=.ret nl) rfl (QcZ ho).symm,?_⟩;rw[QcZ ho];exact Qj
theorem QyP (hn:Q4 c) (ho:H[j]? = some (pdO c r)) (he:r.e=0):Ok Tryz.prog 183 [rp j] H (.ret (bl (QbE c r))) H:=by
 have hj:=Ql ho;have h92:=Qhb ho he;have h139:=Qea ho;have hnt:=Qkv (c:=c) he;have h93:=Qfa (H:=H++[⟨[st (B [110,111,116]),st (B [45]),st (B [40]),st (B [109,105,110]),st (B [109,97,120]),st (B [105,102])],9,0,true⟩]) (c:=c) (r:=r) (j:=j) (by rw[Vc hj]; exact ho) (x:=.own H.length 0 6 1 0) (l:=[[110,111,116],[45],[40],[109,105,110],[109,97,120],[105,102]]) (IsS.own1 (k:=0) rfl rfl) (by simp);have hb:QbE c r=(QU c r||QaX c r||decide ((tkR c r).tx∈[[110,111,116],[45],[40],[109,105,110],[109,97,120],[105,102]])):=by
  unfold QbE;rw[QcV hn (s:=[110,111,116]) rfl he,QcV hn (s:=[45]) rfl he,QcV hn (s:=[40]) rfl he,QcV hn (s:=[109,105,110]) rfl he,QcV hn (s:=[109,97,120]) rfl he,QcV hn (s:=[105,102]) rfl he];rw[Bool.eq_iff_iff];simp[or_assoc];constructor
  . rintro(h|h|h)<;>simp[h]
  . rintro(h|h|h)<;>simp[h]
 rw[hb];refine Qz hm Tryz.func183 c183 (by simp[rp]) λhcl => ?_;simp[i183,r183,rp];refine Qc (by simpa[rp]using h92) ?_;by_cases hf:QU c r=true
 . simp[hf];refine Qcm _ _ _ _ ?_;simp[hf];refine Qcm _ _ _ _ ?_;simp[hf];exact Qj
 . rw[Vk]at hf;simp[hf];refine QZ (r:=(tkR c r).v) (λ_=>by simpa[rp,SV.strip]using h139) ?_;by_cases hk:QaX c r=true
   . have hk2:(tkR c r).k=2:=by rw[hk]at hnt; exact Zw hnt.symm
     simp[hf,Tok.v,Tok.c,hk2];refine Qcm _ _ _ _ ?_;simp[hf,hk,Tok.v,Tok.c,hk2];exact Qj
   . rw[Vk]at hk;have hk2:¬ (tkR c r).k=2:=by rw[hk]at hnt; exact of_decide_eq_false hnt.symm
     simp[hf,Tok.v,Tok.c,hk2];refine QZ (r:=bl (decide ((tkR c r).tx∈[[110,111,116],[45],[40],[109,105,110],[109,97,120],[105,102]]))) (λ_=>by simpa[rp,SV.strip]using h93) ?_;simp[hf,hk,Tok.v,Tok.c,hk2];exact Qq 2 hcl rfl rfl
end
def w2 (H:ZG) (j k:Nat) (o p:AO):ZG:=(H.set j o).set k p
structure J2 (H:ZG) (j k:Nat):Prop where
 lj:j<H.length
 lk:k<H.length
 ne:j≠k
section
variable {H:ZG} {j k:Nat} {o p:AO}
@[simp] theorem QjA:(w2 H j k o p).length=H.length:=by simp[w2]
theorem QbD (h:J2 H j k) (L:ZG):(w2 H j k o p++L)[j]? = some o:=by
 rw[Vc (by simpa using h.lj),w2,Vf (Ne.symm h.ne),Vo h.lj]
theorem QjW (h:J2 H j k) (L:ZG):(w2 H j k o p++L)[k]? = some p:=by
 rw[Vc (by simpa using h.lk),w2,Vo (by simpa using h.lk)]
theorem Qbe (h:J2 H j k) (L:ZG) (o':AO):(w2 H j k o p++L).set j o'=w2 H j k o' p++L:=by
 rw[Vm _ _ (by simpa using h.lj),w2,List.set_comm _ _ (Ne.symm h.ne),VD]; rfl
theorem Qtc (h:J2 H j k) (L:ZG) (p':AO):(w2 H j k o p++L).set k p'=w2 H j k o p'++L:=by
 rw[Vm _ _ (by simpa using h.lk),w2,VD]; rfl
theorem Qfr (h:J2 H j k) (cs:ZH) (T:ZK) (L:ZG):Qo (w2 H j k o ⟨cs,T,0,true⟩++L) k 0=cs:=Qav (o:=⟨cs,T,0,true⟩) (QjW h L) rfl
theorem Qfb (h:J2 H j k) (L:ZG) (f:AO->AO):Ab.setObj (w2 H j k o p++L) k f=w2 H j k o (f p)++L:=by
 rw[Qb5 (QjW h L),Qtc h]
theorem Qmu (h1:H[j]? = some o) (h2:H[k]? = some p):w2 H j k o p=H:=by
 rw[w2,QcZ h1,QcZ h2]
@[simp] theorem QCB (L:ZG) (i ver:Nat):Qo (w2 H j k o p++L) (H.length+i) ver=Qo L i ver:=by
 have:=QfX (H:=w2 H j k o p) (L:=L) (k:=i) (ver:=ver); simpa using this
@[simp] theorem QDo (L:ZG) (i:Nat) (f:AO->AO):Ab.setObj (w2 H j k o p++L) (H.length+i) f=w2 H j k o p++Ab.setObj L i f:=by
 have:=Qji (H:=w2 H j k o p) (L:=L) (k:=i) (f:=f); simpa using this
@[simp] theorem QGL (L:ZG) (i ver:Nat) (T:ZK) (m:Nat):QbB (w2 H j k o p++L) (H.length+i) ver T m=QbB L i ver T m:=by
 have:=QrR (H:=w2 H j k o p) (L:=L) (k:=i) (ver:=ver) (T:=T) (m:=m); simpa using this
theorem Qw.w2 {H' L:ZG} (hJ:J2 H j k) (h:Qw (w2 H j k o p++L) [j] H'):Qw H [j,k] H':=by
 refine⟨Vi (by simp) h.len,λi hi hn => ?_⟩;simp only[Vd,Vu,Zt,not_or]at hn;rw[h.at_ i (by simp; omega) (by simp[hn.1]),Vc (by simpa using hi),Proofs.YtmkdpmfhlfhjkaaGreatDoor.w2,Vf (Ne.symm hn.2),Vf (Ne.symm hn.1)]
end
structure Rw (n:Nat) (L:ZG) (x y:SV):Prop where
 cell:x.isCell=true
 ycell:y.isCell=true
 fz:∀ M d,SV.fz n [] (L++M) (d+2) x=y
theorem Rw.und {n:Nat} {L:ZG} {x:SV} (h:x.isCell=true) (hu:x.under n=true):Rw n L x x:=⟨h,h,λM d=>Qdh hu⟩
theorem Rw.own {n q m sz ver T:Nat} {L:ZG} {cells:ZH} (h:L[q]? = some ⟨cells,T,ver,true⟩) (hl:cells.length=m*sz) (hu:SV.underL n cells=true):Rw n L (.own (n+q) 0 m sz ver) (.slc cells m):=by
 refine⟨rfl,rfl,λM d => ?_⟩;have hq:(L++M)[q]? = some ⟨cells,T,ver,true⟩:=by rw[Vc (Ql h)]; exact h
 have hnu:¬ (SV.own (n+q) 0 m sz ver).under n=true:=by simp[SV.under]
 have e:n+q-n=q:=by omega
 have hp:Qbn [] q=none:=rfl;rw[SV.fz,Zn hnu];simp only[e,hq,hp];rw[Zo ⟨trivial,trivial,by simp[hl]⟩];simp only[Yx];rw[VB (by omega),QcN _ _ _ _ hu]
def acN (l:List Qn):SV:=if l=[]then nl else .slc (rws Qn.c l) l.length
def Qb.cN (x:Qb):ZH:=[i64 x.k,st (B x.lb),st (B x.nm),i64 x.lo,i64 x.hi,exN x.wt,bl x.all,inN x.seen,exN x.who,acN x.acts,exN x.pays,i64 x.p]
def stO (x:Qb):AO:=⟨Qb.cN x,78,0,true⟩
theorem Qlz (l:List Ex):SV.le (exN l) (exS l):=by
 unfold exN; split
 . rename_i h; subst h; exact QdV
 . exact SV.le.refl _
theorem Qt8 (l:List Int):SV.le (inN l) (.slc (QM l) l.length):=by
 unfold inN; split
 . rename_i h; subst h; exact QdV
 . exact SV.le.refl _
theorem Quo (l:List Qn):SV.le (acN l) (.slc (rws Qn.c l) l.length):=by
 unfold acN; split
 . rename_i h; subst h; exact QdV
 . exact SV.le.refl _
theorem QyI (x:Qb):leL (Qb.cN x) (Qb.c x) :=
 leL.cons (SV.le.refl _) (leL.cons (SV.le.refl _) (leL.cons (SV.le.refl _) (leL.cons (SV.le.refl _) (leL.cons (SV.le.refl _) (leL.cons (Qlz _) (leL.cons (SV.le.refl _) (leL.cons (Qt8 _) (leL.cons (Qlz _) (leL.cons (Quo _) (leL.cons (Qlz _) (leL.cons (SV.le.refl _) leL.nil)))))))))))
@[simp] theorem Qyg (l:List Ex):(exN l).isCell=true:=by unfold exN; split<;>rfl
@[simp] theorem QC0 (l:List Int):(inN l).isCell=true:=by unfold inN; split<;>rfl
@[simp] theorem QGI (l:List Qn):(acN l).isCell=true:=by unfold acN; split<;>rfl
@[simp] theorem QqC (n:Nat) (l:List Ex):(exN l).under n=true:=by unfold exN; split<;>simp[exS,SV.under,Ex.undL]
@[simp] theorem QHK (n:Nat) (l:List Int):(inN l).under n=true:=by unfold inN; split<;>simp[SV.under]
@[simp] theorem QFV (n:Nat) (l:List Qn):(acN l).under n=true:=by unfold acN; split<;>simp[SV.under,QeU (Qn.und _)]
@[simp] theorem exN_vd (l:List Ex):(exN l).vd=true:=by unfold exN; split<;>rfl
@[simp] theorem QDT (l:List Ex):(exN l).flat=[exN l]:=by unfold exN; split<;>rfl
@[simp] theorem exN_ug (l:List Ex):(exN l).ug=exN l:=by unfold exN; split<;>rfl
def PdS (c:Cx) (G:ZG) (j k:Nat) (q:Qb×Rd) (o:Out) (H':ZG):Prop :=
 if q.2.e=0 then o=.ret (.tup [])/\H'=w2 G j k (pdO c q.2) (stO q.1)else o=.pan (Q0 q.2.e q.2.p)/\Qw G [j,k] H'
section
variable {H:ZG} {c:Cx} {r:Rd} {j k:Nat}
theorem PdS.ret {G H':ZG} {q:Qb×Rd} (he:q.2.e=0) (h:H'=w2 G j k (pdO c q.2) (stO q.1)):PdS c G j k q (.ret (.tup [])) H':=by unfold PdS; rw[Zo he]; exact⟨rfl,h⟩
theorem PdS.pan {G H':ZG} {q:Qb×Rd} (he:q.2.e≠0) (h:Qw G [j,k] H'):PdS c G j k q (.pan (Q0 q.2.e q.2.p)) H':=by unfold PdS; rw[Zn he]; exact⟨rfl,h⟩
theorem QuY {p:AO} (hcl:closed H) (hJ:J2 H j k):∀ (i:Nat) (o:AO),i≠k->(w2 H j k (pdO c r) p)[i]? = some o->∀ s∈o.cells,s.under H.length=true:=by
 intro i o hi ho s hs;rw[w2,Vf (Ne.symm hi)]at ho;by_cases hij:i=j
 . subst hij;rw[Vo hJ.lj]at ho
   cases ho
   exact(SV.underL_iff _ _).1 (QpR _ _ _ _) s hs
 . rw[Vf (Ne.symm hij)]at ho;exact hcl i o ho s hs
theorem Qns {n0:Nat} (hn0:n0=H.length) (hcl:closed H) (hJ:J2 H j k) {cells:ZH} {x:Qb} {L:ZG} (hfz:cells.map (SV.fz H.length [] L 3)=Qb.cN x) :
 Cv n0 (.tup []) (w2 H j k (pdO c r) ⟨cells,78,0,true⟩++L) (.tup []) (w2 H j k (pdO c r) (stO x)):=by
 have hk0:=QjW (o:=pdO c r) (p:=⟨cells,78,0,true⟩) hJ [];rw[VE]at hk0;have hz:=Qds.one (H0:=w2 H j k (pdO c r) ⟨cells,78,0,true⟩) (L:=L) (ks:=[]) (d:=3) (j:=k) (o:=⟨cells,78,0,true⟩) (by rw[QjA]; exact QuY hcl hJ) hk0 rfl (by
  rw[QjA,hfz];intro s hs;simp[Qb.cN]at hs;rcases hs with rfl|rfl|rfl|rfl|rfl|rfl|rfl|rfl|rfl|rfl|rfl|rfl<;>simp)
 rw[QjA,hfz]at hz;have hs:(w2 H j k (pdO c r) ⟨cells,78,0,true⟩).set k ⟨Qb.cN x,78,0,true⟩=w2 H j k (pdO c r) (stO x):=by rw[w2,VD]; rfl
 rw[hs]at hz;have:=Qz4 (n0:=n0) (r:=.tup []) (Hx:=w2 H j k (pdO c r) ⟨cells,78,0,true⟩++L) 3 rfl (by rw[QjA,hn0]; exact Vb _) hz;exact this
theorem QAQ {s:ZE}:Qae c s r=if Qd c s r=true then Qa r else r:=rfl
theorem QfP (hn:Q4 c) (hct:c.ts.length<4611686018427387904) (hJ:J2 H j k) {p:AO} {L:ZG} {q n T ver:Nat} {l:ZD} (hL:L[q]? = some ⟨wds l,T,ver,true⟩) (hn':n=l.length) (hl:l.length<4611686018427387904) (hw:∀ s∈l,QcW s=true) (he:r.e=0) (ha:r.a<=c.ts.length) :
 OkP Tryz.prog 87 [rp j,.own (H.length+q) 0 n 1 ver] (w2 H j k (pdO c r) p++L) (PdV c (w2 H j k (pdO c r) p++L) j (λ_:Unit=>.tup []) ((),QcM c l r)):=by
 refine Qlx hn (QbD hJ L) (λo => ?_) hl hct hw he ha;have:=Qkn (G:=w2 H j k (pdO c r) p) (L:=L) (j:=j) (k:=q) (by simpa using hJ.lj) hL hn' o;simpa using this
end
theorem Qx9 {c:Cx} {r:Rd} (he:r.e=0) (l:List Int):(if l.length=32/\r.a<c.ts.length/\Qaj c { r with e:=0 } (λt=>decide (t.k=2))=true then Qg c 12 r else r)=if decide (l.length=32)=true/\QaX c r=true then Qg c 12 r else r:=by
 have hr:({ r with e:=0 }:Rd)=r:=by cases r; simp only at he; subst he; rfl
 rw[hr];have:(l.length=32/\r.a<c.ts.length/\Qaj c r (λt=>decide (t.k=2))=true)↔(decide (l.length=32)=true/\QaX c r=true):=by
  simp only[Zq];constructor
  . rintro⟨h1,_,h3⟩; exact⟨h1,h3⟩
  . rintro⟨h1,h3⟩; exact⟨h1,(QbV h3).2.1,h3⟩
 simp only[this]
theorem QmL {c:Cx} {n:Nat} {l:List Int} {r:Rd} (h:r.e≠0):QaE c n l r=(l,r):=by
 cases n with
 |zero=>rfl
 |succ n=>rw[QaE,Zn (by rw[QaM h]; decide)]
theorem QBo {c:Cx} {d:Nat} {r:Rd} (full:Bool) (h:Gd c d r):Gd c d (Qck c full r).2/\r.a<=(Qck c full r).2.a:=by
 unfold Qck;obtain⟨h1,h2,_⟩:=Qgk (P:=full=true/\QaX c r=true) h;obtain⟨h3,h4⟩:=Qch _ h1;exact⟨h3,by omega⟩
theorem Qrv {c:Cx} {d:Nat} {r:Rd} (full:Bool) (h:Gd c d r):Gd c d (Qbl c full r).2/\r.a<=(Qbl c full r).2.a:=by
 unfold Qbl;obtain⟨h1,h2,_⟩:=Qgk (P:=full=true/\QU c r=true) h;obtain⟨h3,h4⟩:=Qcq _ h1;exact⟨h3,by omega⟩
theorem QhE (c:Cx) (r:Rd):Qck c false r=nmR c r:=by unfold Qck; rw[Zn (by simp)]
theorem Qit (c:Cx) (r:Rd):Qbl c false r=QK c r:=by unfold Qbl; rw[Zn (by simp)]
theorem Qay (c:Cx) (s:ZE) (r:Rd):QcM c [s] r=t2 c s r:=rfl
theorem QhB (c:Cx) (s s':ZE) (r:Rd):QcM c [s,s'] r=t2 c s' (t2 c s r):=rfl
theorem QB7 (l:List Int) (n:Int):QM (l++[n])=QM l++[i64 n]:=by simp[QM]
section
variable {H:ZG} {c:Cx} {r:Rd} {j k:Nat} {lb nm:ZE} {lo hi p:Int} {wt:List Ex}
def dlC (lb nm:ZE) (lo hi:Int) (wt:List Ex) (all:Bool) (xS:SV) (p:Int):ZH:=[i64 1,st (B lb),st (B nm),i64 lo,i64 hi,exN wt,bl all,xS,nl,nl,nl,i64 p]
theorem Qu3 (hn:Q4 c) (h20:c.ts.length<=20000) (hcl:closed H) (hJ:J2 H j k) (he:r.e=0) (ha:r.a<=c.ts.length) {all:Bool} {seen:List Int} {xS:SV} {L:ZG} (hS:Rw H.length L xS (inN seen)) {env:Env} (h0:env.get 0=rp j) {res:Qb×Rd}
 (hres:(⟨1,lb,nm,lo,hi,wt,all,seen,[],[],[],p⟩,t2 c [59] r)=res) :
 X Tryz.prog Tryz.f147.ntmps Qf (IC.tl 8 Qax) env (w2 H j k (pdO c r) ⟨dlC lb nm lo hi wt all xS p,78,0,true⟩++L) (FinP H.length Qfs (PdS c H j k res)):=by
 have hct:c.ts.length<4611686018427387904:=by omega
 subst hres;have hw:=QfP (p:=⟨dlC lb nm lo hi wt all xS p,78,0,true⟩) (L:=L++[⟨[st (B [59])],9,0,true⟩]) (q:=L.length) (n:=1) (T:=9) (ver:=0) (l:=[[59]]) hn hct hJ (by simp[wds]) rfl (by simp) (by intro s hs; simp at hs; subst hs; rfl) he ha;simp -implicitDefEqProofs[IC.tl,Qax,Qfs,h0,rp];refine Qaf (by simpa[rp]using hw) (λhe2 => ?_) (λhe2 H' hk => ?_)
 . rw[Qbe hJ];simp -implicitDefEqProofs;rw[Qay]at he2 ⊢;refine⟨_,_,PdS.ret (q:=(⟨1,lb,nm,lo,hi,wt,all,seen,[],[],[],p⟩,t2 c [59] r)) he2 rfl,?_⟩;refine Qns rfl hcl hJ ?_;have e1:=hS.fz [⟨[st (B [59])],9,0,true⟩] 1;have e2:=(Rw.und (Qyg wt) (QqC H.length wt) (L:=L)).fz [⟨[st (B [59])],9,0,true⟩] 1;simp only[dlC,Vg,VF,Qb.cN,e1,e2];simp[exN,acN]
 . simp -implicitDefEqProofs;exact⟨_,_,PdS.pan (q:=(⟨1,lb,nm,lo,hi,wt,all,seen,[],[],[],p⟩,t2 c [59] r)) he2 (hk.w2 hJ),Qj⟩
theorem QA5 (hn:Q4 c) (h20:c.ts.length<=20000) (hJ:J2 H j k) {d:Nat} {N:Nat} {K:ZF} {res:List Int×Rd} {L:ZG}
 (hexit:∀ l m M env,res.2.e=0->res.1=l->l.length=m+1->Gd c d res.2->env.get 0=rp j->K (.exit 0) env (w2 H j k (pdO c res.2) ⟨dlC lb nm lo hi wt false (.own (H.length+L.length) 0 (m+1) 1 m) p,78,0,true⟩++(L++⟨QM l,3,m,true⟩::M)))
 (hpan:res.2.e≠0->∀ env H',Qw H [j,k] H'->K (.panic (Q0 res.2.e res.2.p)) env H') :
 ∀ (n:Nat) (l:List Int) (m:Nat) (r:Rd) (M:ZG) (env:Env),c.ts.length<=r.a+n->l.length=m+1->l.length<=r.a+1->QaE c n l r=res->Gd c d r->r.e=0->env.get 0=rp j->env.get 1=rp k ->
  LI Tryz.prog N Qf QlC env (w2 H j k (pdO c r) ⟨dlC lb nm lo hi wt false (.own (H.length+L.length) 0 (m+1) 1 m) p,78,0,true⟩++(L++⟨QM l,3,m,true⟩::M)) K:=by
 have hct:c.ts.length<4611686018427387904:=by omega
 intro n
 induction n with
 |zero =>
  intro l m r M env hna hlm hla hr hg he h0 h1;refine Qu hm QlC.eq_1 ?_;have hp:Qd c [44] r=false:=by rw[<-Vk]; intro h; have:=Qam h; omega
  have h90:=λp L=>Qde hn (QbD (o:=pdO c r) (p:=p) hJ L) (by have:=hg.a; omega) he (s:=[44]) rfl;simp -implicitDefEqProofs[h0,h1,rp];refine Qc (by simpa[rp]using h90 _ _) ?_;simp only[Qae,hp];simp -implicitDefEqProofs[h0,h1];rw[Qbe hJ];simp only[QaE]at hr;subst hr;exact hexit l m M _ he rfl hlm hg (by simp)
 |succ n ih =>
  intro l m r M env hna hlm hla hr hg he h0 h1;refine Qu hm QlC.eq_1 ?_;have h90:=λp L=>Qde hn (QbD (o:=pdO c r) (p:=p) hJ L) (by have:=hg.a; omega) he (s:=[44]) rfl;simp -implicitDefEqProofs[h0,h1,rp];refine Qc (by simpa[rp]using h90 _ _) ?_;rw[QaE]at hr;by_cases hp:Qd c [44] r=true
  . rw[Zo hp]at hr;have hlt:=Qam hp;have hla2:=hg.a;have hg1:=hg.next hlt
    have he1:(Qa r).e=0:=he;have ha1:(Qa r).a=r.a+1:=rfl;rw[QcX hp]at hr;simp only[]at hr;rw[Qx9 he1]at hr;have hr2:QaE c n (l++[(Qck c (decide (l.length=32)) (Qa r)).1]) (Qck c (decide (l.length=32)) (Qa r)).2=res:=hr;have hd:(decide ((m:Int)+1=32))=decide (l.length=32):=by rw[ZC]; omega
    have h89:=λp L=>Qh0 (QbD (o:=pdO c (Qa r)) (p:=p) hJ L) (by omega) he1 (decide (l.length=32));obtain⟨k1,k2⟩:=QBo (decide (l.length=32)) hg1;simp only[Qae,hp,Zs];rw[Qbe hJ];have e2:=λo cs L f=>Qfb (o:=o) (p:=⟨cs,78,0,true⟩) hJ L f;have e3:=λo cs L=>Qfr (o:=o) hJ cs 78 L;simp -implicitDefEqProofs[h0,h1,rp,e3,dlC,hd];generalize Qck c (decide (l.length=32)) (Qa r)=q at hr2 h89 k1 k2;refine Qaf (by simpa[rp,dlC]using h89 _ _) (λhe2 => ?_) (λhe2 H' hk => ?_)
    . rw[Qbe hJ];simp -implicitDefEqProofs[e2,e3];have hil:(QM l).length=m+1:=by simp[QM,hlm]
      simp -implicitDefEqProofs;refine⟨by omega,by omega,hlm,?_⟩;refine LI.cong ?_ (ih (l++[q.1]) (m+1) q.2 (M++[⟨[i64 q.1],3,0,true⟩]) _ (by omega) (by simp[hlm]) (by simp; omega) hr2 k1 he2 ?_ ?_)
      . simp[QB7,dlC]
      all_goals simp[rp]
    . simp -implicitDefEqProofs;rw[QmL he2]at hr2;subst hr2;exact hpan he2 _ _ (hk.w2 hJ)
  . rw[Zn hp]at hr;rw[Vk]at hp;simp only[Qae,hp];simp -implicitDefEqProofs[h0,h1];rw[Qbe hJ];subst hr;exact hexit l m M _ he rfl hlm hg (by simp)
end
section
variable {H:ZG} {c:Cx} {r:Rd} {j k:Nat} {lb nm:ZE} {lo hi p:Int} {wt:List Ex}
theorem QjO {c:Cx} {s:ZE} {r:Rd}:(Qh c s r).2=t2 c s r:=rfl
theorem Qvc (hp:Qd c [115,101,101,110] r=false):QaI c r=((false,[]),r):=by unfold QaI; rw[Zn (by simp[hp])]
theorem QwI (hp:Qd c [115,101,101,110] r=true) (hb:(t2 c [98,121] (Qa r)).e≠0):(QaI c r).2=t2 c [98,121] (Qa r):=by
 unfold QaI;rw[Zo hp,QcX hp];dsimp only;generalize t2 c [98,121] (Qa r)=r1 at hb ⊢;rw[Zn (by rw[QaM hb]; decide),Qco r1 hb,QmL hb]
theorem QwD (hp:Qd c [115,101,101,110] r=true) (h2:Qd c [97,108,108] (t2 c [98,121] (Qa r))=true):QaI c r=((true,[]),Qa (t2 c [98,121] (Qa r))):=by
 unfold QaI;rw[Zo hp,QcX hp];dsimp only;rw[Zo h2,QcX h2]
theorem QvT (hp:Qd c [115,101,101,110] r=true) (h2:Qd c [97,108,108] (t2 c [98,121] (Qa r))=false) {r1:Rd} (h1:t2 c [98,121] (Qa r)=r1):QaI c r=((false,(QaE c c.ts.length [(nmR c r1).1] (nmR c r1).2).1),(QaE c c.ts.length [(nmR c r1).1] (nmR c r1).2).2):=by
 subst h1;unfold QaI;rw[Zo hp,QcX hp];dsimp only;rw[Zn (by rw[h2]; decide)]
theorem Qwb (hn:Q4 c) (h20:c.ts.length<=20000) (hcl:closed H) (hJ:J2 H j k) {d:Nat} (hg:Gd c d r) (he:r.e=0) {L:ZG} {env:Env} (h0:env.get 0=rp j) (h1:env.get 1=rp k) {res:Qb×Rd}
 (hres:(⟨1,lb,nm,lo,hi,wt,(QaI c r).1.1,(QaI c r).1.2,[],[],[],p⟩,t2 c [59] (QaI c r).2)=res) :
 X Tryz.prog Tryz.f147.ntmps Qf (IC.tl 7 Qax) env (w2 H j k (pdO c r) ⟨dlC lb nm lo hi wt false nl p,78,0,true⟩++L) (FinP H.length Qfs (PdS c H j k res)):=by
 have hct:c.ts.length<4611686018427387904:=by omega
 have ha:=hg.a;have tail:∀ (r:Rd) (all:Bool) (seen:List Int) (xS:SV) (L:ZG) (env:Env),r.e=0->r.a<=c.ts.length->Rw H.length L xS (inN seen)->env.get 0=rp j->(⟨1,lb,nm,lo,hi,wt,all,seen,[],[],[],p⟩,t2 c [59] r)=res->_:=λr all seen xS L env he ha hS h0 hr=>Qu3 (lb:=lb) (nm:=nm) (lo:=lo) (hi:=hi) (p:=p) (wt:=wt) hn h20 hcl hJ he ha hS h0 hr;have bad:∀ rf:Rd,rf.e≠0->(QaI c r).2=rf->∀ H',Qw H [j,k] H'->PdS c H j k res (.pan (Q0 rf.e rf.p)) H':=by
  intro rf hf hs H' hk;have:res.2=rf:=by rw[<-hres]; simp only[hs]; exact Q9 _ hf
  rw[<-this]at hf ⊢;exact PdS.pan hf hk
 have h90:=λp L=>Qde hn (QbD (o:=pdO c r) (p:=p) hJ L) (by omega) he (s:=[115,101,101,110]) rfl;have e2:=λo cs L f=>Qfb (o:=o) (p:=⟨cs,78,0,true⟩) hJ L f;have e3:=λo cs L=>Qfr (o:=o) hJ cs 78 L;rw[show IC.tl 7 Qax=.seq (IC.nth 7 Qax) (IC.tl 8 Qax)from rfl];generalize IC.tl 8 Qax=t8 at tail ⊢;simp[IC.nth,Qax,Qfs,h0,h1,rp];refine Qc (by simpa[rp]using h90 _ _) ?_;rw[Qbe hJ];by_cases hp:Qd c [115,101,101,110] r=true
 . have hg1:=hg.next (Qam hp)
   have he1:(Qa r).e=0:=he;simp only[Qae,hp,Zs];have hw:=QfP (p:=⟨dlC lb nm lo hi wt false nl p,78,0,true⟩) (L:=L++[⟨[st (B [98,121])],9,0,true⟩]) (q:=L.length) (n:=1) (T:=9) (ver:=0) (l:=[[98,121]]) hn hct hJ (by simp[wds]) rfl (by simp) (by intro s hs; simp at hs; subst hs; rfl) he1 hg1.a;have hgb:=(QN (c:=c) (d:=d) [98,121] hg1).1;simp;refine Qaf (by simpa[rp]using hw) (λhe2 => ?_) (λhe2 H' hk => ?_)
   . rw[Qbe hJ];simp only[Qay]at he2 ⊢;have hab:=QwD (c:=c) (r:=r) hp;have hli:=QvT (c:=c) (r:=r) hp;generalize t2 c [98,121] (Qa r)=r1 at hgb he2 hab hli ⊢;have ha1:=hgb.a;have h90:=λp L=>Qde hn (QbD (o:=pdO c r1) (p:=p) hJ L) (by omega) he2 (s:=[97,108,108]) rfl;simp;refine Qc (by simpa[rp]using h90 _ _) ?_;rw[Qbe hJ];by_cases hp2:Qd c [97,108,108] r1=true
     . have hg2:=hgb.next (Qam hp2)
       simp only[Qae,hp2,Zs];simp[e2,e3,dlC];have hx:=tail (Qa r1) true [] nl (L++[⟨[st (B [98,121])],9,0,true⟩]) ((54,rp k)::env) he2 hg2.a (Rw.und rfl rfl) (by simp[h0]) (by rw[<-hres,hab hp2]);refine Xc ?_ (tail (Qa r1) true [] nl (L++[⟨[st (B [98,121])],9,0,true⟩]) _ he2 hg2.a (Rw.und rfl rfl) ?_ (by rw[<-hres,hab hp2]))
       . simp[dlC]
       . simp[h0,rp]
     . rw[Vk]at hp2;have hli:=hli hp2 rfl;have h89:=λp L=>Qh0 (QbD (o:=pdO c r1) (p:=p) hJ L) (by omega) he2 false;have hkn:=Qch (c:=c) (d:=d) r1 hgb;simp only[QhE]at h89;simp only[Qae,hp2];simp[e2,e3,dlC];generalize nmR c r1=q at hkn h89 hli;obtain⟨k1,k2⟩:=hkn;refine Qaf (by simpa[rp]using h89 _ _) (λhe3 => ?_) (λhe3 H' hk => ?_)
       . rw[Qbe hJ];simp[e2,e3,dlC];generalize hs:QaE c c.ts.length [q.1] q.2=s at hli;refine LI.cong (H':=w2 H j k (pdO c q.2) ⟨dlC lb nm lo hi wt false (.own (H.length+(L++[⟨[st (B [98,121])],9,0,true⟩]:ZG).length) 0 (0+1) 1 0) p,78,0,true⟩++((L++[⟨[st (B [98,121])],9,0,true⟩])++⟨QM [q.1],3,0,true⟩::[])) (by simp[dlC,QM]) ?_;refine QA5 hn h20 hJ (L:=L++[⟨[st (B [98,121])],9,0,true⟩]) (res:=s) (λl m M env hs0 hsl hlm hgs h0 => ?_) (λhs0 env H' hk => ?_) c.ts.length [q.1] 0 q.2 [] _ (by omega) rfl (by simp) hs k1 he3 ?_ ?_
         . simp;have hR:Rw H.length ((L++[⟨[st (B [98,121])],9,0,true⟩])++⟨QM l,3,m,true⟩::M) (.own (H.length+(L++[⟨[st (B [98,121])],9,0,true⟩]:ZG).length) 0 (m+1) 1 m) (inN l):=by
            have:=Rw.own (n:=H.length) (q:=(L++[⟨[st (B [98,121])],9,0,true⟩]:ZG).length) (m:=m+1) (sz:=1) (ver:=m) (T:=3) (L:=(L++[⟨[st (B [98,121])],9,0,true⟩])++⟨QM l,3,m,true⟩::M) (cells:=QM l) (by simp) (by simp[QM,hlm]) (Qm4 _ _);have hne:l≠[]:=by rintro rfl; simp at hlm
            rw[inN,Zn hne,hlm]; exact this
           have hx:=tail s.2 false l _ _ env hs0 hgs.a hR h0 (by rw[<-hres,hli,hsl]);exact Xc (by simp[dlC]) hx
         . simp;exact⟨_,_,bad s.2 hs0 (by rw[hli]) _ hk,Qj⟩
         all_goals simp[h0,h1,rp]
       . simp;rw[QmL he3]at hli;exact⟨_,_,bad q.2 he3 (by rw[hli]) _ (hk.w2 hJ),Qj⟩
   . simp;rw[Qay]at he2;exact⟨_,_,bad _ he2 (QwI hp he2) _ (hk.w2 hJ),Qj⟩
 . rw[Vk]at hp;simp only[Qae,hp];simp;exact tail r false [] nl L _ he ha (Rw.und rfl rfl) (by simp[h0,rp]) (by rw[<-hres,Qvc hp])
end
def sC (lb:ZE) (p:Int):ZH:=[i64 0,st (B lb),st (B []),i64 0,i64 0,nl,bl false,nl,nl,nl,nl,i64 p]
section
variable {H:ZG} {c:Cx} {r:Rd} {j k:Nat} {lb:ZE} {p:Int} {F:Rd->Ex×Rd}
def QfI (c:Cx) (F:Rd->Ex×Rd) (lb:ZE) (p:Int) (r:Rd):Qb×Rd :=
 let nm:=QK c r
 let lo:=nmR c (t2 c [105,110] nm.2)
 let hi:=nmR c (t2 c [46,46] lo.2)
 let w:=QaQ c F [119,101,105,103,104,116] hi.2
 let s:=QaI c w.2
 (⟨1,lb,nm.1,lo.1,hi.1,w.1,s.1.1,s.1.2,[],[],[],p⟩,t2 c [59] s.2)
theorem Qmt (c:Cx) (s:ZE) (r:Rd):(Qh c s r).1=Qk c r:=rfl
theorem Que (r:Rd):QdB c F { QdE with lb:=lb } r=QfI c F lb (Qk c r) (t2 c [100,101,97,108] r):=by
 unfold QdB QfI;simp only[QdE,Qmt,QjO]
theorem QqA {o p:AO} (h:J2 H j k):(w2 H j k o p)[j]? = some o:=by simpa using QbD (o:=o) (p:=p) h []
theorem QqB {o p:AO} (h:J2 H j k) (o':AO):(w2 H j k o p).set j o'=w2 H j k o' p:=by simpa using Qbe (o:=o) (p:=p) h [] o'
theorem QmK {o:AO} (h:J2 H j k) (cs:ZH) (T:ZK):Qo (w2 H j k o ⟨cs,T,0,true⟩) k 0=cs:=by simpa using Qfr (o:=o) h cs T []
theorem Ql6 {o p:AO} (h:J2 H j k) (f:AO->AO):Ab.setObj (w2 H j k o p) k f=w2 H j k o (f p):=by simpa using Qfb (o:=o) (p:=p) h [] f
set_option maxHeartbeats 2000000 in
theorem QCn (hn:Q4 c) (h20:c.ts.length<=20000) (hcl:closed H) (hJ:J2 H j k) {d:Nat} (hF:PdC c 32 [] F d) (hkF:Kp c d F) (hst:Qt F) (hg:Gd c d r) (he:r.e=0) {L:ZG} {env:Env} (h0:env.get 0=rp j) (h1:env.get 1=rp k) {nm:ZE} {res:Qb×Rd}
 (hres:(λlo:Int×Rd=>(λhi:Int×Rd=>(λw:List Ex×Rd=>(λs:(Bool×List Int)×Rd=>((⟨1,lb,nm,lo.1,hi.1,w.1,s.1.1,s.1.2,[],[],[],p⟩,t2 c [59] s.2):Qb×Rd)) (QaI c w.2)) (QaQ c F [119,101,105,103,104,116] hi.2)) (nmR c (t2 c [46,46] lo.2))) (nmR c (t2 c [105,110] r))=res) :
 X Tryz.prog Tryz.f147.ntmps Qf (IC.tl 2 Qax) env (w2 H j k (pdO c r) ⟨dlC lb nm 0 0 [] false nl p,78,0,true⟩++L) (FinP H.length Qfs (PdS c H j k res)):=by
 have hct:c.ts.length<4611686018427387904:=by omega
 have ha:=hg.a;have tail:∀ (lo hi:Int) (wt:List Ex) (r:Rd) (L:ZG) (env:Env),Gd c d r->r.e=0->env.get 0=rp j->env.get 1=rp k->(⟨1,lb,nm,lo,hi,wt,(QaI c r).1.1,(QaI c r).1.2,[],[],[],p⟩,t2 c [59] (QaI c r).2)=res->_:=λlo hi wt r L env hg he h0 h1 hr=>Qwb (lb:=lb) (nm:=nm) (lo:=lo) (hi:=hi) (p:=p) (wt:=wt) (L:=L) hn h20 hcl hJ hg he h0 h1 hr;have bad:∀ rf:Rd,rf.e≠0->res.2=rf->∀ H',Qw H [j,k] H'->PdS c H j k res (.pan (Q0 rf.e rf.p)) H':=by
  intro rf hf hs H' hk;rw[<-hs]at hf ⊢;exact PdS.pan hf hk
 have e2:=λo cs L f=>Qfb (o:=o) (p:=⟨cs,78,0,true⟩) hJ L f;have e3:=λo cs L=>Qfr (o:=o) hJ cs 78 L;rw[show IC.tl 2 Qax=.seq (IC.nth 2 Qax) (IC.tl 3 Qax)from rfl,show IC.tl 3 Qax=.seq (IC.nth 3 Qax) (IC.tl 4 Qax)from rfl,show IC.tl 4 Qax=.seq (IC.nth 4 Qax) (IC.tl 5 Qax)from rfl,show IC.tl 5 Qax=.seq (IC.nth 5 Qax) (IC.tl 6 Qax)from rfl,show IC.tl 6 Qax=.seq (IC.nth 6 Qax) (IC.tl 7 Qax)from rfl];generalize IC.tl 7 Qax=t7 at tail ⊢;have hw:=QfP (p:=⟨dlC lb nm 0 0 [] false nl p,78,0,true⟩) (L:=L++[⟨[st (B [105,110])],9,0,true⟩]) (q:=L.length) (n:=1) (T:=9) (ver:=0) (l:=[[105,110]]) hn hct hJ (by simp[wds]) rfl (by simp) (by intro s hs; simp at hs; subst hs; rfl) he ha;have hg1:=(QN (c:=c) (d:=d) [105,110] hg).1;simp -implicitDefEqProofs[IC.nth,Qax,Qfs,h0,rp];refine Qaf (by simpa[rp]using hw) (λhe1 => ?_) (λhe1 H' hk => ?_)
 . rw[Qbe hJ];simp only[Qay]at he1 ⊢;generalize t2 c [105,110] r=r1 at hg1 he1 hres ⊢;have ha1:=hg1.a;have h89:=λp L=>Qh0 (QbD (o:=pdO c r1) (p:=p) hJ L) (by omega) he1 false;simp only[QhE]at h89;have hg2:=(Qch (c:=c) (d:=d) r1 hg1).1;simp -implicitDefEqProofs[h0,h1,rp];generalize nmR c r1=q at hg2 h89 hres;refine Qaf (by simpa[rp]using h89 _ _) (λhe2 => ?_) (λhe2 H' hk => ?_)
   . rw[Qbe hJ];simp -implicitDefEqProofs[h0,h1,rp,e2,e3,dlC];have hw:=QfP (p:=⟨dlC lb nm q.1 0 [] false nl p,78,0,true⟩) (L:=(L++[⟨[st (B [105,110])],9,0,true⟩])++[⟨[st (B [46,46])],9,0,true⟩]) (q:=(L++[(⟨[st (B [105,110])],9,0,true⟩:AO)]).length) (n:=1) (T:=9) (ver:=0) (l:=[[46,46]]) hn hct hJ (by simp[wds]) rfl (by simp) (by intro s hs; simp at hs; subst hs; rfl) he2 hg2.a;have hg3:=(QN (c:=c) (d:=d) [46,46] hg2).1;refine Qaf (by simpa[rp,dlC]using hw) (λhe3 => ?_) (λhe3 H' hk => ?_)
     . rw[Qbe hJ];simp only[Qay]at he3 ⊢;try simp only at hres
       generalize t2 c [46,46] q.2=r3 at hg3 he3 hres ⊢;have ha3:=hg3.a;have h89:=λp L=>Qh0 (QbD (o:=pdO c r3) (p:=p) hJ L) (by omega) he3 false;simp only[QhE]at h89;have hg4:=(Qch (c:=c) (d:=d) r3 hg3).1;simp -implicitDefEqProofs[h0,h1,rp];generalize nmR c r3=q4 at hg4 h89 hres;refine Qaf (by simpa[rp]using h89 _ _) (λhe4 => ?_) (λhe4 H' hk => ?_)
       . rw[Qbe hJ];simp -implicitDefEqProofs[h0,h1,rp,e2,e3];have h181:=λp L=>QpX hn hF (s:=[119,101,105,103,104,116]) rfl (QbD (o:=pdO c q4.2) (p:=p) hJ L) hct hg4 he4;have hg5:=(QgM hkF [119,101,105,103,104,116] _ hg4).1;try simp only at hres
         generalize QaQ c F [119,101,105,103,104,116] q4.2=q5 at hg5 h181 hres;refine Qaf (by simpa[rp]using h181 _ _) (λhe5 => ?_) (λhe5 H' hk => ?_)
         . rw[Qbe hJ];simp -implicitDefEqProofs[h0,h1,rp,e2,e3];refine Xc ?_ (tail q.1 q4.1 q5.1 q5.2 (L++[⟨[st (B [105,110])],9,0,true⟩,⟨[st (B [46,46])],9,0,true⟩]) _ hg5 he5 ?_ ?_ hres)
           . simp[dlC]
           all_goals simp[h0,h1,rp]
         . simp -implicitDefEqProofs;refine⟨_,_,bad _ he5 ?_ _ (hk.w2 hJ),Qj⟩;rw[<-hres,Qgl _ he5,Q9 _ he5]
       . simp -implicitDefEqProofs;refine⟨_,_,bad _ he4 ?_ _ (hk.w2 hJ),Qj⟩;rw[<-hres];simp only[QdU _ _ he4,Qgl _ he4,Q9 _ he4]
     . simp -implicitDefEqProofs;rw[Qay]at he3;refine⟨_,_,bad _ he3 ?_ _ (hk.w2 hJ),Qj⟩;rw[<-hres];simp only[Qco _ he3,QdU _ _ he3,Qgl _ he3,Q9 _ he3]
   . simp -implicitDefEqProofs;refine⟨_,_,bad _ he2 ?_ _ (hk.w2 hJ),Qj⟩;rw[<-hres];simp only[Qco _ he2,QdU _ _ he2,Qgl _ he2,Q9 _ he2]
 . simp -implicitDefEqProofs;rw[Qay]at he1;refine⟨_,_,bad _ he1 ?_ _ (hk.w2 hJ),Qj⟩;rw[<-hres];simp only[Qco _ he1,QdU _ _ he1,Qgl _ he1,Q9 _ he1]
set_option maxHeartbeats 2000000 in
theorem QzP (hn:Q4 c) (h20:c.ts.length<=20000) (hJ:J2 H j k) {d:Nat} (hF:PdC c 32 [] F d) (hkF:Kp c d F) (hst:Qt F) (ho:H[j]? = some (pdO c r)) (hk0:H[k]? = some ⟨sC lb p,78,0,true⟩) (hg:Gd c d r) (he:r.e=0) :
 OkP Tryz.prog 147 [rp j,rp k] H (PdS c H j k (QfI c F lb p r)):=by
 have hct:c.ts.length<4611686018427387904:=by omega
 have ha:=hg.a;have e2:=λo cs f=>Ql6 (o:=o) (p:=⟨cs,78,0,true⟩) hJ f;have e3:=λo cs=>QmK (o:=o) hJ cs 78;refine Qbd hm Tryz.func147 c147 (by simp[rp]) λhcl => ?_;refine Xc (H':=w2 H j k (pdO c r) ⟨sC lb p,78,0,true⟩) (Qmu ho hk0) ?_;have hg1:=(Qcq (c:=c) (d:=d) r hg).1;have h88:=λp=>Qme (QqA (o:=pdO c r) (p:=p) hJ) (by omega) he false;simp only[Qit]at h88;have tail:∀ (nm:ZE) (r:Rd) (L:ZG) (env:Env) (res:Qb×Rd),Gd c d r->r.e=0->env.get 0=rp j->env.get 1=rp k->_->_:=λnm r L env res hg he h0 h1 hr=>QCn (lb:=lb) (nm:=nm) (p:=p) (L:=L) (res:=res) hn h20 hcl hJ hF hkF hst hg he h0 h1 hr;rw[show Qax=.seq (IC.nth 0 Qax) (.seq (IC.nth 1 Qax) (IC.tl 2 Qax))from rfl];generalize IC.tl 2 Qax=t2' at tail ⊢;generalize hres:QfI c F lb p r=res;unfold QfI at hres;simp -implicitDefEqProofs[IC.nth,Qax,Qfs,rp,e2,e3,sC];generalize QK c r=q at hg1 h88 hres;refine Qaf (by simpa[rp]using h88 _) (λhe1 => ?_) (λhe1 H' hk => ?_)
 . rw[QqB hJ];simp -implicitDefEqProofs[e2,e3];refine Xc ?_ (tail q.1 q.2 [] _ res hg1 he1 ?_ ?_ hres)
   . simp[dlC,exN]
   all_goals simp[rp]
 . simp -implicitDefEqProofs;have hb:res.2=q.2:=by
    rw[<-hres];simp only[Qco _ he1,QdU _ _ he1,Qgl _ he1,Q9 _ he1]
   have hk':Qw H [j,k] H':=(show Qw (w2 H j k (pdO c r) _++[]) [j] H' by simpa using hk).w2 hJ;rw[<-hb]at he1 ⊢;exact⟨_,_,PdS.pan he1 hk',Qj⟩
end
theorem Qqv {P:ZL} (hm:P.follows .mixedOrders=true) {f:ZN} {fn:Func} {i:IC} {rs:List RS} (hf:P.funcs[f]? = some fn) (hc:QdG P Qf fn i rs=true)
 {args:ZH} {H:ZG} {Pt:Out->ZG->Prop} (hn:args.length=fn.params.size+fn.nfree)
 (hx:closed H->WI P fn.ntmps Qf i (Qcl args) H (FinP H.length rs Pt)):OkP P f args H Pt:=by
 unfold QdG at hc;rw[Va,Va,Va]at hc;obtain⟨⟨⟨h1,h2⟩,h3⟩,h4⟩:=hc;split at h1
 . rename_i c hb;exact Qj0 hf hb (by simpa using h2) (by rw[hn]; simpa using h4) h3 λhcl=>hx hcl c h1
 . cases h1
section
variable {H:ZG} {c:Cx} {r:Rd} {j:Nat}
theorem QbR (hj:j<H.length) (o:AO) (L:ZG):(H.set j o++L)[j]? = some o:=by rw[Vc (by simpa using hj)]; simp[hj]
theorem QaP (hj:j<H.length) (o o':AO) (L:ZG):(H.set j o++L).set j o'=H.set j o'++L:=by rw[Vm _ _ (by simpa using hj),VD]
theorem Qnf (hj:j<H.length) (r:Rd) (L:ZG):Ok Tryz.prog 91 [rp j] (H.set j (pdO c r)++L) (.ret (i64 (Qk c r))) (H.set j (pdO c r)++L):=Qgb (QbR hj _ _)
theorem Qiu (hn:Q4 c) (hj:j<H.length) (hl:r.a<4611686018427387904) (he:r.e=0) (L:ZG) {s:ZE} (hs:QcW s=true):Ok Tryz.prog 90 [rp j,st (B s)] (H.set j (pdO c r)++L) (.ret (bl (Qd c s r))) (H.set j (pdO c (Qae c s r))++L):=by
 have:=Qde hn (QbR hj (pdO c r) L) hl he hs
 rwa [QaP hj]at this
theorem Qip (hj:j<H.length) (hl:r.a<4611686018427387904) (he:r.e=0) (L:ZG) (full:Bool):OkP Tryz.prog 88 [rp j,bl full] (H.set j (pdO c r)++L) (PdV c (H.set j (pdO c r)++L) j (λs=>st (B s)) (Qbl c full r)):=Qme (QbR hj (pdO c r) L) hl he full
theorem Qs6 (hj:j<H.length) (hl:r.a<4611686018427387904) (he:r.e=0) (L:ZG) (full:Bool):OkP Tryz.prog 89 [rp j,bl full] (H.set j (pdO c r)++L) (PdV c (H.set j (pdO c r)++L) j i64 (Qck c full r)):=Qh0 (QbR hj (pdO c r) L) hl he full
theorem Qd0 (hn:Q4 c) (hct:c.ts.length<4611686018427387904) (hj:j<H.length) {L:ZG} {q n T ver:Nat} {l:ZD} (hL:L[q]? = some ⟨wds l,T,ver,true⟩) (hn':n=l.length) (hl:l.length<4611686018427387904) (hw:∀ s∈l,QcW s=true) (he:r.e=0) (ha:r.a<=c.ts.length) :
 OkP Tryz.prog 87 [rp j,.own (H.length+q) 0 n 1 ver] (H.set j (pdO c r)++L) (PdV c (H.set j (pdO c r)++L) j (λ_:Unit=>.tup []) ((),QcM c l r)):=by
 refine Qlx hn (QbR hj _ L) (λo => ?_) hl hct hw he ha;have:=Qkn (G:=H.set j (pdO c r)) (L:=L) (j:=j) (k:=q) (by simpa using hj) hL hn' o;simpa using this
def QgY (c:Cx) (r:Rd):ZE×Rd:=((QK c r).1,t2 c [59] (QK c r).2)
theorem Qv5 (hn:Q4 c) (hct:c.ts.length<4611686018427387904) {q:Nat} (hq:H[q]? = some (bxO j)) (ho:H[j]? = some (pdO c r)) (he:r.e=0) (ha:r.a<=c.ts.length):OkP Tryz.prog 201 [rp q] H (PdV c H j (λs=>st (B s)) (QgY c r)):=by
 have hj:=Ql ho;have hqj:=Ql hq;have hne:j≠q:=by
  rintro rfl;rw[hq]at ho;simp only[bxO,pdO,Option.some.injEq,AO.mk.injEq]at ho;have:=Zp List.length ho.1;simp[pdC]at this
 have e1:Qo H q 0=[rp j]:=Qav (o:=bxO j) hq rfl;have e1s:∀ o L,Qo (H.set j o++L) q 0=[rp j]:=λo L=>Qav (o:=bxO j) (by rw[Vc (by simpa using hqj),Vf hne]; exact hq) rfl;have e1n:∀ o,Qo (H.set j o) q 0=[rp j]:=λo=>by simpa using e1s o []
 have h88:=Qme ho (by omega) he false;simp only[Qit]at h88;have hwk:(QK c r).2.a<=c.ts.length:=by
  unfold QK; split
  . rename_i h; exact(QbV h).2.1
  . unfold Qg; split<;>exact ha
 refine Qbd hm Tryz.func201 c201 (by simp[rp]) λhcl => ?_;unfold QgY;simp -implicitDefEqProofs[i201,r201,rp,e1];generalize QK c r=w at h88 hwk ⊢;refine Qaf (by simpa[rp]using h88) (λhe1 => ?_) (λhe1 H' hk => ?_)
 . simp -implicitDefEqProofs[rp,e1n];have hw:=Qd0 (r:=w.2) (L:=[⟨[st (B [59])],9,0,true⟩]) (q:=0) (n:=1) (T:=9) (ver:=0) (l:=[[59]]) hn hct hj (by simp[wds]) rfl (by simp) (by intro s hs; simp at hs; subst hs; rfl) he1 hwk;refine Qaf (by simpa[rp]using hw) (λhe2 => ?_) (λhe2 H' hk => ?_)
   . rw[QaP hj];simp -implicitDefEqProofs;simp only[Qay]at he2 ⊢;exact⟨_,_,PdV.got he2 rfl rfl rfl,Qq 2 (QbQ (c:=c) (a:=(t2 c [59] w.2).a) (v:=(t2 c [59] w.2).v) hcl) (by simp) rfl⟩
   . simp -implicitDefEqProofs;rw[Qay]at he2;exact⟨_,_,PdV.pan (q:=(w.1,t2 c [59] w.2)) he2 hk.of_set,Qj⟩
 . simp -implicitDefEqProofs;refine⟨_,_,PdV.eqv (q:=w) (.inr ⟨he1,?_,?_⟩) (PdV.pan he1 hk),Qj⟩<;>simp only[Q9 _ he1]
theorem QCl {F:Rd->Ex×Rd} (l:List Qp):QaK c F l r=(⟨(Qbl c (decide (l.length=32)) r).1,(F (t2 c [61] (Qbl c (decide (l.length=32)) r).2)).1,Qk c r⟩,t2 c [59] (F (t2 c [61] (Qbl c (decide (l.length=32)) r).2)).2):=by
 have hh:Qk c (if l.length=32/\QU c r=true then Qg c 12 r else r)=Qk c r:=by
  split
  . unfold Qg; split<;>rfl
  . rfl
 unfold QaK Qbl;simp only[hh,Zq]
theorem QeN {F:Rd->Ex×Rd} {n:Nat} {l:List Qp} (h:r.e≠0):QaS c F n l r=(l,r):=by
 cases n with
 |zero=>rfl
 |succ n=>rw[QaS,Zn (λh2=>h h2.1)]
def QaT (n:Nat) (nm:ZE) (wh:List Ex) (hid:Bool) (m:Nat) (go:ZE) (p:Int):AO:=⟨[st (B nm),exN wh,bl hid,.own (n+3) 0 m 7 m,st (B go),i64 p],89,0,true⟩
set_option maxHeartbeats 2000000 in
theorem Qwt (hn:Q4 c) (h20:c.ts.length<=20000) (hj:j<H.length) {d:Nat} {F:Rd->Ex×Rd} (hF:PdC c 32 [] F d) (hkF:Kp c d F) (hst:Qt F) {nm:ZE} {wh:List Ex} {hid:Bool} {p:Int} {N:Nat} {K:ZF} {res:List Qp×Rd}
 (hexit:∀ env G,res.2.e=0->Qd c [125] res.2=true->Gd c d res.2->env.get 1=rp H.length->env.get 2=rp (H.length+1)->env.get 3=rp (H.length+2)->K (.exit 0) env (H.set j (pdO c (Qa res.2))++(bxO j::aZ::QaT H.length nm wh hid res.1.length [] p::Qby res.1::G)))
 (hpan:res.2.e≠0->∀ env H',Qw H [j] H'->K (.panic (Q0 res.2.e res.2.p)) env H') :
 ∀ (n:Nat) (l:List Qp) (r:Rd) (G:ZG) (env:Env),c.ts.length<r.a+n->l.length<=r.a->QaS c F n l r=res->Gd c d r->r.e=0->env.get 1=rp H.length->env.get 2=rp (H.length+1)->env.get 3=rp (H.length+2) ->
  LI Tryz.prog N Qf Qne env (H.set j (pdO c r)++(bxO j::aZ::QaT H.length nm wh hid l.length [] p::Qby l::G)) K:=by
 have hct:c.ts.length<4611686018427387904:=by omega
 intro n
 induction n with
 |zero=>intro l r G env hna hla hr hg; have:=hg.a; omega
 |succ n ih =>
  intro l r G env hna hla hr hg he h1 h2 h3;have ha:=hg.a;refine Qu hm Qne.eq_1 ?_;have h90:=Qiu (r:=r) hn hj (by omega) he (s:=[125]);simp -implicitDefEqProofs[h1,h2,h3,rp,bxO];refine Qc (by simpa[rp]using h90 _ rfl) ?_;rw[QaS]at hr;by_cases hp:Qd c [125] r=true
  . rw[Zn (by simp[hp])]at hr;subst hr;simp only[Qae,hp,Zs];simp -implicitDefEqProofs;exact hexit _ G he hp hg (by simp[rp]) (by simp[rp]) (by simp[rp])
  . rw[Vk]at hp;rw[Zo ⟨he,hp⟩]at hr;obtain⟨k1,k2,k3⟩:=QpB hkF l hg;have hseq:=QCl (c:=c) (r:=r) (F:=F) l;have hd:(decide ((l.length:Int)=32))=decide (l.length=32):=by rw[ZC]; omega
    have h88:=λL=>Qip (c:=c) (r:=r) hj (by omega) he L (decide (l.length=32));have hgw:=(Qrv (decide (l.length=32)) hg).1;simp only[Qae,hp];simp -implicitDefEqProofs[QaT];refine Qc (by simpa[rp]using Qnf (c:=c) hj r _) ?_;simp -implicitDefEqProofs[hd];generalize Qbl c (decide (l.length=32)) r=w at h88 hseq hgw;refine⟨rfl,?_⟩;refine Qaf (by simpa[rp]using h88 _) (λhe1 => ?_) (λhe1 H' hk => ?_)
    . rw[QaP hj];simp -implicitDefEqProofs;have hg2:=(QN (c:=c) (d:=d) [61] hgw).1;have hw:=Qd0 (H:=H) (j:=j) (r:=w.2) (L:=bxO j::aZ::QaT H.length nm wh hid l.length [] p::Qby l::(G++[⟨[st (B w.1),i64 0,i64 0,st (B []),nl,i64 0,i64 (Qk c r)],91,0,true⟩,⟨[st (B [61])],9,0,true⟩])) (q:=G.length+1+4) (n:=1) (T:=9) (ver:=0) (l:=[[61]]) hn hct hj (by simp[wds]) rfl (by simp) (by intro s hs; simp at hs; subst hs; rfl) he1 hgw.a;refine Qaf (by simpa[rp,bxO,QaT]using hw) (λhe2 => ?_) (λhe2 H' hk => ?_)
      . rw[QaP hj];simp only[Qay]at he2 ⊢;generalize t2 c [61] w.2=r2 at hg2 he2 hseq ⊢;have hc:=λL=>hF (QbR hj (pdO c r2) L) hg2 he2;have hg3:=(hkF _ hg2).1;simp -implicitDefEqProofs;refine Q5 (by simpa[rp]using hc _) ?_;intro o H' hq;unfold PdP PdV at hq;generalize F r2=x at hq hg3 hseq;by_cases he3:x.2.e=0
        . rw[Zo he3]at hq;obtain⟨rfl,rfl⟩:=hq;rw[QaP hj];simp -implicitDefEqProofs[Ex.v];have hw:=Qd0 (H:=H) (j:=j) (r:=x.2) (L:=bxO j::aZ::QaT H.length nm wh hid l.length [] p::Qby l::(G++[⟨st (B w.1)::(x.1.c++[i64 (Qk c r)]),91,0,true⟩,⟨[st (B [61])],9,0,true⟩,⟨[st (B [59])],9,0,true⟩])) (q:=G.length+2+4) (n:=1) (T:=9) (ver:=0) (l:=[[59]]) hn hct hj (by simp[wds]) rfl (by simp) (by intro s hs; simp at hs; subst hs; rfl) he3 hg3.a;refine Qaf (by simpa[rp,bxO,QaT]using hw) (λhe4 => ?_) (λhe4 H' hk => ?_)
          . rw[QaP hj];simp only[Qay]at he4 ⊢;simp -implicitDefEqProofs[Qby,Qa8 Qp.len];refine⟨by omega,by omega,?_⟩;have hs4:(QaK c F l r).2.e=0:=by rw[hseq]; exact he4
            have ha4:=k1.a;have k3':=k3 hs4;refine LI.cong ?_ (ih (l++[(QaK c F l r).1]) (QaK c F l r).2 (G++[⟨st (B w.1)::(x.1.c++[i64 (Qk c r)]),91,0,true⟩,⟨[st (B [61])],9,0,true⟩,⟨[st (B [59])],9,0,true⟩,⟨st (B w.1)::(x.1.c++[i64 (Qk c r)]),91,0,true⟩]) _ (by omega) (by simp; omega) hr k1 hs4 ?_ ?_ ?_)
            . rw[hseq];simp[QaT,Qby,Qil,rws,Qp.c,bxO,rp]
            all_goals simp[rp]
          . simp -implicitDefEqProofs;rw[Qay]at he4;have hs4:(QaK c F l r).2=t2 c [59] x.2:=by rw[hseq]
            rw[QeN (by rw[hs4]; exact he4),hs4]at hr;subst hr;exact hpan he4 _ _ hk.of_set
        . rw[Zn he3]at hq;obtain⟨rfl,hk⟩:=hq;simp -implicitDefEqProofs;have hs4:(QaK c F l r).2=x.2:=by rw[hseq]; exact Q9 _ he3
          rw[QeN (by rw[hs4]; exact he3),hs4]at hr;subst hr;exact hpan he3 _ _ hk.of_set
      . simp -implicitDefEqProofs;rw[Qay]at he2;have hs4:(QaK c F l r).2=t2 c [61] w.2:=by rw[hseq]; simp only[hst _ he2,Q9 _ he2]
        rw[QeN (by rw[hs4]; exact he2),hs4]at hr;subst hr;exact hpan he2 _ _ hk.of_set
    . simp -implicitDefEqProofs;have hs4:(QaK c F l r).2=w.2:=by rw[hseq]; simp only[Q9 _ he1,hst _ he1]
      rw[QeN (by rw[hs4]; exact he1),hs4]at hr;subst hr;exact hpan he1 _ _ hk.of_set
end
end Go.Proofs.YtmkdpmfhlfhjkaaGreatDoor
