/-
  Steps of the proof: contracts of functions and plain facts that the statement rests on.
-/
import Derived.Test.YtmkdpmfhlfhjkaaGreatDoorPart2
import Derived.Test.YtmkdpmfhlfhjkaaGreatDoorPWT
import Derived.Test.YtmkdpmfhlfhjkaaGreatDoorCore4
import Derived.LaidMore
import Derived.OpenShut
import Derived.Stop.Joined
import Derived.LaidHandle
import Derived.SevenTiedAt
set_option linter.all false
namespace Go.Proofs.YtmkdpmfhlfhjkaaGreatDoor
open Go.Ab
structure VarP where
 nm:List UInt8
 n:Int
 p:Int
structure SetP where
 nm:List UInt8
 e:Ex
 p:Int
structure ActP where
 nm:List UInt8
 wh:List Ex
 hid:Bool
 sets:List SetP
 go:List UInt8
 p:Int
structure StageP where
 k:Int
 lb:List UInt8
 nm:List UInt8
 lo:Int
 hi:Int
 wt:List Ex
 all:Bool
 seen:List Int
 who:List Ex
 acts:List ActP
 pays:List Ex
 p:Int
structure RulesP where
 nm:List UInt8
 pl:Int
 vars:List VarP
 stages:List StageP
def exS (l:List Ex):SV:=.slc (Ex.cL l) l.length
def VarP.c (v:VarP):List SV:=[st (B v.nm),i64 v.n,i64 v.p]
def SetP.c (s:SetP):List SV:=st (B s.nm)::(s.e.c++[i64 s.p])
def ActP.c (a:ActP):List SV:=[st (B a.nm),exS a.wh,bl a.hid,.slc (rws SetP.c a.sets) a.sets.length,st (B a.go),i64 a.p]
def StageP.c (x:StageP):List SV:=[i64 x.k,st (B x.lb),st (B x.nm),i64 x.lo,i64 x.hi,exS x.wt,bl x.all,.slc (ints x.seen) x.seen.length,exS x.who,.slc (rws ActP.c x.acts) x.acts.length,exS x.pays,i64 x.p]
def RulesP.c (r:RulesP):List SV:=[st (B r.nm),i64 r.pl,.slc (rws VarP.c r.vars) r.vars.length,.slc (rws StageP.c r.stages) r.stages.length]
def zStage:StageP:=⟨0,[],[],0,0,[],false,[],[],[],[],0⟩
def zRules:RulesP:=⟨[],0,[],[]⟩
section
variable (c:Cx) (orP:Rd->Ex×Rd)
def t2 (s:List UInt8) (r:Rd):Rd:=(takeR c s r).2
def optR (s:List UInt8) (r:Rd):List Ex×Rd:=if peekR c s r=true then([(orP (t2 c s r)).1],(orP (t2 c s r)).2)else([],r)
def flagR (s:List UInt8) (r:Rd):Bool×Rd:=if peekR c s r=true then(true,t2 c s r)else(false,r)
def setR (l:List SetP) (r:Rd):SetP×Rd :=
 let r1:=if l.length=32∧freeR c r=true then failR c 12 r else r
 let w:=wordR c r1
 let x:=orP (t2 c [61] w.2)
 (⟨w.1,x.1,hereR c r1⟩,t2 c [59] x.2)
def setsL:Nat->List SetP->Rd->List SetP×Rd
 | 0,l,r=>(l,r)
 | n+1,l,r=>if r.e=0∧peekR c [125] r=false then setsL n (l++[(setR c orP l r).1]) (setR c orP l r).2 else(l,r)
def gotoR (r:Rd):List UInt8×Rd :=
 if peekR c [103,111,116,111] r=true then((wordR c (t2 c [103,111,116,111] r)).1,t2 c [59] (wordR c (t2 c [103,111,116,111] r)).2)else([],r)
def actR (r:Rd):ActP×Rd :=
 let t:=takeR c [97,99,116,105,111,110] r
 let nm:=wordR c t.2
 let w:=optR c orP [119,104,101,110] nm.2
 let h:=flagR c [104,105,100,100,101,110] w.2
 let s:=setsL c orP (c.ts.length+1) [] (t2 c [123] h.2)
 let g:=gotoR c (t2 c [125] s.2)
 (⟨nm.1,w.1,h.1,s.1,g.1,t.1⟩,g.2)
def exprsL:Nat->List Ex->Rd->List Ex×Rd
 | 0,l,r=>(l,r)
 | n+1,l,r=>if peekR c [44] r=true then
  let r1:=t2 c [44] r
  let r2:=if l.length=32∧begR c r1=true then failR c 12 r1 else r1
  exprsL n (l++[(orP r2).1]) (orP r2).2
  else(l,r)
def exprsR (r:Rd):List Ex×Rd:=exprsL c orP c.ts.length [(orP r).1] (orP r).2
def seenL:Nat->List Int->Rd->List Int×Rd
 | 0,l,r=>(l,r)
 | n+1,l,r=>if peekR c [44] r=true then
  let r1:=t2 c [44] r
  let r2:=if l.length=32∧r1.a<c.ts.length∧tokB c { r1 with e:=0 } (fun t=>decide (t.k=2))=true then failR c 12 r1 else r1
  seenL n (l++[(nmR c r2).1]) (nmR c r2).2
  else(l,r)
def seenR (r:Rd):(Bool×List Int)×Rd :=
 if peekR c [115,101,101,110] r=true then
  let r1:=t2 c [98,121] (t2 c [115,101,101,110] r)
  if peekR c [97,108,108] r1=true then((true,[]),t2 c [97,108,108] r1)
  else
   let s:=seenL c c.ts.length [(nmR c r1).1] (nmR c r1).2
   ((false,s.1),s.2)
 else((false,[]),r)
def dealR (x:StageP) (r:Rd):StageP×Rd :=
 let t:=takeR c [100,101,97,108] r
 let nm:=wordR c t.2
 let lo:=nmR c (t2 c [105,110] nm.2)
 let hi:=nmR c (t2 c [46,46] lo.2)
 let w:=optR c orP [119,101,105,103,104,116] hi.2
 let s:=seenR c w.2
 ({ x with k:=1,p:=t.1,nm:=nm.1,lo:=lo.1,hi:=hi.1,wt:=w.1,all:=s.1.1,seen:=s.1.2 },t2 c [59] s.2)
def actsL (fuel:Nat):Nat->List ActP->Rd->List ActP×Rd
 | 0,l,r=>(l,r)
 | n+1,l,r=>if peekR c [97,99,116,105,111,110] r=true then
  let r1:=if l.length=10 then failR c 12 r else r
  actsL fuel n (l++[(actR c orP r1).1]) (actR c orP r1).2
  else(l,r)
def turnR (x:StageP) (r:Rd):StageP×Rd :=
 let t:=takeR c [116,117,114,110] r
 let w:=orP t.2
 let a:=actR c orP (t2 c [123] w.2)
 let l:=actsL c orP 0 c.ts.length [a.1] a.2
 ({ x with k:=2,p:=t.1,who:=[w.1],acts:=l.1 },t2 c [125] l.2)
def labelR (r:Rd):List UInt8×Rd:=if freeR c r=true then((wordR c r).1,t2 c [58] (wordR c r).2)else([],r)
def stageR (r:Rd):StageP×Rd :=
 let l:=labelR c r
 let x:={ zStage with lb:=l.1 }
 if peekR c [100,101,97,108] l.2=true then dealR c orP x l.2
 else if peekR c [116,117,114,110] l.2=true then turnR c orP x l.2
 else
  let t:=takeR c [101,110,100] l.2
  let e:=exprsR c orP (t2 c [112,97,121] (t2 c [123] t.2))
  ({ x with k:=3,p:=t.1,pays:=e.1 },t2 c [125] (t2 c [59] e.2))
def varR (l:List VarP) (r:Rd):VarP×Rd :=
 let r0:=t2 c [118,97,114] r
 let r1:=if l.length=40∧freeR c r0=true then failR c 12 r0 else r0
 let w:=wordR c r1
 let r2:=t2 c [61] w.2
 let s:=flagR c [45] r2
 let n:=nmR c s.2
 (⟨w.1,IntKind.i64.wrap ((if s.1 then -1 else 1)*n.1),hereR c r1⟩,t2 c [59] n.2)
def varsL:Nat->List VarP->Rd->List VarP×Rd
 | 0,l,r=>(l,r)
 | n+1,l,r=>if peekR c [118,97,114] r=true then varsL n (l++[(varR c l r).1]) (varR c l r).2 else(l,r)
def fullR (l:List StageP) (r:Rd):Rd :=
 if l.length=100∧(freeR c r||peekR c [100,101,97,108] r||peekR c [116,117,114,110] r||peekR c [101,110,100] r)=true then failR c 12 r else r
def stagesL:Nat->List StageP->Rd->List StageP×Rd
 | 0,l,r=>(l,r)
 | n+1,l,r=>if r.e=0∧(l=[]∨r.a<c.ts.length)then
  stagesL n (l++[(stageR c orP (fullR c l r)).1]) (stageR c orP (fullR c l r)).2
  else(l,r)
def parseT:RulesP×Int×Int :=
 let w:=wordR c (t2 c [103,97,109,101] ⟨0,0,0,0⟩)
 let n:=nmR c (t2 c [112,108,97,121,101,114,115] (t2 c [59] w.2))
 let v:=varsL c c.ts.length [] (t2 c [59] n.2)
 let s:=stagesL c orP (c.ts.length+1) [] v.2
 if s.2.e≠0 then(zRules,s.2.e,s.2.p)else(⟨w.1,n.1,v.1,s.1⟩,0,0)
end
def parseR (l:List UInt8):RulesP×Int×Int :=
 if(scanG l).2.1≠0 then(zRules,(scanG l).2)else parseT ⟨(scanG l).1,l.length⟩ (orT ⟨(scanG l).1,l.length⟩)
end Go.Proofs.YtmkdpmfhlfhjkaaGreatDoor
namespace Go.Proofs.YtmkdpmfhlfhjkaaGreatDoor
open Go.Ab
mutual
def Ex.sm:Ex->Prop
 | .mk _ _ _ l _=>l.length≤3∧Ex.smL l
def Ex.smL:List Ex->Prop
 | []=>True
 | e::r=>e.sm∧Ex.smL r
end
theorem smL_iff:∀ {l:List Ex},Ex.smL l↔∀ e∈l,e.sm
 | []=>by simp[Ex.smL]
 | e::r=>by simp[Ex.smL,smL_iff (l:=r)]
theorem zE_sm:zE.sm:=by simp[zE,Ex.sm,Ex.smL]
theorem mk0_sm (op n:Int) (nm:List UInt8) (p:Int):(Ex.mk op n nm [] p).sm:=by simp[Ex.sm,Ex.smL]
theorem mk1_sm {op n:Int} {nm:List UInt8} {p:Int} {a:Ex} (h:a.sm):(Ex.mk op n nm [a] p).sm:=by simp[Ex.sm,Ex.smL,h]
theorem mk2_sm {op n:Int} {nm:List UInt8} {p:Int} {a b:Ex} (h:a.sm) (h2:b.sm):(Ex.mk op n nm [a,b] p).sm:=by simp[Ex.sm,Ex.smL,h,h2]
section
variable {c:Cx} {F G:Rd->Ex×Rd}
theorem binL_sm {ops:List (List UInt8×Int)} (hF:∀ r,(F r).1.sm):∀ (n:Nat) (e:Ex) (r:Rd),e.sm->(binL c ops F n e r).1.sm
 | 0,e,r,h=>h
 | n+1,e,r,h=>by
  rw[binL]
  split
  · exact binL_sm hF n _ _ (mk2_sm h (hF _))
  · exact h
theorem binF_sm {ops:List (List UInt8×Int)} (hF:∀ r,(F r).1.sm) (r:Rd):(binF c ops F r).1.sm:=binL_sm hF _ _ _ (hF r)
theorem cmpF_sm (hF:∀ r,(F r).1.sm) (r:Rd):(cmpF c F r).1.sm:=by
 unfold cmpF
 split
 · exact mk2_sm (hF _) (hF _)
 · exact hF _
theorem notG_sm (hF:∀ r,(F r).1.sm) (hG:∀ r,(G r).1.sm) (r:Rd):(notG c F G r).1.sm:=by
 unfold notG
 split
 · split
   · exact zE_sm
   · exact mk1_sm (hG _)
 · exact hF _
theorem argsG_sm (hF:∀ r,(F r).1.sm):∀ (m:Nat) (l:List Ex) (r:Rd),(∀ x∈l,x.sm)->∀ l',(argsG c F m l r).1=some l'->l'.length=l.length+m∧∀ x∈l',x.sm
 | 0,l,r,h,l',h'=>by
  simp only[argsG,Option.some.injEq]at h'
  subst h'; exact⟨rfl,h⟩
 | m+1,l,r,h,l',h'=>by
  rw[argsG]at h'
  split at h'
  · cases h'
  · have:=argsG_sm hF m _ _ (fun x hx=>by
     rcases List.mem_append.1 hx with hx | hx
     · exact h x hx
     · rw[List.mem_singleton.1 hx]; exact hF _) l' h'
    refine⟨by rw[this.1]; simp; omega,this.2⟩
theorem callG_sm {s:List UInt8} {op p:Int} {m:Nat} (hm:m≤2) (hF:∀ r,(F r).1.sm) (r:Rd):(callG c F s op m p r).1.sm:=by
 unfold callG
 simp only[]
 split
 · exact zE_sm
 · have:=argsG_sm (c:=c) hF m [(F (openR c [40] (takeR c s r).2).2).1] (F (openR c [40] (takeR c s r).2).2).2 (fun x hx=>by rw[List.mem_singleton.1 hx]; exact hF _)
   generalize argsG c F m [(F (openR c [40] (takeR c s r).2).2).1] (F (openR c [40] (takeR c s r).2).2).2=q at this ⊢
   obtain⟨o,r3⟩:=q
   cases o with
   | none=>exact zE_sm
   | some l =>
    obtain⟨h1,h2⟩:=this l rfl
    simp only[Ex.sm]
    exact⟨by rw[h1]; simp; omega,smL_iff.2 h2⟩
theorem facG_sm (hF:∀ r,(F r).1.sm) (hG:∀ r,(G r).1.sm) (r:Rd):(facG c F G r).1.sm:=by
 unfold facG
 split
 · exact zE_sm
 · split
   · exact mk0_sm _ _ _ _
   · split
     · split
       · exact zE_sm
       · exact mk1_sm (hG _)
     · split
       · split
         · exact zE_sm
         · exact hF _
       · split
         · rename_i w hw
           have:w∈wrdO:=List.mem_of_find?_eq_some hw
           refine callG_sm ?_ hF r
           simp[wrdO]at this
           rcases this with rfl | rfl | rfl<;>decide
         · exact mk0_sm _ _ _ _
theorem lv_sm (c:Cx):∀ d:Nat,(∀ r,((lv c d).fac r).1.sm)∧(∀ r,((lv c d).nt r).1.sm)∧∀ r,(orOf c (lv c d) r).1.sm:=by
 have step:∀ (o f n:Rd->Ex×Rd),(∀ r,(o r).1.sm)->(∀ r,(f r).1.sm)->(∀ r,(n r).1.sm)->(∀ r,((lvS c o f n).fac r).1.sm)∧(∀ r,((lvS c o f n).nt r).1.sm)∧∀ r,(orOf c (lvS c o f n) r).1.sm:=by
  intro o f n h1 h2 h3
  have a1:∀ r,(facG c o f r).1.sm:=facG_sm h1 h2
  have a2:∀ r,(notG c (cmpOf c (facG c o f)) n r).1.sm:=notG_sm (cmpF_sm (binF_sm (binF_sm a1))) h3
  exact⟨a1,a2,binF_sm (binF_sm a2)⟩
 intro d
 induction d with
 | zero=>exact step _ _ _ (fun _=>zE_sm) (fun _=>zE_sm) (fun _=>zE_sm)
 | succ d ih=>exact step _ _ _ ih.2.2 ih.1 ih.2.1
end
theorem exL_get {l:List Ex} {i:Nat} (h:i<l.length):((Ex.cL l).drop (i*5)).take 5=l[i].c:=by
 rw[exL_rws,rws_at Ex.c_len h,List.take_left' (by simp)]
section
variable {H:List AO}
theorem loop37 {l:List Ex} (hl:l.length≤3) (hIH:∀ e∈l,∀ H,Ok Tryz.prog 13 [e.v,e.v] H (.ret (bl true)) H) {N:Nat} {K:XE->Env->List AO->Prop}
 (hexit:∀ env G,K (.exit 0) env (H++G)) :
 ∀ (k i:Nat) (G:List AO) (env:Env),i+k=l.length->env.get 0=exS l->env.get 1=exS l->env.get 5=i64 i →
  LI Tryz.prog N drawB l37_0 env (H++G) K:=by
 intro k
 induction k with
 | zero =>
  intro i G env hi h0 h1 h5
  refine li_go hm l37_0.eq_1 ?_
  have e:i=l.length:=by omega
  subst e
  simp -implicitDefEqProofs[h0,h1,h5,exS]
  exact hexit _ _
 | succ k ih =>
  intro i G env hi h0 h1 h5
  refine li_go hm l37_0.eq_1 ?_
  have hlt:i<l.length:=by omega
  have hlt':(i:Int)<l.length:=by omega
  have hg:=exL_get hlt
  have hlen:=exL_len l
  have h9:=hIH l[i] (List.getElem_mem hlt)
  generalize l[i]=e at hg h9
  simp -implicitDefEqProofs[h0,h1,h5,exS,hlt,hlt',hg,hlen]
  refine⟨by omega,callq_go (r:=bl true) (fun _=>h9 _) ?_⟩
  simp -implicitDefEqProofs[h0,h1,h5,exS,hlt,hlt',hg,hlen]
  refine ih (i+1) G _ (by omega) ?_ ?_ ?_
  all_goals simp[h0,h1,h5,exS,wrap_suc (show i<9223372036854775807 by omega)]
mutual
theorem ok13:∀ (e:Ex),e.sm->∀ (H:List AO),Ok Tryz.prog 13 [e.v,e.v] H (.ret (bl true)) H
 | .mk op n nm l p,he,H=>by
  unfold Ex.sm at he
  have hIH:=ok13L l he.2
  have h37:∀ H,Ok Tryz.prog 37 [exS l,exS l] H (.ret (bl true)) H:=fun H=>by
   refine ok_fn hm Tryz.func37 c37 (by simp) fun hcl => ?_
   simp -implicitDefEqProofs[i37,r37,exS]
   refine LI.cong (H':=H++[]) (by simp) ?_
   refine loop37 he.1 hIH (fun env G => ?_) l.length 0 [] _ (by omega) ?_ ?_ ?_
   · simp -implicitDefEqProofs
     refine cv_fz 2 hcl rfl ?_
     simp
   all_goals simp[exS]
  refine ok_fn hm Tryz.func13 c13 (by simp) fun hcl => ?_
  simp -implicitDefEqProofs[i13,r13,Ex.v,Ex.c]
  refine callq_st (r:=bl true) (fun _=>h37 _) ?_
  simp -implicitDefEqProofs
  refine cv_fz 2 hcl rfl ?_
  simp
theorem ok13L:∀ (l:List Ex),Ex.smL l->∀ e∈l,∀ (H:List AO),Ok Tryz.prog 13 [e.v,e.v] H (.ret (bl true)) H
 | [],_,_,h=>by cases h
 | e::r,hl,x,hx=>by
  unfold Ex.smL at hl
  by_cases hh:x=e
  · rw[hh]; exact ok13 e hl.1
  · exact ok13L r hl.2 x (by simpa[hh]using hx)
end
end
end Go.Proofs.YtmkdpmfhlfhjkaaGreatDoor
namespace Go.Proofs.YtmkdpmfhlfhjkaaGreatDoor
open Go.Ab
def chkT (k:Int) (tx:List UInt8) (n:Int):Int :=
 if tx=[]∨k<1∨3<k∨cAt tx 0=1∨tx.getD 0 0=35 then 3 else
  match stepT tx 0 with
  | .tok t q=>if q≠tx.length∨t.k≠k then 3 else if t.n≠n then 2 else 0
  | _=>3
theorem stepT_skip {l:List UInt8} {p q:Nat} (c1:cAt l p≠1) (c5:l.getD p 0≠35):stepT l p≠.skip q:=by
 intro hst
 unfold stepT at hst
 rw[if_neg c1]at hst
 have key:∀ k q',mkStp l p k q'≠.skip q:=by intro k q' h; unfold mkStp at h; split at h<;>cases h
 split at hst
 · exact key _ _ hst
 · split at hst
   · exact key _ _ hst
   · split at hst
     · exact key _ _ hst
     · first
       | exact key _ _ hst
       | (rw[if_neg c5]at hst; exact key _ _ hst)
end Go.Proofs.YtmkdpmfhlfhjkaaGreatDoor
namespace Go.Proofs.YtmkdpmfhlfhjkaaGreatDoor
open Go.Ab
def zC:List SV:=[i64 0,st (B []),i64 0,i64 0]
def tC (k:Int) (tx:List UInt8) (n:Int) (a:SV):List SV:=[i64 k,st (B tx),i64 n,a]
def sH25 (A:List AO) (tc fc:List SV) (tx:List UInt8) (r:Bool) (lo:AO) (L:List AO):List AO :=
 A++⟨tc,52,0,true⟩::⟨fc,52,0,true⟩::⟨[st (B tx)],9,0,true⟩::⟨[bl r],4,0,true⟩::lo::L
def e25 (A:List AO) (c:SV):Env:=[(1,.ptr (.own (A.length+1) 0 0 0 0) 0),(2,.ptr (.own A.length 0 0 0 0) 0),(3,.ptr (.own (A.length+2) 0 0 0 0) 0),(4,.ptr (.own (A.length+3) 0 0 0 0) 0),(27,c)]
section
variable {A:List AO} {tx:List UInt8}
theorem round170 {c a:SV} {k n:Int} {t:Tok} (L:List AO) :
 YlP Tryz.prog (A.length+4) [t.v,.val .nilIface] (sH25 A (tC k tx n a) zC tx false (lpo Tryz.prog 46 drawB 1 [28,29] ya170_0 yb170_0 ((e25 A c).vals 46) .ready) L) fun o H' =>
  o=.ret (bl false)∧∃ cs L,H'=sH25 A (tC k tx n a) t.c tx (decide (t.tx=tx)&&decide (t.k=k)) (lpo Tryz.prog 46 drawB 1 [28,29] ya170_0 yb170_0 cs .ret) L:=by
 refine yl_go (N:=46) (env:=e25 A c) hm ya170_0.eq_1 yb170_0.eq_1 (by simp[sH25]; rfl) (by simp[e25]) (by decide) rfl fun hcl => ?_
 generalize hlo:lpo Tryz.prog 46 drawB 1 [28,29] ya170_0 yb170_0 ((e25 A c).vals 46) .ready=lo
 simp -implicitDefEqProofs[e25,sH25,tC,zC,Tok.v,Tok.c]
 refine⟨_,hlo.symm,_,by simp; rfl,.ret,false,_,⟨rfl,rfl⟩,⟨rfl,(e25 A c).vals 46,L++[⟨t.c,52,0,true⟩],rfl⟩,cv_idq ?_⟩
 simp[set_app,e25,Tok.c]
theorem round25e {c a:SV} {k n e:Int} {p:Nat} (L:List AO) :
 YlP Tryz.prog (A.length+4) [zT,.ifc 115 (fltV e p)] (sH25 A (tC k tx n a) zC tx false (lpo Tryz.prog 46 drawB 1 [28,29] ya170_0 yb170_0 ((e25 A c).vals 46) .ready) L) fun o H' =>
  o=.ret (bl false)∧∃ cs L,H'=sH25 A (tC k tx n a) zC tx false (lpo Tryz.prog 46 drawB 1 [28,29] ya170_0 yb170_0 cs .ret) L:=by
 refine yl_go (N:=46) (env:=e25 A c) hm ya170_0.eq_1 yb170_0.eq_1 (by simp[sH25]; rfl) (by simp[e25]) (by decide) rfl fun hcl => ?_
 generalize hlo:lpo Tryz.prog 46 drawB 1 [28,29] ya170_0 yb170_0 ((e25 A c).vals 46) .ready=lo
 simp -implicitDefEqProofs[e25,sH25,tC,zC,zT]
 refine⟨_,hlo.symm,_,by simp; rfl,.ret,false,_,⟨rfl,rfl⟩,⟨rfl,(e25 A c).vals 46,L++[⟨zC,52,0,true⟩],rfl⟩,cv_idq ?_⟩
 simp[set_app,e25,zC]
def sglT (k:Int) (tx:List UInt8):Bool×List SV :=
 if tx=[]∨40<tx.length∨cAt tx 0=1∨tx.getD 0 0=35 then(false,zC)else
  match stepT tx 0 with
  | .tok t _=>(decide (t.tx=tx)&&decide (t.k=k),t.c)
  | _=>(false,zC)
end
end Go.Proofs.YtmkdpmfhlfhjkaaGreatDoor
namespace Go.Proofs.YtmkdpmfhlfhjkaaGreatDoor
open Go.Ab
abbrev o25 (c:List SV):AO:=⟨c,52,0,true⟩
theorem closed_last {A:List AO} {x o o':AO} (h:closed (A++[x,o])) (hu:∀ s∈o'.cells,s.under (A.length+2)=true):closed (A++[x,o']):=by
 intro i p hp s hs
 have e:(A++[x,o']).length=(A++[x,o]).length:=by simp
 rw[e]
 by_cases hi:i=A.length+1
 · subst hi
   have:p=o':=by simpa using hp.symm
   subst this
   simpa using hu s hs
 · have:(A++[x,o])[i]? = some p:=by
    rcases Nat.lt_or_ge i (A.length+1)with h1 | h1
    · rw[show A++[x,o']=(A++[x])++[o']by simp,List.getElem?_append_left (by simp; omega)]at hp
      rw[show A++[x,o]=(A++[x])++[o]by simp,List.getElem?_append_left (by simp; omega)]
      exact hp
    · have:=getElem?_lt hp
      simp at this; omega
   exact h i p this s hs
section
variable {A:List AO} {tx:List UInt8}
theorem ok170 (hl:tx.length<4611686018427387904) (k n:Int) (a:SV) :
 Ok Tryz.prog 170 [st (B tx),.ptr (.own (A.length+1) 0 0 0 0) 0,.ptr (.own A.length 0 0 0 0) 0] (A++[o25 (tC k tx n a),o25 zC]) (.ret (bl (sglT k tx).1)) (A++[o25 (tC k tx n a),o25 (sglT k tx).2]):=by
 refine ok_fn hm Tryz.func170 c170 (by simp) fun hcl => ?_
 have fin:∀ {b:Bool} {fc:List SV} {L:List AO},sglT k tx=(b,fc)->(∀ s∈fc,s.under (A.length+2)=true) →
  Cv (A++[o25 (tC k tx n a),o25 zC]).length (bl b) (A++o25 (tC k tx n a)::o25 fc::L) (bl (sglT k tx).1) (A++[o25 (tC k tx n a),o25 (sglT k tx).2]):=by
  intro b fc L h hu
  rw[h]
  have:=cv_fz (H:=A++[o25 (tC k tx n a),o25 fc]) (L:=L) (n0:=(A++[o25 (tC k tx n a),o25 zC]).length) (r1:=bl b) (r:=bl b) 4 (closed_last hcl hu) (by simp) (by simp)
  simpa using this
 have hz:∀ s∈zC,s.under (A.length+2)=true:=by intro s hs; simp[zC]at hs; rcases hs with rfl | rfl | rfl | rfl<;>rfl
 by_cases h1:tx=[]
 · have hr:sglT k tx=(false,zC):=by unfold sglT; rw[if_pos (.inl h1)]
   have f:=fun L=>fin (L:=L) hr hz
   generalize sglT k tx=g at f hr
   subst h1
   simp -implicitDefEqProofs[i170,r170]
   refine callq_off _ _ _ _ ?_
   simp -implicitDefEqProofs
   exact(by simpa using f _)
 have hpos:0<tx.length:=List.length_pos_iff.2 h1
 have hg:tx.getD 0 0=tx[0]:=by simp[hpos]
 have f1:((tx[0].toNat:Int)=35)↔tx[0]=35:=u8i tx[0] 35
 by_cases h2:40<tx.length
 · have hr:sglT k tx=(false,zC):=by unfold sglT; rw[if_pos (.inr (.inl h2))]
   have f:=fun L=>fin (L:=L) hr hz
   have h2':(40:Int)<tx.length:=by omega
   simp -implicitDefEqProofs[i170,r170,h1,h2']
   refine callq_off _ _ _ _ ?_
   simp -implicitDefEqProofs
   exact(by simpa using f _)
 have h2':¬ (40:Int)<tx.length:=by omega
 simp -implicitDefEqProofs[i170,r170,h1,h2',hpos]
 refine callq_st (r:=i64 (cls tx[0].toNat)) (fun _=>by rw[st_u8]; exact ok124 _) ?_
 have hca:cls tx[0].toNat=cAt tx 0:=(cAt_get hpos).symm
 by_cases h4:cAt tx 0=1
 · have hr:sglT k tx=(false,zC):=by unfold sglT; rw[if_pos (.inr (.inr (.inl h4)))]
   have f:=fun L=>fin (L:=L) hr hz
   simp -implicitDefEqProofs[hca,h4]
   exact(by simpa using f _)
 by_cases h5:tx[0]=35
 · have hr:sglT k tx=(false,zC):=by unfold sglT; rw[if_pos (.inr (.inr (.inr (by rw[hg]; exact h5))))]
   have f:=fun L=>fin (L:=L) hr hz
   simp -implicitDefEqProofs[hca,h4,hpos,h5]
   exact(by simpa using f _)
 have h5':¬ ((tx[0].toNat:Int)=35):=fun h=>h5 (f1.1 h)
 have hr:sglT k tx=match stepT tx 0 with
  | .tok t _=>(decide (t.tx=tx)&&decide (t.k=k),t.c)
  | _=>(false,zC):=by unfold sglT; rw[if_neg (by rw[hg]; rintro(h | h | h | h)<;>first | contradiction | omega)]<;>cases stepT tx 0<;>rfl
 simp -implicitDefEqProofs[hca,h4,hpos,h5']
 refine call_go ok70 ?_
 simp -implicitDefEqProofs[genV]
 obtain⟨m,hm1⟩:∃ m,tx.length=m+1:=⟨tx.length-1,by omega⟩
 have hes:evsT tx=match stepT tx 0 with
  | .skip q=>evs tx m q
  | .tok t q=>.tok t::evs tx m q
  | .flt e=>[.flt e 0]:=by unfold evsT; rw[hm1]; simp only[evs]; rw[if_pos (by omega)]<;>cases stepT tx 0<;>rfl
 refine rg_go (Pt:=fun o H'=>(∃ v,o=.ret v)∧∃ cs L,H'=sH25 A (tC k tx n a) (sglT k tx).2 tx (sglT k tx).1 (lpo Tryz.prog 46 drawB 1 [28,29] ya170_0 yb170_0 cs .ret) L) ?_ ?_
 · refine OkP.cast (args':=[.yl (A.length+4),.ptr (.slc [st (B tx)] 0) 0]) (H':=sH25 A (tC k tx n a) zC tx false (lpo Tryz.prog 46 drawB 1 [28,29] ya170_0 yb170_0 ((e25 A (.fn (.func 123) [] [.ptr (.slc [st (B tx)] 0) 0])).vals 46) .ready) []) (by simp) (by simp[sH25,e25]) ?_
   refine(ok123 (J:=fun i H'=>i=0∧∃ L,H'=sH25 A (tC k tx n a) zC tx false (lpo Tryz.prog 46 drawB 1 [28,29] ya170_0 yb170_0 ((e25 A (.fn (.func 123) [] [.ptr (.slc [st (B tx)] 0) 0])).vals 46) .ready) L)
    (Q:=fun H'=>∃ cs L,H'=sH25 A (tC k tx n a) (sglT k tx).2 tx (sglT k tx).1 (lpo Tryz.prog 46 drawB 1 [28,29] ya170_0 yb170_0 cs .ret) L) (y:=A.length+4) (es:=evsT tx) rfl hl ?_ ?_ ?_ ⟨rfl,[],rfl⟩).mono ?_
   · rintro i H' L' ⟨h0,L,rfl⟩
     exact⟨h0,L++L',by simp[sH25]⟩
   · rintro i t H' hi ⟨rfl,L,rfl⟩
     have hst:∃ q,stepT tx 0=.tok t q:=by
      rw[hes]at hi
      cases hs:stepT tx 0 with
      | skip q=>exact(stepT_skip h4 (by rw[hg]; exact h5) hs).elim
      | tok t' q=>rw[hs]at hi; simp at hi; exact⟨q,by rw[hi]⟩
      | flt e=>rw[hs]at hi; simp at hi
     obtain⟨q,hst⟩:=hst
     rw[hst]at hr
     refine(round170 (c:=.fn (.func 123) [] [.ptr (.slc [st (B tx)] 0) 0]) (a:=a) (k:=k) (n:=n) (t:=t) L).mono ?_
     rintro o H' ⟨rfl,cs,L',rfl⟩
     exact .inr ⟨rfl,cs,L',by rw[hr]⟩
   · rintro i e p H' hi ⟨rfl,L,rfl⟩
     have hst:stepT tx 0=.flt e:=by
      rw[hes]at hi
      cases hs:stepT tx 0 with
      | skip q=>exact(stepT_skip h4 (by rw[hg]; exact h5) hs).elim
      | tok t' q=>rw[hs]at hi; simp at hi
      | flt e'=>rw[hs]at hi; simp at hi; rw[hi.1]
     rw[hst]at hr
     refine(round25e (c:=.fn (.func 123) [] [.ptr (.slc [st (B tx)] 0) 0]) (a:=a) (k:=k) (n:=n) (e:=e) (p:=p) L).mono ?_
     rintro o H' ⟨rfl,cs,L',rfl⟩
     exact⟨⟨_,rfl⟩,cs,L',by rw[hr]⟩
   · rintro o H' ⟨hv,(⟨h0,_⟩ | hq)⟩
     · exfalso
       have:=congrArg List.length hes
       cases hs:stepT tx 0 with
       | skip q=>exact stepT_skip h4 (by rw[hg]; exact h5) hs
       | tok t' q=>rw[hs,h0]at this; simp at this
       | flt e'=>rw[hs,h0]at this; simp at this
     · exact⟨hv,hq⟩
 · rintro out H' ⟨⟨v,rfl⟩,cs,L,rfl⟩
   refine⟨.ret,_,by simp[sH25]; rfl,?_⟩
   simp -implicitDefEqProofs[sH25]
   have hsu:∀ s∈(sglT k tx).2,s.under (A.length+2)=true:=by
    rw[hr]
    cases stepT tx 0 with
    | tok t q=>intro s hs; simp[Tok.c]at hs; rcases hs with rfl | rfl | rfl | rfl<;>rfl
    | skip q=>exact hz
    | flt e=>exact hz
   have f:=fun L=>fin (L:=L) (b:=(sglT k tx).1) (fc:=(sglT k tx).2) rfl hsu
   exact(by simpa using f _)
end
end Go.Proofs.YtmkdpmfhlfhjkaaGreatDoor
namespace Go.Proofs.YtmkdpmfhlfhjkaaGreatDoor
open Go.Ab
section
variable {A H:List AO} {tx:List UInt8}
theorem ok171 (hl:tx.length<4611686018427387904) (k n e:Int) (a:SV) :
 Ok Tryz.prog 171 [st (B tx),.fn (.func 170) [] [.ptr (.own (A.length+1) 0 0 0 0) 0,.ptr (.own A.length 0 0 0 0) 0],i64 e] (A++[o25 (tC k tx n a),o25 zC]) (.ret (i64 (if(sglT k tx).1=true then 0 else e))) (A++[o25 (tC k tx n a),o25 (sglT k tx).2]):=by
 refine ok_fn hm Tryz.func171 c171 (by simp) fun hcl => ?_
 simp -implicitDefEqProofs[i171,r171]
 refine call_go (ok170 (A:=A) hl k n a) ?_
 by_cases hb:(sglT k tx).1=true
 · simp -implicitDefEqProofs[hb]
   exact cv_id
 · rw[Bool.not_eq_true]at hb
   simp -implicitDefEqProofs[hb]
   exact cv_id
theorem ok173 {fc:List SV} {o:AO} (m:Int) (n:Int) (hf:fc.getD 2 .any=i64 m) (hlen:fc.length=4):Ok Tryz.prog 173 [i64 n,.ptr (.own (A.length+1) 0 0 0 0) 0] (A++[o,o25 fc]) (.ret (bl (decide (n=m)))) (A++[o,o25 fc]):=by
 refine ok_fn hm Tryz.func173 c173 (by simp) fun hcl => ?_
 match fc,hlen with
 | [x0,x1,x2,x3],_ =>
  have:x2=i64 m:=by simpa using hf
  subst this
  simp -implicitDefEqProofs[i173,r173]
  exact cv_id
theorem ok172 {fc:List SV} {o:AO} (m n e:Int) (hf:fc.getD 2 .any=i64 m) (hlen:fc.length=4) :
 Ok Tryz.prog 172 [i64 n,.fn (.func 173) [] [.ptr (.own (A.length+1) 0 0 0 0) 0],i64 e] (A++[o,o25 fc]) (.ret (i64 (if n=m then 0 else e))) (A++[o,o25 fc]):=by
 refine ok_fn hm Tryz.func172 c172 (by simp) fun hcl => ?_
 simp -implicitDefEqProofs[i172,r172]
 refine call_go (ok173 (A:=A) m n hf hlen) ?_
 by_cases hb:n=m
 · simp -implicitDefEqProofs[hb]
   exact cv_id
 · simp -implicitDefEqProofs[hb]
   exact cv_id
end
end Go.Proofs.YtmkdpmfhlfhjkaaGreatDoor
namespace Go.Proofs.YtmkdpmfhlfhjkaaGreatDoor
open Go.Ab
theorem mkStp_tx {l:List UInt8} {p q q':Nat} {k:Int} {t:Tok} (h:mkStp l p k q=.tok t q'):t.tx=cut l p q∧(whE l k (cut l p q) p).1=0:=by
 unfold mkStp at h
 split at h
 · cases h
 · rename_i hn; cases h; exact⟨rfl,by simpa using hn⟩
theorem tok_facts {l:List UInt8} {p q:Nat} {t:Tok} (hp:p<l.length) (h:stepT l p=.tok t q):t.tx=cut l p q∧1≤t.k∧t.k≤3∧q-p≤40:=by
 have hq:=mkq h hp
 unfold stepT at h
 split at h
 · cases h
 · split at h
   · have hk:=mkStp_tok h
     have hx:=mkStp_tx h
     obtain⟨rfl,hk,_⟩:=hk
     refine⟨hx.1,by omega,by omega,?_⟩
     have hlen:=cut_len (l:=l) (Nat.le_of_lt hq.1) hq.2
     rcases Nat.lt_or_ge 40 (runE l [2,3] p-p)with h40 | h40
     · have h2:=hx.2
       unfold whE at h2
       rw[hlen]at h2
       split at h2
       · cases h2
       · rw[if_pos ⟨rfl,h40⟩]at h2; cases h2
     · exact h40
   · split at h
     · have hk:=mkStp_tok h
       have hx:=mkStp_tx h
       obtain⟨rfl,hk,_⟩:=hk
       refine⟨hx.1,by omega,by omega,?_⟩
       have hlen:=cut_len (l:=l) (Nat.le_of_lt hq.1) hq.2
       rcases Nat.lt_or_ge 10 (runE l [3] p-p)with h10 | h10
       · exfalso
         have h2:=hx.2
         unfold whE at h2
         split at h2
         · cases h2
         · rw[if_neg (fun h=>absurd h.1 (by decide)),if_neg (by decide)]at h2
           split at h2
           · cases h2
           · rename_i hz
             have hv:=numW_long (tx:=cut l p (runE l [3] p)) run_digits (by omega) (fun h=>hz ⟨by omega,h⟩)
             rw[(numR_val (tx:=cut l p (runE l [3] p)) (m:=0) run_digits (by omega) (by omega)).2 hv]at h2
             cases h2
       · omega
     · split at h
       · have hk:=mkStp_tok h
         have hx:=mkStp_tx h
         obtain⟨rfl,hk,_⟩:=hk
         refine⟨hx.1,by omega,by omega,?_⟩
         unfold signE
         split
         · omega
         · split<;>omega
       · split at h
         · cases h
         · have hk:=(mkStp_tok h).1
           omega
theorem chk_eq {k n m:Int} {tx:List UInt8} (hm:(sglT k tx).2.getD 2 .any=i64 m):(if(sglT k tx).1=true then(if n=m then 0 else 2)else 3)=chkT k tx n:=by
 have e3:(sglT k tx).1=false->chkT k tx n=3->(if(sglT k tx).1=true then(if n=m then 0 else 2)else 3)=chkT k tx n:=fun a b=>by rw[a,b]; simp
 by_cases h1:tx=[]
 · exact e3 (by unfold sglT; rw[if_pos (.inl h1)]) (by unfold chkT; rw[if_pos (.inl h1)])
 have hpos:0<tx.length:=List.length_pos_iff.2 h1
 by_cases h4:cAt tx 0=1
 · exact e3 (by unfold sglT; rw[if_pos (.inr (.inr (.inl h4)))]) (by unfold chkT; rw[if_pos (.inr (.inr (.inr (.inl h4))))])
 by_cases h5:tx.getD 0 0=35
 · exact e3 (by unfold sglT; rw[if_pos (.inr (.inr (.inr h5)))]) (by unfold chkT; rw[if_pos (.inr (.inr (.inr (.inr h5))))])
 cases hst:stepT tx 0 with
 | skip q=>exact(stepT_skip h4 h5 hst).elim
 | flt e=>exact e3 (by unfold sglT; rw[hst]; split<;>rfl) (by unfold chkT; rw[hst]; split<;>rfl)
 | tok t q =>
  obtain⟨g1,g2,g3,g4⟩:=tok_facts hpos hst
  have hq:=mkq hst hpos
  have hcut:cut tx 0 q=tx.take q:=by simp[cut]
  have hx:t.tx=tx↔q=tx.length:=by
   rw[g1,hcut]
   constructor
   · intro h; have:=congrArg List.length h; simp at this; omega
   · intro h; rw[h,List.take_length]
  by_cases hk:k<1∨3<k
  · refine e3 ?_ (by unfold chkT; rw[if_pos (by rcases hk with h | h; exact .inr (.inl h); exact .inr (.inr (.inl h)))])
    unfold sglT; rw[hst]; split
    · rfl
    · have:¬ t.k=k:=by omega
      simp[this]
  · have hc:chkT k tx n=if q≠tx.length∨t.k≠k then 3 else if t.n≠n then 2 else 0:=by
     unfold chkT; rw[if_neg (by rintro(h | h | h | h | h)<;>first | contradiction | omega),hst]
    by_cases h40:40<tx.length
    · exact e3 (by unfold sglT; rw[if_pos (.inr (.inl h40))]) (by rw[hc,if_pos (.inl (by omega))])
    · have hs:sglT k tx=(decide (t.tx=tx)&&decide (t.k=k),t.c):=by
       unfold sglT; rw[if_neg (by rintro(h | h | h | h)<;>first | contradiction | omega),hst]
      have hmm:m=t.n:=by
       rw[hs]at hm
       have:i64 t.n=i64 m:=hm
       unfold i64 at this
       cases this; rfl
      by_cases a1:q=tx.length
      · by_cases a2:t.k=k
        · have e:(decide (t.tx=tx)&&decide (t.k=k))=true:=by simp[hx.2 a1,a2]
          have hc2:chkT k tx n=if t.n≠n then 2 else 0:=by rw[hc,if_neg (by rintro(h | h)<;>contradiction)]
          rw[hs,hc2,hmm]
          simp only[e,if_true]
          by_cases a3:n=t.n
          · simp[a3]
          · rw[if_neg a3,if_pos (fun h:t.n=n=>a3 h.symm)]
        · exact e3 (by rw[hs]; simp[a2]) (by rw[hc,if_pos (.inr a2)])
      · have hne:¬ t.tx=tx:=fun h=>a1 (hx.1 h)
        exact e3 (by rw[hs]; simp[hne]) (by rw[hc,if_pos (.inl a1)])
end Go.Proofs.YtmkdpmfhlfhjkaaGreatDoor
namespace Go.Proofs.YtmkdpmfhlfhjkaaGreatDoor
open Go.Ab
theorem sgl_m (k:Int) (tx:List UInt8):∃ m,(sglT k tx).2.getD 2 .any=i64 m∧(sglT k tx).2.length=4:=by
 unfold sglT
 split
 · exact⟨0,rfl,rfl⟩
 · split
   · rename_i t _ _; exact⟨t.n,rfl,rfl⟩
   · exact⟨0,rfl,rfl⟩
section
variable {H:List AO} {tx:List UInt8}
theorem ok134 (hl:tx.length<4611686018427387904) (k n:Int) (a:SV) (ha:a.isCell=true):Ok Tryz.prog 134 [.agg [i64 k,st (B tx),i64 n,a]] H (.ret (i64 (chkT k tx n))) H:=by
 refine ok_fn hm Tryz.func134 c134 (by simp) fun hcl => ?_
 obtain⟨m,hm1,hm2⟩:=sgl_m k tx
 rw[←chk_eq (k:=k) (n:=n) (tx:=tx) hm1]
 simp -implicitDefEqProofs[i134,r134,ha]
 refine call_go (ok171 (A:=H) hl k n 3 a) ?_
 by_cases hb:(sglT k tx).1=true
 · simp -implicitDefEqProofs[hb,tC]
   refine call_go (ok172 (A:=H) m n 2 hm1 hm2) ?_
   by_cases hn:n=m
   · simp -implicitDefEqProofs[hn]
     exact cv_fz 4 hcl rfl (by simp[hb])
   · simp -implicitDefEqProofs[hn]
     exact cv_fz 4 hcl rfl (by simp[hb])
 · rw[Bool.not_eq_true]at hb
   simp -implicitDefEqProofs[hb]
   exact cv_fz 4 hcl rfl (by simp[hb])
end
end Go.Proofs.YtmkdpmfhlfhjkaaGreatDoor
namespace Go.Proofs.YtmkdpmfhlfhjkaaGreatDoor
open Go.Ab
def sgn2:List (List UInt8):=[[42],[47],[37],[43],[45],[61,61],[33,61],[60],[60,61],[62],[62,61],[97,110,100],[111,114]]
def sgnO (op:Int):List UInt8×Int :=
 if op=3 then([45],1)else if op=4 then([110,111,116],1)else if op=18 then([109,105,110],2)else if op=19 then([109,97,120],2)
 else if op=20 then([105,102],3)else if op<5∨17<op then([],0)else(sgn2.getD (op-5).toNat [],2)
def alnB (op:Int):Bool:=decide (op=18)||decide (op=19)||decide (op=20)
def namB (s:List UInt8):Bool:=decide (chkT 1 s 0=0) && !decide (s∈resv)
def sglE:Ex->Bool
 | .mk op n nm l _ =>
  if op=1 then decide (nm=[])&&decide (l=[])&&decide (0≤n∧n≤1000000000)
  else if op=2 then decide (n=0)&&decide (l=[])&&namB nm
  else decide (0<(sgnO op).2)&&decide ((l.length:Int)=(sgnO op).2)&&decide (n=0)&&decide (nm=[])
def Ex.nmE:Ex->List UInt8
 | .mk _ _ nm _ _=>nm
section
variable {H:List AO}
theorem ok102 (a n b:Int):Ok Tryz.prog 102 [i64 a,i64 n,i64 b] H (.ret (bl (decide (a≤n∧n≤b)))) H:=by
 refine ok_fn hm Tryz.func102 c102 (by simp) fun hcl => ?_
 by_cases h:a≤n
 · simp -implicitDefEqProofs[i102,r102,h]
   exact cv_id
 · simp -implicitDefEqProofs[i102,r102,h]
   exact cv_id
theorem ok132 (op:Int):Ok Tryz.prog 132 [i64 op] H (.ret (bl (alnB op))) H:=by
 refine ok_fn hm Tryz.func132 c132 (by simp) fun hcl => ?_
 unfold alnB
 by_cases h:op=18
 · simp -implicitDefEqProofs[i132,r132,h]
   exact cv_id
 · by_cases h2:op=19
   · simp -implicitDefEqProofs[i132,r132,h,h2]
     exact cv_id
   · simp -implicitDefEqProofs[i132,r132,h,h2]
     exact cv_id
theorem ok131 (op:Int):Ok Tryz.prog 131 [i64 op] H (.ret (.tup [st (B (sgnO op).1),i64 (sgnO op).2])) H:=by
 refine ok_fn hm Tryz.func131 c131 (by simp) fun hcl => ?_
 by_cases h1:op=3
 · subst h1; simp -implicitDefEqProofs[i131,r131,sgnO]; exact cv_id
 by_cases h2:op=4
 · subst h2; simp -implicitDefEqProofs[i131,r131,sgnO]; exact cv_id
 by_cases h3:op=18
 · subst h3; simp -implicitDefEqProofs[i131,r131,sgnO]; exact cv_id
 by_cases h4:op=19
 · subst h4; simp -implicitDefEqProofs[i131,r131,sgnO]; exact cv_id
 by_cases h5:op=20
 · subst h5; simp -implicitDefEqProofs[i131,r131,sgnO]; exact cv_id
 by_cases h6:op<5
 · simp -implicitDefEqProofs[i131,r131,sgnO,h1,h2,h3,h4,h5,h6]; exact cv_id
 by_cases h7:17<op
 · simp -implicitDefEqProofs[i131,r131,sgnO,h1,h2,h3,h4,h5,h6,h7]; exact cv_id
 obtain⟨k,rfl⟩:∃ k:Nat,op=(k:Int)+5:=⟨(op-5).toNat,by omega⟩
 have hk:k<13:=by omega
 have w:IntKind.i64.wrap ((k:Int)+5-5)=k:=by
  have:(k:Int)+5-5=k:=by omega
  rw[this]; exact wrap_nat (by omega)
 have w2:IntKind.i64.wrap (k:Int)=k:=wrap_nat (by omega)
 have hk':(k:Int)<13:=by omega
 simp -implicitDefEqProofs[i131,r131,h1,h2,h3,h4,h5,h6,h7,w,w2,hk,hk']
 refine⟨by omega,cv_fz 3 hcl rfl ?_⟩
 have e:sgnO ((k:Int)+5)=(sgn2.getD k [],2):=by
  unfold sgnO
  rw[if_neg h1,if_neg h2,if_neg h3,if_neg h4,if_neg h5,if_neg (by omega)]
  have:((k:Int)+5-5).toNat=k:=by omega
  rw[this]
 rw[e]
 have:k=0∨k=1∨k=2∨k=3∨k=4∨k=5∨k=6∨k=7∨k=8∨k=9∨k=10∨k=11∨k=12:=by omega
 rcases this with rfl | rfl | rfl | rfl | rfl | rfl | rfl | rfl | rfl | rfl | rfl | rfl | rfl<;>rfl
theorem ok101 {s:List UInt8} (hl:s.length<4611686018427387904):Ok Tryz.prog 101 [st (B s)] H (.ret (bl (namB s))) H:=by
 refine ok_fn hm Tryz.func101 c101 (by simp) fun hcl => ?_
 simp -implicitDefEqProofs[i101,r101]
 refine call_go (ok134 hl 1 0 (i64 0) rfl) ?_
 by_cases h:chkT 1 s 0=0
 · simp -implicitDefEqProofs[h]
   refine callq_st (r:=bl (decide (s∈resv))) (fun _=>ok146 s) ?_
   simp -implicitDefEqProofs[h]
   have e:namB s = !decide (s∈resv):=by simp[namB,h]
   rw[e]; exact cv_id
 · simp -implicitDefEqProofs[h]
   refine callq_off _ _ _ _ ?_
   simp -implicitDefEqProofs[h]
   have e:namB s=false:=by simp[namB,h]
   rw[e]; exact cv_id
theorem ok130 {e:Ex} (hs:sglE e=true) (hnm:e.nmE.length<4611686018427387904):Ok Tryz.prog 130 [e.v] H (.ret (bl true)) H:=by
 obtain⟨op,n,nm,l,p⟩:=e
 refine ok_fn hm Tryz.func130 c130 (by simp) fun hcl => ?_
 simp only[sglE]at hs
 by_cases h1:op=1
 · rw[if_pos h1]at hs
   simp only[Bool.and_eq_true,decide_eq_true_eq]at hs
   obtain⟨⟨rfl,rfl⟩,h3,h4⟩:=hs
   subst h1
   simp -implicitDefEqProofs[i130,r130,Ex.v,Ex.c]
   refine callq_st (r:=bl true) (fun _=>by have h:=fun H=>ok102 (H:=H) 0 n 1000000000; rw[decide_eq_true (And.intro h3 h4)]at h; exact h _) ?_
   simp -implicitDefEqProofs
   exact cv_fz 3 hcl rfl (by simp)
 by_cases h2:op=2
 · rw[if_neg h1,if_pos h2]at hs
   simp only[Bool.and_eq_true,decide_eq_true_eq]at hs
   obtain⟨⟨rfl,rfl⟩,h3⟩:=hs
   subst h2
   simp -implicitDefEqProofs[i130,r130,Ex.v,Ex.c]
   refine callq_st (r:=bl true) (fun _=>by have h:=fun H=>ok101 (H:=H) (s:=nm) hnm; rw[h3]at h; exact h _) ?_
   simp -implicitDefEqProofs
   exact cv_fz 3 hcl rfl (by simp)
 rw[if_neg h1,if_neg h2]at hs
 simp only[Bool.and_eq_true,decide_eq_true_eq]at hs
 obtain⟨⟨⟨h3,h4⟩,rfl⟩,rfl⟩:=hs
 simp -implicitDefEqProofs[i130,r130,Ex.v,Ex.c,h1,h2]
 refine call_go (ok131 op) ?_
 simp -implicitDefEqProofs[h3,h4]
 exact cv_fz 3 hcl rfl (by simp)
end
end Go.Proofs.YtmkdpmfhlfhjkaaGreatDoor
namespace Go.Proofs.YtmkdpmfhlfhjkaaGreatDoor
open Go.Ab
def byO (o:List UInt8) (v:Nat):AO:=⟨sbyts (B o),5,v,true⟩
def prO (q n v:Nat):AO:=⟨[.own q 0 n 1 v],85,0,true⟩
structure PrA (G:List AO) (j q:Nat) (o:List UInt8) (v:Nat):Prop where
 h1:G[j]? = some (prO q o.length v)
 h2:G[q]? = some (byO o v)
 h3:j≠q
def wr (G:List AO) (j q:Nat) (o:List UInt8) (v:Nat):List AO:=(G.set j (prO q o.length v)).set q (byO o v)
@[simp] theorem wr_len (G:List AO) (j q:Nat) (o:List UInt8) (v:Nat):(wr G j q o v).length=G.length:=by simp[wr]
theorem sbyts_len (o:List UInt8):(sbyts (B o)).length=o.length:=by simp[sbyts,B]
section
variable {G H:List AO} {j q v:Nat} {o:List UInt8}
theorem PrA.lj (h:PrA G j q o v):j<G.length:=getElem?_lt h.h1
theorem PrA.lq (h:PrA G j q o v):q<G.length:=getElem?_lt h.h2
theorem PrA.wr (h:PrA G j q o v) (o':List UInt8) (v':Nat):PrA (wr G j q o' v') j q o' v':=by
 have hj:=h.lj; have hq:=h.lq; have hne:=h.h3
 refine⟨?_,?_,hne⟩
 · unfold Proofs.YtmkdpmfhlfhjkaaGreatDoor.wr
   rw[List.getElem?_set_ne (fun e=>hne e.symm),List.getElem?_set_self hj]
 · unfold Proofs.YtmkdpmfhlfhjkaaGreatDoor.wr
   rw[List.getElem?_set_self (by simpa using hq)]
theorem PrA.app (h:PrA G j q o v) (L:List AO):PrA (G++L) j q o v :=
 ⟨by rw[List.getElem?_append_left h.lj]; exact h.h1,by rw[List.getElem?_append_left h.lq]; exact h.h2,h.h3⟩
theorem PrA.same (h:PrA G j q o v):Proofs.YtmkdpmfhlfhjkaaGreatDoor.wr G j q o v=G:=by
 unfold Proofs.YtmkdpmfhlfhjkaaGreatDoor.wr
 rw[set_same h.h1,set_same h.h2]
theorem wr_wr (hne:j≠q) (o':List UInt8) (v':Nat):wr (wr G j q o v) j q o' v'=wr G j q o' v':=by
 unfold wr
 rw[List.set_comm _ _ (fun e=>hne e.symm),List.set_set,List.set_set]
theorem wr_app (hj:j<G.length) (hq:q<G.length) (L:List AO):wr (G++L) j q o v=wr G j q o v++L:=by
 unfold wr
 rw[List.set_append_left _ _ hj,List.set_append_left _ _ (by simpa using hq)]
theorem closed_wr (h:closed G) (hq:q<G.length):closed (wr G j q o v):=by
 unfold wr
 refine closed_set (closed_set h j ?_) q ?_
 · simp[prO,SV.underL,SV.under,hq]
 · rw[SV.underL_iff]
   intro s hs
   simp only[byO,sbyts,List.mem_map]at hs
   obtain⟨b,_,rfl⟩:=hs; rfl
theorem take_s {l:List (List UInt8)} {i:Nat} (h:i<l.length):(l.take (i+1)).flatten=(l.take i).flatten++l[i]:=by
 rw[←List.take_append_getElem h,List.flatten_append]; simp
theorem wr_next {hne:j≠q} {o s:List UInt8} {v:Nat}:((wr H j q o v).set q ⟨(byO o v).cells++sbyts (B s),(byO o v).ty,(byO o v).ver+1,(byO o v).live⟩).set j
     ⟨.own q 0 (o.length+s.length) 1 (v+1)::(prO q o.length v).cells.tail,(prO q o.length v).ty,(prO q o.length v).ver,(prO q o.length v).live⟩=wr H j q (o++s) (v+1):=by
 have e1:(⟨(byO o v).cells++sbyts (B s),(byO o v).ty,(byO o v).ver+1,(byO o v).live⟩:AO)=byO (o++s) (v+1):=by simp[byO,sbyts,B]
 have e2:(⟨.own q 0 (o.length+s.length) 1 (v+1)::(prO q o.length v).cells.tail,(prO q o.length v).ty,(prO q o.length v).ver,(prO q o.length v).live⟩:AO)=prO q (o++s).length (v+1):=by simp[prO]
 rw[e1,e2]
 unfold wr
 rw[List.set_set,List.set_comm _ _ (fun e=>hne e.symm),List.set_set]
theorem loop105 (hp:PrA H j q o v) {x:SV} {l:List (List UInt8)} (hx:∀ o v,IsS (wr H j q o v) x l) (hl:l.length<4611686018427387904) (hL:o.length+l.flatten.length≤140737488355328) {N:Nat} {K:XE->Env->List AO->Prop}
 (hexit:∀ env,K (.exit 0) env (wr H j q (o++l.flatten) (v+l.length))) :
 ∀ (m i:Nat) (env:Env),i+m=l.length->env.get 0=rp j->env.get 6=x->env.get 7=i64 l.length->env.get 8=i64 i->LI Tryz.prog N drawB l105_0 env (wr H j q (o++(l.take i).flatten) (v+i)) K:=by
 intro m
 induction m with
 | zero =>
  intro i env hi h0 h6 h7 h8
  refine li_go hm l105_0.eq_1 ?_
  have e:i=l.length:=by omega
  subst e
  simp -implicitDefEqProofs[h0,h6,h7,h8]
  exact hexit _
 | succ m ih =>
  intro i env hi h0 h6 h7 h8
  refine li_go hm l105_0.eq_1 ?_
  have hlt:i<l.length:=by omega
  have hlt':(i:Int)<l.length:=by omega
  have hxo:=hx (o++(l.take i).flatten) (v+i)
  have hv:=hxo.vA [] hlt
  have ho:=hxo.okA [] hlt
  simp only[List.append_nil]at hv ho
  have htk:(l.take (i+1)).flatten=(l.take i).flatten++l[i]:=take_s hlt
  have hle:((l.take i).flatten++l[i]).length≤l.flatten.length:=by
   rw[←htk]
   conv=>rhs; rw[←List.take_append_drop (i+1) l]
   rw[List.flatten_append,List.length_append]; omega
  rw[List.length_append]at hle
  have ih:=ih (i+1)
  rw[htk]at ih
  generalize l[i]=s at hv htk hle ih
  have hw:=hp.wr (o++(l.take i).flatten) (v+i)
  generalize ho':o++(l.take i).flatten=o' at hw hxo hv ho
  have ho'l:o'.length=o.length+(l.take i).flatten.length:=by rw[←ho',List.length_append]
  have e1:objCells (wr H j q o' (v+i)) j 0=[.own q 0 o'.length 1 (v+i)]:=objCells_of hw.h1 rfl
  have e2:objIs (wr H j q o' (v+i)) q (v+i) 5 (o'.length*1):=⟨_,hw.h2,rfl,rfl,rfl,by simp[byO,sbyts_len]⟩
  have e3:∀ f,Ab.setObj (wr H j q o' (v+i)) q f=(wr H j q o' (v+i)).set q (f (byO o' (v+i))):=fun f=>setObj_some hw.h2 f
  have e4:∀ (y:AO) f,Ab.setObj ((wr H j q o' (v+i)).set q y) j f=((wr H j q o' (v+i)).set q y).set j (f (prO q o'.length (v+i))):=fun y f=>setObj_some (by rw[List.getElem?_set_ne (fun e=>hp.h3 e.symm)]; exact hw.h1) f
  have e5:∀ (y:AO),objCells ((wr H j q o' (v+i)).set q y) j 0=[.own q 0 o'.length 1 (v+i)]:=fun y=>objCells_of (o:=prO q o'.length (v+i)) (by rw[List.getElem?_set_ne (fun e=>hp.h3 e.symm)]; exact hw.h1) rfl
  simp -implicitDefEqProofs[h0,h6,h7,h8,hlt,hlt',hxo.vd,hxo.ug,hxo.sl,hxo.cell,hxo.sz,hxo.len,hv,ho,rp,e1,e2,e3,e4,e5]
  refine⟨by omega,by simpa using e2,LI.cong (wr_next (hne:=hp.h3)).symm ?_⟩
  subst ho'
  rw[List.append_assoc]
  exact ih _ (by omega) (by simp[rp]) (by simp) (by simp) (by simp[wrap_suc (show i<9223372036854775807 by omega)])
theorem ok105 (hp:PrA H j q o v) {x:SV} {l:List (List UInt8)} (hx:∀ o v,IsS (wr H j q o v) x l) (hl:l.length<4611686018427387904) (hL:o.length+l.flatten.length≤140737488355328) :
 Ok Tryz.prog 105 [rp j,x] H (.ret (.tup [])) (wr H j q (o++l.flatten) (v+l.length)):=by
 have hxo:=hx o v
 rw[hp.same]at hxo
 have hj:=hp.lj
 refine ok_fn hm Tryz.func105 c105 (by simp[rp,SV.under,hj,hxo.und]) fun hcl => ?_
 simp -implicitDefEqProofs[i105,r105,hxo.vd,hxo.ug,hxo.sl,hxo.len]
 refine LI.cong (H':=wr H j q (o++(l.take 0).flatten) (v+0)) (by simpa using hp.same) ?_
 refine loop105 hp hx hl hL (fun env => ?_) l.length 0 _ (by omega) (by simp) (by simp) (by simp) (by simp)
 simp -implicitDefEqProofs
 exact cv_id
theorem ok51 (hp:PrA H j q o v):Ok Tryz.prog 51 [rp j] H (.ret (bl (decide (20000<o.length)))) H:=by
 have hj:=hp.lj
 have e1:objCells H j 0=[.own q 0 o.length 1 v]:=objCells_of hp.h1 rfl
 refine ok_fn hm Tryz.func51 c51 (by simp[rp,SV.under,hj]) fun hcl => ?_
 simp -implicitDefEqProofs[i51,r51,rp,e1]
 have e:decide ((20000:Int)<o.length)=decide (20000<o.length):=by congr 1; exact propext (by omega)
 rw[e]
 exact cv_id
end
end Go.Proofs.YtmkdpmfhlfhjkaaGreatDoor
namespace Go.Proofs.YtmkdpmfhlfhjkaaGreatDoor
open Go.Ab
def decI (n:Int):List UInt8:=Lib.decDigits n.toNat
def opdW (x:Int×(List UInt8->List UInt8)) (o:List UInt8):List UInt8 :=
 if x.1=1∨x.1=2∨alnB x.1=true then x.2 o else x.2 (o++[40])++[41]
def lstW:Bool->List (Int×(List UInt8->List UInt8))->List UInt8->List UInt8
 | _,[],o=>o
 | true,f::r,o=>lstW false r (f.2 o)
 | false,f::r,o=>lstW false r (f.2 (o++[44,32]))
def nthW (fs:List (Int×(List UInt8->List UInt8))) (i:Nat) (o:List UInt8):List UInt8 :=
 match fs[i]? with
 | some f=>opdW f o
 | none=>o
def Ex.opE:Ex->Int
 | .mk op _ _ _ _=>op
mutual
def prE:Ex->List UInt8->List UInt8
 | .mk op n nm l _=>fun o =>
  if 20000<o.length then o else if op=1 then o++decI n else if op=2 then o++nm
  else if alnB op=true then lstW true (prF l) (o++(sgnO op).1++[40])++[41]
  else if(sgnO op).2=1 then nthW (prF l) 0 (o++(sgnO op).1++[32])
  else nthW (prF l) 1 (nthW (prF l) 0 o++[32]++(sgnO op).1++[32])
def prF:List Ex->List (Int×(List UInt8->List UInt8))
 | []=>[]
 | e::r=>(e.opE,prE e)::prF r
end
theorem prF_map:∀ l:List Ex,prF l=l.map fun e=>(e.opE,prE e)
 | []=>by rw[prF]; rfl
 | e::r=>by rw[prF,prF_map r]; rfl
def Grow (f:List UInt8->List UInt8):Prop:=∀ o,o.length≤(f o).length
theorem opdW_grow {x:Int×(List UInt8->List UInt8)} (h:Grow x.2):Grow (opdW x):=by
 intro o
 unfold opdW
 split
 · exact h o
 · have:=h (o++[40])
   simp at this ⊢; omega
theorem lstW_grow:∀ (fs:List (Int×(List UInt8->List UInt8))) (b:Bool),(∀ f∈fs,Grow f.2)->Grow (lstW b fs)
 | [],b,_=>by intro o; cases b<;>exact Nat.le_refl _
 | f::r,b,h=>by
  have hf:=h f (.head _)
  have hr:=lstW_grow r false (fun g hg=>h g (.tail _ hg))
  intro o
  cases b
  · have h1:=hf (o++[44,32]); have h2:=hr (f.2 (o++[44,32]))
    simp only[lstW]
    simp at h1; omega
  · have h1:=hf o; have h2:=hr (f.2 o)
    simp only[lstW]; omega
theorem nthW_grow {fs:List (Int×(List UInt8->List UInt8))} (h:∀ f∈fs,Grow f.2) (i:Nat):Grow (nthW fs i):=by
 intro o
 unfold nthW
 split
 · rename_i f hf
   exact opdW_grow (h f (List.mem_of_getElem? hf)) o
 · exact Nat.le_refl _
mutual
theorem prE_grow:∀ e:Ex,Grow (prE e)
 | .mk op n nm l p=>by
  have h:=prF_grow l
  have h1:=lstW_grow (prF l) true h
  have h2:=nthW_grow h 0
  have h3:=nthW_grow h 1
  intro o
  unfold prE
  split
  · exact Nat.le_refl _
  · split
    · simp
    · split
      · simp
      · split
        · have:=h1 (o++(sgnO op).1++[40])
          simp at this ⊢; omega
        · split
          · have:=h2 (o++(sgnO op).1++[32])
            simp at this ⊢; omega
          · have a:=h2 o
            have b:=h3 (nthW (prF l) 0 o++[32]++(sgnO op).1++[32])
            simp at b ⊢; omega
theorem prF_grow:∀ (l:List Ex),∀ f∈prF l,Grow f.2
 | [],f,h=>by rw[prF]at h; cases h
 | e::r,f,h=>by
  rw[prF]at h
  rcases List.mem_cons.1 h with rfl | h
  · exact prE_grow e
  · exact prF_grow r f h
end
def NumK (n:Int):Prop:=∀ H,Ok Tryz.prog 106 [i64 n] H (.ret (st (B (decI n)))) H
mutual
def Ex.prp:Ex->Prop
 | .mk op n nm l p=>sglE (.mk op n nm l p)=true∧nm.length<4611686018427387904∧(op=1->NumK n)∧Ex.prpL l
def Ex.prpL:List Ex->Prop
 | []=>True
 | e::r=>e.prp∧Ex.prpL r
end
theorem prpL_iff:∀ {l:List Ex},Ex.prpL l↔∀ e∈l,e.prp
 | []=>by simp[Ex.prpL]
 | e::r=>by simp[Ex.prpL,prpL_iff (l:=r)]
def PrK (k:FuncId) (args:List SV) (F:List UInt8->List UInt8):Prop :=
 ∀ (H:List AO) (j q:Nat) (o:List UInt8) (v:Nat),PrA H j q o v->(F o).length≤140737488355328 →
  OkP Tryz.prog k (rp j::args) (wr H j q o v) fun out H'=>out=.ret (.tup [])∧∃ v',H'=wr H j q (F o) v'
section
variable {H:List AO} {j q v:Nat} {o:List UInt8}
@[simp] theorem objCells_wr (L:List AO) (k ver:Nat):objCells (wr H j q o v++L) (H.length+k) ver=objCells L k ver:=by
 have:=objCells_new (H:=wr H j q o v) (L:=L) (k:=k) (ver:=ver); simpa using this
@[simp] theorem objCells_wr0 (L:List AO) (ver:Nat):objCells (wr H j q o v++L) H.length ver=objCells L 0 ver:=objCells_wr L 0 ver
@[simp] theorem setObj_wr (L:List AO) (k:Nat) (f:AO->AO):Ab.setObj (wr H j q o v++L) (H.length+k) f=wr H j q o v++Ab.setObj L k f:=by
 have:=setObj_new (H:=wr H j q o v) (L:=L) (k:=k) (f:=f); simpa using this
theorem PrK.at {k:FuncId} {args:List SV} {F:List UInt8->List UInt8} (h:PrK k args F) (hp:PrA H j q o v) (o:List UInt8) (v:Nat) (L:List AO) (hL:(F o).length≤140737488355328) :
 OkP Tryz.prog k (rp j::args) (wr H j q o v++L) fun out H'=>out=.ret (.tup [])∧∃ v',H'=wr H j q (F o) v'++L:=by
 have h1:=h (wr H j q o v++L) j q o v ((hp.wr o v).app L) hL
 rw[wr_app (by simpa using hp.lj) (by simpa using hp.lq),wr_wr hp.h3]at h1
 refine h1.mono ?_
 rintro out H' ⟨rfl,v',rfl⟩
 refine⟨rfl,v',?_⟩
 rw[wr_app (by simpa using hp.lj) (by simpa using hp.lq),wr_wr hp.h3]
theorem add_at (hp:PrA H j q o v) (o:List UInt8) (v:Nat) {L:List AO} {k T n:Nat} {l:List (List UInt8)} (h:L[k]? = some ⟨wds l,T,0,true⟩) (hn:n=l.length) (hl:l.length<4611686018427387904) (hL:o.length+l.flatten.length≤140737488355328) :
 Ok Tryz.prog 105 [rp j,.own (H.length+k) 0 n 1 0] (wr H j q o v++L) (.ret (.tup [])) (wr H j q (o++l.flatten) (v+l.length)++L):=by
 have h1:=ok105 (H:=wr H j q o v++L) ((hp.wr o v).app L) (x:=.own (H.length+k) 0 n 1 0) (l:=l) (fun o' v'=>by
  rw[wr_app (by simpa using hp.lj) (by simpa using hp.lq)]
  have:=IsS.own1 (H:=wr (wr H j q o v) j q o' v') h hn
  simpa using this) hl hL
 rw[wr_app (by simpa using hp.lj) (by simpa using hp.lq),wr_wr hp.h3]at h1
 exact h1
theorem full_at (hp:PrA H j q o v) (o:List UInt8) (v:Nat) (L:List AO):Ok Tryz.prog 51 [rp j] (wr H j q o v++L) (.ret (bl (decide (20000<o.length)))) (wr H j q o v++L):=ok51 ((hp.wr o v).app L)
theorem pr_end (hp:PrA H j q o v) {o1 o2:List UInt8} {v1:Nat} (hcl:closed (wr H j q o v)) {n0:Nat} (hn:n0=H.length) (L:List AO) (he:o1=o2) :
 ∃ (y:SV) (H'':List AO),((Out.ret y)=.ret (.tup [])∧∃ v',H''=wr H j q o2 v')∧Cv n0 (.tup []) (wr H j q o1 v1++L) y H'':=by
 subst he
 refine⟨_,_,⟨rfl,v1,rfl⟩,cv_fz 3 ?_ (by simpa using hn) (by simp)⟩
 have:=closed_wr (o:=o1) (v:=v1) (j:=j) hcl (by simpa using hp.lq)
 rwa [wr_wr hp.h3]at this
end
end Go.Proofs.YtmkdpmfhlfhjkaaGreatDoor
namespace Go.Proofs.YtmkdpmfhlfhjkaaGreatDoor
open Go.Ab
section
variable {H:List AO} {j q v:Nat} {o:List UInt8}
theorem ok133 {e:Ex} (h:PrK 73 [e.v] (prE e)):PrK 133 [e.v] (opdW (e.opE,prE e)):=by
 intro H j q o v hp hL
 obtain⟨op,n,nm,l,p⟩:=e
 have hj:=hp.lj; have hq:=hp.lq
 refine okP_fn hm Tryz.func133 c133 (by simp[rp,SV.under,hj,Ex.und_v]) fun hcl => ?_
 have hdir:(op=1∨op=2∨alnB op=true)->opdW (op,prE (.mk op n nm l p)) o=prE (.mk op n nm l p) o:=fun h=>by unfold opdW; rw[if_pos h]
 simp only[Ex.opE]at hL ⊢
 have key:=h.at hp
 by_cases h1:op=1
 · rw[hdir (.inl h1)]at hL ⊢
   simp -implicitDefEqProofs[i133,r133,Ex.v,Ex.c,h1]
   refine callq_off _ _ _ _ ?_
   subst h1
   simp -implicitDefEqProofs
   refine call_goP (key o v _ hL) ?_
   rintro out H' ⟨rfl,v',rfl⟩
   simp -implicitDefEqProofs
   exact pr_end hp hcl (by simp) _ rfl
 by_cases h2:op=2
 · rw[hdir (.inr (.inl h2))]at hL ⊢
   simp -implicitDefEqProofs[i133,r133,Ex.v,Ex.c,h1,h2]
   refine callq_off _ _ _ _ ?_
   subst h2
   simp -implicitDefEqProofs
   refine call_goP (key o v _ hL) ?_
   rintro out H' ⟨rfl,v',rfl⟩
   simp -implicitDefEqProofs
   exact pr_end hp hcl (by simp) _ rfl
 simp -implicitDefEqProofs[i133,r133,Ex.v,Ex.c,h1,h2]
 refine callq_st (r:=bl (alnB op)) (fun _=>ok132 op) ?_
 by_cases h3:alnB op=true
 · rw[hdir (.inr (.inr h3))]at hL ⊢
   simp -implicitDefEqProofs[h3]
   refine call_goP (key o v _ hL) ?_
   rintro out H' ⟨rfl,v',rfl⟩
   simp -implicitDefEqProofs
   exact pr_end hp hcl (by simp) _ rfl
 · have hd:opdW (op,prE (.mk op n nm l p)) o=prE (.mk op n nm l p) (o++[40])++[41]:=by unfold opdW; rw[if_neg (by simp[h1,h2,h3])]
   rw[hd]at hL ⊢
   have hg:=prE_grow (.mk op n nm l p) (o++[40])
   rw[List.length_append]at hL
   simp at hL hg
   rw[Bool.not_eq_true]at h3
   simp -implicitDefEqProofs[h3]
   refine call_go (add_at hp o v (k:=1) (l:=[[40]]) rfl rfl (by simp) (by simp; omega)) ?_
   simp -implicitDefEqProofs
   refine call_goP (key (o++[40]) (v+1) _ (by omega)) ?_
   rintro out H' ⟨rfl,v',rfl⟩
   simp -implicitDefEqProofs
   refine call_go (add_at hp _ v' (k:=2) (l:=[[41]]) rfl rfl (by simp) (by simp; omega)) ?_
   simp -implicitDefEqProofs
   exact pr_end hp hcl (by simp) _ rfl
theorem loop109 (hp:PrA H j q o v) {l:List Ex} (hl:l.length≤100) (hE:∀ e∈l,PrK 73 [e.v] (prE e)) {res:List UInt8} (hL:res.length≤140737488355328) {N:Nat} {K:XE->Env->List AO->Prop}
 (hexit:∀ env v L,K (.exit 0) env (wr H j q res v++L)) :
 ∀ (m i:Nat) (o:List UInt8) (v:Nat) (L:List AO) (env:Env),i+m=l.length->lstW (decide (i=0)) (prF (l.drop i)) o=res->env.get 0=rp j->env.get 6=exS l->env.get 7=i64 l.length->env.get 8=i64 i->LI Tryz.prog N drawB l109_0 env (wr H j q o v++L) K:=by
 intro m
 induction m with
 | zero =>
  intro i o v L env hi hr h0 h6 h7 h8
  refine li_go hm l109_0.eq_1 ?_
  have e:i=l.length:=by omega
  subst e
  rw[List.drop_length,prF]at hr
  have hr:o=res:=by rw[←hr]; cases decide (l.length=0)<;>rfl
  subst hr
  simp -implicitDefEqProofs[h0,h6,h7,h8,exS]
  exact hexit _ _ _
 | succ m ih =>
  intro i o v L env hi hr h0 h6 h7 h8
  refine li_go hm l109_0.eq_1 ?_
  have hlt:i<l.length:=by omega
  have hlt':(i:Int)<l.length:=by omega
  have hg:=exL_get hlt
  have hlen:=exL_len l
  have he:=hE l[i] (List.getElem_mem hlt)
  rw[List.drop_eq_getElem_cons hlt,prF]at hr
  have hE':∀ f∈prF (l.drop (i+1)),Grow f.2:=prF_grow _
  have ih:=ih (i+1)
  have hg1:=lstW_grow (prF (l.drop (i+1))) false hE'
  generalize l[i]=e at hg he hr
  have hgr:=prE_grow e
  have hv:e.v=.agg e.c:=by cases e; rfl
  have he':=fun o v L h=>he.at hp o v L h
  simp only[hv]at he'
  by_cases h00:i=0
  · subst h00
    have hr:lstW false (prF (l.drop 1)) (prE e o)=res:=hr
    have h2:=hg1 (prE e o)
    rw[hr]at h2
    simp at hg
    simp -implicitDefEqProofs[h0,h6,h7,h8,exS,hlt,hlt',hg,hlen]
    refine⟨by omega,call_goP (he' o v _ (by omega)) ?_⟩
    rintro out H' ⟨rfl,v',rfl⟩
    simp -implicitDefEqProofs[h0,h6,h7,h8,exS,hlt,hlt']
    refine ih _ v' _ _ (by omega) hr ?_ ?_ ?_ ?_
    · simp[h0]
    · simp[h6,exS]
    · simp[h7]
    · simp; rfl
  · have hr:lstW false (prF (l.drop (i+1))) (prE e (o++[44,32]))=res:=by
     rw[←hr,decide_eq_false h00]; rfl
    have h2:=hg1 (prE e (o++[44,32]))
    have h3:=hgr (o++[44,32])
    rw[hr]at h2
    rw[List.length_append]at h3
    simp at h3
    have hpos:0<i:=by omega
    simp -implicitDefEqProofs[h0,h6,h7,h8,exS,hlt,hlt',hg,hlen,hpos]
    refine⟨by omega,call_go (add_at hp o v (k:=L.length+1) (l:=[[44,32]]) (T:=9) (by simp; rfl) rfl (by simp) (by simp; omega)) ?_⟩
    simp -implicitDefEqProofs[h0,h6,h7,h8,exS,hlt,hlt']
    refine call_goP (he' (o++[44,32]) (v+1) _ (by omega)) ?_
    rintro out H' ⟨rfl,v',rfl⟩
    simp -implicitDefEqProofs[h0,h6,h7,h8,exS,hlt,hlt']
    refine ih _ v' _ _ (by omega) (by simpa using hr) ?_ ?_ ?_ ?_
    all_goals simp[h0,h6,h7,h8,exS,wrap_suc (show i<9223372036854775807 by omega)]
theorem ok109 {l:List Ex} (hl:l.length≤100) (hE:∀ e∈l,PrK 73 [e.v] (prE e)):PrK 109 [exS l] (lstW true (prF l)):=by
 intro H j q o v hp hL
 have hj:=hp.lj
 refine okP_fn hm Tryz.func109 c109 (by simp[rp,SV.under,hj,exS,Ex.undL]) fun hcl => ?_
 simp -implicitDefEqProofs[i109,r109,exS]
 refine LI.cong (H':=wr H j q o v++[]) (by simp) ?_
 refine loop109 hp hl hE hL (fun env v L => ?_) l.length 0 o v [] _ (by omega) (by simp) (by simp) (by simp[exS]) (by simp) (by simp)
 simp -implicitDefEqProofs
 exact pr_end hp hcl (by simp) _ rfl
end
end Go.Proofs.YtmkdpmfhlfhjkaaGreatDoor
namespace Go.Proofs.YtmkdpmfhlfhjkaaGreatDoor
open Go.Ab
section
variable {H:List AO} {j q v:Nat} {o:List UInt8}
theorem ok73s {op n p:Int} {nm:List UInt8} {l:List Ex} (he:(Ex.mk op n nm l p).prp) (hE:∀ e∈l,PrK 73 [e.v] (prE e)):PrK 73 [(Ex.mk op n nm l p).v] (prE (.mk op n nm l p)):=by
 intro H j q o v hp hL
 have hj:=hp.lj; have hq:=hp.lq
 unfold Ex.prp at he
 obtain⟨hs,_,hN,_⟩:=he
 refine okP_fn hm Tryz.func73 c73 (by simp[rp,SV.under,hj,Ex.und_v]) fun hcl => ?_
 have hG:∀ f∈prF l,Grow f.2:=prF_grow l
 rw[prE]at hL ⊢
 by_cases hf:20000<o.length
 · simp only[hf,if_true]at hL ⊢
   simp -implicitDefEqProofs[i73,r73,Ex.v,Ex.c]
   refine call_go (full_at hp o v _) ?_
   simp -implicitDefEqProofs[hf]
   exact pr_end hp hcl (by simp) _ rfl
 simp only[hf,if_false]at hL ⊢
 simp -implicitDefEqProofs[i73,r73,Ex.v,Ex.c]
 refine call_go (full_at hp o v _) ?_
 simp -implicitDefEqProofs[hf]
 refine call_go (ok131 op) ?_
 by_cases h1:op=1
 · subst h1
   simp only[if_true,List.length_append]at hL ⊢
   simp -implicitDefEqProofs
   refine call_go (hN rfl _) ?_
   simp -implicitDefEqProofs
   refine call_go (add_at hp o v (k:=1) (l:=[decI n]) rfl rfl (by simp) (by simpa using hL)) ?_
   simp -implicitDefEqProofs
   exact pr_end hp hcl (by simp) _ rfl
 by_cases h2:op=2
 · subst h2
   simp only[if_true,List.length_append]at hL ⊢
   simp -implicitDefEqProofs
   refine call_go (add_at hp o v (k:=1) (l:=[nm]) rfl rfl (by simp) (by simpa using hL)) ?_
   simp -implicitDefEqProofs
   exact pr_end hp hcl (by simp) _ rfl
 have hlen:0<(sgnO op).2∧(l.length:Int)=(sgnO op).2:=by
  simp only[sglE,h1,h2,if_false,Bool.and_eq_true,decide_eq_true_eq]at hs
  exact hs.1.1
 simp only[h1,h2,if_false]at hL ⊢
 simp -implicitDefEqProofs[h1,h2]
 refine call_go (ok132 op) ?_
 by_cases h3:alnB op=true
 · simp only[h3,if_true]at hL ⊢
   have hg:=lstW_grow (prF l) true hG (o++(sgnO op).1++[40])
   simp at hL hg
   have hl3:l.length≤3:=by
    have:op=18∨op=19∨op=20:=by simp only[alnB,Bool.or_eq_true,decide_eq_true_eq]at h3; omega
    rcases this with rfl | rfl | rfl<;>simp[sgnO]at hlen<;>omega
   generalize hsg:(sgnO op).1=s at *
   simp -implicitDefEqProofs[h3]
   refine call_go (add_at hp o v (k:=1) (l:=[s,[40]]) rfl rfl (by simp) (by simp; omega)) ?_
   simp -implicitDefEqProofs
   have k109:=fun o v L h=>(ok109 (by omega) hE).at hp o v L h
   simp only[exS]at k109
   refine call_goP (k109 (o++(s++[40])) (v+2) _ (by omega)) ?_
   rintro out H' ⟨rfl,v',rfl⟩
   simp -implicitDefEqProofs
   refine call_go (add_at hp _ v' (k:=2) (l:=[[41]]) rfl rfl (by simp) (by simp; omega)) ?_
   simp -implicitDefEqProofs
   exact pr_end hp hcl (by simp) _ rfl
 rw[Bool.not_eq_true]at h3
 simp only[h3,Bool.false_eq_true,if_false]at hL ⊢
 by_cases h4:(sgnO op).2=1
 · simp only[h4,if_true]at hL ⊢
   have hl1:l.length=1:=by omega
   obtain⟨a,rfl⟩:=List.length_eq_one_iff.1 hl1
   have k133:=fun o v L h=>(ok133 (hE a (by simp))).at hp o v L h
   have hv:a.v=.agg a.c:=by cases a; rfl
   simp only[hv]at k133
   have hgo:=opdW_grow (x:=(a.opE,prE a)) (prE_grow a) (o++(sgnO op).1++[32])
   have hnth:∀ o,nthW (prF [a]) 0 o=opdW (a.opE,prE a) o:=fun o=>rfl
   rw[hnth]at hL ⊢
   have hg:List.take 5 (Ex.cL [a])=a.c:=by have:=exL_get (l:=[a]) (i:=0) (by simp); simpa using this
   have hcl5:(Ex.cL [a]).length=5:=exL_len [a]
   generalize hsg:(sgnO op).1=s at *
   simp at hgo hL
   simp -implicitDefEqProofs[h3,h4]
   refine call_go (add_at hp o v (k:=1) (l:=[s,[32]]) rfl rfl (by simp) (by simp; omega)) ?_
   simp -implicitDefEqProofs[hg,hcl5]
   refine call_goP (k133 (o++(s++[32])) (v+2) _ (by omega)) ?_
   rintro out H' ⟨rfl,v',rfl⟩
   simp -implicitDefEqProofs
   exact pr_end hp hcl (by simp) _ rfl
 · simp only[h4,if_false]at hL ⊢
   have hl2:l.length=2:=by
    have hop:op≠18∧op≠19∧op≠20:=by simpa[alnB,and_assoc]using h3
    have:(sgnO op).2=1∨(sgnO op).2=2∨(sgnO op).2=0:=by
     unfold sgnO
     repeat' split
     all_goals simp_all
    omega
   obtain⟨a,b,rfl⟩:∃ a b,l=[a,b]:=by
    match l,hl2 with
    | [a,b],_=>exact⟨a,b,rfl⟩
   have ka:=fun o v L h=>(ok133 (hE a (by simp))).at hp o v L h
   have kb:=fun o v L h=>(ok133 (hE b (by simp))).at hp o v L h
   have hva:a.v=.agg a.c:=by cases a; rfl
   have hvb:b.v=.agg b.c:=by cases b; rfl
   simp only[hva]at ka
   simp only[hvb]at kb
   have hna:∀ o,nthW (prF [a,b]) 0 o=opdW (a.opE,prE a) o:=fun o=>rfl
   have hnb:∀ o,nthW (prF [a,b]) 1 o=opdW (b.opE,prE b) o:=fun o=>rfl
   rw[hna,hnb]at hL ⊢
   have hga:=opdW_grow (x:=(a.opE,prE a)) (prE_grow a) o
   have hgb:=opdW_grow (x:=(b.opE,prE b)) (prE_grow b) (opdW (a.opE,prE a) o++[32]++(sgnO op).1++[32])
   have hg:List.take 5 (Ex.cL [a,b])=a.c:=by have:=exL_get (l:=[a,b]) (i:=0) (by simp); simpa using this
   have hg2:List.take 5 (List.drop 5 (Ex.cL [a,b]))=b.c:=by have:=exL_get (l:=[a,b]) (i:=1) (by simp); simpa using this
   have hcl5:(Ex.cL [a,b]).length=10:=exL_len [a,b]
   generalize hsg:(sgnO op).1=s at *
   simp at hgb hL
   simp -implicitDefEqProofs[h3,h4,hg,hcl5]
   refine call_goP (ka o v _ (by omega)) ?_
   rintro out H' ⟨rfl,v',rfl⟩
   generalize opdW (a.opE,prE a) o=o1 at *
   simp -implicitDefEqProofs
   refine call_go (add_at hp o1 v' (k:=1) (l:=[[32],s,[32]]) rfl rfl (by simp) (by simp; omega)) ?_
   simp -implicitDefEqProofs[hg,hg2,hcl5]
   refine call_goP (kb (o1++32::(s++[32])) (v'+3) _ (by omega)) ?_
   rintro out H' ⟨rfl,v'',rfl⟩
   simp -implicitDefEqProofs
   exact pr_end hp hcl (by simp) _ rfl
mutual
theorem ok73:∀ (e:Ex),e.prp->PrK 73 [e.v] (prE e)
 | .mk op n nm l p,he=>ok73s he (ok73L l (by unfold Ex.prp at he; exact he.2.2.2))
theorem ok73L:∀ (l:List Ex),Ex.prpL l->∀ e∈l,PrK 73 [e.v] (prE e)
 | [],_,_,h=>by cases h
 | e::r,hl,x,hx=>by
  unfold Ex.prpL at hl
  by_cases hh:x=e
  · rw[hh]; exact ok73 e hl.1
  · exact ok73L r hl.2 x (by simpa[hh]using hx)
end
end
end Go.Proofs.YtmkdpmfhlfhjkaaGreatDoor
namespace Go.Proofs.YtmkdpmfhlfhjkaaGreatDoor
open Go.Ab
def m72_0:IC:=.keep [3,4]
 (.seq
  (.seq
   (.reg [
     ⟨(some 11),none,.p (.mov (.t 3))⟩,
     ⟨(some 12),none,.p (.len (.t 11))⟩,
     ⟨(some 13),none,.p (.bin .gtr (.i .i64) (.t 12) (.c (i64 0)))⟩])
   (.cond (.t 13)
    .skip
    (.exit 0)))
  (.blk 1
   (.seq
    (.reg [
      ⟨(some 14),none,.p (.mov (.t 3))⟩,
      ⟨(some 15),none,.p (.mov (.t 3))⟩,
      ⟨(some 16),none,.p (.len (.t 15))⟩,
      ⟨(some 17),none,.p (.bin .sub (.i .i64) (.t 16) (.c (i64 1)))⟩,
      ⟨(some 18),none,.p (.ia 1 (.t 14) (.t 17))⟩,
      ⟨(some 19),none,.p (.ld1 (.t 18))⟩,
      ⟨(some 5),none,.p (.mov (.t 19))⟩])
    (.seq
     (.reg [
       ⟨(some 20),none,.p (.mov (.t 3))⟩,
       ⟨(some 21),none,.p (.mov (.t 3))⟩,
       ⟨(some 22),none,.p (.len (.t 21))⟩,
       ⟨(some 23),none,.p (.bin .sub (.i .i64) (.t 22) (.c (i64 1)))⟩,
       ⟨(some 24),none,.p (.sl 1 (.t 20) none (some (.t 23)))⟩,
       ⟨(some 3),none,.p (.mov (.t 24))⟩])
     (.seq
      (.seq
       (.reg [
         ⟨(some 25),none,.p (.mov (.t 5))⟩,
         ⟨(some 26),none,.p (.lnv (.t 25))⟩,
         ⟨(some 27),none,.p (.bin .eql (.i .i64) (.t 26) (.c (i64 0)))⟩,
         ⟨(some 28),none,.p (.mov (.t 27))⟩,
         ⟨(some 29),(some (28,false)),.p (.mov (.t 4))⟩,
         ⟨(some 30),(some (28,false)),.p (.mov (.t 5))⟩,
         ⟨(some 31),(some (28,false)),.p (.iav 5 (.t 30) (.c (i64 0)))⟩,
         ⟨(some 32),(some (28,false)),.p (.lkp (.p 25) false (i64 0) (.t 29) (.t 31))⟩,
         ⟨(some 33),(some (28,false)),.p (.mov (.t 5))⟩,
         ⟨(some 34),(some (28,false)),.p (.lnv (.t 33))⟩,
         ⟨(some 35),(some (28,false)),.p (.bin .geq (.i .i64) (.t 32) (.t 34))⟩,
         ⟨(some 36),none,.p (.pick (.t 28) (.c (bl true)) (.t 35))⟩])
       (.cond (.t 36)
        (.exit 1)
        .skip))
      (.seq
       (.reg [
         ⟨(some 37),none,.p (.mov (.t 4))⟩,
         ⟨(some 38),none,.p (.mov (.t 5))⟩,
         ⟨(some 39),none,.p (.iav 5 (.t 38) (.c (i64 0)))⟩,
         ⟨(some 40),none,.p (.mov (.t 5))⟩,
         ⟨(some 41),none,.p (.lnv (.t 40))⟩,
         ⟨none,none,.e (.mup (.p 25) (.t 37) (.t 39) (.t 41))⟩])
       (.seq
        (.reg [
          ⟨(some 42),none,.p (.mov (.t 5))⟩,
          ⟨(some 43),none,.p (.lnv (.t 42))⟩,
          ⟨(some 44),none,.p (.mov (.c (i64 0)))⟩])
        (.blk 2
         (.loop l72_1)))))))))
def i72m:IC :=
 (.seq
  (.reg [
    ⟨(some 2),none,.p (.mov (.c (bl false)))⟩])
  (.seq
   (.reg [
     ⟨(some 8),none,.p (.mov (.t 0))⟩,
     ⟨(some 9),none,.e (.bsl 23 1 1 [.val (.slice none 0 0)] [(0,(.t 8))])⟩,
     ⟨(some 3),none,.p (.mov (.t 9))⟩])
   (.seq
    (.reg [
      ⟨(some 10),none,.e (.mkm 163)⟩,
      ⟨(some 4),none,.p (.mov (.t 10))⟩])
    (.seq
     (.blk 0
      (.loop m72_0))
     (.seq
      (.reg [
        ⟨(some 2),none,.p (.mov (.c (bl true)))⟩])
      .ret)))))
theorem c72m:chkF Tryz.prog drawB Tryz.f72 i72m r72=true:=by kernel_rfl
section
variable {P:Program}
theorem _root_.Go.Ab.Ok.kn (G:KnEnv) {f:FuncId} {args:List SV} {H H':List AO} {out:Out} (h : @Ok _ _ knNone P f args H out H') : @Ok _ _ G P f args H out H':=by
 refine⟨h.1,fun S vs hH hS hv=>(h.2 S vs hH (Sim.to G knNone hS (fun q hq=>by cases hq)) hv).mono ?_⟩
 rintro e w ⟨v,ρ',h1,h2,h3⟩
 exact⟨v,ρ',h1,Sim.to knNone G h2 (@St.KF.ext _ _ G _ _ _ (@Sim.kf _ _ G _ hS) h1),h3⟩
end
section
variable [G0:KnEnv]
theorem LI.learn0 {P:Program} {N:Nat} {D:Array Oper->List Nat->List Ins->Bool} {i:IC} {env:Env} {H:List AO} {K:XE->Env->List AO->Prop} (j p:Nat) {o:AO} {cells:List SV} {len:Nat}
 (ho:H[j]? = some o) (hl:o.live=true) (hp:o.cells[p]? = some (.slc cells len))
 (h:∀ (a:Option Addr) (cap:Nat),LI P N D i env (H.set j ⟨o.cells.set p (.val (.slice a len cap)),o.ty,o.ver,true⟩) K) :
 LI P N D i env H K:=by
 intro c hc db S a hH hS he hN hd
 subst hH
 have h1:=hS.live j o ho hl
 cases hρ:S.ρ j with
 | none=>rw[hρ]at h1; rw[h1]at hp; simp at hp
 | some b =>
  rw[hρ]at h1
  obtain⟨us,rest,h2,h3⟩:=h1
  obtain⟨u,hu1,hu2⟩:=h3.get hp
  obtain⟨ad,cap,rfl⟩:∃ ad cap,u=.slice ad len cap:=by
   cases hu2 with
   | nilslc=>exact⟨none,0,rfl⟩
   | slc cells len a cap us hc hl hi h=>exact⟨some a,cap,rfl⟩
  have hS':Sim ⟨S.ρ,S.H.set j ⟨o.cells.set p (.val (.slice ad len cap)),o.ty,o.ver,true⟩,S.w⟩:=by
   refine sim_retellR hS ho hl ?_ ?_
   · intro s hs
     rcases List.mem_or_eq_of_mem_set hs with hs | rfl
     · exact(hS.bel j o ho s hs).2 hl
     · rfl
   · intro us' hl' hv'
     have e:us'.length=us.length:=hv'.1.trans h3.1.symm
     have:us'=us:=by
      unfold St.lies at hl'
      rw[hρ]at hl'
      obtain⟨rest',h4⟩:=hl'
      rw[h2]at h4
      have h5:us++rest=us'++rest':=by simpa using h4
      exact(List.append_inj h5 e.symm).1.symm
     subst this
     refine⟨us'.length,?_⟩
     rw[List.take_length]
     refine⟨by simpa using h3.1,fun k s v hs hv => ?_⟩
     by_cases hk:k=p
     · subst hk
       rw[hu1]at hv; cases hv
       rw[List.getElem?_set_self (getElem?_lt hp)]at hs; cases hs
       exact .val _
     · rw[List.getElem?_set_ne (by omega)]at hs
       exact h3.2 k s v hs hv
  have hx:=ext_retell ho hl (o.cells.set p (.val (.slice ad len cap)))
  have hd':=hd.ext hS hx
  refine loopIn_mono (h ad cap c hc db ⟨S.ρ,S.H.set j ⟨o.cells.set p (.val (.slice ad len cap)),o.ty,o.ver,true⟩,S.w⟩ a rfl hS' (he.ext hx) hN hd') fun e a' w hp => ?_
  obtain⟨x,env',ρ,H',k1,k2,k3,k4,k5,k6,k7⟩:=hp
  exact⟨x,env',ρ,H',k1,hx.trans (k2.mono (hx.len (Nat.le_refl _))),k3,k4,k5,k6,k7⟩
theorem Tell.knownE {env:Env} {H:List AO} {k:Nat} {a:Addr} {len cap:Nat} (hg:env.get k=.val (.slice (some a) len cap)) {cells:List SV} (hk:(SV.slc cells len,Value.slice (some a) len cap)∈KnEnv.kn) :
 Tell env H ((k,.slc cells len)::env) H:=by
 intro S tmps hH hS he
 subst hH
 refine⟨S.ρ,Ext.refl _ _,hS,⟨fun t => ?_⟩⟩
 simp only[Env.get]
 by_cases ht:k=t
 · subst ht
   have:=he.get k
   rw[hg]at this
   rw[if_pos rfl]
   generalize tmps.getD k undef=u at this
   cases this
   exact(hS.kf _ hk).2
 · rw[if_neg ht]; exact he.get t
end
theorem msetK_mem {k:Value}:∀ {ks:List Value} {x:Value},x∈msetK k ks->x∈ks∨x=k
 | [],x,h=>by simp[msetK]at h; exact .inr h
 | y::ks,x,h=>by
  rw[msetK]at h
  split at h
  · exact .inl h
  · rcases List.mem_cons.1 h with rfl | h
    · exact .inl (.head _)
    · rcases msetK_mem h with h | h
      · exact .inl (.tail _ h)
      · exact .inr h
theorem msetV_mem {k:Value} {v:SV}:∀ {ks:List Value} {vs:List SV} {x:SV},x∈msetV k v ks vs->x∈vs∨x=v
 | [],vs,x,h=>by simp[msetV]at h; exact .inr h
 | _::_,[],x,h=>by simp[msetV]at h; exact .inr h
 | a::ks,b::vs,x,h=>by
  rw[msetV]at h
  split at h
  · rcases List.mem_cons.1 h with rfl | h
    · exact .inr rfl
    · exact .inl (.tail _ h)
  · rcases List.mem_cons.1 h with rfl | h
    · exact .inl (.head _)
    · rcases msetV_mem h with h | h
      · exact .inl (.tail _ h)
      · exact .inr h
theorem mset_len {k:Value} {v:SV}:∀ {ks:List Value} {vs:List SV},ks.length=vs.length->(msetK k ks).length=(msetV k v ks vs).length
 | [],[],_=>rfl
 | a::ks,b::vs,h=>by
  rw[msetK,msetV]
  split
  · simpa using h
  · have:=mset_len (k:=k) (v:=v) (ks:=ks) (vs:=vs) (by simpa using h)
    simp[this]
theorem lkm_mem {k:Value}:∀ {ks:List Value} {vs:List SV} {x:SV},lkm k ks vs=some x->x∈vs
 | [],_,_,h=>by simp[lkm]at h
 | _::_,[],_,h=>by simp[lkm]at h
 | a::ks,b::vs,x,h=>by
  rw[lkm]at h
  split at h
  · cases h; exact .head _
  · exact .tail _ (lkm_mem h)
mutual
def cstE:Ex->Nat
 | .mk _ _ _ l _=>cstL l
def cstL:List Ex->Nat
 | []=>1
 | e::r=>cstE e+cstL r
end
def Ex.lsE:Ex->List Ex
 | .mk _ _ _ l _=>l
def cstT (td:List (List Ex)):Nat:=(td.map cstL).sum
theorem cstL_pos:∀ l:List Ex,1≤cstL l
 | []=>by simp[cstL]
 | e::r=>by rw[cstL]; have:=cstL_pos r; omega
theorem cstL_eq:∀ l:List Ex,cstL l=1+cstT (l.map Ex.lsE)
 | []=>rfl
 | e::r=>by
  obtain⟨a,b,c,d,f⟩:=e
  rw[cstL,cstL_eq r,cstE]
  simp only[cstT,List.map_cons,List.sum_cons,Ex.lsE]
  omega
theorem cstT_app (a b:List (List Ex)):cstT (a++b)=cstT a+cstT b:=by simp[cstT]
theorem cstT_len:∀ td:List (List Ex),td.length≤cstT td
 | []=>Nat.le_refl _
 | l::r=>by
  have h1:=cstL_pos l
  have h2:=cstT_len r
  simp only[cstT,List.map_cons,List.sum_cons,List.length_cons]at h2 ⊢
  omega
def exR (td:List (List Ex)):List SV:=td.map exS
@[simp] theorem exR_len (td:List (List Ex)):(exR td).length=td.length:=by simp[exR]
abbrev TS (td:List (List Ex)) (kp:List Value) (vp:List SV) (vt:Nat) (G:List AO):List AO:=⟨exR td,23,vt,true⟩::⟨.mk kp::vp,163,0,false⟩::G
structure TE (n:Nat) (td:List (List Ex)) (vt:Nat) (env:Env):Prop where
 s3:env.get 3=.own n 0 td.length 1 vt
 s4:env.get 4=.mp (n+1) 0
theorem ug_mp (i v:Nat):(SV.mp i v).ug=SV.mp i v:=rfl
theorem mo1 (H:List AO) (a:AO) (ks:List Value) (vs:List SV) (T:TypeId) (G:List AO):SV.mapOf (H++a::⟨.mk ks::vs,T,0,false⟩::G) (.mp (H.length+1) 0)=some (ks,vs):=by
 simp[SV.mapOf]
section
variable [KnEnv] {H:List AO} {kp:List Value} {vp:List SV} {N:Nat} {K:XE->Env->List AO->Prop}
theorem prop_end {vt:Nat} {G:List AO} {env:Env} (he:TE H.length [] vt env) (h:∀ env G,K (.exit 0) env (H++G)) :
 LI Tryz.prog N drawB m72_0 env (H++TS [] kp vp vt G) K:=by
 obtain⟨h3,h4⟩:=he
 refine li_go hm m72_0.eq_1 ?_
 simp -implicitDefEqProofs[h3,h4]
 exact h _ _
theorem prop_nil {rest:List (List Ex)} {vt:Nat} {G:List AO} {env:Env} (hr:rest.length<2000000000) (he:TE H.length (rest++[[]]) vt env)
 (h:∀ G env,TE H.length rest vt env->LI Tryz.prog N drawB m72_0 env (H++TS rest kp vp vt G) K) :
 LI Tryz.prog N drawB m72_0 env (H++TS (rest++[[]]) kp vp vt G) K:=by
 obtain⟨h3,h4⟩:=he
 have hl:(rest++[([]:List Ex)]).length=rest.length+1:=by simp
 rw[hl]at h3
 have hcell:exR (rest++[[]])=exR rest++[.slc [] 0]:=by simp[exR,exS,Ex.cL]
 refine LI.learn0 H.length rest.length (o:=⟨exR (rest++[[]]),23,vt,true⟩) (cells:=[]) (len:=0) (by simp) rfl (by rw[hcell]; simp[exR]) fun oa cap => ?_
 have hset:(exR (rest++[[]])).set rest.length (.val (.slice oa 0 cap))=exR rest++[.val (.slice oa 0 cap)]:=by
  rw[hcell,List.set_append_right _ _ (by simp)]; simp
 refine LI.cong (H':=H++⟨exR rest++[.val (.slice oa 0 cap)],23,vt,true⟩::⟨.mk kp::vp,163,0,false⟩::G) (by rw[←hset]; simp) ?_
 have hcl:=exR_len rest
 have htk:List.take rest.length (exR rest++[SV.val (.slice oa 0 cap)])=exR rest:=List.take_left' hcl
 have hcc:(exR rest++[SV.val (.slice oa 0 cap)]).length=rest.length+1:=by simp
 have hgd:(List.drop rest.length (exR rest++[SV.val (.slice oa 0 cap)]))=[.val (.slice oa 0 cap)]:=List.drop_left' hcl
 have w1:IntKind.i64.wrap (rest.length:Int)=(rest.length:Int):=wrap_nat (by omega)
 refine li_go hm m72_0.eq_1 ?_
 generalize exR rest++[SV.val (.slice oa 0 cap)]=cc at *
 simp -implicitDefEqProofs[h3,h4,w1,hcc,hgd]
 refine⟨by omega,LI.tell (Tell.trunc (j:=H.length) (o:=⟨cc,23,vt,true⟩) (by simp) rfl rest.length) (LI.cong (H':=H++TS rest kp vp vt G) (by simp[htk]) (h G _ ⟨by simp,by simp[h4]⟩))⟩
theorem prop_in {l:List Ex} (hl3:l.length≤100) (hok:∀ e∈l,e.prp) {rest:List (List Ex)} (hr:rest.length+200<2000000000)
 (h:∀ vt G env,TE H.length (rest++l.map Ex.lsE) vt env->K (.exit 2) env (H++TS (rest++l.map Ex.lsE) kp vp vt G)) :
 ∀ (m i vt:Nat) (G:List AO) (env:Env),i+m=l.length->TE H.length (rest++(l.take i).map Ex.lsE) vt env->env.get 42=exS l->env.get 43=i64 l.length->env.get 44=i64 i →
  LI Tryz.prog N drawB l72_1 env (H++TS (rest++(l.take i).map Ex.lsE) kp vp vt G) K:=by
 intro m
 induction m with
 | zero =>
  intro i vt G env hi he h42 h43 h44
  obtain⟨h3,h4⟩:=he
  refine li_go hm l72_1.eq_1 ?_
  have e:i=l.length:=by omega
  subst e
  rw[List.take_length]at *
  simp -implicitDefEqProofs[h3,h4,h42,h43,h44]
  exact h vt G _ ⟨by simp[h3],by simp[h4]⟩
 | succ m ih =>
  intro i vt G env hi he h42 h43 h44
  obtain⟨h3,h4⟩:=he
  refine li_go hm l72_1.eq_1 ?_
  have hlt:i<l.length:=by omega
  have hlt':(i:Int)<l.length:=by omega
  have hg:=exL_get hlt
  have hcl':=exL_len l
  have hoke:=hok _ (List.getElem_mem hlt)
  have htk:rest++(l.take (i+1)).map Ex.lsE=(rest++(l.take i).map Ex.lsE)++[l[i].lsE]:=by
   rw[←List.take_append_getElem hlt,List.map_append,List.append_assoc]; rfl
  have ih:=ih (i+1)
  rw[htk]at ih
  have hrl:(rest++(l.take i).map Ex.lsE).length<2000000000:=by simp; omega
  generalize rest++(l.take i).map Ex.lsE=td at *
  generalize l[i]=e at *
  obtain⟨op,n,nm,le,p⟩:=e
  unfold Ex.prp at hoke
  have h130:=fun H=>Ok.kn inferInstance (ok130 (H:=H) (e:=.mk op n nm le p) hoke.1 hoke.2.1)
  have hex:=exR_len td
  simp -implicitDefEqProofs[h3,h4,h42,h43,h44,exS,hlt,hlt',hg,hcl',Ex.c]
  refine⟨by omega,call_go (h130 _) ?_⟩
  simp -implicitDefEqProofs[h3,h4,h42,h43,h44,exS,hlt,hlt']
  refine⟨by omega,by omega,LI.cong ?_ (ih (vt+1) (G++[⟨[i64 op,i64 n,st (B nm),.slc (Ex.cL le) le.length,i64 p],25,0,true⟩,⟨[.slc (Ex.cL le) le.length],23,0,true⟩]) _ (by omega) ⟨?_,?_⟩ ?_ ?_ ?_)⟩
  · simp[exR,Ex.lsE,exS]
  · simp
  · simp
  · simp[exS]
  · simp
  · simp[wrap_suc (show i<9223372036854775807 by omega)]
theorem prop_op1 {l:List Ex} {rest:List (List Ex)} {a:Addr} {cap vt:Nat} {G:List AO} {env:Env} (hk:(exS l,Value.slice (some a) l.length cap)∈KnEnv.kn) (hl0:l≠[]) (hl3:l.length≤100) (hok:∀ e∈l,e.prp) (hr:rest.length+200<2000000000)
 (hkl:kp.length=vp.length) (hkn:∀ v∈kp,knowB v) (hvp:∀ x∈vp,∃ n,x=i64 n) (he:TE H.length (rest++[l]) vt env)
 (hskip:∀ G env,TE H.length rest vt env->LI Tryz.prog N drawB m72_0 env (H++TS rest kp vp vt G) K)
 (h:∀ kp' vp' vt G env,kp'.length=vp'.length->(∀ v∈kp',knowB v)->(∀ x∈vp',∃ n,x=i64 n)->TE H.length (rest++l.map Ex.lsE) vt env->LI Tryz.prog N drawB m72_0 env (H++TS (rest++l.map Ex.lsE) kp' vp' vt G) K) :
 LI Tryz.prog N drawB m72_0 env (H++⟨exR rest++[.val (.slice (some a) l.length cap)],23,vt,true⟩::⟨.mk kp::vp,163,0,false⟩::G) K:=by
 obtain⟨h3,h4⟩:=he
 have hl:(rest++[l]).length=rest.length+1:=by simp
 rw[hl]at h3
 have hknow:knowB (.pointer (some a)):=by
  refine⟨rfl,a,Ex.cL l,l.length,cap,rfl,hk,?_⟩
  cases l with
  | nil=>exact absurd rfl hl0
  | cons x r =>
   obtain⟨op,n,nm,l,p⟩:=x
   exact⟨B nm,by rw[Ex.cL,Ex.c]; exact List.mem_append_left _ (.tail _ (.tail _ (.head _)))⟩
 have hkall:∀ v∈Value.pointer (some a)::kp,(KK.p 25).knows v:=by
  intro v hv
  rcases List.mem_cons.1 hv with rfl | hv
  · exact hknow
  · exact hkn v hv
 have hkis:∀ v∈kp,(KK.p 25).is v=true:=by
  intro v hv
  obtain⟨_,b,_,_,_,rfl,_⟩:=hkn v hv
  rfl
 have hl0':¬ (l.length:Int)=0:=by
  cases l with
  | nil=>exact absurd rfl hl0
  | cons x r=>simp; omega
 have hl00:¬ l.length=0:=by omega
 have hpos:0<l.length:=by omega
 have hcl:=exR_len rest
 have htk:List.take rest.length (exR rest++[SV.val (.slice (some a) l.length cap)])=exR rest:=List.take_left' hcl
 have hcc:(exR rest++[SV.val (.slice (some a) l.length cap)]).length=rest.length+1:=by simp
 have hgd:(List.drop rest.length (exR rest++[SV.val (.slice (some a) l.length cap)]))=[.val (.slice (some a) l.length cap)]:=List.drop_left' hcl
 have w1:IntKind.i64.wrap (rest.length:Int)=(rest.length:Int):=wrap_nat (by omega)
 refine li_go hm m72_0.eq_1 ?_
 generalize exR rest++[SV.val (.slice (some a) l.length cap)]=cc at *
 obtain⟨n,hn⟩:∃ n,(lkm (Value.pointer (some a)) kp vp).getD (i64 0)=i64 n:=by
  cases hlk:lkm (Value.pointer (some a)) kp vp with
  | none=>exact⟨0,rfl⟩
  | some x=>obtain⟨n,rfl⟩:=hvp x (lkm_mem hlk); exact⟨n,rfl⟩
 have hal:((kp,vp):List Value×List SV).1.all (KK.p 25).is=true:=List.all_eq_true.2 hkis
 have add0:a.add 0=a:=if_pos rfl
 by_cases hmet:(l.length:Int)≤n
 · simp -implicitDefEqProofs[h3,h4,w1,hcc,hgd,hl0',hl00,hl0,hpos,mo1,ug_mp,add0,hn,hmet,SV.isK,SV.key,SV.isP,SV.pval]
   refine⟨by omega,⟨rfl,hkis,hkall _ (.head _),fun v hv=>hkall v (.tail _ hv)⟩,LI.tell (Tell.trunc (j:=H.length) (o:=⟨cc,23,vt,true⟩) (by simp) rfl rest.length) (LI.cong (H':=H++TS rest kp vp vt G) (by simp[htk]) (hskip G _ ⟨by simp,by simp[h4]⟩))⟩
 · simp -implicitDefEqProofs[h3,h4,w1,hcc,hgd,hl0',hl00,hl0,hpos,mo1,ug_mp,add0,hn,hmet,SV.isK,SV.key,SV.isP,SV.pval]
   refine⟨by omega,⟨rfl,hkis,hkall _ (.head _),fun v hv=>hkall v (.tail _ hv)⟩,?_⟩
   refine s_mup_go (x:=(kp,vp)) (mo1 ..) rfl rfl hal ?_ (by simpa[SV.key,SV.pval]using hkall)
   simp -implicitDefEqProofs[SV.key,SV.pval]
   refine LI.tell (Tell.knownE (k:=42) (by simp) hk) ?_
   refine LI.tell (Tell.trunc (j:=H.length) (o:=⟨cc,23,vt,true⟩) (by simp) rfl rest.length) ?_
   have hkl':=mset_len (k:=Value.pointer (some a)) (v:=i64 l.length) hkl
   have hkn':∀ v∈msetK (Value.pointer (some a)) kp,knowB v:=fun v hv=>by
    rcases msetK_mem hv with hv | rfl
    · exact hkn v hv
    · exact hknow
   have hvp':∀ x∈msetV (Value.pointer (some a)) (i64 l.length) kp vp,∃ n,x=i64 n:=fun x hx=>by
    rcases msetV_mem hx with hx | rfl
    · exact hvp x hx
    · exact⟨_,rfl⟩
   refine LI.cong (H':=H++TS (rest++(l.take 0).map Ex.lsE) (msetK (Value.pointer (some a)) kp) (msetV (Value.pointer (some a)) (i64 l.length) kp vp) vt G) (by simp[htk]) ?_
   refine prop_in hl3 hok hr (fun vt G env he => ?_) l.length 0 vt G _ (by omega) ⟨?_,?_⟩ ?_ ?_ ?_
   · simp -implicitDefEqProofs
     exact h _ _ vt G env hkl' hkn' hvp' he
   all_goals simp[exS,h4]
theorem prop_op {l:List Ex} {rest:List (List Ex)} {vt:Nat} {G:List AO} {env:Env} (hl0:l≠[]) (hl3:l.length≤100) (hok:∀ e∈l,e.prp) (hr:rest.length+200<2000000000)
 (hkl:kp.length=vp.length) (hkn:∀ v∈kp,knowB v) (hvp:∀ x∈vp,∃ n,x=i64 n) (he:TE H.length (rest++[l]) vt env)
 (h:∀ (kn:KnEnv) td kp' vp' vt G env,(td=rest∨td=rest++l.map Ex.lsE)->kp'.length=vp'.length->(∀ v∈kp',@knowB _ kn v)->(∀ x∈vp',∃ n,x=i64 n)->TE H.length td vt env -> @LI _ _ kn Tryz.prog N drawB m72_0 env (H++TS td kp' vp' vt G) K) :
 LI Tryz.prog N drawB m72_0 env (H++TS (rest++[l]) kp vp vt G) K:=by
 have hne:Ex.cL l≠[]:=by
  cases l with
  | nil=>exact absurd rfl hl0
  | cons x r=>obtain⟨a,b,c,d,e⟩:=x; simp[Ex.cL,Ex.c]
 have hcell:exR (rest++[l])=exR rest++[.slc (Ex.cL l) l.length]:=by simp[exR,exS]
 refine LI.learn H.length rest.length (o:=⟨exR (rest++[l]),23,vt,true⟩) (cells:=Ex.cL l) (len:=l.length) (by simp) rfl (by rw[hcell,List.getElem?_append_right (by simp)]; simp) hne (Ex.undL 0 l) fun a cap => ?_
 have hset:(exR (rest++[l])).set rest.length (.val (.slice (some a) l.length cap))=exR rest++[.val (.slice (some a) l.length cap)]:=by
  rw[hcell,List.set_append_right _ _ (by simp)]; simp
 have hkn':∀ v∈kp,@knowB _ ⟨(.slc (Ex.cL l) l.length,.slice (some a) l.length cap)::KnEnv.kn⟩ v:=fun v hv=>by
  obtain⟨hf,a,cells,len,cap,h1,h2,h3⟩:=hkn v hv
  exact⟨hf,a,cells,len,cap,h1,List.mem_cons_of_mem _ h2,h3⟩
 refine @LI.cong _ _ ⟨(.slc (Ex.cL l) l.length,.slice (some a) l.length cap)::KnEnv.kn⟩ _ _ _ _ _ _ _ _ ?_ (@prop_op1 ⟨(.slc (Ex.cL l) l.length,.slice (some a) l.length cap)::KnEnv.kn⟩ H kp vp N K l rest a cap vt G env (List.mem_cons_self ..) hl0 hl3 hok hr hkl hkn' hvp he
  (fun G env he=>h _ _ _ _ _ G env (.inl rfl) hkl hkn' hvp he) (fun kp' vp' vt G env h1 h2 h3 he=>h _ _ _ _ _ G env (.inr rfl) h1 h2 h3 he))
 rw[←hset]; simp
end
theorem prp_sm:∀ {e:Ex},e.prp->e.lsE.length≤3∧∀ x∈e.lsE,x.prp
 | .mk op n nm l p,h=>by
  unfold Ex.prp at h
  refine⟨?_,prpL_iff.1 h.2.2.2⟩
  have hs:=h.1
  simp only[sglE]at hs
  show l.length≤3
  split at hs
  · simp only[Bool.and_eq_true,decide_eq_true_eq]at hs; rw[hs.1.2]; simp
  · split at hs
    · simp only[Bool.and_eq_true,decide_eq_true_eq]at hs; rw[hs.1.2]; simp
    · simp only[Bool.and_eq_true,decide_eq_true_eq]at hs
      have h3:(sgnO op).2≤3:=by
       unfold sgnO
       repeat' split
       all_goals simp
      have:=hs.1.1.2
      omega
section
variable {H:List AO} {N:Nat} {K:XE->Env->List AO->Prop}
theorem prop_run (hK:∀ env G,K (.exit 0) env (H++G)):∀ (M:Nat),M<1000000000->∀ (kn:KnEnv) (td:List (List Ex)) (kp:List Value) (vp:List SV) (vt:Nat) (G:List AO) (env:Env),cstT td≤M->(∀ l∈td,l.length≤100∧∀ e∈l,e.prp) →
 kp.length=vp.length->(∀ v∈kp,@knowB _ kn v)->(∀ x∈vp,∃ n,x=i64 n)->TE H.length td vt env -> @LI _ _ kn Tryz.prog N drawB m72_0 env (H++TS td kp vp vt G) K:=by
 intro M
 induction M using Nat.strongRecOn with
 | ind M ih =>
  intro hM kn td kp vp vt G env hc hok hkl hkn hvp he
  rcases List.eq_nil_or_concat td with rfl | ⟨rest,l,rfl⟩
  · exact prop_end he hK
  · rw[List.concat_eq_append]at *
    have hrl:=cstT_len (rest++[l])
    simp only[List.length_append,List.length_singleton]at hrl
    rw[cstT_app]at hc hrl
    have hl1:cstT [l]=cstL l:=by simp[cstT]
    rw[hl1]at hc hrl
    have hpos:=cstL_pos l
    have hce:=cstL_eq l
    have hrest:∀ l∈rest,l.length≤100∧∀ e∈l,e.prp:=fun x hx=>hok x (by simp[hx])
    obtain⟨hl3,hle⟩:=hok l (by simp)
    by_cases hl0:l=[]
    · subst hl0
      exact prop_nil (by omega) he fun G env he=>ih (cstT rest) (by omega) (by omega) kn rest kp vp vt G env (Nat.le_refl _) hrest hkl hkn hvp he
    · refine prop_op hl0 hl3 hle (by omega) hkl hkn hvp he fun kn' td kp' vp' vt G env htd h1 h2 h3 he2 => ?_
      rcases htd with rfl | rfl
      · exact ih (cstT td) (by omega) (by omega) kn' td kp' vp' vt G env (Nat.le_refl _) hrest h1 h2 h3 he2
      · refine ih (cstT (rest++l.map Ex.lsE)) (by rw[cstT_app]; omega) (by rw[cstT_app]; omega) kn' _ kp' vp' vt G env (Nat.le_refl _) ?_ h1 h2 h3 he2
        intro x hx
        rcases List.mem_append.1 hx with hx | hx
        · exact hrest x hx
        · obtain⟨e,he,rfl⟩:=List.mem_map.1 hx
          exact⟨Nat.le_trans (prp_sm (hle e he)).1 (by omega),(prp_sm (hle e he)).2⟩
theorem ok72 {l:List Ex} (hl:l.length≤100) (hok:∀ e∈l,e.prp) (hc:cstL l<1000000000):Ok Tryz.prog 72 [exS l] H (.ret (bl true)) H:=by
 refine ok_fn hm Tryz.func72 c72m (by simp[exS,Ex.undL]) fun hcl => ?_
 simp -implicitDefEqProofs[i72m,r72,exS]
 refine LI.cong (H':=H++TS [l] [] [] 0 []) (by simp[exR,exS]) ?_
 refine prop_run (fun env G => ?_) (cstL l) hc _ [l] [] [] 0 [] _ (by simp[cstT]) (by simpa using ⟨hl,hok⟩) rfl (by simp) (by simp) ⟨?_,?_⟩
 · simp -implicitDefEqProofs
   exact cv_fz 3 hcl rfl (by simp)
 all_goals simp
end
end Go.Proofs.YtmkdpmfhlfhjkaaGreatDoor
namespace Go.Proofs.YtmkdpmfhlfhjkaaGreatDoor
open Go.Ab
def shwR (e:Ex):List UInt8×Int :=
 if 20000<(prE e []).length then([],4)else if(exprR (prE e [])).2.1≠0 then([],(exprR (prE e [])).2.1)else(prE e [],0)
theorem sbyts_B (s:List UInt8):sbyts (B s)=s.map fun b=>u8 b.toNat:=by simp[sbyts,B]
theorem bys_go:∀ (s:List UInt8) (acc:ByteArray),(bysL (s.map fun b=>u8 b.toNat)).foldl (fun r n=>r.push (UInt8.ofNat n.toNat)) acc=⟨acc.data++s.toArray⟩
 | [],acc=>by simp[bysL]
 | b::r,acc=>by
  have h:=bys_go r (acc.push b)
  have e:UInt8.ofNat ((((u8 b.toNat).u8n).getD 0).toNat)=b:=by
   show UInt8.ofNat (Int.toNat (b.toNat:Int))=b
   rw[Int.toNat_natCast]; exact UInt8.ofNat_toNat
  rw[List.map_cons,bysL,List.foldl_cons,e,h]
  congr 1
  show acc.data.push b++r.toArray=_
  simp
theorem bysS_B (s:List UInt8):bysS (List.take s.length (sbyts (B s)))=B s:=by
 rw[List.take_of_length_le (by rw[sbyts_len]; exact Nat.le_refl _),sbyts_B,bysS,bys_go]
 simp[B,ByteArray.empty,ByteArray.emptyWithCapacity]; rfl
theorem bysB_B (s:List UInt8):bysB (sbyts (B s)) s.length=true:=by
 rw[bysB,List.take_of_length_le (by rw[sbyts_len]; exact Nat.le_refl _),sbyts_len,sbyts_B]
 simp only[Nat.le_refl,decide_true,Bool.true_and,List.all_eq_true,List.length_map]
 intro x hx
 obtain⟨b,_,rfl⟩:=List.mem_map.1 hx
 rfl
section
variable {H:List AO}
theorem ok28 {e:Ex} (he:e.prp) (hc:cstE e<1000000000-1) (hL:(prE e []).length≤140737488355328):Ok Tryz.prog 28 [e.v] H (.ret (.tup [st (B (shwR e).1),i64 (shwR e).2])) H:=by
 have hD:=draw_ok (P:=Tryz.prog) hm
 have h72:=fun H=>(ok72 (H:=H) (l:=[e]) (by simp) (by simpa using he) (by simp[cstL]; omega)).toP
 have h73:=ok73 e he
 have hv:e.v=.agg e.c:=by cases e; rfl
 have hce:Ex.cL [e]=e.c:=by simp[Ex.cL]
 have hc5:=Ex.c_len e
 have hcok:cellsOk e.c:=by cases e; intro s hs; simp[Ex.c]at hs; rcases hs with rfl | rfl | rfl | rfl | rfl<;>rfl
 rw[hv]at h73 ⊢
 simp only[exS,hce]at h72
 have hcc:e.c.take 5=e.c:=by rw[←hc5,List.take_length]
 have hcu:SV.underL 0 e.c=true:=by have:=Ex.undL 0 [e]; rwa [hce]at this
 refine ok_WI hm Tryz.func28 c28 (by simp[SV.under]) fun hcl => ?_
 generalize e.c=c at *
 rw[show i28=.seq (IC.nth 0 i28) (.seq (IC.nth 1 i28) (.seq (IC.nth 2 i28) (IC.tl 3 i28)))from rfl]
 generalize ht:IC.tl 3 i28=t3
 refine WI.seq hD ?_
 simp -implicitDefEqProofs[IC.nth,i28]
 refine⟨hcok,?_⟩
 refine WI.seq hD ?_
 simp -implicitDefEqProofs[IC.nth,i28,hc5,hcc]
 refine⟨hcok,call_goP (OkP.give (H.length+1) 1 (o:=⟨c,25,0,true⟩) (by simp) rfl (OkP.cast (by simp[hcc,hc5]) rfl (h72 _))) ?_⟩
 rintro out H' ⟨rfl,rfl⟩
 simp -implicitDefEqProofs[AO.dead]
 refine WI.seq hD ?_
 simp -implicitDefEqProofs[IC.nth,i28]
 refine WI.tell (Tell.own0 (j:=H.length+2) (p:=0) (o:=⟨[.val (.slice none 0 0)],85,0,true⟩) (by simp) rfl rfl 5 1) ?_
 simp -implicitDefEqProofs
 have hwr:∀ (o:List UInt8) (v:Nat),wr (H++[⟨c,25,0,true⟩,⟨[],25,1,false⟩,⟨[.own (H.length+3) 0 0 1 0],85,0,true⟩,⟨[],5,0,true⟩]) (H.length+2) (H.length+3) o v =
  H++[⟨c,25,0,true⟩,⟨[],25,1,false⟩,⟨[.own (H.length+3) 0 o.length 1 v],85,0,true⟩,⟨sbyts (B o),5,v,true⟩]:=fun o v=>by
  unfold wr prO byO
  rw[set_app,set_app]; rfl
 have hp:PrA (H++[⟨c,25,0,true⟩,⟨[],25,1,false⟩,⟨[.own (H.length+3) 0 0 1 0],85,0,true⟩,⟨[],5,0,true⟩]) (H.length+2) (H.length+3) [] 0:=⟨by simp[prO],by simp[byO]; rfl,by omega⟩
 have key:=h73 _ _ _ _ _ hp hL
 have hful:=fun v=>ok51 (hp.wr (prE e []) v)
 rw[hwr]at key
 simp only[hwr]at key hful
 have hsh:shwR e=if 20000<(prE e []).length then([],4)else if(exprR (prE e [])).2.1≠0 then([],(exprR (prE e [])).2.1)else(prE e [],0):=rfl
 generalize prE e []=s at *
 generalize shwR e=sh at *
 refine WI.of_X hD ?_
 rw[←ht]
 simp -implicitDefEqProofs[IC.tl,i28,r28,hc5,hcc]
 refine call_goP (OkP.cast (by simp[rp]) (by simp; rfl) key) ?_
 rintro out H' ⟨rfl,v',rfl⟩
 simp -implicitDefEqProofs
 refine call_go (hful v') ?_
 by_cases h2:20000<s.length
 · rw[if_pos h2]at hsh
   subst hsh
   simp -implicitDefEqProofs[h2]
   exact cv_fz 3 hcl rfl (by simp)
 rw[if_neg h2]at hsh
 have h11:=fun H=>ok11x (H:=H) (l:=s) (by omega)
 have hv':(exprR s).1.v=.agg (exprR s).1.c:=by cases (exprR s).1; rfl
 have hc5':=Ex.c_len (exprR s).1
 have hcok':cellsOk (exprR s).1.c:=by cases (exprR s).1; intro s hs; simp[Ex.c]at hs; rcases hs with rfl | rfl | rfl | rfl | rfl<;>rfl
 simp only[hv']at h11
 have h11:=fun H=>h11 H
 generalize (exprR s).1.c=c2 at *
 generalize (exprR s).2.1=er at *
 generalize (exprR s).2.2=po at *
 simp -implicitDefEqProofs[h2,bysB_B,bysS_B,sbyts_len]
 refine call_go (h11 _) ?_
 simp -implicitDefEqProofs[fltV,hc5']
 refine⟨hcok',?_⟩
 by_cases h0:er=0
 · rw[if_pos h0]
   rw[if_neg (by simpa using h0)]at hsh
   subst hsh
   exact cv_fz 3 hcl rfl (by simp; rfl)
 · rw[if_neg h0]
   rw[if_pos h0]at hsh
   subst hsh
   exact cv_fz 3 hcl rfl (by simp)
end
end Go.Proofs.YtmkdpmfhlfhjkaaGreatDoor
namespace Go.Proofs.YtmkdpmfhlfhjkaaGreatDoor
open Go.Ab
def tx1:List UInt8:=[49,32,43,32,50,32,42,32,120]
def ex1:Ex:=.mk 8 0 [] [.mk 1 1 [] [] 0,.mk 5 0 [] [.mk 1 2 [] [] 4,.mk 2 0 [120] [] 8] 6] 2
theorem rd1:exprR tx1=(ex1,0,0):=by kernel_rfl
def tx2:List UInt8:=[97,32,45,32,98,32,45,32,99]
def tw2:List UInt8:=[40,97,32,45,32,98,41,32,45,32,99]
def ex2:Ex:=.mk 9 0 [] [.mk 9 0 [] [.mk 2 0 [97] [] 0,.mk 2 0 [98] [] 4] 2,.mk 2 0 [99] [] 8] 6
theorem rd2:exprR tx2=(ex2,0,0):=by kernel_rfl
theorem pr2:prE ex2 []=tw2:=by kernel_rfl
theorem rw2:(exprR tw2).2=(0,0):=by kernel_rfl
theorem sh2:shwR ex2=(tw2,0):=by
 unfold shwR
 rw[pr2,rw2]; rfl
theorem pp2:ex2.prp:=by
 have h1:sglE (.mk 2 0 [97] [] 0)=true:=by kernel_rfl
 have h2:sglE (.mk 2 0 [98] [] 4)=true:=by kernel_rfl
 have h3:sglE (.mk 2 0 [99] [] 8)=true:=by kernel_rfl
 simp[ex2,Ex.prp,Ex.prpL,h1,h2,h3]
 decide
theorem cs2:cstE ex2<1000000000-1:=by decide
section
variable {H:List AO}
theorem ok17 {tx:List UInt8} {e:Ex} {s w:List UInt8} (hl:tx.length<4611686018427387904) (hr:exprR tx=(e,0,0)) (he:e.prp) (hc:cstE e<1000000000-1) (hL:(prE e []).length≤140737488355328) (hs:shwR e=(s,0)) :
 Ok Tryz.prog 17 [st (B tx),st (B w)] H (.ret (bl (decide (s=w)))) H:=by
 have h11:=fun H=>ok11x (H:=H) (l:=tx) hl
 have h28:=fun H=>ok28 (H:=H) he hc hL
 rw[hr]at h11
 rw[hs]at h28
 have hv:e.v=.agg e.c:=by cases e; rfl
 have hc5:=Ex.c_len e
 have hcok:cellsOk e.c:=by cases e; intro s hs; simp[Ex.c]at hs; rcases hs with rfl | rfl | rfl | rfl | rfl<;>rfl
 have hcc:e.c.take 5=e.c:=by rw[←hc5,List.take_length]
 simp only[hv,fltV,if_true]at h11 h28
 generalize e.c=c at *
 refine ok_fn hm Tryz.func17 c17 (by simp) fun hcl => ?_
 simp -implicitDefEqProofs[i17,r17]
 refine call_go (h11 _) ?_
 simp -implicitDefEqProofs[hc5,hcc]
 refine⟨hcok,?_⟩
 refine call_go (h28 _) ?_
 simp -implicitDefEqProofs
 exact cv_fz 3 hcl rfl (by simp)
theorem ok10:Ok Tryz.prog 10 [] H (.ret (bl true)) H:=by
 have hD:=draw_ok (P:=Tryz.prog) hm
 have h11:=fun H=>ok11x (H:=H) (l:=tx1) (by decide)
 have h13:=fun H=>ok13 ex1 (by simp[ex1,Ex.sm,Ex.smL]) H
 have h17:=fun H=>ok17 (H:=H) (tx:=tx2) (w:=tw2) (by decide) rd2 pp2 cs2 (by rw[pr2]; decide) sh2
 rw[rd1]at h11
 simp only[decide_true]at h17
 refine ok_WI hm Tryz.func10 c10 rfl fun hcl => ?_
 rw[show i10=.seq (IC.nth 0 i10) (.seq (IC.nth 1 i10) (.seq (IC.nth 2 i10) (IC.tl 3 i10)))from rfl]
 generalize ht:IC.tl 3 i10=t3
 refine WI.seq hD ?_
 simp -implicitDefEqProofs[IC.nth,i10]
 refine WI.seq hD ?_
 simp -implicitDefEqProofs[IC.nth,i10]
 refine call_go (h11 _) ?_
 simp -implicitDefEqProofs[ex1,Ex.v,Ex.c,fltV]
 refine WI.seq hD ?_
 simp -implicitDefEqProofs[IC.nth,i10]
 refine⟨rfl,?_⟩
 refine WI.keep [0,1,2,3] ?_
 simp -implicitDefEqProofs
 refine WI.tell (Tell.give hcl 2 2 rfl rfl) ?_
 simp -implicitDefEqProofs[AO.gv,AO.dead]
 refine WI.tell (Tell.give hcl 3 2 rfl rfl) ?_
 simp -implicitDefEqProofs[AO.gv,AO.dead]
 refine WI.of_X hD ?_
 rw[←ht]
 simp -implicitDefEqProofs[IC.tl,i10,r10]
 refine callq_st (r:=bl true) (fun _=>(OkP.le ?_ (h13 _).toP).toOk) ?_
 · simp only[ex1,Ex.v,Ex.cL,Ex.c,List.cons_append,List.nil_append,List.append_nil,List.map,SV.strip,List.length_cons,List.length_nil]
   repeat first
    | exact leL.nil
    | refine leL.cons ?_ ?_
    | exact SV.le.refl _
    | exact le_nil
    | refine le_slc ?_ _
    | refine le_agg ?_
 simp -implicitDefEqProofs
 refine callq_go (r:=bl true) (fun _=>h17 _) ?_
 simp -implicitDefEqProofs
 exact cv_fz 3 hcl rfl (by simp)
end
end Go.Proofs.YtmkdpmfhlfhjkaaGreatDoor
namespace Go.Proofs.YtmkdpmfhlfhjkaaGreatDoor
open Go.Ab Go.ChangeShapes Go.WideShapes Go.ChangeAt Go.RowKit
def laid3 : List (String × DataW Unit) := [("math/bits.deBruijn32tab", Rows.laid_math_bits_deBruijn32tab), ("math/bits.deBruijn64tab", Rows.laid_math_bits_deBruijn64tab), ("internal/strconv.uint64pow10", Rows.laid_internal_strconv_uint64pow10), ("errors.errorType", Rows.laid_errors_errorType), ("parlour/token.blanks", Rows.laid_parlour_token_blanks), ("parlour/token.signs", Rows.laid_parlour_token_signs)]
theorem own:ownKnob Tryz.prog.godebug=none:=by kernel_rfl
theorem laidOut:laidOutB Tryz.prog=true:=by kernel_rfl
theorem gB : Tryz.prog.globalNamed "parlour/token.blanks" = some 0 := by kernel_rfl
theorem gS : Tryz.prog.globalNamed "parlour/token.signs" = some 1 := by kernel_rfl
theorem gE : Tryz.prog.globalNamed "errors.errorType" = some 2 := by kernel_rfl
theorem gP : Tryz.prog.globalNamed "internal/strconv.uint64pow10" = some 3 := by kernel_rfl
theorem tP:(Tryz.prog.globals[3]?).map (·.type)=some 251:=by kernel_rfl
theorem uP:Tryz.prog.underlying 251=some (.array 20 242):=by kernel_rfl
theorem u64t:Tryz.prog.underlying 242=some (.int .u64):=by kernel_rfl
theorem pTab:(Rows.laid_internal_strconv_uint64pow10:DataW Unit)=Lib.tabData .u64 Lib.pow10Tab:=by kernel_rfl
theorem tB:(Tryz.prog.globals[0]?).map (·.type)=some 191:=by kernel_rfl
theorem tS:(Tryz.prog.globals[1]?).map (·.type)=some 192:=by kernel_rfl
theorem uB:Tryz.prog.underlying 191=some (.array 33 4):=by kernel_rfl
theorem uS:Tryz.prog.underlying 192=some (.array 126 4):=by kernel_rfl
theorem u4:Tryz.prog.underlying 4=some .bool:=by kernel_rfl
theorem rtE : (Tryz.prog.cutTypes.find? (·.1 == "internal/reflectlite.rtype")).map (·.2) = some 225 := by kernel_rfl
theorem size:Tryz.prog.types.size=285:=by kernel_rfl
theorem oneRow:((List.range 285).filter fun t=>Tryz.prog.rowNamed t [101,114,114,111,114])=[113]:=by kernel_rfl
theorem door_met (os:Os) (args:Array Value):laidMetH Tryz.prog laid3 ((World.doorLaid Tryz.prog 400 os).forCall (fun _ _=>0) ⟨#[],args,[]⟩).memory :=
 laidMetH_of_parts3 (fuel:=8) (laidMet_of_run' 8 (by kernel_rfl) (by kernel_rfl)) (by kernel_rfl) (by kernel_rfl)
theorem bools_of {P:Program} {W:World} {base:Nat} {sp:Nat->Bool} {held:Bool} {fuel n:Nat} {t e:TypeId} {cs:List Value} {bs:List Bool} {p:List MemPlace} {enc:TypeId×Value->Unit} (ht:P.underlying t=some (.array n e)) (he:P.underlying e=some .bool) (hc:P.cellsOf e=1) (hct:P.cellsOf t=n)
 (h:DataW.trod enc P W base sp held fuel t cs=some (.agg (bs.map fun b=>.lit (.bool b)),p)):cs=bs.map Value.bool:=by
 obtain⟨xs,m,rfl,hx,hlen,hn,hel⟩:=DataW.trod_array ht h
 simp only[Prod.mk.injEq,DataW.agg.injEq]at hx
 have hbl:bs.length=n:=by have:=congrArg List.length hx.1; simp at this; omega
 rw[hct]at hlen
 refine List.ext_getElem (by simp; omega) fun i h1 h2 => ?_
 have hi:i<n:=by omega
 have h3:=hel i hi
 have hxi:i<xs.length:=by omega
 rw[List.getElem?_eq_getElem hxi,hc,Nat.mul_one]at h3
 obtain⟨b,e1,e2⟩:=DataW.trod_bool he h3
 have e3:cs[i]=.bool b:=by
  rw[List.drop_eq_getElem_cons h1,List.take_succ_cons,List.take_zero]at e1
  exact(List.cons.inj e1).1
 have hbi:i<bs.length:=by omega
 have e4:(bs.map fun b=>(DataW.lit (.bool b):DataW Unit))[i]'(by simpa using hbi)=(xs.map (·.1))[i]'(by simpa using hxi):=by
  simp only[hx.1]
 simp only[List.getElem_map,e2]at e4
 have:bs[i]=b:=by simpa using e4
 rw[e3,List.getElem_map,this]
theorem gl_of {W:World} (h:laidMetH Tryz.prog laid3 W):(st0 W).GL:=by
 have h' : laidMet Tryz.prog [("math/bits.deBruijn32tab", Rows.laid_math_bits_deBruijn32tab), ("math/bits.deBruijn64tab", Rows.laid_math_bits_deBruijn64tab), ("internal/strconv.uint64pow10", Rows.laid_internal_strconv_uint64pow10), ("parlour/token.blanks", Rows.laid_parlour_token_blanks), ("parlour/token.signs", Rows.laid_parlour_token_signs)] W ∧ handlesMet Tryz.prog [("errors.errorType", Rows.laid_errors_errorType)] W := h
 obtain⟨⟨ps,⟨ga,ta,csa,fa,pa,qa,hga,hta,hva,hda,⟨gb,tb,csb,fb,pb,qb,hgb,htb,hvb,hdb,⟨gc,tc,csc,fc,pc,qc,hgc,htc,hvc,hdc,⟨g0,t0,cs0,f0,p0,q0,hg0,ht0,hv0,hd0,⟨g1,t1,cs1,f1,p1,q1,hg1,ht1,hv1,hd1,_,_⟩,_⟩,_⟩,_⟩,_⟩,_,_⟩,hh⟩:=h'
 obtain rfl:=Option.some.inj (gB.symm.trans hg0)
 obtain rfl:=Option.some.inj (gS.symm.trans hg1)
 obtain rfl:=Option.some.inj (tB.symm.trans ht0)
 obtain rfl:=Option.some.inj (tS.symm.trans ht1)
 have b0:cs0.toList=blanksL.map Value.bool:=bools_of (bs:=blanksL) uB u4 (by kernel_rfl) (by kernel_rfl) hd0
 have b1:cs1.toList=signsL.map Value.bool:=bools_of (bs:=signsL) uS u4 (by kernel_rfl) (by kernel_rfl) hd1
 obtain⟨name,u,ty,e1,e2,e3,e4,e5⟩:=hh _ (List.mem_singleton.2 rfl)
 have en:name=[101,114,114,111,114]:=(Option.some.inj e1).symm
 subst en
 obtain rfl:=Option.some.inj (rtE.symm.trans e2)
 have hm:ty∈(List.range 285).filter fun t=>Tryz.prog.rowNamed t [101,114,114,111,114]:=List.mem_filter.2 ⟨List.mem_range.2 (by rw[←size]; exact e3),e4⟩
 rw[oneRow]at hm
 obtain rfl:=List.mem_singleton.1 hm
 have hh:typeHandle Tryz.prog 113=.pointer (some ⟨7,113,none⟩):=by kernel_rfl
 rw[hh]at e5
 obtain rfl:=Option.some.inj (gP.symm.trans hgc)
 obtain rfl:=Option.some.inj (tP.symm.trans htc)
 have b3:csc.toList=Lib.pow10Tab.map fun z=>Value.int .u64 z:=Lib.cells_of_tab (zs:=Lib.pow10Tab) uP u64t (by kernel_rfl) (by kernel_rfl) (by rw[←pTab]; exact hdc)
 have shp:∀ (g:Nat) (nm:String) (cs:Array Value) (us:List Value),Tryz.prog.globalNamed nm=some g->W.var? Tryz.prog nm=some cs->cs.toList=us->∃ T,(st0 W).w.shape? g=some (T,us.length):=by
  intro g nm cs us h1 h2 h3
  simp only[World.var?,h1,Option.bind_some]at h2
  split at h2
  · rename_i cs' T f hh
    cases h2
    refine⟨T,?_⟩
    show W.shape? g=_
    unfold World.shape?
    rw[hh,<- h3]
    simp
  · cases h2
 have key:∀ (g:Nat) (nm:String) (cs:Array Value) (us:List Value),Tryz.prog.globalNamed nm=some g->W.var? Tryz.prog nm=some cs->cs.toList=us->us.all isNumV=true->(st0 W).Imm ⟨g,0,none⟩ us:=by
  intro g nm cs us h1 h2 h3 h4
  refine⟨fun j u hj => ?_,fun _=>rw0 W _,fun _ _=>.inr h4⟩
  have:=World.var?_cell h1 h2 j
  have e:((⟨g,0,none⟩:Addr).add j)=⟨g,j,none⟩:=by unfold Addr.add; split<;>simp_all
  rw[e]
  show W.cell? _=_
  rw[this,<- Array.getElem?_toList,h3]; exact hj
 intro g us hg
 match g,hg with
 | 0,hg=>cases hg; exact⟨key 0 _ _ _ gB hv0 b0 (by decide),shp 0 _ _ _ gB hv0 b0⟩
 | 1,hg=>cases hg; exact⟨key 1 _ _ _ gS hv1 b1 (by decide),shp 1 _ _ _ gS hv1 b1⟩
 | 2,hg=>cases hg; exact⟨key 2 _ _ _ gE e5 rfl rfl,shp 2 _ _ _ gE e5 rfl⟩
 | 3,hg=>cases hg; exact⟨key 3 _ _ _ gP hvc b3 (by decide),shp 3 _ _ _ gP hvc b3⟩
end Go.Proofs.YtmkdpmfhlfhjkaaGreatDoor
namespace Go.Proofs.YtmkdpmfhlfhjkaaGreatDoor
open Go Go.Ab
theorem u9:Tryz.prog.underlying 9=some .string:=by kernel_rfl
theorem str_of {d:Dt} (h:d.ty Tryz.prog 9):∃ s,d=.str s∧s.size≤reachBytes:=by
 cases d with
 | int k n=>have:=h.1; rw[u9]at this; cases this
 | bool b=>have h:Tryz.prog.underlying 9=_:=h; rw[u9]at h; cases h
 | str s=>exact⟨s,rfl,h.2⟩
 | sl l=>obtain⟨e,h,_⟩:=h; rw[u9]at h; cases h
 | agg l=>obtain⟨e,h,_⟩:=h; rw[u9]at h; cases h
end Go.Proofs.YtmkdpmfhlfhjkaaGreatDoor
namespace Go.Proofs.YtmkdpmfhlfhjkaaGreatDoor
open Go.Ab
def RdA {α:Type} (c:Cx) (k:FuncId) (args:List SV) (F:Rd->α×Rd) (v:α->SV) (d:Nat):Prop :=
 ∀ {H:List AO} {j:Nat} {r:Rd},j<H.length->Gd c d r->Ok Tryz.prog k (rp j::args) (H.set j (rdO c r)) (.ret (v (F r).1)) (H.set j (rdO c (F r).2))
theorem RdA.app {α:Type} {c:Cx} {k:FuncId} {args:List SV} {F:Rd->α×Rd} {v:α->SV} {d:Nat} (h:RdA c k args F v d) {H:List AO} {j:Nat} {r:Rd} (hj:j<H.length) (hr:Gd c d r) (L:List AO) :
 Ok Tryz.prog k (rp j::args) (H.set j (rdO c r)++L) (.ret (v (F r).1)) (H.set j (rdO c (F r).2)++L):=by
 have:=h (H:=H++L) (j:=j) (r:=r) (by simp; omega) hr
 rwa [List.set_append_left _ _ hj,List.set_append_left _ _ hj]at this
@[simp] theorem objIs_nS0 (H L:List AO) (j:Nat) (o:AO) (ver:Nat) (T:TypeId) (m:Nat):objIs (H.set j o++L) H.length ver T m=objIs L 0 ver T m:=objIs_nS H L j o 0 ver T m
theorem t2_keep {c:Cx} {d:Nat} (s:List UInt8) {r:Rd} (h:Gd c d r):Gd c d (t2 c s r)∧r.a≤(t2 c s r).a:=take_keep s r h
theorem t2_strict {c:Cx} {s:List UInt8} {r:Rd} (h:(t2 c s r).e=0):r.e=0∧(t2 c s r).a=r.a+1:=by
 unfold t2 takeR at *
 split at h
 · rename_i hp
   rw[if_pos hp]
   exact⟨(peek_tok hp).1,rfl⟩
 · exfalso
   simp only[failR]at h
   split at h
   · exact absurd h (show ¬ (11:Int)=0 by decide)
   · rename_i h2; exact h2 h
section
variable {H:List AO} {c:Cx} {r:Rd} {j:Nat}
theorem ok151 (ho:H[j]? = some (rdO c r)):Ok Tryz.prog 151 [rp j] H (.ret (bl (begR c r))) H:=by
 have hj:=getElem?_lt ho
 have e1:objCells H j 0=(rdO c r).cells:=objCells_of (o:=rdO c r) ho rfl
 have h41:=ok36 ho
 have h38:=ok44 ho
 have h37:=ok43 ho
 refine ok_fn hm Tryz.func151 c151 (by simp[rp,SV.under,hj]) fun hcl => ?_
 simp -implicitDefEqProofs[i151,r151]
 refine callq_go (fun _=>h41) ?_
 have hbad:∀ s,r.e≠0∨c.ts.length≤r.a->peekR c s r=false:=fun s h=>by
  rw[←Bool.not_eq_true]; intro h2
  obtain⟨h3,h4,_⟩:=peek_tok h2
  rcases h with h | h
  · exact h h3
  · omega
 have hbf:r.e≠0∨c.ts.length≤r.a->freeR c r=false:=fun h=>by
  rw[←Bool.not_eq_true]; intro h2
  obtain⟨h3,h4,_⟩:=tokB_lt h2
  rcases h with h | h
  · exact h h3
  · omega
 have hbn:r.e≠0∨c.ts.length≤r.a->isNum c r=false:=fun h=>by
  rw[←Bool.not_eq_true]; intro h2
  obtain⟨h3,h4,_⟩:=tokB_lt h2
  rcases h with h | h
  · exact h h3
  · omega
 by_cases he:r.e=0
 · by_cases hlt:r.a<c.ts.length
   · have hn:isNum c r=decide (c.ts[r.a].k=2):=by simp[isNum,tokB,he,hlt]
     have hnlt:¬ (c.ts.length:Int)≤r.a:=by omega
     have g0:=fun h'=>tkG0 hlt h'
     unfold begR
     rw[hn]
     by_cases h2:c.ts[r.a].k=2
     · simp -implicitDefEqProofs[rp,e1,rdO,he,hlt,hnlt,tksV,g0,Tok.c,h2,sum4]
       refine⟨by omega,?_⟩
       iterate 7 (refine callq_go (r:=bl true) (fun h=>by cases h) ?_; simp -implicitDefEqProofs[h2])
       exact cv_id
     · skip
       simp -implicitDefEqProofs[rp,e1,rdO,he,hlt,hnlt,tksV,g0,Tok.c,h2,sum4]
       refine⟨by omega,?_⟩
       by_cases q0:freeR c r=true
       · skip
         refine callq_st (r:=bl (freeR c r)) (fun _=>h38) ?_
         simp -implicitDefEqProofs[h2,q0]
         refine callq_go (r:=bl true) (fun h=>by cases h) ?_
         simp -implicitDefEqProofs[h2,q0]
         refine callq_go (r:=bl true) (fun h=>by cases h) ?_
         simp -implicitDefEqProofs[h2,q0]
         refine callq_go (r:=bl true) (fun h=>by cases h) ?_
         simp -implicitDefEqProofs[h2,q0]
         refine callq_go (r:=bl true) (fun h=>by cases h) ?_
         simp -implicitDefEqProofs[h2,q0]
         refine callq_go (r:=bl true) (fun h=>by cases h) ?_
         simp -implicitDefEqProofs[h2,q0]
         refine callq_go (r:=bl true) (fun h=>by cases h) ?_
         simp -implicitDefEqProofs[h2,q0]
         exact cv_id
       rw[Bool.not_eq_true]at q0
       by_cases q1:peekR c [110,111,116] r=true
       · skip
         refine callq_st (r:=bl (freeR c r)) (fun _=>h38) ?_
         simp -implicitDefEqProofs[h2,q0,q1]
         refine callq_st (r:=bl (peekR c [110,111,116] r)) (fun _=>h37 [110,111,116]) ?_
         simp -implicitDefEqProofs[h2,q0,q1]
         refine callq_go (r:=bl true) (fun h=>by cases h) ?_
         simp -implicitDefEqProofs[h2,q0,q1]
         refine callq_go (r:=bl true) (fun h=>by cases h) ?_
         simp -implicitDefEqProofs[h2,q0,q1]
         refine callq_go (r:=bl true) (fun h=>by cases h) ?_
         simp -implicitDefEqProofs[h2,q0,q1]
         refine callq_go (r:=bl true) (fun h=>by cases h) ?_
         simp -implicitDefEqProofs[h2,q0,q1]
         refine callq_go (r:=bl true) (fun h=>by cases h) ?_
         simp -implicitDefEqProofs[h2,q0,q1]
         exact cv_id
       rw[Bool.not_eq_true]at q1
       by_cases q2:peekR c [45] r=true
       · skip
         refine callq_st (r:=bl (freeR c r)) (fun _=>h38) ?_
         simp -implicitDefEqProofs[h2,q0,q1,q2]
         refine callq_st (r:=bl (peekR c [110,111,116] r)) (fun _=>h37 [110,111,116]) ?_
         simp -implicitDefEqProofs[h2,q0,q1,q2]
         refine callq_st (r:=bl (peekR c [45] r)) (fun _=>h37 [45]) ?_
         simp -implicitDefEqProofs[h2,q0,q1,q2]
         refine callq_go (r:=bl true) (fun h=>by cases h) ?_
         simp -implicitDefEqProofs[h2,q0,q1,q2]
         refine callq_go (r:=bl true) (fun h=>by cases h) ?_
         simp -implicitDefEqProofs[h2,q0,q1,q2]
         refine callq_go (r:=bl true) (fun h=>by cases h) ?_
         simp -implicitDefEqProofs[h2,q0,q1,q2]
         refine callq_go (r:=bl true) (fun h=>by cases h) ?_
         simp -implicitDefEqProofs[h2,q0,q1,q2]
         exact cv_id
       rw[Bool.not_eq_true]at q2
       by_cases q3:peekR c [40] r=true
       · skip
         refine callq_st (r:=bl (freeR c r)) (fun _=>h38) ?_
         simp -implicitDefEqProofs[h2,q0,q1,q2,q3]
         refine callq_st (r:=bl (peekR c [110,111,116] r)) (fun _=>h37 [110,111,116]) ?_
         simp -implicitDefEqProofs[h2,q0,q1,q2,q3]
         refine callq_st (r:=bl (peekR c [45] r)) (fun _=>h37 [45]) ?_
         simp -implicitDefEqProofs[h2,q0,q1,q2,q3]
         refine callq_st (r:=bl (peekR c [40] r)) (fun _=>h37 [40]) ?_
         simp -implicitDefEqProofs[h2,q0,q1,q2,q3]
         refine callq_go (r:=bl true) (fun h=>by cases h) ?_
         simp -implicitDefEqProofs[h2,q0,q1,q2,q3]
         refine callq_go (r:=bl true) (fun h=>by cases h) ?_
         simp -implicitDefEqProofs[h2,q0,q1,q2,q3]
         refine callq_go (r:=bl true) (fun h=>by cases h) ?_
         simp -implicitDefEqProofs[h2,q0,q1,q2,q3]
         exact cv_id
       rw[Bool.not_eq_true]at q3
       by_cases q4:peekR c [109,105,110] r=true
       · skip
         refine callq_st (r:=bl (freeR c r)) (fun _=>h38) ?_
         simp -implicitDefEqProofs[h2,q0,q1,q2,q3,q4]
         refine callq_st (r:=bl (peekR c [110,111,116] r)) (fun _=>h37 [110,111,116]) ?_
         simp -implicitDefEqProofs[h2,q0,q1,q2,q3,q4]
         refine callq_st (r:=bl (peekR c [45] r)) (fun _=>h37 [45]) ?_
         simp -implicitDefEqProofs[h2,q0,q1,q2,q3,q4]
         refine callq_st (r:=bl (peekR c [40] r)) (fun _=>h37 [40]) ?_
         simp -implicitDefEqProofs[h2,q0,q1,q2,q3,q4]
         refine callq_st (r:=bl (peekR c [109,105,110] r)) (fun _=>h37 [109,105,110]) ?_
         simp -implicitDefEqProofs[h2,q0,q1,q2,q3,q4]
         refine callq_go (r:=bl true) (fun h=>by cases h) ?_
         simp -implicitDefEqProofs[h2,q0,q1,q2,q3,q4]
         refine callq_go (r:=bl true) (fun h=>by cases h) ?_
         simp -implicitDefEqProofs[h2,q0,q1,q2,q3,q4]
         exact cv_id
       rw[Bool.not_eq_true]at q4
       by_cases q5:peekR c [109,97,120] r=true
       · skip
         refine callq_st (r:=bl (freeR c r)) (fun _=>h38) ?_
         simp -implicitDefEqProofs[h2,q0,q1,q2,q3,q4,q5]
         refine callq_st (r:=bl (peekR c [110,111,116] r)) (fun _=>h37 [110,111,116]) ?_
         simp -implicitDefEqProofs[h2,q0,q1,q2,q3,q4,q5]
         refine callq_st (r:=bl (peekR c [45] r)) (fun _=>h37 [45]) ?_
         simp -implicitDefEqProofs[h2,q0,q1,q2,q3,q4,q5]
         refine callq_st (r:=bl (peekR c [40] r)) (fun _=>h37 [40]) ?_
         simp -implicitDefEqProofs[h2,q0,q1,q2,q3,q4,q5]
         refine callq_st (r:=bl (peekR c [109,105,110] r)) (fun _=>h37 [109,105,110]) ?_
         simp -implicitDefEqProofs[h2,q0,q1,q2,q3,q4,q5]
         refine callq_st (r:=bl (peekR c [109,97,120] r)) (fun _=>h37 [109,97,120]) ?_
         simp -implicitDefEqProofs[h2,q0,q1,q2,q3,q4,q5]
         refine callq_go (r:=bl true) (fun h=>by cases h) ?_
         simp -implicitDefEqProofs[h2,q0,q1,q2,q3,q4,q5]
         exact cv_id
       rw[Bool.not_eq_true]at q5
       by_cases q6:peekR c [105,102] r=true
       · skip
         refine callq_st (r:=bl (freeR c r)) (fun _=>h38) ?_
         simp -implicitDefEqProofs[h2,q0,q1,q2,q3,q4,q5,q6]
         refine callq_st (r:=bl (peekR c [110,111,116] r)) (fun _=>h37 [110,111,116]) ?_
         simp -implicitDefEqProofs[h2,q0,q1,q2,q3,q4,q5,q6]
         refine callq_st (r:=bl (peekR c [45] r)) (fun _=>h37 [45]) ?_
         simp -implicitDefEqProofs[h2,q0,q1,q2,q3,q4,q5,q6]
         refine callq_st (r:=bl (peekR c [40] r)) (fun _=>h37 [40]) ?_
         simp -implicitDefEqProofs[h2,q0,q1,q2,q3,q4,q5,q6]
         refine callq_st (r:=bl (peekR c [109,105,110] r)) (fun _=>h37 [109,105,110]) ?_
         simp -implicitDefEqProofs[h2,q0,q1,q2,q3,q4,q5,q6]
         refine callq_st (r:=bl (peekR c [109,97,120] r)) (fun _=>h37 [109,97,120]) ?_
         simp -implicitDefEqProofs[h2,q0,q1,q2,q3,q4,q5,q6]
         refine callq_st (r:=bl (peekR c [105,102] r)) (fun _=>h37 [105,102]) ?_
         simp -implicitDefEqProofs[h2,q0,q1,q2,q3,q4,q5,q6]
         exact cv_id
       rw[Bool.not_eq_true]at q6
       refine callq_st (r:=bl (freeR c r)) (fun _=>h38) ?_
       simp -implicitDefEqProofs[h2,q0,q1,q2,q3,q4,q5,q6]
       refine callq_st (r:=bl (peekR c [110,111,116] r)) (fun _=>h37 [110,111,116]) ?_
       simp -implicitDefEqProofs[h2,q0,q1,q2,q3,q4,q5,q6]
       refine callq_st (r:=bl (peekR c [45] r)) (fun _=>h37 [45]) ?_
       simp -implicitDefEqProofs[h2,q0,q1,q2,q3,q4,q5,q6]
       refine callq_st (r:=bl (peekR c [40] r)) (fun _=>h37 [40]) ?_
       simp -implicitDefEqProofs[h2,q0,q1,q2,q3,q4,q5,q6]
       refine callq_st (r:=bl (peekR c [109,105,110] r)) (fun _=>h37 [109,105,110]) ?_
       simp -implicitDefEqProofs[h2,q0,q1,q2,q3,q4,q5,q6]
       refine callq_st (r:=bl (peekR c [109,97,120] r)) (fun _=>h37 [109,97,120]) ?_
       simp -implicitDefEqProofs[h2,q0,q1,q2,q3,q4,q5,q6]
       refine callq_st (r:=bl (peekR c [105,102] r)) (fun _=>h37 [105,102]) ?_
       simp -implicitDefEqProofs[h2,q0,q1,q2,q3,q4,q5,q6]
       exact cv_id
   · have hnlt:(c.ts.length:Int)≤r.a:=by omega
     have hB:begR c r=false:=by simp[begR,hbad _ (.inr (by omega)),hbf (.inr (by omega)),hbn (.inr (by omega))]
     rw[hB]
     simp -implicitDefEqProofs[rp,e1,rdO,he,hlt,hnlt,tksV]
     exact cv_id
 · have hB:begR c r=false:=by simp[begR,hbad _ (.inl he),hbf (.inl he),hbn (.inl he)]
   rw[hB]
   simp -implicitDefEqProofs[rp,e1,rdO,he,tksV]
   exact cv_id
end
end Go.Proofs.YtmkdpmfhlfhjkaaGreatDoor
namespace Go.Proofs.YtmkdpmfhlfhjkaaGreatDoor
open Go.Ab
theorem exprsL_keep {c:Cx} {d:Nat} {orP:Rd->Ex×Rd} (hk:Kp c d orP):∀ (n:Nat) (l:List Ex) (r:Rd),Gd c d r->Gd c d (exprsL c orP n l r).2∧r.a≤(exprsL c orP n l r).2.a
 | 0,l,r,h=>⟨h,Nat.le_refl _⟩
 | n+1,l,r,h=>by
  rw[exprsL]
  split
  · obtain⟨h1,h2⟩:=t2_keep [44] h
    have h3:Gd c d (if l.length=32∧begR c (t2 c [44] r)=true then failR c 12 (t2 c [44] r)else t2 c [44] r)∧(if l.length=32∧begR c (t2 c [44] r)=true then failR c 12 (t2 c [44] r)else t2 c [44] r).a=(t2 c [44] r).a:=by
     split
     · obtain⟨h4,h5,_⟩:=fail_keep (e:=12) (by decide) h1; exact⟨h4,h5⟩
     · exact⟨h1,rfl⟩
    dsimp only
    generalize (if l.length=32∧begR c (t2 c [44] r)=true then failR c 12 (t2 c [44] r)else t2 c [44] r)=r2 at h3 ⊢
    obtain⟨h6,h7⟩:=hk _ h3.1
    obtain⟨h8,h9⟩:=exprsL_keep hk n (l++[(orP r2).1]) _ h6
    exact⟨h8,by omega⟩
  · exact⟨h,Nat.le_refl _⟩
theorem exprsR_keep {c:Cx} {d:Nat} {orP:Rd->Ex×Rd} (hk:Kp c d orP):Kp c d (exprsR c orP):=by
 intro r h
 obtain⟨h1,h2⟩:=hk r h
 obtain⟨h3,h4⟩:=exprsL_keep hk c.ts.length [(orP r).1] _ h1
 exact⟨h3,Nat.le_trans h2 h4⟩
section
variable {H:List AO} {c:Cx} {r:Rd} {j:Nat}
theorem ok151a (hj:j<H.length) (r:Rd) (L:List AO):Ok Tryz.prog 151 [rp j] (H.set j (rdO c r)++L) (.ret (bl (begR c r))) (H.set j (rdO c r)++L) :=
 ok151 (c:=c) (r:=r) (by rw[List.getElem?_append_left (by simpa using hj)]; simp[hj])
theorem loop98 (h20:c.ts.length≤20000) (hj:j<H.length) {d:Nat} {orP:Rd->Ex×Rd} (h1:RdC c 34 orP d) (hk:Kp c d orP) {N:Nat} {K:XE->Env->List AO->Prop} {res:List Ex×Rd}
 (hexit:∀ env G,env.get 3=.own H.length 0 res.1.length 5 (res.1.length-1)->K (.exit 0) env (H.set j (rdO c res.2)++⟨Ex.cL res.1,25,res.1.length-1,true⟩::G)) :
 ∀ (n:Nat) (l:List Ex) (m:Nat) (r:Rd) (G:List AO) (env:Env),c.ts.length≤r.a+n->l.length=m+1->l.length≤r.a+1->exprsL c orP n l r=res->Gd c d r->env.get 0=rp j->env.get 3=.own H.length 0 (m+1) 5 m →
  LI Tryz.prog N drawB l98_0 env (H.set j (rdO c r)++⟨Ex.cL l,25,m,true⟩::G) K:=by
 have hl:c.ts.length<4611686018427387904:=by omega
 intro n
 induction n with
 | zero =>
  intro l m r G env hn hlm hla hr hg h0 h3
  refine li_go hm l98_0.eq_1 ?_
  have hp:peekR c [44] r=false:=by rw[←Bool.not_eq_true]; intro h; have:=peek_lt h; omega
  simp -implicitDefEqProofs[h0,h3]
  refine call_go (ok43a hj r _ [44]) ?_
  simp -implicitDefEqProofs[h0,h3,hp]
  simp only[exprsL]at hr
  subst hr
  have:m=l.length-1:=by omega
  subst this
  exact hexit _ G (by simp[h3]; omega)
 | succ n ih =>
  intro l m r G env hn hlm hla hr hg h0 h3
  refine li_go hm l98_0.eq_1 ?_
  simp -implicitDefEqProofs[h0,h3]
  refine call_go (ok43a hj r _ [44]) ?_
  rw[exprsL]at hr
  by_cases hp:peekR c [44] r=true
  · rw[if_pos hp]at hr
    have hlt:=peek_lt hp
    simp -implicitDefEqProofs[h0,h3,hp]
    have ht:t2 c [44] r=nextR r:=by simp[t2,takeR,hp]
    have hg1:=hg.next hlt
    refine call_go (ok40a hl hj r _ [44]) ?_
    rw[show(takeR c [44] r).2=nextR r from ht]
    rw[ht]at hr
    dsimp only at hr
    have fin:∀ (r2:Rd) (env:Env),r2.a=r.a+1->Gd c d r2->exprsL c orP n (l++[(orP r2).1]) (orP r2).2=res->env.get 0=rp j->env.get 3=.own H.length 0 (m+1+1) 5 (m+1)->∀ G,LI Tryz.prog N drawB l98_0 env (H.set j (rdO c (orP r2).2)++⟨Ex.cL (l++[(orP r2).1]),25,m+1,true⟩::G) K:=by
     intro r2 env ha hg2 hr g0 g3 G
     obtain⟨k1,k2⟩:=hk _ hg2
     exact ih (l++[(orP r2).1]) (m+1) _ G env (by omega) (by simp[hlm]) (by simp; omega) hr k1 g0 g3
    have hcl:=exL_len l
    have hla2:=hg.a
    by_cases h32:l.length=32
    · have hm31:m=31:=by omega
      subst hm31
      simp -implicitDefEqProofs[h0,h3]
      refine callq_st (r:=bl (begR c (nextR r))) (fun _=>ok151a hj (nextR r) _) ?_
      by_cases hb:begR c (nextR r)=true
      · rw[if_pos ⟨h32,hb⟩]at hr
        obtain⟨h4,h5,_⟩:=fail_keep (e:=12) (by decide) hg1
        simp -implicitDefEqProofs[h0,h3,hb]
        refine call_go (ok35a hj (nextR r) _ 12) ?_
        simp -implicitDefEqProofs[h0,h3]
        refine call_go (RdC.app h1 hj h4 _) ?_
        simp -implicitDefEqProofs[h0,h3,Ex.v,hcl,h32]
        refine LI.cong ?_ (fin _ _ h5 h4 hr ?_ ?_ (G++[eO (orP (failR c 12 (nextR r))).1]))
        · simp[eO,exL_app,Ex.cL]
        all_goals simp[h0]
      · rw[if_neg (fun h=>hb h.2)]at hr
        rw[Bool.not_eq_true]at hb
        simp -implicitDefEqProofs[h0,h3,hb]
        refine call_go (RdC.app h1 hj hg1 _) ?_
        simp -implicitDefEqProofs[h0,h3,Ex.v,hcl,h32]
        refine LI.cong ?_ (fin _ _ rfl hg1 hr ?_ ?_ (G++[eO (orP (nextR r)).1]))
        · simp[eO,exL_app,Ex.cL]
        all_goals simp[h0]
    · have hm31:¬ ((m:Int)+1=32):=by omega
      rw[if_neg (fun h=>h32 h.1)]at hr
      simp -implicitDefEqProofs[h0,h3,hm31]
      refine callq_go (r:=bl false) (fun h=>by cases h) ?_
      simp -implicitDefEqProofs[h0,h3,hm31]
      refine call_go (RdC.app h1 hj hg1 _) ?_
      simp -implicitDefEqProofs[h0,h3,Ex.v,hcl,hlm]
      refine⟨by omega,by omega,?_⟩
      refine LI.cong ?_ (fin _ _ rfl hg1 hr ?_ ?_ (G++[eO (orP (nextR r)).1]))
      · simp[eO,exL_app,Ex.cL]
      all_goals simp[h0]
  · rw[if_neg hp]at hr
    rw[Bool.not_eq_true]at hp
    simp -implicitDefEqProofs[h0,h3,hp]
    subst hr
    have:m=l.length-1:=by omega
    subst this
    exact hexit _ G (by simp[h3]; omega)
theorem ok98 (h20:c.ts.length≤20000) {d:Nat} {orP:Rd->Ex×Rd} (h1:RdC c 34 orP d) (hk:Kp c d orP):RdA c 98 [] (exprsR c orP) exS d:=by
 intro H j r hj hr
 refine ok_fn hm Tryz.func98 c98 (by simp[rp,SV.under,hj]) fun hcl => ?_
 simp -implicitDefEqProofs[i98,r98]
 refine call_go (h1 hj hr) ?_
 obtain⟨k1,k2⟩:=hk r hr
 simp -implicitDefEqProofs[Ex.v]
 generalize hres:exprsL c orP c.ts.length [(orP r).1] (orP r).2=res
 refine LI.cong (H':=H.set j (rdO c (orP r).2)++⟨Ex.cL [(orP r).1],25,0,true⟩::[]) (by simp[Ex.cL]) ?_
 refine loop98 h20 hj h1 hk (res:=res) (fun env G g3 => ?_) c.ts.length [(orP r).1] 0 _ _ _ (by omega) rfl (by simp) hres k1 ?_ ?_
 · have hR:exprsR c orP r=res:=hres
   rw[hR]
   simp -implicitDefEqProofs[g3]
   exact cv_fz 2 (closed_rd hcl) (by simp) (by simp[exS,exL_len,take_cL])
 all_goals simp
end
end Go.Proofs.YtmkdpmfhlfhjkaaGreatDoor
namespace Go.Proofs.YtmkdpmfhlfhjkaaGreatDoor
open Go.Ab
def IC.tl:Nat->IC->IC
 | 0,a=>a
 | k+1,.seq _ b=>IC.tl k b
 | _,a=>a
def IC.nth:Nat->IC->IC
 | 0,.seq a _=>a
 | k+1,.seq _ b=>IC.nth k b
 | _,a=>a
abbrev nl:SV:=.val (.slice none 0 0)
def RowE (n f:Nat) (G:List AO) (x:SV) (l:List Ex):Prop :=
 (x=nl∧l=[])∨∃ k v,x=.own (n+(k+f)) 0 l.length 5 v∧G[k]? = some ⟨Ex.cL l,25,v,true⟩
theorem RowE.app {n f:Nat} {G:List AO} {x:SV} {l:List Ex} (h:RowE n f G x l) (M:List AO):RowE n f (G++M) x l:=by
 rcases h with h | ⟨k,v,h1,h2⟩
 · exact .inl h
 · exact .inr ⟨k,v,h1,by rw[List.getElem?_append_left (getElem?_lt h2)]; exact h2⟩
theorem RowE.cell {n f:Nat} {G:List AO} {x:SV} {l:List Ex} (h:RowE n f G x l):x.isCell=true:=by
 rcases h with ⟨rfl,_⟩ | ⟨k,v,rfl,_⟩<;>rfl
theorem RowE.fz {n f:Nat} {G:List AO} {x:SV} {l:List Ex} (h:RowE n f G x l) (A:List AO) (hA:A.length=f) (d:Nat):SV.le (SV.fz n [] (A++G) (d+2) x) (exS l):=by
 rcases h with ⟨rfl,rfl⟩ | ⟨k,v,rfl,h2⟩
 · rw[fz_under (by rfl)]; exact le_nil
 · have h3:(A++G)[k+f]? = some ⟨Ex.cL l,25,v,true⟩:=by
    rw[List.getElem?_append_right (by omega),show k+f-A.length=k by omega]; exact h2
   rw[fz_own,h3]
   simp only[placeOf]
   have e:(Ex.cL l).take (l.length*5)=Ex.cL l:=List.take_of_length_le (by rw[exL_len]; exact Nat.le_refl _)
   simp only[List.drop_zero,e,exL_fzm,exL_len,Nat.zero_add,Nat.le_refl,and_self,if_true]
   exact SV.le.refl _
@[simp] theorem Ex.take6 (e:Ex) (x:SV):List.take 6 (e.c++[x])=e.c++[x]:=List.take_of_length_le (by simp)
def aZ:AO:=⟨[st (B []),nl,bl false,nl,st (B []),i64 0],89,0,true⟩
def actO (n:Nat) (nm:List UInt8) (xW:SV) (hid:Bool) (m:Nat) (go:List UInt8) (p:Int):AO:=⟨[st (B nm),xW,bl hid,.own (n+2) 0 m 7 m,st (B go),i64 p],89,0,true⟩
def setO (l:List SetP):AO:=⟨rws SetP.c l,91,l.length,true⟩
theorem SetP.len (s:SetP):s.c.length=7:=by simp[SetP.c]
theorem SetP.und (n:Nat) (s:SetP):SV.underL n s.c=true:=by simp[SetP.c,SV.underL,SV.under,SV.underL_append,Ex.und]
@[simp] theorem sets_fzm (n:Nat) (ks:List Nat) (L:List AO) (d:Nat) (l:List SetP):(rws SetP.c l).map (SV.fz n ks L (d+1))=rws SetP.c l:=map_fz_under _ _ _ _ (rws_under (SetP.und _) l)
theorem full_keep {c:Cx} {d:Nat} {r:Rd} {P:Prop} [Decidable P] (h:Gd c d r):Gd c d (if P then failR c 12 r else r)∧(if P then failR c 12 r else r).a=r.a∧((if P then failR c 12 r else r).e=0->r.e=0):=by
 split
 · obtain⟨h4,h5,h6⟩:=fail_keep (e:=12) (by decide) h; exact⟨h4,h5,fun h=>absurd h h6⟩
 · exact⟨h,rfl,fun h=>h⟩
theorem setR_keep {c:Cx} {d:Nat} {orP:Rd->Ex×Rd} (hk:Kp c d orP) (l:List SetP) {r:Rd} (h:Gd c d r):Gd c d (setR c orP l r).2∧r.a≤(setR c orP l r).2.a∧((setR c orP l r).2.e=0->r.a<(setR c orP l r).2.a):=by
 unfold setR
 dsimp only
 obtain⟨h1,h2,_⟩:=full_keep (P:=l.length=32∧freeR c r=true) h
 generalize (if l.length=32∧freeR c r=true then failR c 12 r else r)=r1 at *
 obtain⟨h3,h4⟩:=word_keep r1 h1
 obtain⟨h5,h6⟩:=t2_keep [61] h3
 obtain⟨h7,h8⟩:=hk _ h5
 obtain⟨h9,h10⟩:=t2_keep [59] h7
 refine⟨h9,by omega,fun he => ?_⟩
 have:=(t2_strict he).2
 omega
section
variable {H:List AO} {c:Cx} {r:Rd} {j:Nat} {G:List AO} {nm:List UInt8} {xW:SV} {wh:List Ex} {hid:Bool} {sets:List SetP} {p:Int}
theorem cv_act {x:AO} {o:AO} {go:List UInt8} (hcl:closed (H.set j o)) (hW:RowE H.length 3 G xW wh) :
 Cv H.length (.agg [st (B nm),xW,bl hid,.own (H.length+2) 0 sets.length 7 sets.length,st (B go),i64 p]) (H.set j o++(x::actO H.length nm xW hid sets.length go p::setO sets::G)) (.agg (ActP.mk nm wh hid sets go p).c) (H.set j o):=by
 refine Cv.le (cv_fz (n0:=H.length) 4 hcl (by simp) rfl) ?_
 have h1:=hW.fz [x,actO H.length nm xW hid sets.length go p,setO sets] rfl 1
 simp only[List.cons_append,List.nil_append]at h1
 have e:(rws SetP.c sets).take (sets.length*7)=rws SetP.c sets:=List.take_of_length_le (by rw[rws_len SetP.len]; exact Nat.le_refl _)
 simp[ActP.c,setO,rws_len SetP.len,e]
 simp only[setO]at h1
 exact le_agg (leL.cons (SV.le.refl _) (leL.cons h1 (leL.cons (SV.le.refl _) (leL.cons (SV.le.refl _) (leL.cons (SV.le.refl _) (leL.cons (SV.le.refl _) leL.nil))))))
theorem act_t7 (hl:c.ts.length<4611686018427387904) (hj:j<H.length) (hcl:closed (H.set j (rdO c r))) (hW:RowE H.length 3 G xW wh) {env:Env}
 (h0:env.get 0=rp j) (h2:env.get 2=.ptr (.own H.length 0 0 0 0) 0) (h3:env.get 3=.ptr (.own (H.length+1) 0 0 0 0) 0) :
 X Tryz.prog Tryz.f150.ntmps drawB (IC.tl 7 i150) env (H.set j (rdO c r)++(aZ::actO H.length nm xW hid sets.length [] p::setO sets::G))
  (Fin H.length r150 (.ret (.agg (ActP.mk nm wh hid sets (gotoR c (t2 c [125] r)).1 p).c)) (H.set j (rdO c (gotoR c (t2 c [125] r)).2))):=by
 have hc:=hW.cell
 simp -implicitDefEqProofs[IC.tl,i150,r150,h0,h2,h3]
 refine call_go (ok40a hl hj r _ [125]) ?_
 rw[show(takeR c [125] r).2=t2 c [125] r from rfl]
 generalize t2 c [125] r=r1
 simp -implicitDefEqProofs[h0,h2,h3]
 refine call_go (ok43a hj r1 _ [103,111,116,111]) ?_
 generalize hg:gotoR c r1=g
 unfold gotoR at hg
 by_cases hp:peekR c [103,111,116,111] r1=true
 · rw[if_pos hp]at hg
   subst hg
   simp -implicitDefEqProofs[h0,h2,h3,hp]
   refine call_go (ok40a hl hj r1 _ [103,111,116,111]) ?_
   rw[show(takeR c [103,111,116,111] r1).2=t2 c [103,111,116,111] r1 from rfl]
   generalize t2 c [103,111,116,111] r1=r2
   simp -implicitDefEqProofs[h0,h2,h3]
   refine call_go (ok41a hl hj r2 _) ?_
   generalize wordR c r2=w
   simp -implicitDefEqProofs[h0,h2,h3,actO]
   refine call_go (ok40a hl hj w.2 _ [59]) ?_
   rw[show(takeR c [59] w.2).2=t2 c [59] w.2 from rfl]
   simp -implicitDefEqProofs[h0,h2,h3,aZ]
   exact⟨hc,cv_act (closed_rd hcl) hW⟩
 · rw[if_neg hp]at hg
   subst hg
   rw[Bool.not_eq_true]at hp
   simp -implicitDefEqProofs[h0,h2,h3,hp,actO,aZ]
   exact⟨hc,cv_act (closed_rd hcl) hW⟩
theorem setsL_keep {d:Nat} {orP:Rd->Ex×Rd} (hk:Kp c d orP):∀ (n:Nat) (l:List SetP) (r:Rd),Gd c d r->Gd c d (setsL c orP n l r).2∧r.a≤(setsL c orP n l r).2.a
 | 0,l,r,h=>⟨h,Nat.le_refl _⟩
 | n+1,l,r,h=>by
  rw[setsL]
  split
  · obtain⟨h1,h2,_⟩:=setR_keep hk l h
    obtain⟨h3,h4⟩:=setsL_keep hk n (l++[(setR c orP l r).1]) _ h1
    exact⟨h3,Nat.le_trans h2 h4⟩
  · exact⟨h,Nat.le_refl _⟩
theorem loop150 (h20:c.ts.length≤20000) (hj:j<H.length) {d:Nat} {orP:Rd->Ex×Rd} (h1:RdC c 34 orP d) (hk:Kp c d orP) {N:Nat} {K:XE->Env->List AO->Prop} {res:List SetP×Rd} {p:Int}
 (hexit:∀ env G,RowE H.length 3 G xW wh->env.get 0=rp j->env.get 2=.ptr (.own H.length 0 0 0 0) 0->env.get 3=.ptr (.own (H.length+1) 0 0 0 0) 0->K (.exit 0) env (H.set j (rdO c res.2)++(aZ::actO H.length nm xW hid res.1.length [] p::setO res.1::G))) :
 ∀ (n:Nat) (l:List SetP) (r:Rd) (G:List AO) (env:Env),(r.e=0->c.ts.length<r.a+n)->l.length≤r.a->setsL c orP n l r=res->Gd c d r->RowE H.length 3 G xW wh->env.get 0=rp j->env.get 2=.ptr (.own H.length 0 0 0 0) 0->env.get 3=.ptr (.own (H.length+1) 0 0 0 0) 0 →
  LI Tryz.prog N drawB l150_0 env (H.set j (rdO c r)++(aZ::actO H.length nm xW hid l.length [] p::setO l::G)) K:=by
 have hl:c.ts.length<4611686018427387904:=by omega
 have out_ok:∀ (l:List SetP) (r:Rd) (G:List AO) (env:Env),¬ (r.e=0∧peekR c [125] r=false)->(l,r)=res->RowE H.length 3 G xW wh->env.get 0=rp j->env.get 2=.ptr (.own H.length 0 0 0 0) 0->env.get 3=.ptr (.own (H.length+1) 0 0 0 0) 0 →
  LI Tryz.prog N drawB l150_0 env (H.set j (rdO c r)++(aZ::actO H.length nm xW hid l.length [] p::setO l::G)) K:=by
  intro l r G env hn hr hW h0 h2 h3
  subst hr
  refine li_go hm l150_0.eq_1 ?_
  simp -implicitDefEqProofs[h0,h2,h3]
  refine call_go (ok36a hj r _) ?_
  by_cases he:r.e=0
  · have hp:peekR c [125] r=true:=by rw[←Bool.not_eq_false]; exact fun h=>hn ⟨he,h⟩
    simp -implicitDefEqProofs[h0,h2,h3,he]
    refine callq_st (r:=bl (peekR c [125] r)) (fun _=>ok43a hj r _ [125]) ?_
    simp -implicitDefEqProofs[h0,h2,h3,he,hp]
    refine hexit _ G hW ?_ ?_ ?_<;>simp[h0,h2,h3]
  · simp -implicitDefEqProofs[h0,h2,h3,he]
    refine callq_go (r:=bl false) (fun h=>by cases h) ?_
    simp -implicitDefEqProofs[h0,h2,h3,he]
    refine hexit _ G hW ?_ ?_ ?_<;>simp[h0,h2,h3]
 intro n
 induction n with
 | zero =>
  intro l r G env hn hla hr hg hW h0 h2 h3
  have:=hg.a
  exact out_ok l r G env (fun h=>by have:=hn h.1; omega) hr hW h0 h2 h3
 | succ n ih =>
  intro l r G env hn hla hr hg hW h0 h2 h3
  rw[setsL]at hr
  by_cases hc:r.e=0∧peekR c [125] r=false
  · rw[if_pos hc]at hr
    obtain⟨k1,k2,k3⟩:=setR_keep hk l hg
    have hWc:=hW.cell
    have ha:=hg.a
    have fin:∀ (env:Env) (G:List AO),RowE H.length 3 G xW wh->env.get 0=rp j->env.get 2=.ptr (.own H.length 0 0 0 0) 0->env.get 3=.ptr (.own (H.length+1) 0 0 0 0) 0->(l.length+1≤(setR c orP l r).2.a∨(setR c orP l r).2.e≠0) →
     LI Tryz.prog N drawB l150_0 env (H.set j (rdO c (setR c orP l r).2)++(aZ::actO H.length nm xW hid (l.length+1) [] p::setO (l++[(setR c orP l r).1])::G)) K:=by
     intro env G hW g0 g2 g3 hb
     have e:(l++[(setR c orP l r).1]).length=l.length+1:=by simp
     rw[←e]
     by_cases he:(setR c orP l r).2.e=0
     · exact ih _ _ G env (fun he=>by have:=hn hc.1; have:=k3 he; omega) (by rw[e]; exact hb.resolve_right (fun h=>h he)) hr k1 hW g0 g2 g3
     · refine out_ok _ _ G env (fun h=>he h.1) ?_ hW g0 g2 g3
       rw[←hr]
       cases n with
       | zero=>rfl
       | succ n=>rw[setsL,if_neg (fun h=>he h.1)]
    refine li_go hm l150_0.eq_1 ?_
    simp -implicitDefEqProofs[h0,h2,h3]
    refine call_go (ok36a hj r _) ?_
    simp -implicitDefEqProofs[h0,h2,h3,hc.1]
    refine callq_st (r:=bl (peekR c [125] r)) (fun _=>ok43a hj r _ [125]) ?_
    simp -implicitDefEqProofs[h0,h2,h3,hc.2,actO]
    have hset:∀ r1,(if l.length=32∧freeR c r=true then failR c 12 r else r)=r1->setR c orP l r=(⟨(wordR c r1).1,(orP (t2 c [61] (wordR c r1).2)).1,hereR c r1⟩,t2 c [59] (orP (t2 c [61] (wordR c r1).2)).2):=fun r1 h=>by subst h; rfl
    have hq3:∀ r1,(if l.length=32∧freeR c r=true then failR c 12 r else r)=r1->Gd c d (t2 c [61] (wordR c r1).2):=fun r1 h=>by
     have:=(full_keep (P:=l.length=32∧freeR c r=true) hg).1
     rw[h]at this
     exact(t2_keep [61] (word_keep r1 this).1).1
    have hb:l.length+1≤(setR c orP l r).2.a∨(setR c orP l r).2.e≠0:=by
     by_cases he:(setR c orP l r).2.e=0
     · left; have:=k3 he; omega
     · exact .inr he
    by_cases h32:l.length=32
    · have hd:decide ((l.length:Int)=32)=true:=decide_eq_true (by omega)
      by_cases hf:freeR c r=true
      · have hset:=hset _ (if_pos ⟨h32,hf⟩)
        have q3:=hq3 _ (if_pos ⟨h32,hf⟩)
        refine callq_st (r:=bl (freeR c r)) (fun _=>by rw[hd]; exact ok44a hj r _) ?_
        simp -implicitDefEqProofs[h0,h2,h3,hd,hf,actO]
        refine call_go (ok35a hj r _ 12) ?_
        simp -implicitDefEqProofs[h0,h2,h3,hd,hf]
        refine call_go (ok45a hj (failR c 12 r) _) ?_
        simp -implicitDefEqProofs[h0,h2,h3]
        refine⟨rfl,call_go (ok41a hl hj (failR c 12 r) _) ?_⟩
        simp -implicitDefEqProofs[h0,h2,h3]
        refine call_go (ok40a hl hj _ _ [61]) ?_
        rw[show(takeR c [61] (wordR c (failR c 12 r)).2).2=t2 c [61] (wordR c (failR c 12 r)).2 from rfl]
        simp -implicitDefEqProofs[h0,h2,h3]
        refine call_go (RdC.app h1 hj q3 _) ?_
        simp -implicitDefEqProofs[h0,h2,h3,Ex.v]
        refine call_go (ok40a hl hj _ _ [59]) ?_
        rw[show(takeR c [59] (orP (t2 c [61] (wordR c (failR c 12 r)).2)).2).2=t2 c [59] (orP (t2 c [61] (wordR c (failR c 12 r)).2)).2 from rfl]
        simp -implicitDefEqProofs[h0,h2,h3,Ex.v,setO,rws_len SetP.len,hWc]
        refine⟨by omega,by omega,?_⟩
        refine LI.cong ?_ (fin _ (G++[⟨(SetP.mk (wordR c (failR c 12 r)).1 (orP (t2 c [61] (wordR c (failR c 12 r)).2)).1 (hereR c (failR c 12 r))).c,91,0,true⟩,⟨(SetP.mk (wordR c (failR c 12 r)).1 (orP (t2 c [61] (wordR c (failR c 12 r)).2)).1 (hereR c (failR c 12 r))).c,91,0,true⟩]) (hW.app _) ?_ ?_ ?_ hb)
        · rw[hset]; simp[actO,setO,rws_app,rws,SetP.c]
        all_goals simp[h0,h2,h3]
      · have hset:=hset _ (if_neg (fun h=>hf h.2))
        have q3:=hq3 _ (if_neg (fun h=>hf h.2))
        rw[Bool.not_eq_true]at hf
        refine callq_st (r:=bl (freeR c r)) (fun _=>by rw[hd]; exact ok44a hj r _) ?_
        simp -implicitDefEqProofs[h0,h2,h3,hd,hf,actO]
        refine call_go (ok45a hj (r) _) ?_
        simp -implicitDefEqProofs[h0,h2,h3]
        refine⟨rfl,call_go (ok41a hl hj (r) _) ?_⟩
        simp -implicitDefEqProofs[h0,h2,h3]
        refine call_go (ok40a hl hj _ _ [61]) ?_
        rw[show(takeR c [61] (wordR c (r)).2).2=t2 c [61] (wordR c (r)).2 from rfl]
        simp -implicitDefEqProofs[h0,h2,h3]
        refine call_go (RdC.app h1 hj q3 _) ?_
        simp -implicitDefEqProofs[h0,h2,h3,Ex.v]
        refine call_go (ok40a hl hj _ _ [59]) ?_
        rw[show(takeR c [59] (orP (t2 c [61] (wordR c (r)).2)).2).2=t2 c [59] (orP (t2 c [61] (wordR c (r)).2)).2 from rfl]
        simp -implicitDefEqProofs[h0,h2,h3,Ex.v,setO,rws_len SetP.len,hWc]
        refine⟨by omega,by omega,?_⟩
        refine LI.cong ?_ (fin _ (G++[⟨(SetP.mk (wordR c (r)).1 (orP (t2 c [61] (wordR c (r)).2)).1 (hereR c (r))).c,91,0,true⟩,⟨(SetP.mk (wordR c (r)).1 (orP (t2 c [61] (wordR c (r)).2)).1 (hereR c (r))).c,91,0,true⟩]) (hW.app _) ?_ ?_ ?_ hb)
        · rw[hset]; simp[actO,setO,rws_app,rws,SetP.c]
        all_goals simp[h0,h2,h3]
    · have hd:decide ((l.length:Int)=32)=false:=decide_eq_false (by omega)
      have hset:=hset _ (if_neg (fun h=>h32 h.1))
      have q3:=hq3 _ (if_neg (fun h=>h32 h.1))
      refine callq_go (r:=bl false) (fun h=>by rw[hd]at h; cases h) ?_
      simp -implicitDefEqProofs[h0,h2,h3,hd,actO]
      refine call_go (ok45a hj (r) _) ?_
      simp -implicitDefEqProofs[h0,h2,h3]
      refine⟨rfl,call_go (ok41a hl hj (r) _) ?_⟩
      simp -implicitDefEqProofs[h0,h2,h3]
      refine call_go (ok40a hl hj _ _ [61]) ?_
      rw[show(takeR c [61] (wordR c (r)).2).2=t2 c [61] (wordR c (r)).2 from rfl]
      simp -implicitDefEqProofs[h0,h2,h3]
      refine call_go (RdC.app h1 hj q3 _) ?_
      simp -implicitDefEqProofs[h0,h2,h3,Ex.v]
      refine call_go (ok40a hl hj _ _ [59]) ?_
      rw[show(takeR c [59] (orP (t2 c [61] (wordR c (r)).2)).2).2=t2 c [59] (orP (t2 c [61] (wordR c (r)).2)).2 from rfl]
      simp -implicitDefEqProofs[h0,h2,h3,Ex.v,setO,rws_len SetP.len,hWc]
      refine⟨by omega,by omega,?_⟩
      refine LI.cong ?_ (fin _ (G++[⟨(SetP.mk (wordR c (r)).1 (orP (t2 c [61] (wordR c (r)).2)).1 (hereR c (r))).c,91,0,true⟩,⟨(SetP.mk (wordR c (r)).1 (orP (t2 c [61] (wordR c (r)).2)).1 (hereR c (r))).c,91,0,true⟩]) (hW.app _) ?_ ?_ ?_ hb)
      · rw[hset]; simp[actO,setO,rws_app,rws,SetP.c]
      all_goals simp[h0,h2,h3]
  · rw[if_neg hc]at hr
    exact out_ok l r G env hc hr hW h0 h2 h3
end
end Go.Proofs.YtmkdpmfhlfhjkaaGreatDoor
namespace Go.Proofs.YtmkdpmfhlfhjkaaGreatDoor
open Go.Ab
theorem Xc {P:Program} {N:Nat} {D:Array Oper->List Nat->List Ins->Bool} {i:IC} {env:Env} {H H':List AO} {K:XE->Env->List AO->Prop} (e:H'=H) (h:X P N D i env H' K):X P N D i env H K:=by rw[←e]; exact h
def actV (a:ActP):SV:=.agg a.c
section
variable {H:List AO} {c:Cx} {r:Rd} {j:Nat} {G:List AO} {nm:List UInt8} {xW:SV} {wh:List Ex} {hid:Bool} {p:Int}
theorem act_t5 (h20:c.ts.length≤20000) (hj:j<H.length) (hcl:closed (H.set j (rdO c r))) {d:Nat} {orP:Rd->Ex×Rd} (h1:RdC c 34 orP d) (hk:Kp c d orP) (hg:Gd c d r) (hW:RowE H.length 3 G xW wh) {env:Env} {res:ActP×Rd}
 (hres:(⟨nm,wh,hid,(setsL c orP (c.ts.length+1) [] (t2 c [123] r)).1,(gotoR c (t2 c [125] (setsL c orP (c.ts.length+1) [] (t2 c [123] r)).2)).1,p⟩,(gotoR c (t2 c [125] (setsL c orP (c.ts.length+1) [] (t2 c [123] r)).2)).2)=res)
 (h0:env.get 0=rp j) (h2:env.get 2=.ptr (.own H.length 0 0 0 0) 0) (h3:env.get 3=.ptr (.own (H.length+1) 0 0 0 0) 0) :
 X Tryz.prog Tryz.f150.ntmps drawB (IC.tl 5 i150) env (H.set j (rdO c r)++(aZ::actO H.length nm xW hid 0 [] p::setO []::G))
  (Fin H.length r150 (.ret (actV res.1)) (H.set j (rdO c res.2))):=by
 have hl:c.ts.length<4611686018427387904:=by omega
 have tail:∀ (sets:List SetP) (r:Rd) (G:List AO) (env:Env),(sets,r)=setsL c orP (c.ts.length+1) [] (t2 c [123] r)∨True->closed (H.set j (rdO c r))->RowE H.length 3 G xW wh->env.get 0=rp j->env.get 2=.ptr (.own H.length 0 0 0 0) 0->env.get 3=.ptr (.own (H.length+1) 0 0 0 0) 0->_:=fun sets r G env _ hcl hW h0 h2 h3=>act_t7 (sets:=sets) (nm:=nm) (hid:=hid) (p:=p) hl hj hcl hW h0 h2 h3
 rw[show IC.tl 5 i150=.seq (IC.nth 5 i150) (.seq (IC.nth 6 i150) (IC.tl 7 i150))from rfl]
 generalize IC.tl 7 i150=t7 at tail ⊢
 simp -implicitDefEqProofs[IC.nth,i150,h0,h2,h3]
 refine call_go (ok40a hl hj r _ [123]) ?_
 obtain⟨k1,k2⟩:=t2_keep [123] hg
 have hcl1:closed (H.set j (rdO c (t2 c [123] r))):=closed_rd hcl
 rw[show(takeR c [123] r).2=t2 c [123] r from rfl]
 generalize t2 c [123] r=r1 at hres k1 k2 hcl1 ⊢
 simp -implicitDefEqProofs[h0,h2,h3]
 generalize hs:setsL c orP (c.ts.length+1) [] r1=s at hres ⊢
 refine loop150 (xW:=xW) (wh:=wh) h20 hj h1 hk (res:=s) (fun env G hW h0 h2 h3 => ?_) (c.ts.length+1) [] r1 G _ (fun _=>by omega) (Nat.zero_le _) hs k1 hW ?_ ?_ ?_
 · have:=tail s.1 s.2 G env (.inr trivial) (closed_rd hcl) hW h0 h2 h3
   simp -implicitDefEqProofs
   rw[←hres]
   exact this
 all_goals simp[h0,h2,h3]
theorem act_t4 (h20:c.ts.length≤20000) (hj:j<H.length) (hcl:closed (H.set j (rdO c r))) {d:Nat} {orP:Rd->Ex×Rd} (h1:RdC c 34 orP d) (hk:Kp c d orP) (hg:Gd c d r) (hW:RowE H.length 3 G xW wh) {env:Env} {res:ActP×Rd}
 (hres:(fun(h:Bool×Rd)=>((⟨nm,wh,h.1,(setsL c orP (c.ts.length+1) [] (t2 c [123] h.2)).1,(gotoR c (t2 c [125] (setsL c orP (c.ts.length+1) [] (t2 c [123] h.2)).2)).1,p⟩,(gotoR c (t2 c [125] (setsL c orP (c.ts.length+1) [] (t2 c [123] h.2)).2)).2):ActP×Rd)) (flagR c [104,105,100,100,101,110] r)=res)
 (h0:env.get 0=rp j) (h2:env.get 2=.ptr (.own H.length 0 0 0 0) 0) (h3:env.get 3=.ptr (.own (H.length+1) 0 0 0 0) 0) :
 X Tryz.prog Tryz.f150.ntmps drawB (IC.tl 4 i150) env (H.set j (rdO c r)++(aZ::actO H.length nm xW false 0 [] p::setO []::G))
  (Fin H.length r150 (.ret (actV res.1)) (H.set j (rdO c res.2))):=by
 have hl:c.ts.length<4611686018427387904:=by omega
 have tail:∀ (hid:Bool) (r:Rd) (env:Env),flagR c [104,105,100,100,101,110] _=(hid,r)->closed (H.set j (rdO c r))->Gd c d r->env.get 0=rp j->env.get 2=.ptr (.own H.length 0 0 0 0) 0->env.get 3=.ptr (.own (H.length+1) 0 0 0 0) 0 →
  X Tryz.prog Tryz.f150.ntmps drawB (IC.tl 5 i150) env (H.set j (rdO c r)++(aZ::actO H.length nm xW hid 0 [] p::setO []::G)) (Fin H.length r150 (.ret (actV res.1)) (H.set j (rdO c res.2))) :=
  fun hid r env hf hcl hg h0 h2 h3=>act_t5 h20 hj hcl h1 hk hg hW (by rw[hf]at hres; exact hres) h0 h2 h3
 have hWc:=hW.cell
 rw[show IC.tl 4 i150=.seq (IC.nth 4 i150) (IC.tl 5 i150)from rfl]
 generalize IC.tl 5 i150=t5 at tail ⊢
 simp -implicitDefEqProofs[IC.nth,i150,h0,h2,h3]
 refine call_go (ok43a hj r _ [104,105,100,100,101,110]) ?_
 by_cases hp:peekR c [104,105,100,100,101,110] r=true
 · have hf:flagR c [104,105,100,100,101,110] r=(true,t2 c [104,105,100,100,101,110] r):=by unfold flagR; rw[if_pos hp]
   simp -implicitDefEqProofs[h0,h2,h3,hp]
   refine call_go (ok40a hl hj r _ [104,105,100,100,101,110]) ?_
   simp -implicitDefEqProofs[h0,h2,h3,actO]
   exact tail true _ _ hf (closed_rd hcl) (t2_keep _ hg).1 (by simp[h0]) (by simp[h2]) (by simp[h3])
 · have hf:flagR c [104,105,100,100,101,110] r=(false,r):=by unfold flagR; rw[if_neg hp]
   rw[Bool.not_eq_true]at hp
   simp -implicitDefEqProofs[h0,h2,h3,hp]
   exact tail false _ _ hf hcl hg (by simp[h0]) (by simp[h2]) (by simp[h3])
theorem act_t3 (h20:c.ts.length≤20000) (hj:j<H.length) (hcl:closed (H.set j (rdO c r))) {d:Nat} {orP:Rd->Ex×Rd} (h1:RdC c 34 orP d) (hk:Kp c d orP) (hg:Gd c d r) {env:Env} {res:ActP×Rd}
 (hres:(fun(w:List Ex×Rd)=>(fun(h:Bool×Rd)=>((⟨nm,w.1,h.1,(setsL c orP (c.ts.length+1) [] (t2 c [123] h.2)).1,(gotoR c (t2 c [125] (setsL c orP (c.ts.length+1) [] (t2 c [123] h.2)).2)).1,p⟩,(gotoR c (t2 c [125] (setsL c orP (c.ts.length+1) [] (t2 c [123] h.2)).2)).2):ActP×Rd)) (flagR c [104,105,100,100,101,110] w.2)) (optR c orP [119,104,101,110] r)=res)
 (h0:env.get 0=rp j) (h2:env.get 2=.ptr (.own H.length 0 0 0 0) 0) (h3:env.get 3=.ptr (.own (H.length+1) 0 0 0 0) 0) :
 X Tryz.prog Tryz.f150.ntmps drawB (IC.tl 3 i150) env (H.set j (rdO c r)++[aZ,actO H.length nm nl false 0 [] p,setO []])
  (Fin H.length r150 (.ret (actV res.1)) (H.set j (rdO c res.2))):=by
 have hl:c.ts.length<4611686018427387904:=by omega
 have tail:∀ (wh:List Ex) (xW:SV) (G:List AO) (r1:Rd) (env:Env),optR c orP [119,104,101,110] r=(wh,r1)->RowE H.length 3 G xW wh->Gd c d r1->env.get 0=rp j->env.get 2=.ptr (.own H.length 0 0 0 0) 0->env.get 3=.ptr (.own (H.length+1) 0 0 0 0) 0 →
  X Tryz.prog Tryz.f150.ntmps drawB (IC.tl 4 i150) env (H.set j (rdO c r1)++(aZ::actO H.length nm xW false 0 [] p::setO []::G)) (Fin H.length r150 (.ret (actV res.1)) (H.set j (rdO c res.2))) :=
  fun wh xW G r1 env hf hW hg h0 h2 h3=>act_t4 h20 hj (closed_rd hcl) h1 hk hg hW (by rw[hf]at hres; exact hres) h0 h2 h3
 rw[show IC.tl 3 i150=.seq (IC.nth 3 i150) (IC.tl 4 i150)from rfl]
 generalize IC.tl 4 i150=t4 at tail ⊢
 simp -implicitDefEqProofs[IC.nth,i150,h0,h2,h3]
 refine call_go (ok43a hj r _ [119,104,101,110]) ?_
 by_cases hp:peekR c [119,104,101,110] r=true
 · have hf:optR c orP [119,104,101,110] r=([(orP (t2 c [119,104,101,110] r)).1],(orP (t2 c [119,104,101,110] r)).2):=by unfold optR; rw[if_pos hp]
   have hg1:=(t2_keep (c:=c) (d:=d) [119,104,101,110] hg).1
   simp -implicitDefEqProofs[h0,h2,h3,hp]
   refine call_go (ok40a hl hj r _ [119,104,101,110]) ?_
   rw[show(takeR c [119,104,101,110] r).2=t2 c [119,104,101,110] r from rfl]
   simp -implicitDefEqProofs[h0,h2,h3]
   refine call_go (RdC.app h1 hj hg1 _) ?_
   simp -implicitDefEqProofs[h0,h2,h3,actO,Ex.v]
   refine Xc ?_ (tail _ (.own (H.length+3) 0 1 5 0) [⟨Ex.cL [(orP (t2 c [119,104,101,110] r)).1],25,0,true⟩] _ _ hf (.inr ⟨0,0,by simp,rfl⟩) (hk _ hg1).1 ?_ ?_ ?_)
   · simp[Ex.cL]; rfl
   all_goals simp[h0,h2,h3]
 · have hf:optR c orP [119,104,101,110] r=([],r):=by unfold optR; rw[if_neg hp]
   rw[Bool.not_eq_true]at hp
   simp -implicitDefEqProofs[h0,h2,h3,hp]
   exact tail [] nl [] _ _ hf (.inl ⟨rfl,rfl⟩) hg (by simp[h0]) (by simp[h2]) (by simp[h3])
theorem ok150 (h20:c.ts.length≤20000) {d:Nat} {orP:Rd->Ex×Rd} (h1:RdC c 34 orP d) (hk:Kp c d orP):RdA c 150 [] (actR c orP) actV d:=by
 intro H j r hj hg
 have hl:c.ts.length<4611686018427387904:=by omega
 refine ok_WI hm Tryz.func150 c150 (by simp) fun hcl => ?_
 obtain⟨k1,k2⟩:=take_keep (c:=c) (d:=d) [97,99,116,105,111,110] r hg
 obtain⟨k3,k4⟩:=word_keep _ k1
 have tail:∀ env:Env,env.get 0=rp j->env.get 2=.ptr (.own H.length 0 0 0 0) 0->env.get 3=.ptr (.own (H.length+1) 0 0 0 0) 0->_ :=
  fun env h0 h2 h3=>act_t3 (nm:=(wordR c (takeR c [97,99,116,105,111,110] r).2).1) (p:=(takeR c [97,99,116,105,111,110] r).1) (res:=actR c orP r) h20 hj (closed_rd hcl) h1 hk k3 rfl h0 h2 h3
 rw[show i150=.seq (IC.nth 0 i150) (.seq (IC.nth 1 i150) (.seq (IC.nth 2 i150) (IC.tl 3 i150)))from rfl]
 generalize IC.tl 3 i150=t3 at tail ⊢
 refine WI.seq (draw_ok hm) ?_
 simp -implicitDefEqProofs[IC.nth,i150]
 refine WI.seq (draw_ok hm) ?_
 simp -implicitDefEqProofs[IC.nth,i150]
 refine call_go (ok40a hl hj r _ [97,99,116,105,111,110]) ?_
 simp -implicitDefEqProofs
 refine⟨rfl,WI.tell (Tell.own0 (j:=H.length+1) (p:=3) (o:=⟨[st (B []),nl,bl false,nl,st (B []),i64 (takeR c [97,99,116,105,111,110] r).1],89,0,true⟩) (by simp) rfl rfl 91 7) ?_⟩
 refine WI.cong (H':=H.set j (rdO c (takeR c [97,99,116,105,111,110] r).2)++[aZ,actO H.length [] nl false 0 [] (takeR c [97,99,116,105,111,110] r).1,setO []]) ?_ ?_
 · simp[aZ,actO,setO,rws]
 refine WI.of_X (draw_ok hm) ?_
 simp -implicitDefEqProofs
 refine call_go (ok41a hl hj _ _) ?_
 simp -implicitDefEqProofs[actO]
 exact tail _ (by simp) (by simp) (by simp)
end
end Go.Proofs.YtmkdpmfhlfhjkaaGreatDoor
namespace Go.Proofs.YtmkdpmfhlfhjkaaGreatDoor
open Go.Ab
def RowI (n f:Nat) (G:List AO) (x:SV) (l:List Int):Prop :=
 (x=nl∧l=[])∨∃ k v,x=.own (n+(k+f)) 0 l.length 1 v∧G[k]? = some ⟨ints l,3,v,true⟩
theorem RowI.cell {n f:Nat} {G:List AO} {x:SV} {l:List Int} (h:RowI n f G x l):x.isCell=true:=by
 rcases h with ⟨rfl,_⟩ | ⟨k,v,rfl,_⟩<;>rfl
theorem ints_und (n:Nat) (l:List Int):SV.underL n (ints l)=true:=(SV.underL_iff _ _).2 fun s hs=>by
 simp[ints]at hs; obtain⟨a,_,rfl⟩:=hs; rfl
theorem RowI.fz {n f:Nat} {G:List AO} {x:SV} {l:List Int} (h:RowI n f G x l) (A:List AO) (hA:A.length=f) (d:Nat):SV.le (SV.fz n [] (A++G) (d+2) x) (.slc (ints l) l.length):=by
 rcases h with ⟨rfl,rfl⟩ | ⟨k,v,rfl,h2⟩
 · rw[fz_under (by rfl)]; exact le_nil
 · have h3:(A++G)[k+f]? = some ⟨ints l,3,v,true⟩:=by
    rw[List.getElem?_append_right (by omega),show k+f-A.length=k by omega]; exact h2
   rw[fz_own,h3]
   simp only[placeOf]
   have e3:(ints l).length=l.length:=by simp[ints]
   have e:(ints l).take l.length=ints l:=List.take_of_length_le (by rw[e3]; exact Nat.le_refl _)
   have e2:(ints l).map (SV.fz n [] (A++G) (d+1))=ints l:=map_fz_under _ _ _ _ (ints_und _ l)
   simp only[List.drop_zero,e,e2,e3,Nat.zero_add,Nat.mul_one,and_self,if_true,Nat.le_refl]
   exact SV.le.refl _
def zS:AO:=⟨[i64 0,st (B []),st (B []),i64 0,i64 0,nl,bl false,nl,nl,nl,nl,i64 0],78,0,true⟩
def stV (lb:List UInt8):SV:=.agg [i64 0,st (B lb),st (B []),i64 0,i64 0,nl,bl false,nl,nl,nl,nl,i64 0]
def dlO (lb nm:List UInt8) (lo hi:Int) (xW:SV) (all:Bool) (xS:SV) (p:Int):AO:=⟨[i64 1,st (B lb),st (B nm),i64 lo,i64 hi,xW,bl all,xS,nl,nl,nl,i64 p],78,0,true⟩
def stageV (x:StageP):SV:=.agg x.c
section
variable {H:List AO} {c:Cx} {r:Rd} {j:Nat} {G:List AO} {lb nm:List UInt8} {lo hi:Int} {xW xS:SV} {wt:List Ex} {all:Bool} {seen:List Int} {p:Int}
theorem cv_deal {x:AO} {o:AO} (hcl:closed (H.set j o)) (hW:RowE H.length 2 G xW wt) (hS:RowI H.length 2 G xS seen) :
 Cv H.length (.agg [i64 1,st (B lb),st (B nm),i64 lo,i64 hi,xW,bl all,xS,nl,nl,nl,i64 p]) (H.set j o++(dlO lb nm lo hi xW all xS p::x::G)) (stageV ⟨1,lb,nm,lo,hi,wt,all,seen,[],[],[],p⟩) (H.set j o):=by
 refine Cv.le (cv_fz (n0:=H.length) 4 hcl (by simp) rfl) ?_
 have h1:=hW.fz [dlO lb nm lo hi xW all xS p,x] rfl 1
 have h2:=hS.fz [dlO lb nm lo hi xW all xS p,x] rfl 1
 simp only[List.cons_append,List.nil_append]at h1 h2
 simp[stageV,StageP.c]
 refine le_agg (leL.cons (SV.le.refl _) (leL.cons (SV.le.refl _) (leL.cons (SV.le.refl _) (leL.cons (SV.le.refl _) (leL.cons (SV.le.refl _) (leL.cons h1 (leL.cons (SV.le.refl _) (leL.cons h2 (leL.cons le_nil (leL.cons le_nil (leL.cons le_nil (leL.cons (SV.le.refl _) leL.nil))))))))))))
theorem deal_t10 (hl:c.ts.length<4611686018427387904) (hj:j<H.length) (hcl:closed (H.set j (rdO c r))) (hW:RowE H.length 2 G xW wt) (hS:RowI H.length 2 G xS seen) {env:Env}
 (h0:env.get 0=rp j) (h3:env.get 3=.ptr (.own H.length 0 0 0 0) 0) (h4:env.get 4=.ptr (.own (H.length+1) 0 0 0 0) 0) :
 X Tryz.prog Tryz.f96.ntmps drawB (IC.tl 10 i96) env (H.set j (rdO c r)++(dlO lb nm lo hi xW all xS p::zS::G))
  (Fin H.length r96 (.ret (stageV ⟨1,lb,nm,lo,hi,wt,all,seen,[],[],[],p⟩)) (H.set j (rdO c (t2 c [59] r)))):=by
 have hc:=hW.cell
 have hc2:=hS.cell
 simp -implicitDefEqProofs[IC.tl,i96,r96,h0,h3,h4]
 refine call_go (ok40a hl hj r _ [59]) ?_
 rw[show(takeR c [59] r).2=t2 c [59] r from rfl]
 simp -implicitDefEqProofs[h0,h3,h4,dlO,zS]
 exact⟨⟨hc,hc2,rfl⟩,cv_deal (closed_rd hcl) hW hS⟩
theorem seenL_keep {d:Nat}:∀ (n:Nat) (l:List Int) (r:Rd),Gd c d r->Gd c d (seenL c n l r).2∧r.a≤(seenL c n l r).2.a
 | 0,l,r,h=>⟨h,Nat.le_refl _⟩
 | n+1,l,r,h=>by
  rw[seenL]
  split
  · dsimp only
    obtain⟨h1,h2⟩:=t2_keep [44] h
    obtain⟨h3,h4,_⟩:=full_keep (P:=l.length=32∧(t2 c [44] r).a<c.ts.length∧tokB c { t2 c [44] r with e:=0 } (fun t=>decide (t.k=2))=true) h1
    generalize (if l.length=32∧(t2 c [44] r).a<c.ts.length∧tokB c { t2 c [44] r with e:=0 } (fun t=>decide (t.k=2))=true then failR c 12 (t2 c [44] r)else t2 c [44] r)=r2 at *
    obtain⟨h6,h7⟩:=num_keep r2 h3
    obtain⟨h8,h9⟩:=seenL_keep n (l++[(nmR c r2).1]) _ h6
    exact⟨h8,by omega⟩
  · exact⟨h,Nat.le_refl _⟩
theorem seenR_keep {d:Nat}:Kp c d (seenR c):=by
 intro r h
 unfold seenR
 split
 · dsimp only
   obtain⟨h1,h2⟩:=t2_keep [115,101,101,110] h
   obtain⟨h3,h4⟩:=t2_keep [98,121] h1
   split
   · obtain⟨h5,h6⟩:=t2_keep [97,108,108] h3
     exact⟨h5,by simp only; omega⟩
   · obtain⟨h5,h6⟩:=num_keep _ h3
     obtain⟨h7,h8⟩:=seenL_keep c.ts.length [(nmR c (t2 c [98,121] (t2 c [115,101,101,110] r))).1] _ h5
     exact⟨h7,by simp only; omega⟩
 · exact⟨h,Nat.le_refl _⟩
theorem loop96 (h20:c.ts.length≤20000) (hj:j<H.length) {d:Nat} (hW:RowE H.length 2 G xW wt) {N:Nat} {K:XE->Env->List AO->Prop} {res:List Int×Rd}
 (hexit:∀ env M,env.get 0=rp j->env.get 3=.ptr (.own H.length 0 0 0 0) 0->env.get 4=.ptr (.own (H.length+1) 0 0 0 0) 0->K (.exit 0) env (H.set j (rdO c res.2)++(dlO lb nm lo hi xW false (.own (H.length+(G.length+2)) 0 res.1.length 1 (res.1.length-1)) p::zS::(G++⟨ints res.1,3,res.1.length-1,true⟩::M)))) :
 ∀ (n:Nat) (l:List Int) (m:Nat) (r:Rd) (M:List AO) (env:Env),c.ts.length≤r.a+n->l.length=m+1->l.length≤r.a+1->seenL c n l r=res->Gd c d r->env.get 0=rp j->env.get 3=.ptr (.own H.length 0 0 0 0) 0->env.get 4=.ptr (.own (H.length+1) 0 0 0 0) 0 →
  LI Tryz.prog N drawB l96_0 env (H.set j (rdO c r)++(dlO lb nm lo hi xW false (.own (H.length+(G.length+2)) 0 (m+1) 1 m) p::zS::(G++⟨ints l,3,m,true⟩::M))) K:=by
 have hl:c.ts.length<4611686018427387904:=by omega
 have hWc:=hW.cell
 intro n
 induction n with
 | zero =>
  intro l m r M env hn hlm hla hr hg h0 h3 h4
  refine li_go hm l96_0.eq_1 ?_
  have hp:peekR c [44] r=false:=by rw[←Bool.not_eq_true]; intro h; have:=peek_lt h; omega
  simp -implicitDefEqProofs[h0,h3,h4]
  refine call_go (ok43a hj r _ [44]) ?_
  simp -implicitDefEqProofs[h0,h3,h4,hp]
  simp only[seenL]at hr
  subst hr
  have:m=l.length-1:=by omega
  subst this
  have e:l.length-1+1=l.length:=by omega
  rw[e]
  exact hexit _ M (by simp[h0]) (by simp[h3]) (by simp[h4])
 | succ n ih =>
  intro l m r M env hn hlm hla hr hg h0 h3 h4
  refine li_go hm l96_0.eq_1 ?_
  simp -implicitDefEqProofs[h0,h3,h4]
  refine call_go (ok43a hj r _ [44]) ?_
  rw[seenL]at hr
  by_cases hp:peekR c [44] r=true
  · rw[if_pos hp]at hr
    have hlt:=peek_lt hp
    have hla2:=hg.a
    have ht:t2 c [44] r=nextR r:=by simp[t2,takeR,hp]
    have hg1:=hg.next hlt
    have he0:=(peek_tok hp).1
    rw[ht]at hr
    dsimp only at hr
    simp -implicitDefEqProofs[h0,h3,h4,hp]
    refine call_go (ok40a hl hj r _ [44]) ?_
    rw[show(takeR c [44] r).2=nextR r from ht]
    have e1:=ocL hj
    have fin:∀ (r2:Rd) (env:Env),r2.a=r.a+1->Gd c d r2->seenL c n (l++[(nmR c r2).1]) (nmR c r2).2=res->env.get 0=rp j->env.get 3=.ptr (.own H.length 0 0 0 0) 0->env.get 4=.ptr (.own (H.length+1) 0 0 0 0) 0->∀ M,
     LI Tryz.prog N drawB l96_0 env (H.set j (rdO c (nmR c r2).2)++(dlO lb nm lo hi xW false (.own (H.length+(G.length+2)) 0 (m+1+1) 1 (m+1)) p::zS::(G++⟨ints (l++[(nmR c r2).1]),3,m+1,true⟩::M))) K:=by
     intro r2 env ha hg2 hr g0 g3 g4 M
     obtain⟨k1,k2⟩:=num_keep r2 hg2
     exact ih (l++[(nmR c r2).1]) (m+1) _ M env (by omega) (by simp[hlm]) (by simp; omega) hr k1 g0 g3 g4
    by_cases hm:(m:Int)+1=32
    · have hm':l.length=32:=by omega
      have hm2:m=31:=by omega
      by_cases hlt2:r.a+1<c.ts.length
      · have hlt2':(r.a:Int)+1<(c.ts.length:Int):=by omega
        have k0:=tk_at (k:=0) hlt2 (by omega)
        rw[Nat.add_zero]at k0
        by_cases h2:c.ts[r.a+1].k=2
        · rw[if_pos ⟨hm',hlt2,by simp[tokB,nextR,hlt2,h2]⟩]at hr
          obtain⟨q1,q2,_⟩:=fail_keep (e:=12) (by decide) hg1
          simp -implicitDefEqProofs[h0,h3,h4,dlO,rp,e1,rdO,nextR,hWc,hm,hlt2',tksV,k0,h2,sum4,Tok.c]
          refine⟨by omega,by omega,?_⟩
          refine call_go (ok35a hj (nextR r) _ 12) ?_
          simp -implicitDefEqProofs[h0,h3,h4,hm]
          refine call_go (ok42a hl hj (failR c 12 (nextR r)) _) ?_
          simp -implicitDefEqProofs[h0,h3,h4,hWc,hlm]
          refine⟨by omega,by omega,?_⟩
          refine LI.cong ?_ (fin (failR c 12 (nextR r)) _ q2 q1 hr ?_ ?_ ?_ (M++[⟨[i64 (nmR c (failR c 12 (nextR r))).1],3,0,true⟩]))
          · simp[dlO,ints]
          all_goals simp[h0,h3,h4,rp]
        · rw[if_neg (fun h=>h2 (by have h3:=h.2.2; simp[tokB,nextR,hlt2]at h3; exact of_decide_eq_true h3))]at hr
          simp -implicitDefEqProofs[h0,h3,h4,dlO,rp,e1,rdO,nextR,hWc,hm,hlt2',tksV,k0,h2,sum4,Tok.c]
          refine⟨by omega,by omega,?_⟩
          refine call_go (ok42a hl hj (nextR r) _) ?_
          simp -implicitDefEqProofs[h0,h3,h4,hWc,hlm]
          refine⟨by omega,by omega,?_⟩
          refine LI.cong ?_ (fin (nextR r) _ rfl hg1 hr ?_ ?_ ?_ (M++[⟨[i64 (nmR c (nextR r)).1],3,0,true⟩]))
          · simp[dlO,ints]
          all_goals simp[h0,h3,h4,rp]
      · have hlt2':¬ (r.a:Int)+1<(c.ts.length:Int):=by omega
        rw[if_neg (fun h=>hlt2 h.2.1)]at hr
        simp -implicitDefEqProofs[h0,h3,h4,dlO,rp,e1,rdO,nextR,hWc,hm,hlt2',tksV]
        refine call_go (ok42a hl hj (nextR r) _) ?_
        simp -implicitDefEqProofs[h0,h3,h4,hWc,hlm]
        refine⟨by omega,by omega,?_⟩
        refine LI.cong ?_ (fin (nextR r) _ rfl hg1 hr ?_ ?_ ?_ (M++[⟨[i64 (nmR c (nextR r)).1],3,0,true⟩]))
        · simp[dlO,ints]
        all_goals simp[h0,h3,h4,rp]
    · have hm':¬ l.length=32:=by omega
      rw[if_neg (fun h=>hm' h.1)]at hr
      simp -implicitDefEqProofs[h0,h3,h4,dlO,rp,e1,rdO,nextR,hWc,hm,tksV]
      refine call_go (ok42a hl hj (nextR r) _) ?_
      simp -implicitDefEqProofs[h0,h3,h4,hWc,hlm]
      refine⟨by omega,by omega,?_⟩
      refine LI.cong ?_ (fin (nextR r) _ rfl hg1 hr ?_ ?_ ?_ (M++[⟨[i64 (nmR c (nextR r)).1],3,0,true⟩]))
      · simp[dlO,ints]
      all_goals simp[h0,h3,h4,rp]
  · rw[if_neg hp]at hr
    rw[Bool.not_eq_true]at hp
    simp -implicitDefEqProofs[h0,h3,h4,hp]
    subst hr
    have:m=l.length-1:=by omega
    subst this
    have e:l.length-1+1=l.length:=by omega
    rw[e]
    exact hexit _ M (by simp[h0]) (by simp[h3]) (by simp[h4])
end
end Go.Proofs.YtmkdpmfhlfhjkaaGreatDoor
namespace Go.Proofs.YtmkdpmfhlfhjkaaGreatDoor
open Go.Ab
section
variable {H:List AO} {c:Cx} {r:Rd} {j:Nat} {G:List AO} {lb nm:List UInt8} {lo hi:Int} {xW:SV} {wt:List Ex} {p:Int}
theorem deal_t9 (h20:c.ts.length≤20000) (hj:j<H.length) (hcl:closed (H.set j (rdO c r))) {d:Nat} (hg:Gd c d r) (hW:RowE H.length 2 G xW wt) {env:Env} {res:StageP×Rd}
 (hres:(fun(s:(Bool×List Int)×Rd)=>((⟨1,lb,nm,lo,hi,wt,s.1.1,s.1.2,[],[],[],p⟩,t2 c [59] s.2):StageP×Rd)) (seenR c r)=res)
 (h0:env.get 0=rp j) (h3:env.get 3=.ptr (.own H.length 0 0 0 0) 0) (h4:env.get 4=.ptr (.own (H.length+1) 0 0 0 0) 0) :
 X Tryz.prog Tryz.f96.ntmps drawB (IC.tl 9 i96) env (H.set j (rdO c r)++(dlO lb nm lo hi xW false nl p::zS::G))
  (Fin H.length r96 (.ret (stageV res.1)) (H.set j (rdO c res.2))):=by
 have hl:c.ts.length<4611686018427387904:=by omega
 have hWc:=hW.cell
 have tail:∀ (all:Bool) (seen:List Int) (xS:SV) (r1:Rd) (M:List AO) (env:Env),seenR c r=((all,seen),r1)->RowI H.length 2 (G++M) xS seen->env.get 0=rp j->env.get 3=.ptr (.own H.length 0 0 0 0) 0->env.get 4=.ptr (.own (H.length+1) 0 0 0 0) 0 →
  X Tryz.prog Tryz.f96.ntmps drawB (IC.tl 10 i96) env (H.set j (rdO c r1)++(dlO lb nm lo hi xW all xS p::zS::(G++M))) (Fin H.length r96 (.ret (stageV res.1)) (H.set j (rdO c res.2))):=by
  intro all seen xS r1 M env hs hS h0 h3 h4
  rw[hs]at hres
  subst hres
  exact deal_t10 hl hj (closed_rd hcl) (hW.app M) hS h0 h3 h4
 rw[show IC.tl 9 i96=.seq (IC.nth 9 i96) (IC.tl 10 i96)from rfl]
 generalize IC.tl 10 i96=t10 at tail ⊢
 simp -implicitDefEqProofs[IC.nth,i96,h0,h3,h4]
 refine call_go (ok43a hj r _ [115,101,101,110]) ?_
 generalize hs:seenR c r=s at tail hres
 unfold seenR at hs
 by_cases hp:peekR c [115,101,101,110] r=true
 · rw[if_pos hp]at hs
   dsimp only at hs
   have g1:=(t2_keep (c:=c) (d:=d) [115,101,101,110] hg).1
   simp -implicitDefEqProofs[h0,h3,h4,hp]
   refine call_go (ok40a hl hj r _ [115,101,101,110]) ?_
   rw[show(takeR c [115,101,101,110] r).2=t2 c [115,101,101,110] r from rfl]
   generalize t2 c [115,101,101,110] r=r1 at hs g1 ⊢
   simp -implicitDefEqProofs[h0,h3,h4]
   refine call_go (ok40a hl hj r1 _ [98,121]) ?_
   have g2:=(t2_keep (c:=c) (d:=d) [98,121] g1).1
   rw[show(takeR c [98,121] r1).2=t2 c [98,121] r1 from rfl]
   generalize t2 c [98,121] r1=r2 at hs g2 ⊢
   simp -implicitDefEqProofs[h0,h3,h4]
   refine call_go (ok43a hj r2 _ [97,108,108]) ?_
   by_cases hp2:peekR c [97,108,108] r2=true
   · rw[if_pos hp2]at hs
     simp -implicitDefEqProofs[h0,h3,h4,hp2]
     refine call_go (ok40a hl hj r2 _ [97,108,108]) ?_
     simp -implicitDefEqProofs[h0,h3,h4,dlO]
     refine Xc ?_ (tail true [] nl _ [] _ hs.symm (.inl ⟨rfl,rfl⟩) ?_ ?_ ?_)
     · simp[dlO]; rfl
     all_goals simp[h0,h3,h4]
   · rw[if_neg hp2]at hs
     rw[Bool.not_eq_true]at hp2
     obtain⟨g3,g4⟩:=num_keep r2 g2
     simp -implicitDefEqProofs[h0,h3,h4,hp2]
     refine call_go (ok42a hl hj r2 _) ?_
     simp -implicitDefEqProofs[h0,h3,h4,dlO]
     generalize hsl:seenL c c.ts.length [(nmR c r2).1] (nmR c r2).2=sl at hs
     refine LI.cong (H':=H.set j (rdO c (nmR c r2).2)++(dlO lb nm lo hi xW false (.own (H.length+(G.length+2)) 0 (0+1) 1 0) p::zS::(G++⟨ints [(nmR c r2).1],3,0,true⟩::[]))) (by simp[dlO,ints]) ?_
     refine loop96 h20 hj hW (res:=sl) (fun env M q0 q3 q4 => ?_) c.ts.length [(nmR c r2).1] 0 _ [] _ (by omega) rfl (by simp) hsl g3 ?_ ?_ ?_
     · simp -implicitDefEqProofs
       refine tail false sl.1 _ sl.2 (⟨ints sl.1,3,sl.1.length-1,true⟩::M) env hs.symm (.inr ⟨G.length,sl.1.length-1,rfl,by simp⟩) q0 q3 q4
     all_goals simp[h0,h3,h4]
 · rw[if_neg hp]at hs
   rw[Bool.not_eq_true]at hp
   simp -implicitDefEqProofs[h0,h3,h4,hp]
   refine Xc ?_ (tail false [] nl r [] _ hs.symm (.inl ⟨rfl,rfl⟩) ?_ ?_ ?_)
   · simp
   all_goals simp[h0,h3,h4]
theorem deal_t8 (h20:c.ts.length≤20000) (hj:j<H.length) (hcl:closed (H.set j (rdO c r))) {d:Nat} {orP:Rd->Ex×Rd} (h1:RdC c 34 orP d) (hk:Kp c d orP) (hg:Gd c d r) {env:Env} {res:StageP×Rd}
 (hres:(fun(w:List Ex×Rd)=>(fun(s:(Bool×List Int)×Rd)=>((⟨1,lb,nm,lo,hi,w.1,s.1.1,s.1.2,[],[],[],p⟩,t2 c [59] s.2):StageP×Rd)) (seenR c w.2)) (optR c orP [119,101,105,103,104,116] r)=res)
 (h0:env.get 0=rp j) (h3:env.get 3=.ptr (.own H.length 0 0 0 0) 0) (h4:env.get 4=.ptr (.own (H.length+1) 0 0 0 0) 0) :
 X Tryz.prog Tryz.f96.ntmps drawB (IC.tl 8 i96) env (H.set j (rdO c r)++[dlO lb nm lo hi nl false nl p,zS])
  (Fin H.length r96 (.ret (stageV res.1)) (H.set j (rdO c res.2))):=by
 have hl:c.ts.length<4611686018427387904:=by omega
 have tail:∀ (wt:List Ex) (xW:SV) (G:List AO) (r1:Rd) (env:Env),optR c orP [119,101,105,103,104,116] r=(wt,r1)->RowE H.length 2 G xW wt->Gd c d r1->env.get 0=rp j->env.get 3=.ptr (.own H.length 0 0 0 0) 0->env.get 4=.ptr (.own (H.length+1) 0 0 0 0) 0 →
  X Tryz.prog Tryz.f96.ntmps drawB (IC.tl 9 i96) env (H.set j (rdO c r1)++(dlO lb nm lo hi xW false nl p::zS::G)) (Fin H.length r96 (.ret (stageV res.1)) (H.set j (rdO c res.2))) :=
  fun wt xW G r1 env hf hW hg h0 h3 h4=>deal_t9 h20 hj (closed_rd hcl) hg hW (by rw[hf]at hres; exact hres) h0 h3 h4
 rw[show IC.tl 8 i96=.seq (IC.nth 8 i96) (IC.tl 9 i96)from rfl]
 generalize IC.tl 9 i96=t9 at tail ⊢
 simp -implicitDefEqProofs[IC.nth,i96,h0,h3,h4]
 refine call_go (ok43a hj r _ [119,101,105,103,104,116]) ?_
 by_cases hp:peekR c [119,101,105,103,104,116] r=true
 · have hf:optR c orP [119,101,105,103,104,116] r=([(orP (t2 c [119,101,105,103,104,116] r)).1],(orP (t2 c [119,101,105,103,104,116] r)).2):=by unfold optR; rw[if_pos hp]
   have hg1:=(t2_keep (c:=c) (d:=d) [119,101,105,103,104,116] hg).1
   simp -implicitDefEqProofs[h0,h3,h4,hp]
   refine call_go (ok40a hl hj r _ [119,101,105,103,104,116]) ?_
   rw[show(takeR c [119,101,105,103,104,116] r).2=t2 c [119,101,105,103,104,116] r from rfl]
   simp -implicitDefEqProofs[h0,h3,h4]
   refine call_go (RdC.app h1 hj hg1 _) ?_
   simp -implicitDefEqProofs[h0,h3,h4,dlO,Ex.v]
   refine Xc ?_ (tail _ (.own (H.length+2) 0 1 5 0) [⟨Ex.cL [(orP (t2 c [119,101,105,103,104,116] r)).1],25,0,true⟩] _ _ hf (.inr ⟨0,0,by simp,rfl⟩) (hk _ hg1).1 ?_ ?_ ?_)
   · simp[Ex.cL]; rfl
   all_goals simp[h0,h3,h4]
 · have hf:optR c orP [119,101,105,103,104,116] r=([],r):=by unfold optR; rw[if_neg hp]
   rw[Bool.not_eq_true]at hp
   simp -implicitDefEqProofs[h0,h3,h4,hp]
   exact tail [] nl [] _ _ hf (.inl ⟨rfl,rfl⟩) hg (by simp[h0]) (by simp[h3]) (by simp[h4])
theorem ok96 (h20:c.ts.length≤20000) {d:Nat} {orP:Rd->Ex×Rd} (h1:RdC c 34 orP d) (hk:Kp c d orP) (lb:List UInt8):RdA c 96 [stV lb] (dealR c orP { zStage with lb:=lb }) stageV d:=by
 intro H j r hj hg
 have hl:c.ts.length<4611686018427387904:=by omega
 refine ok_fn hm Tryz.func96 c96 (by simp) fun hcl => ?_
 have g1:=(take_keep (c:=c) (d:=d) [100,101,97,108] r hg).1
 have g2:=(word_keep _ g1).1
 have g3:=(t2_keep (c:=c) (d:=d) [105,110] g2).1
 have g4:=(num_keep _ g3).1
 have g5:=(t2_keep (c:=c) (d:=d) [46,46] g4).1
 have g6:=(num_keep _ g5).1
 have tail:∀ env:Env,env.get 0=rp j->env.get 3=.ptr (.own H.length 0 0 0 0) 0->env.get 4=.ptr (.own (H.length+1) 0 0 0 0) 0->_ :=
  fun env h0 h3 h4=>deal_t8 (lb:=lb) (nm:=(wordR c (takeR c [100,101,97,108] r).2).1) (lo:=(nmR c (t2 c [105,110] (wordR c (takeR c [100,101,97,108] r).2).2)).1) (hi:=(nmR c (t2 c [46,46] (nmR c (t2 c [105,110] (wordR c (takeR c [100,101,97,108] r).2).2)).2)).1) (p:=(takeR c [100,101,97,108] r).1) (res:=dealR c orP { zStage with lb:=lb } r) h20 hj (closed_rd hcl) h1 hk g6 rfl h0 h3 h4
 rw[show i96=.seq (IC.nth 0 i96) (.seq (IC.nth 1 i96) (.seq (IC.nth 2 i96) (.seq (IC.nth 3 i96) (.seq (IC.nth 4 i96) (.seq (IC.nth 5 i96) (.seq (IC.nth 6 i96) (.seq (IC.nth 7 i96) (IC.tl 8 i96))))))))from rfl]
 generalize IC.tl 8 i96=t8 at tail ⊢
 simp -implicitDefEqProofs[IC.nth,i96,stV]
 refine⟨rfl,call_go (ok40a hl hj r _ [100,101,97,108]) ?_⟩
 simp -implicitDefEqProofs
 refine call_go (ok41a hl hj _ _) ?_
 simp -implicitDefEqProofs
 refine call_go (ok40a hl hj _ _ [105,110]) ?_
 simp -implicitDefEqProofs
 refine call_go (ok42a hl hj _ _) ?_
 simp -implicitDefEqProofs
 refine call_go (ok40a hl hj _ _ [46,46]) ?_
 simp -implicitDefEqProofs
 refine call_go (ok42a hl hj _ _) ?_
 simp -implicitDefEqProofs
 exact tail _ (by simp) (by simp) (by simp)
end
end Go.Proofs.YtmkdpmfhlfhjkaaGreatDoor
namespace Go.Proofs.YtmkdpmfhlfhjkaaGreatDoor
open Go.Ab
@[simp] theorem ActP.c_len (a:ActP):a.c.length=6:=rfl
@[simp] theorem ActP.take6 (a:ActP):List.take 6 a.c=a.c:=rfl
theorem ActP.und (n:Nat) (a:ActP):SV.underL n a.c=true:=by
 simp[ActP.c,exS,SV.underL,SV.under,Ex.undL,rws_under (SetP.und n)]
theorem ActP.ok (a:ActP):cellsOk a.c:=by
 intro s hs
 simp[ActP.c]at hs
 rcases hs with rfl | rfl | rfl | rfl | rfl | rfl<;>rfl
@[simp] theorem ActP.okT (a:ActP):cellsOk a.c=True:=eq_true a.ok
@[simp] theorem acts_fzm (n:Nat) (ks:List Nat) (L:List AO) (d:Nat) (l:List ActP):(rws ActP.c l).map (SV.fz n ks L (d+1))=rws ActP.c l:=map_fz_under _ _ _ _ (rws_under (ActP.und _) l)
theorem flagR_keep {c:Cx} {d:Nat} (s:List UInt8):Kp c d (flagR c s):=by
 intro r h
 unfold flagR
 split
 · exact t2_keep s h
 · exact⟨h,Nat.le_refl _⟩
theorem optR_keep {c:Cx} {d:Nat} {orP:Rd->Ex×Rd} (hk:Kp c d orP) (s:List UInt8):Kp c d (optR c orP s):=by
 intro r h
 unfold optR
 split
 · obtain⟨h1,h2⟩:=t2_keep s h
   obtain⟨h3,h4⟩:=hk _ h1
   exact⟨h3,Nat.le_trans h2 h4⟩
 · exact⟨h,Nat.le_refl _⟩
theorem gotoR_keep {c:Cx} {d:Nat}:Kp c d (gotoR c):=by
 intro r h
 unfold gotoR
 split
 · obtain⟨h1,h2⟩:=t2_keep [103,111,116,111] h
   obtain⟨h3,h4⟩:=word_keep _ h1
   obtain⟨h5,h6⟩:=t2_keep [59] h3
   exact⟨h5,by simp only; omega⟩
 · exact⟨h,Nat.le_refl _⟩
theorem actR_keep {c:Cx} {d:Nat} {orP:Rd->Ex×Rd} (hk:Kp c d orP):Kp c d (actR c orP):=by
 intro r h
 unfold actR
 dsimp only
 obtain⟨h1,i1⟩:=take_keep [97,99,116,105,111,110] r h
 obtain⟨h2,i2⟩:=word_keep _ h1
 obtain⟨h3,i3⟩:=optR_keep hk [119,104,101,110] _ h2
 obtain⟨h4,i4⟩:=flagR_keep [104,105,100,100,101,110] _ h3
 obtain⟨h5,i5⟩:=t2_keep [123] h4
 obtain⟨h6,i6⟩:=setsL_keep hk (c.ts.length+1) [] _ h5
 obtain⟨h7,i7⟩:=t2_keep [125] h6
 obtain⟨h8,i8⟩:=gotoR_keep _ h7
 exact⟨h8,by omega⟩
theorem act_from {c:Cx} {d:Nat} {orP:Rd->Ex×Rd} (hk:Kp c d orP) {r:Rd} (h1:Gd c d (takeR c [97,99,116,105,111,110] r).2):(takeR c [97,99,116,105,111,110] r).2.a≤(actR c orP r).2.a:=by
 unfold actR
 dsimp only
 obtain⟨h2,i2⟩:=word_keep _ h1
 obtain⟨h3,i3⟩:=optR_keep hk [119,104,101,110] _ h2
 obtain⟨h4,i4⟩:=flagR_keep [104,105,100,100,101,110] _ h3
 obtain⟨h5,i5⟩:=t2_keep [123] h4
 obtain⟨h6,i6⟩:=setsL_keep hk (c.ts.length+1) [] _ h5
 obtain⟨h7,i7⟩:=t2_keep [125] h6
 obtain⟨h8,i8⟩:=gotoR_keep _ h7
 omega
def Still {α:Type} (F:Rd->α×Rd):Prop:=∀ r,r.e≠0->(F r).2=r
theorem fail_bad {c:Cx} {r:Rd} {e:Int} (h:r.e≠0):failR c e r=r:=by unfold failR; rw[if_neg h]
theorem peek_bad {c:Cx} {r:Rd} (h:r.e≠0) (s:List UInt8):peekR c s r=false:=by
 rw[←Bool.not_eq_true]; exact fun h2=>h (peek_tok h2).1
theorem free_bad {c:Cx} {r:Rd} (h:r.e≠0):freeR c r=false:=by
 rw[←Bool.not_eq_true]; exact fun h2=>h (tokB_lt h2).1
theorem num_bad {c:Cx} {r:Rd} (h:r.e≠0):isNum c r=false:=by
 rw[←Bool.not_eq_true]; exact fun h2=>h (tokB_lt h2).1
theorem take_still {c:Cx} (s:List UInt8):Still (takeR c s):=fun r h=>by unfold takeR; rw[peek_bad h,fail_bad h]; rfl
theorem t2_still {c:Cx} (s:List UInt8) {r:Rd} (h:r.e≠0):t2 c s r=r:=take_still s r h
theorem word_still {c:Cx}:Still (wordR c):=fun r h=>by unfold wordR; rw[free_bad h,fail_bad h]; rfl
theorem num_still {c:Cx}:Still (nmR c):=fun r h=>by unfold nmR; rw[num_bad h,fail_bad h]; rfl
theorem opAt_bad {c:Cx} {r:Rd} (h:r.e≠0) (ops:List (List UInt8×Int)):opAt c ops r=none:=by
 cases ho:opAt c ops r with
 | none=>rfl
 | some op=>exact absurd (opAt_lt ho).1 h
theorem bin_still {c:Cx} {ops:List (List UInt8×Int)} {f:Rd->Ex×Rd} (hf:Still f):Still (binF c ops f):=by
 intro r h
 unfold binF
 rw[hf r h]
 cases c.ts.length with
 | zero=>rfl
 | succ n=>rw[binL,opAt_bad h]
theorem cmp_still {c:Cx} {f:Rd->Ex×Rd} (hf:Still f):Still (cmpF c f):=by
 intro r h
 unfold cmpF
 rw[hf r h,opAt_bad h]
 exact hf r h
theorem not_still {c:Cx} {cmp ntP:Rd->Ex×Rd} (hf:Still cmp):Still (notG c cmp ntP):=by
 intro r h
 unfold notG
 rw[if_neg (by rw[peek_bad h]; decide)]
 exact hf r h
theorem fac_still {c:Cx} {orP facP:Rd->Ex×Rd}:Still (facG c orP facP):=by
 intro r h
 unfold facG
 rw[if_pos h]
theorem or_still (c:Cx) (d:Nat):Still (orOf c (lv c d)):=by
 have hn:Still (lv c d).nt:=by
  cases d with
  | zero=>exact not_still (cmp_still (bin_still (bin_still fac_still)))
  | succ d=>exact not_still (cmp_still (bin_still (bin_still fac_still)))
 exact bin_still (bin_still hn)
theorem opt_still {c:Cx} {orP:Rd->Ex×Rd} (s:List UInt8):Still (optR c orP s):=fun r h=>by unfold optR; rw[if_neg (by rw[peek_bad h]; decide)]
theorem flag_still {c:Cx} (s:List UInt8):Still (flagR c s):=fun r h=>by unfold flagR; rw[if_neg (by rw[peek_bad h]; decide)]
theorem goto_still {c:Cx}:Still (gotoR c):=fun r h=>by unfold gotoR; rw[if_neg (by rw[peek_bad h]; decide)]
theorem sets_still {c:Cx} {orP:Rd->Ex×Rd} (n:Nat) (l:List SetP):Still (setsL c orP n l):=by
 intro r h
 cases n with
 | zero=>rfl
 | succ n=>rw[setsL,if_neg (fun h2=>h h2.1)]
theorem act_still {c:Cx} {orP:Rd->Ex×Rd}:Still (actR c orP):=by
 intro r h
 unfold actR
 dsimp only
 rw[take_still _ r h,word_still r h,opt_still _ r h,flag_still _ r h,t2_still _ h,sets_still _ _ r h,t2_still _ h,goto_still r h]
def tnO (n:Nat) (lb:List UInt8) (m:Nat) (p:Int):AO:=⟨[i64 2,st (B lb),st (B []),i64 0,i64 0,nl,bl false,nl,.own (n+2) 0 1 5 0,.own (n+3) 0 (m+1) 6 m,nl,i64 p],78,0,true⟩
section
variable {H:List AO} {c:Cx} {r:Rd} {j:Nat} {G:List AO} {lb:List UInt8} {w:Ex} {p:Int}
theorem cv_turn {x:AO} {o:AO} {l:List ActP} {m:Nat} (hm':l.length=m+1) (hcl:closed (H.set j o)) :
 Cv H.length (.agg [i64 2,st (B lb),st (B []),i64 0,i64 0,nl,bl false,nl,.own (H.length+2) 0 1 5 0,.own (H.length+3) 0 (m+1) 6 m,nl,i64 p]) (H.set j o++(tnO H.length lb m p::x::⟨Ex.cL [w],25,0,true⟩::⟨rws ActP.c l,89,m,true⟩::G)) (stageV ⟨2,lb,[],0,0,[],false,[],[w],l,[],p⟩) (H.set j o):=by
 refine Cv.le (cv_fz (n0:=H.length) 4 hcl (by simp) rfl) ?_
 have e:(rws ActP.c l).take ((m+1)*6)=rws ActP.c l:=List.take_of_length_le (by rw[rws_len ActP.c_len,hm']; exact Nat.le_refl _)
 have e2:(Ex.cL [w]).take 5=Ex.cL [w]:=by simp[Ex.cL]
 have e3:(Ex.cL [w]).length=5:=by simp[Ex.cL]
 simp[stageV,StageP.c,rws_len ActP.c_len,hm',e,e2,e3]
 refine le_agg (leL.cons (SV.le.refl _) (leL.cons (SV.le.refl _) (leL.cons (SV.le.refl _) (leL.cons (SV.le.refl _) (leL.cons (SV.le.refl _) (leL.cons le_nil (leL.cons (SV.le.refl _) (leL.cons le_nil (leL.cons (SV.le.refl _) (leL.cons (SV.le.refl _) (leL.cons le_nil (leL.cons (SV.le.refl _) leL.nil))))))))))))
theorem loop97 (h20:c.ts.length≤20000) (hj:j<H.length) {d:Nat} {orP:Rd->Ex×Rd} (h1:RdC c 34 orP d) (hk:Kp c d orP) {N:Nat} {K:XE->Env->List AO->Prop} {res:List ActP×Rd}
 (hexit:∀ env G m,res.1.length=m+1->env.get 0=rp j->env.get 3=.ptr (.own H.length 0 0 0 0) 0->env.get 4=.ptr (.own (H.length+1) 0 0 0 0) 0->K (.exit 0) env (H.set j (rdO c res.2)++(tnO H.length lb m p::zS::⟨Ex.cL [w],25,0,true⟩::⟨rws ActP.c res.1,89,m,true⟩::G))) :
 ∀ (n:Nat) (l:List ActP) (m:Nat) (r:Rd) (G:List AO) (env:Env),c.ts.length≤r.a+n->l.length=m+1->l.length≤r.a+1->actsL c orP 0 n l r=res->Gd c d r->env.get 0=rp j->env.get 3=.ptr (.own H.length 0 0 0 0) 0->env.get 4=.ptr (.own (H.length+1) 0 0 0 0) 0 →
  LI Tryz.prog N drawB l97_0 env (H.set j (rdO c r)++(tnO H.length lb m p::zS::⟨Ex.cL [w],25,0,true⟩::⟨rws ActP.c l,89,m,true⟩::G)) K:=by
 have hl:c.ts.length<4611686018427387904:=by omega
 have out_ok:∀ (l:List ActP) (m:Nat) (r:Rd) (G:List AO) (env:Env),peekR c [97,99,116,105,111,110] r=false->(l,r)=res->l.length=m+1->env.get 0=rp j->env.get 3=.ptr (.own H.length 0 0 0 0) 0->env.get 4=.ptr (.own (H.length+1) 0 0 0 0) 0 →
  LI Tryz.prog N drawB l97_0 env (H.set j (rdO c r)++(tnO H.length lb m p::zS::⟨Ex.cL [w],25,0,true⟩::⟨rws ActP.c l,89,m,true⟩::G)) K:=by
  intro l m r G env hp hr hlm h0 h3 h4
  subst hr
  refine li_go hm l97_0.eq_1 ?_
  simp -implicitDefEqProofs[h0,h3,h4]
  refine call_go (ok43a hj r _ [97,99,116,105,111,110]) ?_
  simp -implicitDefEqProofs[h0,h3,h4,hp]
  exact hexit _ G m hlm (by simp[h0]) (by simp[h3]) (by simp[h4])
 intro n
 induction n with
 | zero =>
  intro l m r G env hn hlm hla hr hg h0 h3 h4
  exact out_ok l m r G env (by rw[←Bool.not_eq_true]; intro h; have:=peek_lt h; omega) hr hlm h0 h3 h4
 | succ n ih =>
  intro l m r G env hn hlm hla hr hg h0 h3 h4
  rw[actsL]at hr
  by_cases hp:peekR c [97,99,116,105,111,110] r=true
  · rw[if_pos hp]at hr
    dsimp only at hr
    have hlt:=peek_lt hp
    have hla2:=hg.a
    have fin:∀ (r2:Rd) (env:Env),Gd c d r2->r2.a=r.a->(r2.e=0->r2=r)->actsL c orP 0 n (l++[(actR c orP r2).1]) (actR c orP r2).2=res->env.get 0=rp j->env.get 3=.ptr (.own H.length 0 0 0 0) 0->env.get 4=.ptr (.own (H.length+1) 0 0 0 0) 0->∀ G,
     LI Tryz.prog N drawB l97_0 env (H.set j (rdO c (actR c orP r2).2)++(tnO H.length lb (m+1) p::zS::⟨Ex.cL [w],25,0,true⟩::⟨rws ActP.c (l++[(actR c orP r2).1]),89,m+1,true⟩::G)) K:=by
     intro r2 env hg2 ha hb hr2 g0 g3 g4 G
     obtain⟨k1,k2⟩:=actR_keep hk r2 hg2
     by_cases he:r2.e=0
     · have:=hb he
       subst this
       have hstr:r2.a+1≤(actR c orP r2).2.a:=by
        have ht:(takeR c [97,99,116,105,111,110] r2).2=nextR r2:=by simp[takeR,hp]
        have:=act_from hk (r:=r2) (by rw[ht]; exact hg2.next hlt)
        rw[ht]at this
        exact this
       exact ih _ (m+1) _ G env (by omega) (by simp[hlm]) (by simp; omega) hr2 k1 g0 g3 g4
     · have hbad:(actR c orP r2).2.e≠0:=by rw[act_still r2 he]; exact he
       refine out_ok _ (m+1) _ G env (peek_bad hbad _) ?_ (by simp[hlm]) g0 g3 g4
       rw[←hr2]
       cases n with
       | zero=>rfl
       | succ n=>rw[actsL,if_neg (by rw[peek_bad hbad]; decide)]
    refine li_go hm l97_0.eq_1 ?_
    simp -implicitDefEqProofs[h0,h3,h4]
    refine call_go (ok43a hj r _ [97,99,116,105,111,110]) ?_
    by_cases h10:l.length=10
    · have hm9:((m:Int)+1)=10:=by omega
      rw[if_pos h10]at hr
      obtain⟨q1,q2,q3⟩:=fail_keep (e:=12) (by decide) hg
      simp -implicitDefEqProofs[h0,h3,h4,hp,tnO,hm9]
      refine call_go (ok35a hj r _ 12) ?_
      simp -implicitDefEqProofs[h0,h3,h4]
      refine call_go (RdA.app (ok150 h20 h1 hk) hj q1 _) ?_
      simp -implicitDefEqProofs[h0,h3,h4,actV,rws_len ActP.c_len,hlm]
      refine⟨by omega,by omega,?_⟩
      refine LI.cong ?_ (fin (failR c 12 r) _ q1 q2 (fun h=>absurd h q3) hr ?_ ?_ ?_ (G++[⟨(actR c orP (failR c 12 r)).1.c,89,0,true⟩]))
      · simp[tnO,rws_app,rws]
      all_goals simp[h0,h3,h4]
    · have hm9:¬ ((m:Int)+1)=10:=by omega
      rw[if_neg h10]at hr
      simp -implicitDefEqProofs[h0,h3,h4,hp,tnO,hm9]
      refine call_go (RdA.app (ok150 h20 h1 hk) hj hg _) ?_
      simp -implicitDefEqProofs[h0,h3,h4,actV,rws_len ActP.c_len,hlm]
      refine⟨by omega,by omega,?_⟩
      refine LI.cong ?_ (fin (r) _ hg rfl (fun _=>rfl) hr ?_ ?_ ?_ (G++[⟨(actR c orP (r)).1.c,89,0,true⟩]))
      · simp[tnO,rws_app,rws]
      all_goals simp[h0,h3,h4]
  · rw[if_neg hp]at hr
    rw[Bool.not_eq_true]at hp
    exact out_ok l m r G env hp hr hlm h0 h3 h4
theorem actsL_keep {d:Nat} {orP:Rd->Ex×Rd} (hk:Kp c d orP):∀ (n:Nat) (l:List ActP) (r:Rd),Gd c d r->Gd c d (actsL c orP 0 n l r).2∧r.a≤(actsL c orP 0 n l r).2.a
 | 0,l,r,h=>⟨h,Nat.le_refl _⟩
 | n+1,l,r,h=>by
  rw[actsL]
  split
  · dsimp only
    obtain⟨h3,h4,_⟩:=full_keep (P:=l.length=10) h
    generalize (if l.length=10 then failR c 12 r else r)=r2 at *
    obtain⟨h6,h7⟩:=actR_keep hk r2 h3
    obtain⟨h8,h9⟩:=actsL_keep hk n (l++[(actR c orP r2).1]) _ h6
    exact⟨h8,by omega⟩
  · exact⟨h,Nat.le_refl _⟩
theorem ok97 (h20:c.ts.length≤20000) {d:Nat} {orP:Rd->Ex×Rd} (h1:RdC c 34 orP d) (hk:Kp c d orP) (lb:List UInt8):RdA c 97 [stV lb] (turnR c orP { zStage with lb:=lb }) stageV d:=by
 intro H j r hj hg
 have hl:c.ts.length<4611686018427387904:=by omega
 refine ok_fn hm Tryz.func97 c97 (by simp) fun hcl => ?_
 have g1:=(take_keep (c:=c) (d:=d) [116,117,114,110] r hg).1
 generalize hw:turnR c orP { zStage with lb:=lb } r=res
 unfold turnR at hw
 dsimp only at hw
 simp -implicitDefEqProofs[i97,r97,stV]
 refine⟨rfl,call_go (ok40a hl hj r _ [116,117,114,110]) ?_⟩
 generalize takeR c [116,117,114,110] r=t at g1 hw ⊢
 have g2:=(hk _ g1).1
 simp -implicitDefEqProofs
 refine call_go (RdC.app h1 hj g1 _) ?_
 generalize orP t.2=w at g2 hw ⊢
 simp -implicitDefEqProofs[Ex.v]
 refine call_go (ok40a hl hj w.2 _ [123]) ?_
 have g3:=(t2_keep (c:=c) (d:=d) [123] g2).1
 rw[show(takeR c [123] w.2).2=t2 c [123] w.2 from rfl]
 generalize t2 c [123] w.2=r3 at g3 hw ⊢
 simp -implicitDefEqProofs
 refine call_go (RdA.app (ok150 h20 h1 hk) hj g3 _) ?_
 have g4:=(actR_keep hk _ g3).1
 generalize actR c orP r3=a at g4 hw ⊢
 simp -implicitDefEqProofs[actV]
 generalize hl2:actsL c orP 0 c.ts.length [a.1] a.2=l at hw
 refine LI.cong (H':=H.set j (rdO c a.2)++(tnO H.length lb 0 t.1::zS::⟨Ex.cL [w.1],25,0,true⟩::⟨rws ActP.c [a.1],89,0,true⟩::[])) (by simp[tnO,zS,Ex.cL,rws]) ?_
 refine loop97 h20 hj h1 hk (res:=l) (fun env G m hlm q0 q3 q4 => ?_) c.ts.length [a.1] 0 a.2 [] _ (by omega) rfl (by simp) hl2 g4 ?_ ?_ ?_
 · simp -implicitDefEqProofs[q0,q3,q4]
   refine call_go (ok40a hl hj l.2 _ [125]) ?_
   rw[show(takeR c [125] l.2).2=t2 c [125] l.2 from rfl]
   subst hw
   simp -implicitDefEqProofs[q0,q3,q4,tnO,zS]
   exact⟨rfl,cv_turn hlm (closed_rd hcl)⟩
 all_goals simp
end
end Go.Proofs.YtmkdpmfhlfhjkaaGreatDoor
