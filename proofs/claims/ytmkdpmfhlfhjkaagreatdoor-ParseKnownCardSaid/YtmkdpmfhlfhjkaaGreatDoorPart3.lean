/-
  Steps of the proof: contracts of functions and plain facts that the statement rests on.
-/
import Derived.Test.YtmkdpmfhlfhjkaaGreatDoorPart2
import Derived.Test.YtmkdpmfhlfhjkaaGreatDoorPWT
import Derived.Test.YtmkdpmfhlfhjkaaGreatDoorCore4
set_option linter.all false
namespace Go.Proofs.YtmkdpmfhlfhjkaaGreatDoor
open Go.Ab
structure VarP where
 nm:List UInt8
 n:Int
 p:Int
structure SetP where
 nm:List UInt8
 e:Ex
 p:Int
structure ActP where
 nm:List UInt8
 wh:List Ex
 hid:Bool
 sets:List SetP
 go:List UInt8
 p:Int
structure StageP where
 k:Int
 lb:List UInt8
 nm:List UInt8
 lo:Int
 hi:Int
 wt:List Ex
 all:Bool
 seen:List Int
 who:List Ex
 acts:List ActP
 pays:List Ex
 p:Int
structure RulesP where
 nm:List UInt8
 pl:Int
 vars:List VarP
 stages:List StageP
def exS (l:List Ex):SV:=.slc (Ex.cL l) l.length
def VarP.c (v:VarP):List SV:=[st (B v.nm),i64 v.n,i64 v.p]
def SetP.c (s:SetP):List SV:=st (B s.nm)::(s.e.c++[i64 s.p])
def ActP.c (a:ActP):List SV:=[st (B a.nm),exS a.wh,bl a.hid,.slc (rws SetP.c a.sets) a.sets.length,st (B a.go),i64 a.p]
def StageP.c (x:StageP):List SV:=[i64 x.k,st (B x.lb),st (B x.nm),i64 x.lo,i64 x.hi,exS x.wt,bl x.all,.slc (ints x.seen) x.seen.length,exS x.who,.slc (rws ActP.c x.acts) x.acts.length,exS x.pays,i64 x.p]
def RulesP.c (r:RulesP):List SV:=[st (B r.nm),i64 r.pl,.slc (rws VarP.c r.vars) r.vars.length,.slc (rws StageP.c r.stages) r.stages.length]
def zStage:StageP:=⟨0,[],[],0,0,[],false,[],[],[],[],0⟩
def zRules:RulesP:=⟨[],0,[],[]⟩
section
variable (c:Cx) (orP:Rd->Ex×Rd)
def t2 (s:List UInt8) (r:Rd):Rd:=(takeR c s r).2
def optR (s:List UInt8) (r:Rd):List Ex×Rd:=if peekR c s r=true then([(orP (t2 c s r)).1],(orP (t2 c s r)).2)else([],r)
def flagR (s:List UInt8) (r:Rd):Bool×Rd:=if peekR c s r=true then(true,t2 c s r)else(false,r)
def setR (l:List SetP) (r:Rd):SetP×Rd :=
 let r1:=if l.length=32∧freeR c r=true then failR c 12 r else r
 let w:=wordR c r1
 let x:=orP (t2 c [61] w.2)
 (⟨w.1,x.1,hereR c r1⟩,t2 c [59] x.2)
def setsL:Nat->List SetP->Rd->List SetP×Rd
 | 0,l,r=>(l,r)
 | n+1,l,r=>if r.e=0∧peekR c [125] r=false then setsL n (l++[(setR c orP l r).1]) (setR c orP l r).2 else(l,r)
def gotoR (r:Rd):List UInt8×Rd :=
 if peekR c [103,111,116,111] r=true then((wordR c (t2 c [103,111,116,111] r)).1,t2 c [59] (wordR c (t2 c [103,111,116,111] r)).2)else([],r)
def actR (r:Rd):ActP×Rd :=
 let t:=takeR c [97,99,116,105,111,110] r
 let nm:=wordR c t.2
 let w:=optR c orP [119,104,101,110] nm.2
 let h:=flagR c [104,105,100,100,101,110] w.2
 let s:=setsL c orP (c.ts.length+1) [] (t2 c [123] h.2)
 let g:=gotoR c (t2 c [125] s.2)
 (⟨nm.1,w.1,h.1,s.1,g.1,t.1⟩,g.2)
def exprsL:Nat->List Ex->Rd->List Ex×Rd
 | 0,l,r=>(l,r)
 | n+1,l,r=>if peekR c [44] r=true then
  let r1:=t2 c [44] r
  let r2:=if l.length=32∧begR c r1=true then failR c 12 r1 else r1
  exprsL n (l++[(orP r2).1]) (orP r2).2
  else(l,r)
def exprsR (r:Rd):List Ex×Rd:=exprsL c orP c.ts.length [(orP r).1] (orP r).2
def seenL:Nat->List Int->Rd->List Int×Rd
 | 0,l,r=>(l,r)
 | n+1,l,r=>if peekR c [44] r=true then
  let r1:=t2 c [44] r
  let r2:=if l.length=32∧r1.a<c.ts.length∧tokB c { r1 with e:=0 } (fun t=>decide (t.k=2))=true then failR c 12 r1 else r1
  seenL n (l++[(nmR c r2).1]) (nmR c r2).2
  else(l,r)
def seenR (r:Rd):(Bool×List Int)×Rd :=
 if peekR c [115,101,101,110] r=true then
  let r1:=t2 c [98,121] (t2 c [115,101,101,110] r)
  if peekR c [97,108,108] r1=true then((true,[]),t2 c [97,108,108] r1)
  else
   let s:=seenL c c.ts.length [(nmR c r1).1] (nmR c r1).2
   ((false,s.1),s.2)
 else((false,[]),r)
def dealR (x:StageP) (r:Rd):StageP×Rd :=
 let t:=takeR c [100,101,97,108] r
 let nm:=wordR c t.2
 let lo:=nmR c (t2 c [105,110] nm.2)
 let hi:=nmR c (t2 c [46,46] lo.2)
 let w:=optR c orP [119,101,105,103,104,116] hi.2
 let s:=seenR c w.2
 ({ x with k:=1,p:=t.1,nm:=nm.1,lo:=lo.1,hi:=hi.1,wt:=w.1,all:=s.1.1,seen:=s.1.2 },t2 c [59] s.2)
def actsL (fuel:Nat):Nat->List ActP->Rd->List ActP×Rd
 | 0,l,r=>(l,r)
 | n+1,l,r=>if peekR c [97,99,116,105,111,110] r=true then
  let r1:=if l.length=10 then failR c 12 r else r
  actsL fuel n (l++[(actR c orP r1).1]) (actR c orP r1).2
  else(l,r)
def turnR (x:StageP) (r:Rd):StageP×Rd :=
 let t:=takeR c [116,117,114,110] r
 let w:=orP t.2
 let a:=actR c orP (t2 c [123] w.2)
 let l:=actsL c orP 0 c.ts.length [a.1] a.2
 ({ x with k:=2,p:=t.1,who:=[w.1],acts:=l.1 },t2 c [125] l.2)
def labelR (r:Rd):List UInt8×Rd:=if freeR c r=true then((wordR c r).1,t2 c [58] (wordR c r).2)else([],r)
def stageR (r:Rd):StageP×Rd :=
 let l:=labelR c r
 let x:={ zStage with lb:=l.1 }
 if peekR c [100,101,97,108] l.2=true then dealR c orP x l.2
 else if peekR c [116,117,114,110] l.2=true then turnR c orP x l.2
 else
  let t:=takeR c [101,110,100] l.2
  let e:=exprsR c orP (t2 c [112,97,121] (t2 c [123] t.2))
  ({ x with k:=3,p:=t.1,pays:=e.1 },t2 c [125] (t2 c [59] e.2))
def varR (l:List VarP) (r:Rd):VarP×Rd :=
 let r0:=t2 c [118,97,114] r
 let r1:=if l.length=40∧freeR c r0=true then failR c 12 r0 else r0
 let w:=wordR c r1
 let r2:=t2 c [61] w.2
 let s:=flagR c [45] r2
 let n:=nmR c s.2
 (⟨w.1,IntKind.i64.wrap ((if s.1 then -1 else 1)*n.1),hereR c r1⟩,t2 c [59] n.2)
def varsL:Nat->List VarP->Rd->List VarP×Rd
 | 0,l,r=>(l,r)
 | n+1,l,r=>if peekR c [118,97,114] r=true then varsL n (l++[(varR c l r).1]) (varR c l r).2 else(l,r)
def fullR (l:List StageP) (r:Rd):Rd :=
 if l.length=100∧(freeR c r||peekR c [100,101,97,108] r||peekR c [116,117,114,110] r||peekR c [101,110,100] r)=true then failR c 12 r else r
def stagesL:Nat->List StageP->Rd->List StageP×Rd
 | 0,l,r=>(l,r)
 | n+1,l,r=>if r.e=0∧(l=[]∨r.a<c.ts.length)then
  stagesL n (l++[(stageR c orP (fullR c l r)).1]) (stageR c orP (fullR c l r)).2
  else(l,r)
def parseT:RulesP×Int×Int :=
 let w:=wordR c (t2 c [103,97,109,101] ⟨0,0,0,0⟩)
 let n:=nmR c (t2 c [112,108,97,121,101,114,115] (t2 c [59] w.2))
 let v:=varsL c c.ts.length [] (t2 c [59] n.2)
 let s:=stagesL c orP (c.ts.length+1) [] v.2
 if s.2.e≠0 then(zRules,s.2.e,s.2.p)else(⟨w.1,n.1,v.1,s.1⟩,0,0)
end
def parseR (l:List UInt8):RulesP×Int×Int :=
 if(scanG l).2.1≠0 then(zRules,(scanG l).2)else parseT ⟨(scanG l).1,l.length⟩ (orT ⟨(scanG l).1,l.length⟩)
end Go.Proofs.YtmkdpmfhlfhjkaaGreatDoor
namespace Go.Proofs.YtmkdpmfhlfhjkaaGreatDoor
open Go.Ab
mutual
def Ex.sm:Ex->Prop
 | .mk _ _ _ l _=>l.length≤3∧Ex.smL l
def Ex.smL:List Ex->Prop
 | []=>True
 | e::r=>e.sm∧Ex.smL r
end
theorem zE_sm:zE.sm:=by simp[zE,Ex.sm,Ex.smL]
theorem exL_get {l:List Ex} {i:Nat} (h:i<l.length):((Ex.cL l).drop (i*5)).take 5=l[i].c:=by
 rw[exL_rws,rws_at Ex.c_len h,List.take_left' (by simp)]
section
variable {H:List AO}
theorem loop37 {l:List Ex} (hl:l.length≤3) (hIH:∀ e∈l,∀ H,Ok Tryz.prog 13 [e.v,e.v] H (.ret (bl true)) H) {N:Nat} {K:XE->Env->List AO->Prop}
 (hexit:∀ env G,K (.exit 0) env (H++G)) :
 ∀ (k i:Nat) (G:List AO) (env:Env),i+k=l.length->env.get 0=exS l->env.get 1=exS l->env.get 5=i64 i →
  LI Tryz.prog N drawB l37_0 env (H++G) K:=by
 intro k
 induction k with
 | zero =>
  intro i G env hi h0 h1 h5
  refine li_go hm l37_0.eq_1 ?_
  have e:i=l.length:=by omega
  subst e
  simp -implicitDefEqProofs[h0,h1,h5,exS]
  exact hexit _ _
 | succ k ih =>
  intro i G env hi h0 h1 h5
  refine li_go hm l37_0.eq_1 ?_
  have hlt:i<l.length:=by omega
  have hlt':(i:Int)<l.length:=by omega
  have hg:=exL_get hlt
  have hlen:=exL_len l
  have h9:=hIH l[i] (List.getElem_mem hlt)
  generalize l[i]=e at hg h9
  simp -implicitDefEqProofs[h0,h1,h5,exS,hlt,hlt',hg,hlen]
  refine⟨by omega,callq_go (r:=bl true) (fun _=>h9 _) ?_⟩
  simp -implicitDefEqProofs[h0,h1,h5,exS,hlt,hlt',hg,hlen]
  refine ih (i+1) G _ (by omega) ?_ ?_ ?_
  all_goals simp[h0,h1,h5,exS,wrap_suc (show i<9223372036854775807 by omega)]
mutual
theorem ok13:∀ (e:Ex),e.sm->∀ (H:List AO),Ok Tryz.prog 13 [e.v,e.v] H (.ret (bl true)) H
 | .mk op n nm l p,he,H=>by
  unfold Ex.sm at he
  have hIH:=ok13L l he.2
  have h37:∀ H,Ok Tryz.prog 37 [exS l,exS l] H (.ret (bl true)) H:=fun H=>by
   refine ok_fn hm Tryz.func37 c37 (by simp) fun hcl => ?_
   simp -implicitDefEqProofs[i37,r37,exS]
   refine LI.cong (H':=H++[]) (by simp) ?_
   refine loop37 he.1 hIH (fun env G => ?_) l.length 0 [] _ (by omega) ?_ ?_ ?_
   · simp -implicitDefEqProofs
     refine cv_fz 2 hcl rfl ?_
     simp
   all_goals simp[exS]
  refine ok_fn hm Tryz.func13 c13 (by simp) fun hcl => ?_
  simp -implicitDefEqProofs[i13,r13,Ex.v,Ex.c]
  refine callq_st (r:=bl true) (fun _=>h37 _) ?_
  simp -implicitDefEqProofs
  refine cv_fz 2 hcl rfl ?_
  simp
theorem ok13L:∀ (l:List Ex),Ex.smL l->∀ e∈l,∀ (H:List AO),Ok Tryz.prog 13 [e.v,e.v] H (.ret (bl true)) H
 | [],_,_,h=>by cases h
 | e::r,hl,x,hx=>by
  unfold Ex.smL at hl
  by_cases hh:x=e
  · rw[hh]; exact ok13 e hl.1
  · exact ok13L r hl.2 x (by simpa[hh]using hx)
end
end
end Go.Proofs.YtmkdpmfhlfhjkaaGreatDoor
namespace Go.Proofs.YtmkdpmfhlfhjkaaGreatDoor
open Go.Ab
def chkT (k:Int) (tx:List UInt8) (n:Int):Int :=
 if tx=[]∨k<1∨3<k∨cAt tx 0=1∨tx.getD 0 0=35 then 3 else
  match stepT tx 0 with
  | .tok t q=>if q≠tx.length∨t.k≠k then 3 else if t.n≠n then 2 else 0
  | _=>3
theorem stepT_skip {l:List UInt8} {p q:Nat} (c1:cAt l p≠1) (c5:l.getD p 0≠35):stepT l p≠.skip q:=by
 intro hst
 unfold stepT at hst
 rw[if_neg c1]at hst
 have key:∀ k q',mkStp l p k q'≠.skip q:=by intro k q' h; unfold mkStp at h; split at h<;>cases h
 split at hst
 · exact key _ _ hst
 · split at hst
   · exact key _ _ hst
   · split at hst
     · exact key _ _ hst
     · first
       | exact key _ _ hst
       | (rw[if_neg c5]at hst; exact key _ _ hst)
end Go.Proofs.YtmkdpmfhlfhjkaaGreatDoor
namespace Go.Proofs.YtmkdpmfhlfhjkaaGreatDoor
open Go.Ab
def zC:List SV:=[i64 0,st (B []),i64 0,i64 0]
def tC (k:Int) (tx:List UInt8) (n:Int) (a:SV):List SV:=[i64 k,st (B tx),i64 n,a]
def sH25 (A:List AO) (tc fc:List SV) (tx:List UInt8) (r:Bool) (lo:AO) (L:List AO):List AO :=
 A++⟨tc,52,0,true⟩::⟨fc,52,0,true⟩::⟨[st (B tx)],9,0,true⟩::⟨[bl r],4,0,true⟩::lo::L
def e25 (A:List AO) (c:SV):Env:=[(1,.ptr (.own (A.length+1) 0 0 0 0) 0),(2,.ptr (.own A.length 0 0 0 0) 0),(3,.ptr (.own (A.length+2) 0 0 0 0) 0),(4,.ptr (.own (A.length+3) 0 0 0 0) 0),(27,c)]
section
variable {A:List AO} {tx:List UInt8}
theorem round170 {c a:SV} {k n:Int} {t:Tok} (L:List AO) :
 YlP Tryz.prog (A.length+4) [t.v,.val .nilIface] (sH25 A (tC k tx n a) zC tx false (lpo Tryz.prog 46 drawB 1 [28,29] ya170_0 yb170_0 ((e25 A c).vals 46) .ready) L) fun o H' =>
  o=.ret (bl false)∧∃ cs L,H'=sH25 A (tC k tx n a) t.c tx (decide (t.tx=tx)&&decide (t.k=k)) (lpo Tryz.prog 46 drawB 1 [28,29] ya170_0 yb170_0 cs .ret) L:=by
 refine yl_go (N:=46) (env:=e25 A c) hm ya170_0.eq_1 yb170_0.eq_1 (by simp[sH25]; rfl) (by simp[e25]) (by decide) rfl fun hcl => ?_
 generalize hlo:lpo Tryz.prog 46 drawB 1 [28,29] ya170_0 yb170_0 ((e25 A c).vals 46) .ready=lo
 simp -implicitDefEqProofs[e25,sH25,tC,zC,Tok.v,Tok.c]
 refine⟨_,hlo.symm,_,by simp; rfl,.ret,false,_,⟨rfl,rfl⟩,⟨rfl,(e25 A c).vals 46,L++[⟨t.c,52,0,true⟩],rfl⟩,cv_idq ?_⟩
 simp[set_app,e25,Tok.c]
theorem round25e {c a:SV} {k n e:Int} {p:Nat} (L:List AO) :
 YlP Tryz.prog (A.length+4) [zT,.ifc 115 (fltV e p)] (sH25 A (tC k tx n a) zC tx false (lpo Tryz.prog 46 drawB 1 [28,29] ya170_0 yb170_0 ((e25 A c).vals 46) .ready) L) fun o H' =>
  o=.ret (bl false)∧∃ cs L,H'=sH25 A (tC k tx n a) zC tx false (lpo Tryz.prog 46 drawB 1 [28,29] ya170_0 yb170_0 cs .ret) L:=by
 refine yl_go (N:=46) (env:=e25 A c) hm ya170_0.eq_1 yb170_0.eq_1 (by simp[sH25]; rfl) (by simp[e25]) (by decide) rfl fun hcl => ?_
 generalize hlo:lpo Tryz.prog 46 drawB 1 [28,29] ya170_0 yb170_0 ((e25 A c).vals 46) .ready=lo
 simp -implicitDefEqProofs[e25,sH25,tC,zC,zT]
 refine⟨_,hlo.symm,_,by simp; rfl,.ret,false,_,⟨rfl,rfl⟩,⟨rfl,(e25 A c).vals 46,L++[⟨zC,52,0,true⟩],rfl⟩,cv_idq ?_⟩
 simp[set_app,e25,zC]
def sglT (k:Int) (tx:List UInt8):Bool×List SV :=
 if tx=[]∨40<tx.length∨cAt tx 0=1∨tx.getD 0 0=35 then(false,zC)else
  match stepT tx 0 with
  | .tok t _=>(decide (t.tx=tx)&&decide (t.k=k),t.c)
  | _=>(false,zC)
end
end Go.Proofs.YtmkdpmfhlfhjkaaGreatDoor
namespace Go.Proofs.YtmkdpmfhlfhjkaaGreatDoor
open Go.Ab
abbrev o25 (c:List SV):AO:=⟨c,52,0,true⟩
theorem closed_last {A:List AO} {x o o':AO} (h:closed (A++[x,o])) (hu:∀ s∈o'.cells,s.under (A.length+2)=true):closed (A++[x,o']):=by
 intro i p hp s hs
 have e:(A++[x,o']).length=(A++[x,o]).length:=by simp
 rw[e]
 by_cases hi:i=A.length+1
 · subst hi
   have:p=o':=by simpa using hp.symm
   subst this
   simpa using hu s hs
 · have:(A++[x,o])[i]? = some p:=by
    rcases Nat.lt_or_ge i (A.length+1)with h1 | h1
    · rw[show A++[x,o']=(A++[x])++[o']by simp,List.getElem?_append_left (by simp; omega)]at hp
      rw[show A++[x,o]=(A++[x])++[o]by simp,List.getElem?_append_left (by simp; omega)]
      exact hp
    · have:=getElem?_lt hp
      simp at this; omega
   exact h i p this s hs
section
variable {A:List AO} {tx:List UInt8}
theorem ok170 (hl:tx.length<4611686018427387904) (k n:Int) (a:SV) :
 Ok Tryz.prog 170 [st (B tx),.ptr (.own (A.length+1) 0 0 0 0) 0,.ptr (.own A.length 0 0 0 0) 0] (A++[o25 (tC k tx n a),o25 zC]) (.ret (bl (sglT k tx).1)) (A++[o25 (tC k tx n a),o25 (sglT k tx).2]):=by
 refine ok_fn hm Tryz.func170 c170 (by simp) fun hcl => ?_
 have fin:∀ {b:Bool} {fc:List SV} {L:List AO},sglT k tx=(b,fc)->(∀ s∈fc,s.under (A.length+2)=true) →
  Cv (A++[o25 (tC k tx n a),o25 zC]).length (bl b) (A++o25 (tC k tx n a)::o25 fc::L) (bl (sglT k tx).1) (A++[o25 (tC k tx n a),o25 (sglT k tx).2]):=by
  intro b fc L h hu
  rw[h]
  have:=cv_fz (H:=A++[o25 (tC k tx n a),o25 fc]) (L:=L) (n0:=(A++[o25 (tC k tx n a),o25 zC]).length) (r1:=bl b) (r:=bl b) 4 (closed_last hcl hu) (by simp) (by simp)
  simpa using this
 have hz:∀ s∈zC,s.under (A.length+2)=true:=by intro s hs; simp[zC]at hs; rcases hs with rfl | rfl | rfl | rfl<;>rfl
 by_cases h1:tx=[]
 · have hr:sglT k tx=(false,zC):=by unfold sglT; rw[if_pos (.inl h1)]
   have f:=fun L=>fin (L:=L) hr hz
   generalize sglT k tx=g at f hr
   subst h1
   simp -implicitDefEqProofs[i170,r170]
   refine callq_off _ _ _ _ ?_
   simp -implicitDefEqProofs
   exact(by simpa using f _)
 have hpos:0<tx.length:=List.length_pos_iff.2 h1
 have hg:tx.getD 0 0=tx[0]:=by simp[hpos]
 have f1:((tx[0].toNat:Int)=35)↔tx[0]=35:=u8i tx[0] 35
 by_cases h2:40<tx.length
 · have hr:sglT k tx=(false,zC):=by unfold sglT; rw[if_pos (.inr (.inl h2))]
   have f:=fun L=>fin (L:=L) hr hz
   have h2':(40:Int)<tx.length:=by omega
   simp -implicitDefEqProofs[i170,r170,h1,h2']
   refine callq_off _ _ _ _ ?_
   simp -implicitDefEqProofs
   exact(by simpa using f _)
 have h2':¬ (40:Int)<tx.length:=by omega
 simp -implicitDefEqProofs[i170,r170,h1,h2',hpos]
 refine callq_st (r:=i64 (cls tx[0].toNat)) (fun _=>by rw[st_u8]; exact ok124 _) ?_
 have hca:cls tx[0].toNat=cAt tx 0:=(cAt_get hpos).symm
 by_cases h4:cAt tx 0=1
 · have hr:sglT k tx=(false,zC):=by unfold sglT; rw[if_pos (.inr (.inr (.inl h4)))]
   have f:=fun L=>fin (L:=L) hr hz
   simp -implicitDefEqProofs[hca,h4]
   exact(by simpa using f _)
 by_cases h5:tx[0]=35
 · have hr:sglT k tx=(false,zC):=by unfold sglT; rw[if_pos (.inr (.inr (.inr (by rw[hg]; exact h5))))]
   have f:=fun L=>fin (L:=L) hr hz
   simp -implicitDefEqProofs[hca,h4,hpos,h5]
   exact(by simpa using f _)
 have h5':¬ ((tx[0].toNat:Int)=35):=fun h=>h5 (f1.1 h)
 have hr:sglT k tx=match stepT tx 0 with
  | .tok t _=>(decide (t.tx=tx)&&decide (t.k=k),t.c)
  | _=>(false,zC):=by unfold sglT; rw[if_neg (by rw[hg]; rintro(h | h | h | h)<;>first | contradiction | omega)]<;>cases stepT tx 0<;>rfl
 simp -implicitDefEqProofs[hca,h4,hpos,h5']
 refine call_go ok70 ?_
 simp -implicitDefEqProofs[genV]
 obtain⟨m,hm1⟩:∃ m,tx.length=m+1:=⟨tx.length-1,by omega⟩
 have hes:evsT tx=match stepT tx 0 with
  | .skip q=>evs tx m q
  | .tok t q=>.tok t::evs tx m q
  | .flt e=>[.flt e 0]:=by unfold evsT; rw[hm1]; simp only[evs]; rw[if_pos (by omega)]<;>cases stepT tx 0<;>rfl
 refine rg_go (Pt:=fun o H'=>(∃ v,o=.ret v)∧∃ cs L,H'=sH25 A (tC k tx n a) (sglT k tx).2 tx (sglT k tx).1 (lpo Tryz.prog 46 drawB 1 [28,29] ya170_0 yb170_0 cs .ret) L) ?_ ?_
 · refine OkP.cast (args':=[.yl (A.length+4),.ptr (.slc [st (B tx)] 0) 0]) (H':=sH25 A (tC k tx n a) zC tx false (lpo Tryz.prog 46 drawB 1 [28,29] ya170_0 yb170_0 ((e25 A (.fn (.func 123) [] [.ptr (.slc [st (B tx)] 0) 0])).vals 46) .ready) []) (by simp) (by simp[sH25,e25]) ?_
   refine(ok123 (J:=fun i H'=>i=0∧∃ L,H'=sH25 A (tC k tx n a) zC tx false (lpo Tryz.prog 46 drawB 1 [28,29] ya170_0 yb170_0 ((e25 A (.fn (.func 123) [] [.ptr (.slc [st (B tx)] 0) 0])).vals 46) .ready) L)
    (Q:=fun H'=>∃ cs L,H'=sH25 A (tC k tx n a) (sglT k tx).2 tx (sglT k tx).1 (lpo Tryz.prog 46 drawB 1 [28,29] ya170_0 yb170_0 cs .ret) L) (y:=A.length+4) (es:=evsT tx) rfl hl ?_ ?_ ?_ ⟨rfl,[],rfl⟩).mono ?_
   · rintro i H' L' ⟨h0,L,rfl⟩
     exact⟨h0,L++L',by simp[sH25]⟩
   · rintro i t H' hi ⟨rfl,L,rfl⟩
     have hst:∃ q,stepT tx 0=.tok t q:=by
      rw[hes]at hi
      cases hs:stepT tx 0 with
      | skip q=>exact(stepT_skip h4 (by rw[hg]; exact h5) hs).elim
      | tok t' q=>rw[hs]at hi; simp at hi; exact⟨q,by rw[hi]⟩
      | flt e=>rw[hs]at hi; simp at hi
     obtain⟨q,hst⟩:=hst
     rw[hst]at hr
     refine(round170 (c:=.fn (.func 123) [] [.ptr (.slc [st (B tx)] 0) 0]) (a:=a) (k:=k) (n:=n) (t:=t) L).mono ?_
     rintro o H' ⟨rfl,cs,L',rfl⟩
     exact .inr ⟨rfl,cs,L',by rw[hr]⟩
   · rintro i e p H' hi ⟨rfl,L,rfl⟩
     have hst:stepT tx 0=.flt e:=by
      rw[hes]at hi
      cases hs:stepT tx 0 with
      | skip q=>exact(stepT_skip h4 (by rw[hg]; exact h5) hs).elim
      | tok t' q=>rw[hs]at hi; simp at hi
      | flt e'=>rw[hs]at hi; simp at hi; rw[hi.1]
     rw[hst]at hr
     refine(round25e (c:=.fn (.func 123) [] [.ptr (.slc [st (B tx)] 0) 0]) (a:=a) (k:=k) (n:=n) (e:=e) (p:=p) L).mono ?_
     rintro o H' ⟨rfl,cs,L',rfl⟩
     exact⟨⟨_,rfl⟩,cs,L',by rw[hr]⟩
   · rintro o H' ⟨hv,(⟨h0,_⟩ | hq)⟩
     · exfalso
       have:=congrArg List.length hes
       cases hs:stepT tx 0 with
       | skip q=>exact stepT_skip h4 (by rw[hg]; exact h5) hs
       | tok t' q=>rw[hs,h0]at this; simp at this
       | flt e'=>rw[hs,h0]at this; simp at this
     · exact⟨hv,hq⟩
 · rintro out H' ⟨⟨v,rfl⟩,cs,L,rfl⟩
   refine⟨.ret,_,by simp[sH25]; rfl,?_⟩
   simp -implicitDefEqProofs[sH25]
   have hsu:∀ s∈(sglT k tx).2,s.under (A.length+2)=true:=by
    rw[hr]
    cases stepT tx 0 with
    | tok t q=>intro s hs; simp[Tok.c]at hs; rcases hs with rfl | rfl | rfl | rfl<;>rfl
    | skip q=>exact hz
    | flt e=>exact hz
   have f:=fun L=>fin (L:=L) (b:=(sglT k tx).1) (fc:=(sglT k tx).2) rfl hsu
   exact(by simpa using f _)
end
end Go.Proofs.YtmkdpmfhlfhjkaaGreatDoor
namespace Go.Proofs.YtmkdpmfhlfhjkaaGreatDoor
open Go.Ab
section
variable {A H:List AO} {tx:List UInt8}
theorem ok171 (hl:tx.length<4611686018427387904) (k n e:Int) (a:SV) :
 Ok Tryz.prog 171 [st (B tx),.fn (.func 170) [] [.ptr (.own (A.length+1) 0 0 0 0) 0,.ptr (.own A.length 0 0 0 0) 0],i64 e] (A++[o25 (tC k tx n a),o25 zC]) (.ret (i64 (if(sglT k tx).1=true then 0 else e))) (A++[o25 (tC k tx n a),o25 (sglT k tx).2]):=by
 refine ok_fn hm Tryz.func171 c171 (by simp) fun hcl => ?_
 simp -implicitDefEqProofs[i171,r171]
 refine call_go (ok170 (A:=A) hl k n a) ?_
 by_cases hb:(sglT k tx).1=true
 · simp -implicitDefEqProofs[hb]
   exact cv_id
 · rw[Bool.not_eq_true]at hb
   simp -implicitDefEqProofs[hb]
   exact cv_id
theorem ok173 {fc:List SV} {o:AO} (m:Int) (n:Int) (hf:fc.getD 2 .any=i64 m) (hlen:fc.length=4):Ok Tryz.prog 173 [i64 n,.ptr (.own (A.length+1) 0 0 0 0) 0] (A++[o,o25 fc]) (.ret (bl (decide (n=m)))) (A++[o,o25 fc]):=by
 refine ok_fn hm Tryz.func173 c173 (by simp) fun hcl => ?_
 match fc,hlen with
 | [x0,x1,x2,x3],_ =>
  have:x2=i64 m:=by simpa using hf
  subst this
  simp -implicitDefEqProofs[i173,r173]
  exact cv_id
theorem ok172 {fc:List SV} {o:AO} (m n e:Int) (hf:fc.getD 2 .any=i64 m) (hlen:fc.length=4) :
 Ok Tryz.prog 172 [i64 n,.fn (.func 173) [] [.ptr (.own (A.length+1) 0 0 0 0) 0],i64 e] (A++[o,o25 fc]) (.ret (i64 (if n=m then 0 else e))) (A++[o,o25 fc]):=by
 refine ok_fn hm Tryz.func172 c172 (by simp) fun hcl => ?_
 simp -implicitDefEqProofs[i172,r172]
 refine call_go (ok173 (A:=A) m n hf hlen) ?_
 by_cases hb:n=m
 · simp -implicitDefEqProofs[hb]
   exact cv_id
 · simp -implicitDefEqProofs[hb]
   exact cv_id
end
end Go.Proofs.YtmkdpmfhlfhjkaaGreatDoor
namespace Go.Proofs.YtmkdpmfhlfhjkaaGreatDoor
open Go.Ab
theorem mkStp_tx {l:List UInt8} {p q q':Nat} {k:Int} {t:Tok} (h:mkStp l p k q=.tok t q'):t.tx=cut l p q∧(whE l k (cut l p q) p).1=0:=by
 unfold mkStp at h
 split at h
 · cases h
 · rename_i hn; cases h; exact⟨rfl,by simpa using hn⟩
theorem tok_facts {l:List UInt8} {p q:Nat} {t:Tok} (hp:p<l.length) (h:stepT l p=.tok t q):t.tx=cut l p q∧1≤t.k∧t.k≤3∧q-p≤40:=by
 have hq:=mkq h hp
 unfold stepT at h
 split at h
 · cases h
 · split at h
   · have hk:=mkStp_tok h
     have hx:=mkStp_tx h
     obtain⟨rfl,hk,_⟩:=hk
     refine⟨hx.1,by omega,by omega,?_⟩
     have hlen:=cut_len (l:=l) (Nat.le_of_lt hq.1) hq.2
     rcases Nat.lt_or_ge 40 (runE l [2,3] p-p)with h40 | h40
     · have h2:=hx.2
       unfold whE at h2
       rw[hlen]at h2
       split at h2
       · cases h2
       · rw[if_pos ⟨rfl,h40⟩]at h2; cases h2
     · exact h40
   · split at h
     · have hk:=mkStp_tok h
       have hx:=mkStp_tx h
       obtain⟨rfl,hk,_⟩:=hk
       refine⟨hx.1,by omega,by omega,?_⟩
       have hlen:=cut_len (l:=l) (Nat.le_of_lt hq.1) hq.2
       rcases Nat.lt_or_ge 10 (runE l [3] p-p)with h10 | h10
       · exfalso
         have h2:=hx.2
         unfold whE at h2
         split at h2
         · cases h2
         · rw[if_neg (fun h=>absurd h.1 (by decide)),if_neg (by decide)]at h2
           split at h2
           · cases h2
           · rename_i hz
             have hv:=numW_long (tx:=cut l p (runE l [3] p)) run_digits (by omega) (fun h=>hz ⟨by omega,h⟩)
             rw[(numR_val (tx:=cut l p (runE l [3] p)) (m:=0) run_digits (by omega) (by omega)).2 hv]at h2
             cases h2
       · omega
     · split at h
       · have hk:=mkStp_tok h
         have hx:=mkStp_tx h
         obtain⟨rfl,hk,_⟩:=hk
         refine⟨hx.1,by omega,by omega,?_⟩
         unfold signE
         split
         · omega
         · split<;>omega
       · split at h
         · cases h
         · have hk:=(mkStp_tok h).1
           omega
theorem chk_eq {k n m:Int} {tx:List UInt8} (hm:(sglT k tx).2.getD 2 .any=i64 m):(if(sglT k tx).1=true then(if n=m then 0 else 2)else 3)=chkT k tx n:=by
 have e3:(sglT k tx).1=false->chkT k tx n=3->(if(sglT k tx).1=true then(if n=m then 0 else 2)else 3)=chkT k tx n:=fun a b=>by rw[a,b]; simp
 by_cases h1:tx=[]
 · exact e3 (by unfold sglT; rw[if_pos (.inl h1)]) (by unfold chkT; rw[if_pos (.inl h1)])
 have hpos:0<tx.length:=List.length_pos_iff.2 h1
 by_cases h4:cAt tx 0=1
 · exact e3 (by unfold sglT; rw[if_pos (.inr (.inr (.inl h4)))]) (by unfold chkT; rw[if_pos (.inr (.inr (.inr (.inl h4))))])
 by_cases h5:tx.getD 0 0=35
 · exact e3 (by unfold sglT; rw[if_pos (.inr (.inr (.inr h5)))]) (by unfold chkT; rw[if_pos (.inr (.inr (.inr (.inr h5))))])
 cases hst:stepT tx 0 with
 | skip q=>exact(stepT_skip h4 h5 hst).elim
 | flt e=>exact e3 (by unfold sglT; rw[hst]; split<;>rfl) (by unfold chkT; rw[hst]; split<;>rfl)
 | tok t q =>
  obtain⟨g1,g2,g3,g4⟩:=tok_facts hpos hst
  have hq:=mkq hst hpos
  have hcut:cut tx 0 q=tx.take q:=by simp[cut]
  have hx:t.tx=tx↔q=tx.length:=by
   rw[g1,hcut]
   constructor
   · intro h; have:=congrArg List.length h; simp at this; omega
   · intro h; rw[h,List.take_length]
  by_cases hk:k<1∨3<k
  · refine e3 ?_ (by unfold chkT; rw[if_pos (by rcases hk with h | h; exact .inr (.inl h); exact .inr (.inr (.inl h)))])
    unfold sglT; rw[hst]; split
    · rfl
    · have:¬ t.k=k:=by omega
      simp[this]
  · have hc:chkT k tx n=if q≠tx.length∨t.k≠k then 3 else if t.n≠n then 2 else 0:=by
     unfold chkT; rw[if_neg (by rintro(h | h | h | h | h)<;>first | contradiction | omega),hst]
    by_cases h40:40<tx.length
    · exact e3 (by unfold sglT; rw[if_pos (.inr (.inl h40))]) (by rw[hc,if_pos (.inl (by omega))])
    · have hs:sglT k tx=(decide (t.tx=tx)&&decide (t.k=k),t.c):=by
       unfold sglT; rw[if_neg (by rintro(h | h | h | h)<;>first | contradiction | omega),hst]
      have hmm:m=t.n:=by
       rw[hs]at hm
       have:i64 t.n=i64 m:=hm
       unfold i64 at this
       cases this; rfl
      by_cases a1:q=tx.length
      · by_cases a2:t.k=k
        · have e:(decide (t.tx=tx)&&decide (t.k=k))=true:=by simp[hx.2 a1,a2]
          have hc2:chkT k tx n=if t.n≠n then 2 else 0:=by rw[hc,if_neg (by rintro(h | h)<;>contradiction)]
          rw[hs,hc2,hmm]
          simp only[e,if_true]
          by_cases a3:n=t.n
          · simp[a3]
          · rw[if_neg a3,if_pos (fun h:t.n=n=>a3 h.symm)]
        · exact e3 (by rw[hs]; simp[a2]) (by rw[hc,if_pos (.inr a2)])
      · have hne:¬ t.tx=tx:=fun h=>a1 (hx.1 h)
        exact e3 (by rw[hs]; simp[hne]) (by rw[hc,if_pos (.inl a1)])
end Go.Proofs.YtmkdpmfhlfhjkaaGreatDoor
namespace Go.Proofs.YtmkdpmfhlfhjkaaGreatDoor
open Go.Ab
theorem sgl_m (k:Int) (tx:List UInt8):∃ m,(sglT k tx).2.getD 2 .any=i64 m∧(sglT k tx).2.length=4:=by
 unfold sglT
 split
 · exact⟨0,rfl,rfl⟩
 · split
   · rename_i t _ _; exact⟨t.n,rfl,rfl⟩
   · exact⟨0,rfl,rfl⟩
section
variable {H:List AO} {tx:List UInt8}
theorem ok134 (hl:tx.length<4611686018427387904) (k n:Int) (a:SV) (ha:a.isCell=true):Ok Tryz.prog 134 [.agg [i64 k,st (B tx),i64 n,a]] H (.ret (i64 (chkT k tx n))) H:=by
 refine ok_fn hm Tryz.func134 c134 (by simp) fun hcl => ?_
 obtain⟨m,hm1,hm2⟩:=sgl_m k tx
 rw[←chk_eq (k:=k) (n:=n) (tx:=tx) hm1]
 simp -implicitDefEqProofs[i134,r134,ha]
 refine call_go (ok171 (A:=H) hl k n 3 a) ?_
 by_cases hb:(sglT k tx).1=true
 · simp -implicitDefEqProofs[hb,tC]
   refine call_go (ok172 (A:=H) m n 2 hm1 hm2) ?_
   by_cases hn:n=m
   · simp -implicitDefEqProofs[hn]
     exact cv_fz 4 hcl rfl (by simp[hb])
   · simp -implicitDefEqProofs[hn]
     exact cv_fz 4 hcl rfl (by simp[hb])
 · rw[Bool.not_eq_true]at hb
   simp -implicitDefEqProofs[hb]
   exact cv_fz 4 hcl rfl (by simp[hb])
end
end Go.Proofs.YtmkdpmfhlfhjkaaGreatDoor
namespace Go.Proofs.YtmkdpmfhlfhjkaaGreatDoor
open Go.Ab
def sgn2:List (List UInt8):=[[42],[47],[37],[43],[45],[61,61],[33,61],[60],[60,61],[62],[62,61],[97,110,100],[111,114]]
def sgnO (op:Int):List UInt8×Int :=
 if op=3 then([45],1)else if op=4 then([110,111,116],1)else if op=18 then([109,105,110],2)else if op=19 then([109,97,120],2)
 else if op=20 then([105,102],3)else if op<5∨17<op then([],0)else(sgn2.getD (op-5).toNat [],2)
def alnB (op:Int):Bool:=decide (op=18)||decide (op=19)||decide (op=20)
def namB (s:List UInt8):Bool:=decide (chkT 1 s 0=0) && !decide (s∈resv)
def sglE:Ex->Bool
 | .mk op n nm l _ =>
  if op=1 then decide (nm=[])&&decide (l=[])&&decide (0≤n∧n≤1000000000)
  else if op=2 then decide (n=0)&&decide (l=[])&&namB nm
  else decide (0<(sgnO op).2)&&decide ((l.length:Int)=(sgnO op).2)&&decide (n=0)&&decide (nm=[])
def Ex.nmE:Ex->List UInt8
 | .mk _ _ nm _ _=>nm
section
variable {H:List AO}
theorem ok102 (a n b:Int):Ok Tryz.prog 102 [i64 a,i64 n,i64 b] H (.ret (bl (decide (a≤n∧n≤b)))) H:=by
 refine ok_fn hm Tryz.func102 c102 (by simp) fun hcl => ?_
 by_cases h:a≤n
 · simp -implicitDefEqProofs[i102,r102,h]
   exact cv_id
 · simp -implicitDefEqProofs[i102,r102,h]
   exact cv_id
theorem ok132 (op:Int):Ok Tryz.prog 132 [i64 op] H (.ret (bl (alnB op))) H:=by
 refine ok_fn hm Tryz.func132 c132 (by simp) fun hcl => ?_
 unfold alnB
 by_cases h:op=18
 · simp -implicitDefEqProofs[i132,r132,h]
   exact cv_id
 · by_cases h2:op=19
   · simp -implicitDefEqProofs[i132,r132,h,h2]
     exact cv_id
   · simp -implicitDefEqProofs[i132,r132,h,h2]
     exact cv_id
theorem ok131 (op:Int):Ok Tryz.prog 131 [i64 op] H (.ret (.tup [st (B (sgnO op).1),i64 (sgnO op).2])) H:=by
 refine ok_fn hm Tryz.func131 c131 (by simp) fun hcl => ?_
 by_cases h1:op=3
 · subst h1; simp -implicitDefEqProofs[i131,r131,sgnO]; exact cv_id
 by_cases h2:op=4
 · subst h2; simp -implicitDefEqProofs[i131,r131,sgnO]; exact cv_id
 by_cases h3:op=18
 · subst h3; simp -implicitDefEqProofs[i131,r131,sgnO]; exact cv_id
 by_cases h4:op=19
 · subst h4; simp -implicitDefEqProofs[i131,r131,sgnO]; exact cv_id
 by_cases h5:op=20
 · subst h5; simp -implicitDefEqProofs[i131,r131,sgnO]; exact cv_id
 by_cases h6:op<5
 · simp -implicitDefEqProofs[i131,r131,sgnO,h1,h2,h3,h4,h5,h6]; exact cv_id
 by_cases h7:17<op
 · simp -implicitDefEqProofs[i131,r131,sgnO,h1,h2,h3,h4,h5,h6,h7]; exact cv_id
 obtain⟨k,rfl⟩:∃ k:Nat,op=(k:Int)+5:=⟨(op-5).toNat,by omega⟩
 have hk:k<13:=by omega
 have w:IntKind.i64.wrap ((k:Int)+5-5)=k:=by
  have:(k:Int)+5-5=k:=by omega
  rw[this]; exact wrap_nat (by omega)
 have w2:IntKind.i64.wrap (k:Int)=k:=wrap_nat (by omega)
 have hk':(k:Int)<13:=by omega
 simp -implicitDefEqProofs[i131,r131,h1,h2,h3,h4,h5,h6,h7,w,w2,hk,hk']
 refine⟨by omega,cv_fz 3 hcl rfl ?_⟩
 have e:sgnO ((k:Int)+5)=(sgn2.getD k [],2):=by
  unfold sgnO
  rw[if_neg h1,if_neg h2,if_neg h3,if_neg h4,if_neg h5,if_neg (by omega)]
  have:((k:Int)+5-5).toNat=k:=by omega
  rw[this]
 rw[e]
 have:k=0∨k=1∨k=2∨k=3∨k=4∨k=5∨k=6∨k=7∨k=8∨k=9∨k=10∨k=11∨k=12:=by omega
 rcases this with rfl | rfl | rfl | rfl | rfl | rfl | rfl | rfl | rfl | rfl | rfl | rfl | rfl<;>rfl
theorem ok101 {s:List UInt8} (hl:s.length<4611686018427387904):Ok Tryz.prog 101 [st (B s)] H (.ret (bl (namB s))) H:=by
 refine ok_fn hm Tryz.func101 c101 (by simp) fun hcl => ?_
 simp -implicitDefEqProofs[i101,r101]
 refine call_go (ok134 hl 1 0 (i64 0) rfl) ?_
 by_cases h:chkT 1 s 0=0
 · simp -implicitDefEqProofs[h]
   refine callq_st (r:=bl (decide (s∈resv))) (fun _=>ok146 s) ?_
   simp -implicitDefEqProofs[h]
   have e:namB s = !decide (s∈resv):=by simp[namB,h]
   rw[e]; exact cv_id
 · simp -implicitDefEqProofs[h]
   refine callq_off _ _ _ _ ?_
   simp -implicitDefEqProofs[h]
   have e:namB s=false:=by simp[namB,h]
   rw[e]; exact cv_id
theorem ok130 {e:Ex} (hs:sglE e=true) (hnm:e.nmE.length<4611686018427387904):Ok Tryz.prog 130 [e.v] H (.ret (bl true)) H:=by
 obtain⟨op,n,nm,l,p⟩:=e
 refine ok_fn hm Tryz.func130 c130 (by simp) fun hcl => ?_
 simp only[sglE]at hs
 by_cases h1:op=1
 · rw[if_pos h1]at hs
   simp only[Bool.and_eq_true,decide_eq_true_eq]at hs
   obtain⟨⟨rfl,rfl⟩,h3,h4⟩:=hs
   subst h1
   simp -implicitDefEqProofs[i130,r130,Ex.v,Ex.c]
   refine callq_st (r:=bl true) (fun _=>by have h:=fun H=>ok102 (H:=H) 0 n 1000000000; rw[decide_eq_true (And.intro h3 h4)]at h; exact h _) ?_
   simp -implicitDefEqProofs
   exact cv_fz 3 hcl rfl (by simp)
 by_cases h2:op=2
 · rw[if_neg h1,if_pos h2]at hs
   simp only[Bool.and_eq_true,decide_eq_true_eq]at hs
   obtain⟨⟨rfl,rfl⟩,h3⟩:=hs
   subst h2
   simp -implicitDefEqProofs[i130,r130,Ex.v,Ex.c]
   refine callq_st (r:=bl true) (fun _=>by have h:=fun H=>ok101 (H:=H) (s:=nm) hnm; rw[h3]at h; exact h _) ?_
   simp -implicitDefEqProofs
   exact cv_fz 3 hcl rfl (by simp)
 rw[if_neg h1,if_neg h2]at hs
 simp only[Bool.and_eq_true,decide_eq_true_eq]at hs
 obtain⟨⟨⟨h3,h4⟩,rfl⟩,rfl⟩:=hs
 simp -implicitDefEqProofs[i130,r130,Ex.v,Ex.c,h1,h2]
 refine call_go (ok131 op) ?_
 simp -implicitDefEqProofs[h3,h4]
 exact cv_fz 3 hcl rfl (by simp)
end
end Go.Proofs.YtmkdpmfhlfhjkaaGreatDoor
namespace Go.Proofs.YtmkdpmfhlfhjkaaGreatDoor
open Go.Ab
def byO (o:List UInt8) (v:Nat):AO:=⟨sbyts (B o),5,v,true⟩
def prO (q n v:Nat):AO:=⟨[.own q 0 n 1 v],85,0,true⟩
structure PrA (G:List AO) (j q:Nat) (o:List UInt8) (v:Nat):Prop where
 h1:G[j]? = some (prO q o.length v)
 h2:G[q]? = some (byO o v)
 h3:j≠q
def wr (G:List AO) (j q:Nat) (o:List UInt8) (v:Nat):List AO:=(G.set j (prO q o.length v)).set q (byO o v)
@[simp] theorem wr_len (G:List AO) (j q:Nat) (o:List UInt8) (v:Nat):(wr G j q o v).length=G.length:=by simp[wr]
theorem sbyts_len (o:List UInt8):(sbyts (B o)).length=o.length:=by simp[sbyts,B]
section
variable {G H:List AO} {j q v:Nat} {o:List UInt8}
theorem PrA.lj (h:PrA G j q o v):j<G.length:=getElem?_lt h.h1
theorem PrA.lq (h:PrA G j q o v):q<G.length:=getElem?_lt h.h2
theorem PrA.wr (h:PrA G j q o v) (o':List UInt8) (v':Nat):PrA (wr G j q o' v') j q o' v':=by
 have hj:=h.lj; have hq:=h.lq; have hne:=h.h3
 refine⟨?_,?_,hne⟩
 · unfold Proofs.YtmkdpmfhlfhjkaaGreatDoor.wr
   rw[List.getElem?_set_ne (fun e=>hne e.symm),List.getElem?_set_self hj]
 · unfold Proofs.YtmkdpmfhlfhjkaaGreatDoor.wr
   rw[List.getElem?_set_self (by simpa using hq)]
theorem PrA.app (h:PrA G j q o v) (L:List AO):PrA (G++L) j q o v :=
 ⟨by rw[List.getElem?_append_left h.lj]; exact h.h1,by rw[List.getElem?_append_left h.lq]; exact h.h2,h.h3⟩
theorem PrA.same (h:PrA G j q o v):Proofs.YtmkdpmfhlfhjkaaGreatDoor.wr G j q o v=G:=by
 unfold Proofs.YtmkdpmfhlfhjkaaGreatDoor.wr
 rw[set_same h.h1,set_same h.h2]
theorem wr_wr (hne:j≠q) (o':List UInt8) (v':Nat):wr (wr G j q o v) j q o' v'=wr G j q o' v':=by
 unfold wr
 rw[List.set_comm _ _ (fun e=>hne e.symm),List.set_set,List.set_set]
theorem wr_app (hj:j<G.length) (hq:q<G.length) (L:List AO):wr (G++L) j q o v=wr G j q o v++L:=by
 unfold wr
 rw[List.set_append_left _ _ hj,List.set_append_left _ _ (by simpa using hq)]
theorem closed_wr (h:closed G) (hq:q<G.length):closed (wr G j q o v):=by
 unfold wr
 refine closed_set (closed_set h j ?_) q ?_
 · simp[prO,SV.underL,SV.under,hq]
 · rw[SV.underL_iff]
   intro s hs
   simp only[byO,sbyts,List.mem_map]at hs
   obtain⟨b,_,rfl⟩:=hs; rfl
theorem take_s {l:List (List UInt8)} {i:Nat} (h:i<l.length):(l.take (i+1)).flatten=(l.take i).flatten++l[i]:=by
 rw[←List.take_append_getElem h,List.flatten_append]; simp
theorem wr_next {hne:j≠q} {o s:List UInt8} {v:Nat}:((wr H j q o v).set q ⟨(byO o v).cells++sbyts (B s),(byO o v).ty,(byO o v).ver+1,(byO o v).live⟩).set j
     ⟨.own q 0 (o.length+s.length) 1 (v+1)::(prO q o.length v).cells.tail,(prO q o.length v).ty,(prO q o.length v).ver,(prO q o.length v).live⟩=wr H j q (o++s) (v+1):=by
 have e1:(⟨(byO o v).cells++sbyts (B s),(byO o v).ty,(byO o v).ver+1,(byO o v).live⟩:AO)=byO (o++s) (v+1):=by simp[byO,sbyts,B]
 have e2:(⟨.own q 0 (o.length+s.length) 1 (v+1)::(prO q o.length v).cells.tail,(prO q o.length v).ty,(prO q o.length v).ver,(prO q o.length v).live⟩:AO)=prO q (o++s).length (v+1):=by simp[prO]
 rw[e1,e2]
 unfold wr
 rw[List.set_set,List.set_comm _ _ (fun e=>hne e.symm),List.set_set]
theorem loop105 (hp:PrA H j q o v) {x:SV} {l:List (List UInt8)} (hx:∀ o v,IsS (wr H j q o v) x l) (hl:l.length<4611686018427387904) (hL:o.length+l.flatten.length≤140737488355328) {N:Nat} {K:XE->Env->List AO->Prop}
 (hexit:∀ env,K (.exit 0) env (wr H j q (o++l.flatten) (v+l.length))) :
 ∀ (m i:Nat) (env:Env),i+m=l.length->env.get 0=rp j->env.get 6=x->env.get 7=i64 l.length->env.get 8=i64 i->LI Tryz.prog N drawB l105_0 env (wr H j q (o++(l.take i).flatten) (v+i)) K:=by
 intro m
 induction m with
 | zero =>
  intro i env hi h0 h6 h7 h8
  refine li_go hm l105_0.eq_1 ?_
  have e:i=l.length:=by omega
  subst e
  simp -implicitDefEqProofs[h0,h6,h7,h8]
  exact hexit _
 | succ m ih =>
  intro i env hi h0 h6 h7 h8
  refine li_go hm l105_0.eq_1 ?_
  have hlt:i<l.length:=by omega
  have hlt':(i:Int)<l.length:=by omega
  have hxo:=hx (o++(l.take i).flatten) (v+i)
  have hv:=hxo.vA [] hlt
  have ho:=hxo.okA [] hlt
  simp only[List.append_nil]at hv ho
  have htk:(l.take (i+1)).flatten=(l.take i).flatten++l[i]:=take_s hlt
  have hle:((l.take i).flatten++l[i]).length≤l.flatten.length:=by
   rw[←htk]
   conv=>rhs; rw[←List.take_append_drop (i+1) l]
   rw[List.flatten_append,List.length_append]; omega
  rw[List.length_append]at hle
  have ih:=ih (i+1)
  rw[htk]at ih
  generalize l[i]=s at hv htk hle ih
  have hw:=hp.wr (o++(l.take i).flatten) (v+i)
  generalize ho':o++(l.take i).flatten=o' at hw hxo hv ho
  have ho'l:o'.length=o.length+(l.take i).flatten.length:=by rw[←ho',List.length_append]
  have e1:objCells (wr H j q o' (v+i)) j 0=[.own q 0 o'.length 1 (v+i)]:=objCells_of hw.h1 rfl
  have e2:objIs (wr H j q o' (v+i)) q (v+i) 5 (o'.length*1):=⟨_,hw.h2,rfl,rfl,rfl,by simp[byO,sbyts_len]⟩
  have e3:∀ f,Ab.setObj (wr H j q o' (v+i)) q f=(wr H j q o' (v+i)).set q (f (byO o' (v+i))):=fun f=>setObj_some hw.h2 f
  have e4:∀ (y:AO) f,Ab.setObj ((wr H j q o' (v+i)).set q y) j f=((wr H j q o' (v+i)).set q y).set j (f (prO q o'.length (v+i))):=fun y f=>setObj_some (by rw[List.getElem?_set_ne (fun e=>hp.h3 e.symm)]; exact hw.h1) f
  have e5:∀ (y:AO),objCells ((wr H j q o' (v+i)).set q y) j 0=[.own q 0 o'.length 1 (v+i)]:=fun y=>objCells_of (o:=prO q o'.length (v+i)) (by rw[List.getElem?_set_ne (fun e=>hp.h3 e.symm)]; exact hw.h1) rfl
  simp -implicitDefEqProofs[h0,h6,h7,h8,hlt,hlt',hxo.vd,hxo.ug,hxo.sl,hxo.cell,hxo.sz,hxo.len,hv,ho,rp,e1,e2,e3,e4,e5]
  refine⟨by omega,by simpa using e2,LI.cong (wr_next (hne:=hp.h3)).symm ?_⟩
  subst ho'
  rw[List.append_assoc]
  exact ih _ (by omega) (by simp[rp]) (by simp) (by simp) (by simp[wrap_suc (show i<9223372036854775807 by omega)])
theorem ok105 (hp:PrA H j q o v) {x:SV} {l:List (List UInt8)} (hx:∀ o v,IsS (wr H j q o v) x l) (hl:l.length<4611686018427387904) (hL:o.length+l.flatten.length≤140737488355328) :
 Ok Tryz.prog 105 [rp j,x] H (.ret (.tup [])) (wr H j q (o++l.flatten) (v+l.length)):=by
 have hxo:=hx o v
 rw[hp.same]at hxo
 have hj:=hp.lj
 refine ok_fn hm Tryz.func105 c105 (by simp[rp,SV.under,hj,hxo.und]) fun hcl => ?_
 simp -implicitDefEqProofs[i105,r105,hxo.vd,hxo.ug,hxo.sl,hxo.len]
 refine LI.cong (H':=wr H j q (o++(l.take 0).flatten) (v+0)) (by simpa using hp.same) ?_
 refine loop105 hp hx hl hL (fun env => ?_) l.length 0 _ (by omega) (by simp) (by simp) (by simp) (by simp)
 simp -implicitDefEqProofs
 exact cv_id
theorem ok51 (hp:PrA H j q o v):Ok Tryz.prog 51 [rp j] H (.ret (bl (decide (20000<o.length)))) H:=by
 have hj:=hp.lj
 have e1:objCells H j 0=[.own q 0 o.length 1 v]:=objCells_of hp.h1 rfl
 refine ok_fn hm Tryz.func51 c51 (by simp[rp,SV.under,hj]) fun hcl => ?_
 simp -implicitDefEqProofs[i51,r51,rp,e1]
 have e:decide ((20000:Int)<o.length)=decide (20000<o.length):=by congr 1; exact propext (by omega)
 rw[e]
 exact cv_id
end
end Go.Proofs.YtmkdpmfhlfhjkaaGreatDoor
namespace Go.Proofs.YtmkdpmfhlfhjkaaGreatDoor
open Go.Ab
def decI (n:Int):List UInt8:=Lib.decDigits n.toNat
def opdW (x:Int×(List UInt8->List UInt8)) (o:List UInt8):List UInt8 :=
 if x.1=1∨x.1=2∨alnB x.1=true then x.2 o else x.2 (o++[40])++[41]
def lstW:Bool->List (Int×(List UInt8->List UInt8))->List UInt8->List UInt8
 | _,[],o=>o
 | true,f::r,o=>lstW false r (f.2 o)
 | false,f::r,o=>lstW false r (f.2 (o++[44,32]))
def nthW (fs:List (Int×(List UInt8->List UInt8))) (i:Nat) (o:List UInt8):List UInt8 :=
 match fs[i]? with
 | some f=>opdW f o
 | none=>o
def Ex.opE:Ex->Int
 | .mk op _ _ _ _=>op
mutual
def prE:Ex->List UInt8->List UInt8
 | .mk op n nm l _=>fun o =>
  if 20000<o.length then o else if op=1 then o++decI n else if op=2 then o++nm
  else if alnB op=true then lstW true (prF l) (o++(sgnO op).1++[40])++[41]
  else if(sgnO op).2=1 then nthW (prF l) 0 (o++(sgnO op).1++[32])
  else nthW (prF l) 1 (nthW (prF l) 0 o++[32]++(sgnO op).1++[32])
def prF:List Ex->List (Int×(List UInt8->List UInt8))
 | []=>[]
 | e::r=>(e.opE,prE e)::prF r
end
theorem prF_map:∀ l:List Ex,prF l=l.map fun e=>(e.opE,prE e)
 | []=>by rw[prF]; rfl
 | e::r=>by rw[prF,prF_map r]; rfl
def Grow (f:List UInt8->List UInt8):Prop:=∀ o,o.length≤(f o).length
theorem opdW_grow {x:Int×(List UInt8->List UInt8)} (h:Grow x.2):Grow (opdW x):=by
 intro o
 unfold opdW
 split
 · exact h o
 · have:=h (o++[40])
   simp at this ⊢; omega
theorem lstW_grow:∀ (fs:List (Int×(List UInt8->List UInt8))) (b:Bool),(∀ f∈fs,Grow f.2)->Grow (lstW b fs)
 | [],b,_=>by intro o; cases b<;>exact Nat.le_refl _
 | f::r,b,h=>by
  have hf:=h f (.head _)
  have hr:=lstW_grow r false (fun g hg=>h g (.tail _ hg))
  intro o
  cases b
  · have h1:=hf (o++[44,32]); have h2:=hr (f.2 (o++[44,32]))
    simp only[lstW]
    simp at h1; omega
  · have h1:=hf o; have h2:=hr (f.2 o)
    simp only[lstW]; omega
theorem nthW_grow {fs:List (Int×(List UInt8->List UInt8))} (h:∀ f∈fs,Grow f.2) (i:Nat):Grow (nthW fs i):=by
 intro o
 unfold nthW
 split
 · rename_i f hf
   exact opdW_grow (h f (List.mem_of_getElem? hf)) o
 · exact Nat.le_refl _
mutual
theorem prE_grow:∀ e:Ex,Grow (prE e)
 | .mk op n nm l p=>by
  have h:=prF_grow l
  have h1:=lstW_grow (prF l) true h
  have h2:=nthW_grow h 0
  have h3:=nthW_grow h 1
  intro o
  unfold prE
  split
  · exact Nat.le_refl _
  · split
    · simp
    · split
      · simp
      · split
        · have:=h1 (o++(sgnO op).1++[40])
          simp at this ⊢; omega
        · split
          · have:=h2 (o++(sgnO op).1++[32])
            simp at this ⊢; omega
          · have a:=h2 o
            have b:=h3 (nthW (prF l) 0 o++[32]++(sgnO op).1++[32])
            simp at b ⊢; omega
theorem prF_grow:∀ (l:List Ex),∀ f∈prF l,Grow f.2
 | [],f,h=>by rw[prF]at h; cases h
 | e::r,f,h=>by
  rw[prF]at h
  rcases List.mem_cons.1 h with rfl | h
  · exact prE_grow e
  · exact prF_grow r f h
end
def NumK (n:Int):Prop:=∀ H,Ok Tryz.prog 106 [i64 n] H (.ret (st (B (decI n)))) H
mutual
def Ex.prp:Ex->Prop
 | .mk op n nm l p=>sglE (.mk op n nm l p)=true∧nm.length<4611686018427387904∧(op=1->NumK n)∧Ex.prpL l
def Ex.prpL:List Ex->Prop
 | []=>True
 | e::r=>e.prp∧Ex.prpL r
end
theorem prpL_iff:∀ {l:List Ex},Ex.prpL l↔∀ e∈l,e.prp
 | []=>by simp[Ex.prpL]
 | e::r=>by simp[Ex.prpL,prpL_iff (l:=r)]
def PrK (k:FuncId) (args:List SV) (F:List UInt8->List UInt8):Prop :=
 ∀ (H:List AO) (j q:Nat) (o:List UInt8) (v:Nat),PrA H j q o v->(F o).length≤140737488355328 →
  OkP Tryz.prog k (rp j::args) (wr H j q o v) fun out H'=>out=.ret (.tup [])∧∃ v',H'=wr H j q (F o) v'
section
variable {H:List AO} {j q v:Nat} {o:List UInt8}
@[simp] theorem objCells_wr (L:List AO) (k ver:Nat):objCells (wr H j q o v++L) (H.length+k) ver=objCells L k ver:=by
 have:=objCells_new (H:=wr H j q o v) (L:=L) (k:=k) (ver:=ver); simpa using this
@[simp] theorem objCells_wr0 (L:List AO) (ver:Nat):objCells (wr H j q o v++L) H.length ver=objCells L 0 ver:=objCells_wr L 0 ver
@[simp] theorem setObj_wr (L:List AO) (k:Nat) (f:AO->AO):Ab.setObj (wr H j q o v++L) (H.length+k) f=wr H j q o v++Ab.setObj L k f:=by
 have:=setObj_new (H:=wr H j q o v) (L:=L) (k:=k) (f:=f); simpa using this
theorem PrK.at {k:FuncId} {args:List SV} {F:List UInt8->List UInt8} (h:PrK k args F) (hp:PrA H j q o v) (o:List UInt8) (v:Nat) (L:List AO) (hL:(F o).length≤140737488355328) :
 OkP Tryz.prog k (rp j::args) (wr H j q o v++L) fun out H'=>out=.ret (.tup [])∧∃ v',H'=wr H j q (F o) v'++L:=by
 have h1:=h (wr H j q o v++L) j q o v ((hp.wr o v).app L) hL
 rw[wr_app (by simpa using hp.lj) (by simpa using hp.lq),wr_wr hp.h3]at h1
 refine h1.mono ?_
 rintro out H' ⟨rfl,v',rfl⟩
 refine⟨rfl,v',?_⟩
 rw[wr_app (by simpa using hp.lj) (by simpa using hp.lq),wr_wr hp.h3]
theorem add_at (hp:PrA H j q o v) (o:List UInt8) (v:Nat) {L:List AO} {k T n:Nat} {l:List (List UInt8)} (h:L[k]? = some ⟨wds l,T,0,true⟩) (hn:n=l.length) (hl:l.length<4611686018427387904) (hL:o.length+l.flatten.length≤140737488355328) :
 Ok Tryz.prog 105 [rp j,.own (H.length+k) 0 n 1 0] (wr H j q o v++L) (.ret (.tup [])) (wr H j q (o++l.flatten) (v+l.length)++L):=by
 have h1:=ok105 (H:=wr H j q o v++L) ((hp.wr o v).app L) (x:=.own (H.length+k) 0 n 1 0) (l:=l) (fun o' v'=>by
  rw[wr_app (by simpa using hp.lj) (by simpa using hp.lq)]
  have:=IsS.own1 (H:=wr (wr H j q o v) j q o' v') h hn
  simpa using this) hl hL
 rw[wr_app (by simpa using hp.lj) (by simpa using hp.lq),wr_wr hp.h3]at h1
 exact h1
theorem full_at (hp:PrA H j q o v) (o:List UInt8) (v:Nat) (L:List AO):Ok Tryz.prog 51 [rp j] (wr H j q o v++L) (.ret (bl (decide (20000<o.length)))) (wr H j q o v++L):=ok51 ((hp.wr o v).app L)
theorem pr_end (hp:PrA H j q o v) {o1 o2:List UInt8} {v1:Nat} (hcl:closed (wr H j q o v)) {n0:Nat} (hn:n0=H.length) (L:List AO) (he:o1=o2) :
 ∃ (y:SV) (H'':List AO),((Out.ret y)=.ret (.tup [])∧∃ v',H''=wr H j q o2 v')∧Cv n0 (.tup []) (wr H j q o1 v1++L) y H'':=by
 subst he
 refine⟨_,_,⟨rfl,v1,rfl⟩,cv_fz 3 ?_ (by simpa using hn) (by simp)⟩
 have:=closed_wr (o:=o1) (v:=v1) (j:=j) hcl (by simpa using hp.lq)
 rwa [wr_wr hp.h3]at this
end
end Go.Proofs.YtmkdpmfhlfhjkaaGreatDoor
namespace Go.Proofs.YtmkdpmfhlfhjkaaGreatDoor
open Go.Ab
section
variable {H:List AO} {j q v:Nat} {o:List UInt8}
theorem ok133 {e:Ex} (h:PrK 73 [e.v] (prE e)):PrK 133 [e.v] (opdW (e.opE,prE e)):=by
 intro H j q o v hp hL
 obtain⟨op,n,nm,l,p⟩:=e
 have hj:=hp.lj; have hq:=hp.lq
 refine okP_fn hm Tryz.func133 c133 (by simp[rp,SV.under,hj,Ex.und_v]) fun hcl => ?_
 have hdir:(op=1∨op=2∨alnB op=true)->opdW (op,prE (.mk op n nm l p)) o=prE (.mk op n nm l p) o:=fun h=>by unfold opdW; rw[if_pos h]
 simp only[Ex.opE]at hL ⊢
 have key:=h.at hp
 by_cases h1:op=1
 · rw[hdir (.inl h1)]at hL ⊢
   simp -implicitDefEqProofs[i133,r133,Ex.v,Ex.c,h1]
   refine callq_off _ _ _ _ ?_
   subst h1
   simp -implicitDefEqProofs
   refine call_goP (key o v _ hL) ?_
   rintro out H' ⟨rfl,v',rfl⟩
   simp -implicitDefEqProofs
   exact pr_end hp hcl (by simp) _ rfl
 by_cases h2:op=2
 · rw[hdir (.inr (.inl h2))]at hL ⊢
   simp -implicitDefEqProofs[i133,r133,Ex.v,Ex.c,h1,h2]
   refine callq_off _ _ _ _ ?_
   subst h2
   simp -implicitDefEqProofs
   refine call_goP (key o v _ hL) ?_
   rintro out H' ⟨rfl,v',rfl⟩
   simp -implicitDefEqProofs
   exact pr_end hp hcl (by simp) _ rfl
 simp -implicitDefEqProofs[i133,r133,Ex.v,Ex.c,h1,h2]
 refine callq_st (r:=bl (alnB op)) (fun _=>ok132 op) ?_
 by_cases h3:alnB op=true
 · rw[hdir (.inr (.inr h3))]at hL ⊢
   simp -implicitDefEqProofs[h3]
   refine call_goP (key o v _ hL) ?_
   rintro out H' ⟨rfl,v',rfl⟩
   simp -implicitDefEqProofs
   exact pr_end hp hcl (by simp) _ rfl
 · have hd:opdW (op,prE (.mk op n nm l p)) o=prE (.mk op n nm l p) (o++[40])++[41]:=by unfold opdW; rw[if_neg (by simp[h1,h2,h3])]
   rw[hd]at hL ⊢
   have hg:=prE_grow (.mk op n nm l p) (o++[40])
   rw[List.length_append]at hL
   simp at hL hg
   rw[Bool.not_eq_true]at h3
   simp -implicitDefEqProofs[h3]
   refine call_go (add_at hp o v (k:=1) (l:=[[40]]) rfl rfl (by simp) (by simp; omega)) ?_
   simp -implicitDefEqProofs
   refine call_goP (key (o++[40]) (v+1) _ (by omega)) ?_
   rintro out H' ⟨rfl,v',rfl⟩
   simp -implicitDefEqProofs
   refine call_go (add_at hp _ v' (k:=2) (l:=[[41]]) rfl rfl (by simp) (by simp; omega)) ?_
   simp -implicitDefEqProofs
   exact pr_end hp hcl (by simp) _ rfl
theorem loop109 (hp:PrA H j q o v) {l:List Ex} (hl:l.length≤100) (hE:∀ e∈l,PrK 73 [e.v] (prE e)) {res:List UInt8} (hL:res.length≤140737488355328) {N:Nat} {K:XE->Env->List AO->Prop}
 (hexit:∀ env v L,K (.exit 0) env (wr H j q res v++L)) :
 ∀ (m i:Nat) (o:List UInt8) (v:Nat) (L:List AO) (env:Env),i+m=l.length->lstW (decide (i=0)) (prF (l.drop i)) o=res->env.get 0=rp j->env.get 6=exS l->env.get 7=i64 l.length->env.get 8=i64 i->LI Tryz.prog N drawB l109_0 env (wr H j q o v++L) K:=by
 intro m
 induction m with
 | zero =>
  intro i o v L env hi hr h0 h6 h7 h8
  refine li_go hm l109_0.eq_1 ?_
  have e:i=l.length:=by omega
  subst e
  rw[List.drop_length,prF]at hr
  have hr:o=res:=by rw[←hr]; cases decide (l.length=0)<;>rfl
  subst hr
  simp -implicitDefEqProofs[h0,h6,h7,h8,exS]
  exact hexit _ _ _
 | succ m ih =>
  intro i o v L env hi hr h0 h6 h7 h8
  refine li_go hm l109_0.eq_1 ?_
  have hlt:i<l.length:=by omega
  have hlt':(i:Int)<l.length:=by omega
  have hg:=exL_get hlt
  have hlen:=exL_len l
  have he:=hE l[i] (List.getElem_mem hlt)
  rw[List.drop_eq_getElem_cons hlt,prF]at hr
  have hE':∀ f∈prF (l.drop (i+1)),Grow f.2:=prF_grow _
  have ih:=ih (i+1)
  have hg1:=lstW_grow (prF (l.drop (i+1))) false hE'
  generalize l[i]=e at hg he hr
  have hgr:=prE_grow e
  have hv:e.v=.agg e.c:=by cases e; rfl
  have he':=fun o v L h=>he.at hp o v L h
  simp only[hv]at he'
  by_cases h00:i=0
  · subst h00
    have hr:lstW false (prF (l.drop 1)) (prE e o)=res:=hr
    have h2:=hg1 (prE e o)
    rw[hr]at h2
    simp at hg
    simp -implicitDefEqProofs[h0,h6,h7,h8,exS,hlt,hlt',hg,hlen]
    refine⟨by omega,call_goP (he' o v _ (by omega)) ?_⟩
    rintro out H' ⟨rfl,v',rfl⟩
    simp -implicitDefEqProofs[h0,h6,h7,h8,exS,hlt,hlt']
    refine ih _ v' _ _ (by omega) hr ?_ ?_ ?_ ?_
    · simp[h0]
    · simp[h6,exS]
    · simp[h7]
    · simp; rfl
  · have hr:lstW false (prF (l.drop (i+1))) (prE e (o++[44,32]))=res:=by
     rw[←hr,decide_eq_false h00]; rfl
    have h2:=hg1 (prE e (o++[44,32]))
    have h3:=hgr (o++[44,32])
    rw[hr]at h2
    rw[List.length_append]at h3
    simp at h3
    have hpos:0<i:=by omega
    simp -implicitDefEqProofs[h0,h6,h7,h8,exS,hlt,hlt',hg,hlen,hpos]
    refine⟨by omega,call_go (add_at hp o v (k:=L.length+1) (l:=[[44,32]]) (T:=9) (by simp; rfl) rfl (by simp) (by simp; omega)) ?_⟩
    simp -implicitDefEqProofs[h0,h6,h7,h8,exS,hlt,hlt']
    refine call_goP (he' (o++[44,32]) (v+1) _ (by omega)) ?_
    rintro out H' ⟨rfl,v',rfl⟩
    simp -implicitDefEqProofs[h0,h6,h7,h8,exS,hlt,hlt']
    refine ih _ v' _ _ (by omega) (by simpa using hr) ?_ ?_ ?_ ?_
    all_goals simp[h0,h6,h7,h8,exS,wrap_suc (show i<9223372036854775807 by omega)]
theorem ok109 {l:List Ex} (hl:l.length≤100) (hE:∀ e∈l,PrK 73 [e.v] (prE e)):PrK 109 [exS l] (lstW true (prF l)):=by
 intro H j q o v hp hL
 have hj:=hp.lj
 refine okP_fn hm Tryz.func109 c109 (by simp[rp,SV.under,hj,exS,Ex.undL]) fun hcl => ?_
 simp -implicitDefEqProofs[i109,r109,exS]
 refine LI.cong (H':=wr H j q o v++[]) (by simp) ?_
 refine loop109 hp hl hE hL (fun env v L => ?_) l.length 0 o v [] _ (by omega) (by simp) (by simp) (by simp[exS]) (by simp) (by simp)
 simp -implicitDefEqProofs
 exact pr_end hp hcl (by simp) _ rfl
end
end Go.Proofs.YtmkdpmfhlfhjkaaGreatDoor
namespace Go.Proofs.YtmkdpmfhlfhjkaaGreatDoor
open Go.Ab
section
variable {H:List AO} {j q v:Nat} {o:List UInt8}
theorem ok73s {op n p:Int} {nm:List UInt8} {l:List Ex} (he:(Ex.mk op n nm l p).prp) (hE:∀ e∈l,PrK 73 [e.v] (prE e)):PrK 73 [(Ex.mk op n nm l p).v] (prE (.mk op n nm l p)):=by
 intro H j q o v hp hL
 have hj:=hp.lj; have hq:=hp.lq
 unfold Ex.prp at he
 obtain⟨hs,_,hN,_⟩:=he
 refine okP_fn hm Tryz.func73 c73 (by simp[rp,SV.under,hj,Ex.und_v]) fun hcl => ?_
 have hG:∀ f∈prF l,Grow f.2:=prF_grow l
 rw[prE]at hL ⊢
 by_cases hf:20000<o.length
 · simp only[hf,if_true]at hL ⊢
   simp -implicitDefEqProofs[i73,r73,Ex.v,Ex.c]
   refine call_go (full_at hp o v _) ?_
   simp -implicitDefEqProofs[hf]
   exact pr_end hp hcl (by simp) _ rfl
 simp only[hf,if_false]at hL ⊢
 simp -implicitDefEqProofs[i73,r73,Ex.v,Ex.c]
 refine call_go (full_at hp o v _) ?_
 simp -implicitDefEqProofs[hf]
 refine call_go (ok131 op) ?_
 by_cases h1:op=1
 · subst h1
   simp only[if_true,List.length_append]at hL ⊢
   simp -implicitDefEqProofs
   refine call_go (hN rfl _) ?_
   simp -implicitDefEqProofs
   refine call_go (add_at hp o v (k:=1) (l:=[decI n]) rfl rfl (by simp) (by simpa using hL)) ?_
   simp -implicitDefEqProofs
   exact pr_end hp hcl (by simp) _ rfl
 by_cases h2:op=2
 · subst h2
   simp only[if_true,List.length_append]at hL ⊢
   simp -implicitDefEqProofs
   refine call_go (add_at hp o v (k:=1) (l:=[nm]) rfl rfl (by simp) (by simpa using hL)) ?_
   simp -implicitDefEqProofs
   exact pr_end hp hcl (by simp) _ rfl
 have hlen:0<(sgnO op).2∧(l.length:Int)=(sgnO op).2:=by
  simp only[sglE,h1,h2,if_false,Bool.and_eq_true,decide_eq_true_eq]at hs
  exact hs.1.1
 simp only[h1,h2,if_false]at hL ⊢
 simp -implicitDefEqProofs[h1,h2]
 refine call_go (ok132 op) ?_
 by_cases h3:alnB op=true
 · simp only[h3,if_true]at hL ⊢
   have hg:=lstW_grow (prF l) true hG (o++(sgnO op).1++[40])
   simp at hL hg
   have hl3:l.length≤3:=by
    have:op=18∨op=19∨op=20:=by simp only[alnB,Bool.or_eq_true,decide_eq_true_eq]at h3; omega
    rcases this with rfl | rfl | rfl<;>simp[sgnO]at hlen<;>omega
   generalize hsg:(sgnO op).1=s at *
   simp -implicitDefEqProofs[h3]
   refine call_go (add_at hp o v (k:=1) (l:=[s,[40]]) rfl rfl (by simp) (by simp; omega)) ?_
   simp -implicitDefEqProofs
   have k109:=fun o v L h=>(ok109 (by omega) hE).at hp o v L h
   simp only[exS]at k109
   refine call_goP (k109 (o++(s++[40])) (v+2) _ (by omega)) ?_
   rintro out H' ⟨rfl,v',rfl⟩
   simp -implicitDefEqProofs
   refine call_go (add_at hp _ v' (k:=2) (l:=[[41]]) rfl rfl (by simp) (by simp; omega)) ?_
   simp -implicitDefEqProofs
   exact pr_end hp hcl (by simp) _ rfl
 rw[Bool.not_eq_true]at h3
 simp only[h3,Bool.false_eq_true,if_false]at hL ⊢
 by_cases h4:(sgnO op).2=1
 · simp only[h4,if_true]at hL ⊢
   have hl1:l.length=1:=by omega
   obtain⟨a,rfl⟩:=List.length_eq_one_iff.1 hl1
   have k133:=fun o v L h=>(ok133 (hE a (by simp))).at hp o v L h
   have hv:a.v=.agg a.c:=by cases a; rfl
   simp only[hv]at k133
   have hgo:=opdW_grow (x:=(a.opE,prE a)) (prE_grow a) (o++(sgnO op).1++[32])
   have hnth:∀ o,nthW (prF [a]) 0 o=opdW (a.opE,prE a) o:=fun o=>rfl
   rw[hnth]at hL ⊢
   have hg:List.take 5 (Ex.cL [a])=a.c:=by have:=exL_get (l:=[a]) (i:=0) (by simp); simpa using this
   have hcl5:(Ex.cL [a]).length=5:=exL_len [a]
   generalize hsg:(sgnO op).1=s at *
   simp at hgo hL
   simp -implicitDefEqProofs[h3,h4]
   refine call_go (add_at hp o v (k:=1) (l:=[s,[32]]) rfl rfl (by simp) (by simp; omega)) ?_
   simp -implicitDefEqProofs[hg,hcl5]
   refine call_goP (k133 (o++(s++[32])) (v+2) _ (by omega)) ?_
   rintro out H' ⟨rfl,v',rfl⟩
   simp -implicitDefEqProofs
   exact pr_end hp hcl (by simp) _ rfl
 · simp only[h4,if_false]at hL ⊢
   have hl2:l.length=2:=by
    have hop:op≠18∧op≠19∧op≠20:=by simpa[alnB,and_assoc]using h3
    have:(sgnO op).2=1∨(sgnO op).2=2∨(sgnO op).2=0:=by
     unfold sgnO
     repeat' split
     all_goals simp_all
    omega
   obtain⟨a,b,rfl⟩:∃ a b,l=[a,b]:=by
    match l,hl2 with
    | [a,b],_=>exact⟨a,b,rfl⟩
   have ka:=fun o v L h=>(ok133 (hE a (by simp))).at hp o v L h
   have kb:=fun o v L h=>(ok133 (hE b (by simp))).at hp o v L h
   have hva:a.v=.agg a.c:=by cases a; rfl
   have hvb:b.v=.agg b.c:=by cases b; rfl
   simp only[hva]at ka
   simp only[hvb]at kb
   have hna:∀ o,nthW (prF [a,b]) 0 o=opdW (a.opE,prE a) o:=fun o=>rfl
   have hnb:∀ o,nthW (prF [a,b]) 1 o=opdW (b.opE,prE b) o:=fun o=>rfl
   rw[hna,hnb]at hL ⊢
   have hga:=opdW_grow (x:=(a.opE,prE a)) (prE_grow a) o
   have hgb:=opdW_grow (x:=(b.opE,prE b)) (prE_grow b) (opdW (a.opE,prE a) o++[32]++(sgnO op).1++[32])
   have hg:List.take 5 (Ex.cL [a,b])=a.c:=by have:=exL_get (l:=[a,b]) (i:=0) (by simp); simpa using this
   have hg2:List.take 5 (List.drop 5 (Ex.cL [a,b]))=b.c:=by have:=exL_get (l:=[a,b]) (i:=1) (by simp); simpa using this
   have hcl5:(Ex.cL [a,b]).length=10:=exL_len [a,b]
   generalize hsg:(sgnO op).1=s at *
   simp at hgb hL
   simp -implicitDefEqProofs[h3,h4,hg,hcl5]
   refine call_goP (ka o v _ (by omega)) ?_
   rintro out H' ⟨rfl,v',rfl⟩
   generalize opdW (a.opE,prE a) o=o1 at *
   simp -implicitDefEqProofs
   refine call_go (add_at hp o1 v' (k:=1) (l:=[[32],s,[32]]) rfl rfl (by simp) (by simp; omega)) ?_
   simp -implicitDefEqProofs[hg,hg2,hcl5]
   refine call_goP (kb (o1++32::(s++[32])) (v'+3) _ (by omega)) ?_
   rintro out H' ⟨rfl,v'',rfl⟩
   simp -implicitDefEqProofs
   exact pr_end hp hcl (by simp) _ rfl
mutual
theorem ok73:∀ (e:Ex),e.prp->PrK 73 [e.v] (prE e)
 | .mk op n nm l p,he=>ok73s he (ok73L l (by unfold Ex.prp at he; exact he.2.2.2))
theorem ok73L:∀ (l:List Ex),Ex.prpL l->∀ e∈l,PrK 73 [e.v] (prE e)
 | [],_,_,h=>by cases h
 | e::r,hl,x,hx=>by
  unfold Ex.prpL at hl
  by_cases hh:x=e
  · rw[hh]; exact ok73 e hl.1
  · exact ok73L r hl.2 x (by simpa[hh]using hx)
end
end
end Go.Proofs.YtmkdpmfhlfhjkaaGreatDoor
namespace Go.Proofs.YtmkdpmfhlfhjkaaGreatDoor
open Go.Ab
def m72_0:IC:=.keep [3,4]
 (.seq
  (.seq
   (.reg [
     ⟨(some 11),none,.p (.mov (.t 3))⟩,
     ⟨(some 12),none,.p (.len (.t 11))⟩,
     ⟨(some 13),none,.p (.bin .gtr (.i .i64) (.t 12) (.c (i64 0)))⟩])
   (.cond (.t 13)
    .skip
    (.exit 0)))
  (.blk 1
   (.seq
    (.reg [
      ⟨(some 14),none,.p (.mov (.t 3))⟩,
      ⟨(some 15),none,.p (.mov (.t 3))⟩,
      ⟨(some 16),none,.p (.len (.t 15))⟩,
      ⟨(some 17),none,.p (.bin .sub (.i .i64) (.t 16) (.c (i64 1)))⟩,
      ⟨(some 18),none,.p (.ia 1 (.t 14) (.t 17))⟩,
      ⟨(some 19),none,.p (.ld1 (.t 18))⟩,
      ⟨(some 5),none,.p (.mov (.t 19))⟩])
    (.seq
     (.reg [
       ⟨(some 20),none,.p (.mov (.t 3))⟩,
       ⟨(some 21),none,.p (.mov (.t 3))⟩,
       ⟨(some 22),none,.p (.len (.t 21))⟩,
       ⟨(some 23),none,.p (.bin .sub (.i .i64) (.t 22) (.c (i64 1)))⟩,
       ⟨(some 24),none,.p (.sl 1 (.t 20) none (some (.t 23)))⟩,
       ⟨(some 3),none,.p (.mov (.t 24))⟩])
     (.seq
      (.seq
       (.reg [
         ⟨(some 25),none,.p (.mov (.t 5))⟩,
         ⟨(some 26),none,.p (.lnv (.t 25))⟩,
         ⟨(some 27),none,.p (.bin .eql (.i .i64) (.t 26) (.c (i64 0)))⟩,
         ⟨(some 28),none,.p (.mov (.t 27))⟩,
         ⟨(some 29),(some (28,false)),.p (.mov (.t 4))⟩,
         ⟨(some 30),(some (28,false)),.p (.mov (.t 5))⟩,
         ⟨(some 31),(some (28,false)),.p (.iav 5 (.t 30) (.c (i64 0)))⟩,
         ⟨(some 32),(some (28,false)),.p (.lkp (.p 25) false (i64 0) (.t 29) (.t 31))⟩,
         ⟨(some 33),(some (28,false)),.p (.mov (.t 5))⟩,
         ⟨(some 34),(some (28,false)),.p (.lnv (.t 33))⟩,
         ⟨(some 35),(some (28,false)),.p (.bin .geq (.i .i64) (.t 32) (.t 34))⟩,
         ⟨(some 36),none,.p (.pick (.t 28) (.c (bl true)) (.t 35))⟩])
       (.cond (.t 36)
        (.exit 1)
        .skip))
      (.seq
       (.reg [
         ⟨(some 37),none,.p (.mov (.t 4))⟩,
         ⟨(some 38),none,.p (.mov (.t 5))⟩,
         ⟨(some 39),none,.p (.iav 5 (.t 38) (.c (i64 0)))⟩,
         ⟨(some 40),none,.p (.mov (.t 5))⟩,
         ⟨(some 41),none,.p (.lnv (.t 40))⟩,
         ⟨none,none,.e (.mup (.p 25) (.t 37) (.t 39) (.t 41))⟩])
       (.seq
        (.reg [
          ⟨(some 42),none,.p (.mov (.t 5))⟩,
          ⟨(some 43),none,.p (.lnv (.t 42))⟩,
          ⟨(some 44),none,.p (.mov (.c (i64 0)))⟩])
        (.blk 2
         (.loop l72_1)))))))))
def i72m:IC :=
 (.seq
  (.reg [
    ⟨(some 2),none,.p (.mov (.c (bl false)))⟩])
  (.seq
   (.reg [
     ⟨(some 8),none,.p (.mov (.t 0))⟩,
     ⟨(some 9),none,.e (.bsl 23 1 1 [.val (.slice none 0 0)] [(0,(.t 8))])⟩,
     ⟨(some 3),none,.p (.mov (.t 9))⟩])
   (.seq
    (.reg [
      ⟨(some 10),none,.e (.mkm 163)⟩,
      ⟨(some 4),none,.p (.mov (.t 10))⟩])
    (.seq
     (.blk 0
      (.loop m72_0))
     (.seq
      (.reg [
        ⟨(some 2),none,.p (.mov (.c (bl true)))⟩])
      .ret)))))
theorem c72m:chkF Tryz.prog drawB Tryz.f72 i72m r72=true:=by kernel_rfl
section
variable {P:Program}
theorem _root_.Go.Ab.Ok.kn (G:KnEnv) {f:FuncId} {args:List SV} {H H':List AO} {out:Out} (h : @Ok _ _ knNone P f args H out H') : @Ok _ _ G P f args H out H':=by
 refine⟨h.1,fun S vs hH hS hv=>(h.2 S vs hH (Sim.to G knNone hS (fun q hq=>by cases hq)) hv).mono ?_⟩
 rintro e w ⟨v,ρ',h1,h2,h3⟩
 exact⟨v,ρ',h1,Sim.to knNone G h2 (@St.KF.ext _ _ G _ _ _ (@Sim.kf _ _ G _ hS) h1),h3⟩
end
section
variable [G0:KnEnv]
theorem LI.learn0 {P:Program} {N:Nat} {D:Array Oper->List Nat->List Ins->Bool} {i:IC} {env:Env} {H:List AO} {K:XE->Env->List AO->Prop} (j p:Nat) {o:AO} {cells:List SV} {len:Nat}
 (ho:H[j]? = some o) (hl:o.live=true) (hp:o.cells[p]? = some (.slc cells len))
 (h:∀ (a:Option Addr) (cap:Nat),LI P N D i env (H.set j ⟨o.cells.set p (.val (.slice a len cap)),o.ty,o.ver,true⟩) K) :
 LI P N D i env H K:=by
 intro c hc db S a hH hS he hN hd
 subst hH
 have h1:=hS.live j o ho hl
 cases hρ:S.ρ j with
 | none=>rw[hρ]at h1; rw[h1]at hp; simp at hp
 | some b =>
  rw[hρ]at h1
  obtain⟨us,rest,h2,h3⟩:=h1
  obtain⟨u,hu1,hu2⟩:=h3.get hp
  obtain⟨ad,cap,rfl⟩:∃ ad cap,u=.slice ad len cap:=by
   cases hu2 with
   | nilslc=>exact⟨none,0,rfl⟩
   | slc cells len a cap us hc hl hi h=>exact⟨some a,cap,rfl⟩
  have hS':Sim ⟨S.ρ,S.H.set j ⟨o.cells.set p (.val (.slice ad len cap)),o.ty,o.ver,true⟩,S.w⟩:=by
   refine sim_retellR hS ho hl ?_ ?_
   · intro s hs
     rcases List.mem_or_eq_of_mem_set hs with hs | rfl
     · exact(hS.bel j o ho s hs).2 hl
     · rfl
   · intro us' hl' hv'
     have e:us'.length=us.length:=hv'.1.trans h3.1.symm
     have:us'=us:=by
      unfold St.lies at hl'
      rw[hρ]at hl'
      obtain⟨rest',h4⟩:=hl'
      rw[h2]at h4
      have h5:us++rest=us'++rest':=by simpa using h4
      exact(List.append_inj h5 e.symm).1.symm
     subst this
     refine⟨us'.length,?_⟩
     rw[List.take_length]
     refine⟨by simpa using h3.1,fun k s v hs hv => ?_⟩
     by_cases hk:k=p
     · subst hk
       rw[hu1]at hv; cases hv
       rw[List.getElem?_set_self (getElem?_lt hp)]at hs; cases hs
       exact .val _
     · rw[List.getElem?_set_ne (by omega)]at hs
       exact h3.2 k s v hs hv
  have hx:=ext_retell ho hl (o.cells.set p (.val (.slice ad len cap)))
  have hd':=hd.ext hS hx
  refine loopIn_mono (h ad cap c hc db ⟨S.ρ,S.H.set j ⟨o.cells.set p (.val (.slice ad len cap)),o.ty,o.ver,true⟩,S.w⟩ a rfl hS' (he.ext hx) hN hd') fun e a' w hp => ?_
  obtain⟨x,env',ρ,H',k1,k2,k3,k4,k5,k6,k7⟩:=hp
  exact⟨x,env',ρ,H',k1,hx.trans (k2.mono (hx.len (Nat.le_refl _))),k3,k4,k5,k6,k7⟩
theorem Tell.knownE {env:Env} {H:List AO} {k:Nat} {a:Addr} {len cap:Nat} (hg:env.get k=.val (.slice (some a) len cap)) {cells:List SV} (hk:(SV.slc cells len,Value.slice (some a) len cap)∈KnEnv.kn) :
 Tell env H ((k,.slc cells len)::env) H:=by
 intro S tmps hH hS he
 subst hH
 refine⟨S.ρ,Ext.refl _ _,hS,⟨fun t => ?_⟩⟩
 simp only[Env.get]
 by_cases ht:k=t
 · subst ht
   have:=he.get k
   rw[hg]at this
   rw[if_pos rfl]
   generalize tmps.getD k undef=u at this
   cases this
   exact(hS.kf _ hk).2
 · rw[if_neg ht]; exact he.get t
end
theorem msetK_mem {k:Value}:∀ {ks:List Value} {x:Value},x∈msetK k ks->x∈ks∨x=k
 | [],x,h=>by simp[msetK]at h; exact .inr h
 | y::ks,x,h=>by
  rw[msetK]at h
  split at h
  · exact .inl h
  · rcases List.mem_cons.1 h with rfl | h
    · exact .inl (.head _)
    · rcases msetK_mem h with h | h
      · exact .inl (.tail _ h)
      · exact .inr h
theorem msetV_mem {k:Value} {v:SV}:∀ {ks:List Value} {vs:List SV} {x:SV},x∈msetV k v ks vs->x∈vs∨x=v
 | [],vs,x,h=>by simp[msetV]at h; exact .inr h
 | _::_,[],x,h=>by simp[msetV]at h; exact .inr h
 | a::ks,b::vs,x,h=>by
  rw[msetV]at h
  split at h
  · rcases List.mem_cons.1 h with rfl | h
    · exact .inr rfl
    · exact .inl (.tail _ h)
  · rcases List.mem_cons.1 h with rfl | h
    · exact .inl (.head _)
    · rcases msetV_mem h with h | h
      · exact .inl (.tail _ h)
      · exact .inr h
theorem mset_len {k:Value} {v:SV}:∀ {ks:List Value} {vs:List SV},ks.length=vs.length->(msetK k ks).length=(msetV k v ks vs).length
 | [],[],_=>rfl
 | a::ks,b::vs,h=>by
  rw[msetK,msetV]
  split
  · simpa using h
  · have:=mset_len (k:=k) (v:=v) (ks:=ks) (vs:=vs) (by simpa using h)
    simp[this]
theorem lkm_mem {k:Value}:∀ {ks:List Value} {vs:List SV} {x:SV},lkm k ks vs=some x->x∈vs
 | [],_,_,h=>by simp[lkm]at h
 | _::_,[],_,h=>by simp[lkm]at h
 | a::ks,b::vs,x,h=>by
  rw[lkm]at h
  split at h
  · cases h; exact .head _
  · exact .tail _ (lkm_mem h)
mutual
def cstE:Ex->Nat
 | .mk _ _ _ l _=>cstL l
def cstL:List Ex->Nat
 | []=>1
 | e::r=>cstE e+cstL r
end
def Ex.lsE:Ex->List Ex
 | .mk _ _ _ l _=>l
def cstT (td:List (List Ex)):Nat:=(td.map cstL).sum
theorem cstL_pos:∀ l:List Ex,1≤cstL l
 | []=>by simp[cstL]
 | e::r=>by rw[cstL]; have:=cstL_pos r; omega
theorem cstL_eq:∀ l:List Ex,cstL l=1+cstT (l.map Ex.lsE)
 | []=>rfl
 | e::r=>by
  obtain⟨a,b,c,d,f⟩:=e
  rw[cstL,cstL_eq r,cstE]
  simp only[cstT,List.map_cons,List.sum_cons,Ex.lsE]
  omega
theorem cstT_app (a b:List (List Ex)):cstT (a++b)=cstT a+cstT b:=by simp[cstT]
theorem cstT_len:∀ td:List (List Ex),td.length≤cstT td
 | []=>Nat.le_refl _
 | l::r=>by
  have h1:=cstL_pos l
  have h2:=cstT_len r
  simp only[cstT,List.map_cons,List.sum_cons,List.length_cons]at h2 ⊢
  omega
def exR (td:List (List Ex)):List SV:=td.map exS
@[simp] theorem exR_len (td:List (List Ex)):(exR td).length=td.length:=by simp[exR]
abbrev TS (td:List (List Ex)) (kp:List Value) (vp:List SV) (vt:Nat) (G:List AO):List AO:=⟨exR td,23,vt,true⟩::⟨.mk kp::vp,163,0,false⟩::G
structure TE (n:Nat) (td:List (List Ex)) (vt:Nat) (env:Env):Prop where
 s3:env.get 3=.own n 0 td.length 1 vt
 s4:env.get 4=.mp (n+1) 0
theorem ug_mp (i v:Nat):(SV.mp i v).ug=SV.mp i v:=rfl
theorem mo1 (H:List AO) (a:AO) (ks:List Value) (vs:List SV) (T:TypeId) (G:List AO):SV.mapOf (H++a::⟨.mk ks::vs,T,0,false⟩::G) (.mp (H.length+1) 0)=some (ks,vs):=by
 simp[SV.mapOf]
section
variable [KnEnv] {H:List AO} {kp:List Value} {vp:List SV} {N:Nat} {K:XE->Env->List AO->Prop}
theorem prop_end {vt:Nat} {G:List AO} {env:Env} (he:TE H.length [] vt env) (h:∀ env G,K (.exit 0) env (H++G)) :
 LI Tryz.prog N drawB m72_0 env (H++TS [] kp vp vt G) K:=by
 obtain⟨h3,h4⟩:=he
 refine li_go hm m72_0.eq_1 ?_
 simp -implicitDefEqProofs[h3,h4]
 exact h _ _
theorem prop_nil {rest:List (List Ex)} {vt:Nat} {G:List AO} {env:Env} (hr:rest.length<2000000000) (he:TE H.length (rest++[[]]) vt env)
 (h:∀ G env,TE H.length rest vt env->LI Tryz.prog N drawB m72_0 env (H++TS rest kp vp vt G) K) :
 LI Tryz.prog N drawB m72_0 env (H++TS (rest++[[]]) kp vp vt G) K:=by
 obtain⟨h3,h4⟩:=he
 have hl:(rest++[([]:List Ex)]).length=rest.length+1:=by simp
 rw[hl]at h3
 have hcell:exR (rest++[[]])=exR rest++[.slc [] 0]:=by simp[exR,exS,Ex.cL]
 refine LI.learn0 H.length rest.length (o:=⟨exR (rest++[[]]),23,vt,true⟩) (cells:=[]) (len:=0) (by simp) rfl (by rw[hcell]; simp[exR]) fun oa cap => ?_
 have hset:(exR (rest++[[]])).set rest.length (.val (.slice oa 0 cap))=exR rest++[.val (.slice oa 0 cap)]:=by
  rw[hcell,List.set_append_right _ _ (by simp)]; simp
 refine LI.cong (H':=H++⟨exR rest++[.val (.slice oa 0 cap)],23,vt,true⟩::⟨.mk kp::vp,163,0,false⟩::G) (by rw[←hset]; simp) ?_
 have hcl:=exR_len rest
 have htk:List.take rest.length (exR rest++[SV.val (.slice oa 0 cap)])=exR rest:=List.take_left' hcl
 have hcc:(exR rest++[SV.val (.slice oa 0 cap)]).length=rest.length+1:=by simp
 have hgd:(List.drop rest.length (exR rest++[SV.val (.slice oa 0 cap)]))=[.val (.slice oa 0 cap)]:=List.drop_left' hcl
 have w1:IntKind.i64.wrap (rest.length:Int)=(rest.length:Int):=wrap_nat (by omega)
 refine li_go hm m72_0.eq_1 ?_
 generalize exR rest++[SV.val (.slice oa 0 cap)]=cc at *
 simp -implicitDefEqProofs[h3,h4,w1,hcc,hgd]
 refine⟨by omega,LI.tell (Tell.trunc (j:=H.length) (o:=⟨cc,23,vt,true⟩) (by simp) rfl rest.length) (LI.cong (H':=H++TS rest kp vp vt G) (by simp[htk]) (h G _ ⟨by simp,by simp[h4]⟩))⟩
theorem prop_in {l:List Ex} (hl3:l.length≤100) (hok:∀ e∈l,e.prp) {rest:List (List Ex)} (hr:rest.length+200<2000000000)
 (h:∀ vt G env,TE H.length (rest++l.map Ex.lsE) vt env->K (.exit 2) env (H++TS (rest++l.map Ex.lsE) kp vp vt G)) :
 ∀ (m i vt:Nat) (G:List AO) (env:Env),i+m=l.length->TE H.length (rest++(l.take i).map Ex.lsE) vt env->env.get 42=exS l->env.get 43=i64 l.length->env.get 44=i64 i →
  LI Tryz.prog N drawB l72_1 env (H++TS (rest++(l.take i).map Ex.lsE) kp vp vt G) K:=by
 intro m
 induction m with
 | zero =>
  intro i vt G env hi he h42 h43 h44
  obtain⟨h3,h4⟩:=he
  refine li_go hm l72_1.eq_1 ?_
  have e:i=l.length:=by omega
  subst e
  rw[List.take_length]at *
  simp -implicitDefEqProofs[h3,h4,h42,h43,h44]
  exact h vt G _ ⟨by simp[h3],by simp[h4]⟩
 | succ m ih =>
  intro i vt G env hi he h42 h43 h44
  obtain⟨h3,h4⟩:=he
  refine li_go hm l72_1.eq_1 ?_
  have hlt:i<l.length:=by omega
  have hlt':(i:Int)<l.length:=by omega
  have hg:=exL_get hlt
  have hcl':=exL_len l
  have hoke:=hok _ (List.getElem_mem hlt)
  have htk:rest++(l.take (i+1)).map Ex.lsE=(rest++(l.take i).map Ex.lsE)++[l[i].lsE]:=by
   rw[←List.take_append_getElem hlt,List.map_append,List.append_assoc]; rfl
  have ih:=ih (i+1)
  rw[htk]at ih
  have hrl:(rest++(l.take i).map Ex.lsE).length<2000000000:=by simp; omega
  generalize rest++(l.take i).map Ex.lsE=td at *
  generalize l[i]=e at *
  obtain⟨op,n,nm,le,p⟩:=e
  unfold Ex.prp at hoke
  have h130:=fun H=>Ok.kn inferInstance (ok130 (H:=H) (e:=.mk op n nm le p) hoke.1 hoke.2.1)
  have hex:=exR_len td
  simp -implicitDefEqProofs[h3,h4,h42,h43,h44,exS,hlt,hlt',hg,hcl',Ex.c]
  refine⟨by omega,call_go (h130 _) ?_⟩
  simp -implicitDefEqProofs[h3,h4,h42,h43,h44,exS,hlt,hlt']
  refine⟨by omega,by omega,LI.cong ?_ (ih (vt+1) (G++[⟨[i64 op,i64 n,st (B nm),.slc (Ex.cL le) le.length,i64 p],25,0,true⟩,⟨[.slc (Ex.cL le) le.length],23,0,true⟩]) _ (by omega) ⟨?_,?_⟩ ?_ ?_ ?_)⟩
  · simp[exR,Ex.lsE,exS]
  · simp
  · simp
  · simp[exS]
  · simp
  · simp[wrap_suc (show i<9223372036854775807 by omega)]
theorem prop_op1 {l:List Ex} {rest:List (List Ex)} {a:Addr} {cap vt:Nat} {G:List AO} {env:Env} (hk:(exS l,Value.slice (some a) l.length cap)∈KnEnv.kn) (hl0:l≠[]) (hl3:l.length≤100) (hok:∀ e∈l,e.prp) (hr:rest.length+200<2000000000)
 (hkl:kp.length=vp.length) (hkn:∀ v∈kp,knowB v) (hvp:∀ x∈vp,∃ n,x=i64 n) (he:TE H.length (rest++[l]) vt env)
 (hskip:∀ G env,TE H.length rest vt env->LI Tryz.prog N drawB m72_0 env (H++TS rest kp vp vt G) K)
 (h:∀ kp' vp' vt G env,kp'.length=vp'.length->(∀ v∈kp',knowB v)->(∀ x∈vp',∃ n,x=i64 n)->TE H.length (rest++l.map Ex.lsE) vt env->LI Tryz.prog N drawB m72_0 env (H++TS (rest++l.map Ex.lsE) kp' vp' vt G) K) :
 LI Tryz.prog N drawB m72_0 env (H++⟨exR rest++[.val (.slice (some a) l.length cap)],23,vt,true⟩::⟨.mk kp::vp,163,0,false⟩::G) K:=by
 obtain⟨h3,h4⟩:=he
 have hl:(rest++[l]).length=rest.length+1:=by simp
 rw[hl]at h3
 have hknow:knowB (.pointer (some a)):=by
  refine⟨rfl,a,Ex.cL l,l.length,cap,rfl,hk,?_⟩
  cases l with
  | nil=>exact absurd rfl hl0
  | cons x r =>
   obtain⟨op,n,nm,l,p⟩:=x
   exact⟨B nm,by rw[Ex.cL,Ex.c]; exact List.mem_append_left _ (.tail _ (.tail _ (.head _)))⟩
 have hkall:∀ v∈Value.pointer (some a)::kp,(KK.p 25).knows v:=by
  intro v hv
  rcases List.mem_cons.1 hv with rfl | hv
  · exact hknow
  · exact hkn v hv
 have hkis:∀ v∈kp,(KK.p 25).is v=true:=by
  intro v hv
  obtain⟨_,b,_,_,_,rfl,_⟩:=hkn v hv
  rfl
 have hl0':¬ (l.length:Int)=0:=by
  cases l with
  | nil=>exact absurd rfl hl0
  | cons x r=>simp; omega
 have hl00:¬ l.length=0:=by omega
 have hpos:0<l.length:=by omega
 have hcl:=exR_len rest
 have htk:List.take rest.length (exR rest++[SV.val (.slice (some a) l.length cap)])=exR rest:=List.take_left' hcl
 have hcc:(exR rest++[SV.val (.slice (some a) l.length cap)]).length=rest.length+1:=by simp
 have hgd:(List.drop rest.length (exR rest++[SV.val (.slice (some a) l.length cap)]))=[.val (.slice (some a) l.length cap)]:=List.drop_left' hcl
 have w1:IntKind.i64.wrap (rest.length:Int)=(rest.length:Int):=wrap_nat (by omega)
 refine li_go hm m72_0.eq_1 ?_
 generalize exR rest++[SV.val (.slice (some a) l.length cap)]=cc at *
 obtain⟨n,hn⟩:∃ n,(lkm (Value.pointer (some a)) kp vp).getD (i64 0)=i64 n:=by
  cases hlk:lkm (Value.pointer (some a)) kp vp with
  | none=>exact⟨0,rfl⟩
  | some x=>obtain⟨n,rfl⟩:=hvp x (lkm_mem hlk); exact⟨n,rfl⟩
 have hal:((kp,vp):List Value×List SV).1.all (KK.p 25).is=true:=List.all_eq_true.2 hkis
 have add0:a.add 0=a:=if_pos rfl
 by_cases hmet:(l.length:Int)≤n
 · simp -implicitDefEqProofs[h3,h4,w1,hcc,hgd,hl0',hl00,hl0,hpos,mo1,ug_mp,add0,hn,hmet,SV.isK,SV.key,SV.isP,SV.pval]
   refine⟨by omega,⟨rfl,hkis,hkall _ (.head _),fun v hv=>hkall v (.tail _ hv)⟩,LI.tell (Tell.trunc (j:=H.length) (o:=⟨cc,23,vt,true⟩) (by simp) rfl rest.length) (LI.cong (H':=H++TS rest kp vp vt G) (by simp[htk]) (hskip G _ ⟨by simp,by simp[h4]⟩))⟩
 · simp -implicitDefEqProofs[h3,h4,w1,hcc,hgd,hl0',hl00,hl0,hpos,mo1,ug_mp,add0,hn,hmet,SV.isK,SV.key,SV.isP,SV.pval]
   refine⟨by omega,⟨rfl,hkis,hkall _ (.head _),fun v hv=>hkall v (.tail _ hv)⟩,?_⟩
   refine s_mup_go (x:=(kp,vp)) (mo1 ..) rfl rfl hal ?_ (by simpa[SV.key,SV.pval]using hkall)
   simp -implicitDefEqProofs[SV.key,SV.pval]
   refine LI.tell (Tell.knownE (k:=42) (by simp) hk) ?_
   refine LI.tell (Tell.trunc (j:=H.length) (o:=⟨cc,23,vt,true⟩) (by simp) rfl rest.length) ?_
   have hkl':=mset_len (k:=Value.pointer (some a)) (v:=i64 l.length) hkl
   have hkn':∀ v∈msetK (Value.pointer (some a)) kp,knowB v:=fun v hv=>by
    rcases msetK_mem hv with hv | rfl
    · exact hkn v hv
    · exact hknow
   have hvp':∀ x∈msetV (Value.pointer (some a)) (i64 l.length) kp vp,∃ n,x=i64 n:=fun x hx=>by
    rcases msetV_mem hx with hx | rfl
    · exact hvp x hx
    · exact⟨_,rfl⟩
   refine LI.cong (H':=H++TS (rest++(l.take 0).map Ex.lsE) (msetK (Value.pointer (some a)) kp) (msetV (Value.pointer (some a)) (i64 l.length) kp vp) vt G) (by simp[htk]) ?_
   refine prop_in hl3 hok hr (fun vt G env he => ?_) l.length 0 vt G _ (by omega) ⟨?_,?_⟩ ?_ ?_ ?_
   · simp -implicitDefEqProofs
     exact h _ _ vt G env hkl' hkn' hvp' he
   all_goals simp[exS,h4]
theorem prop_op {l:List Ex} {rest:List (List Ex)} {vt:Nat} {G:List AO} {env:Env} (hl0:l≠[]) (hl3:l.length≤100) (hok:∀ e∈l,e.prp) (hr:rest.length+200<2000000000)
 (hkl:kp.length=vp.length) (hkn:∀ v∈kp,knowB v) (hvp:∀ x∈vp,∃ n,x=i64 n) (he:TE H.length (rest++[l]) vt env)
 (h:∀ (kn:KnEnv) td kp' vp' vt G env,(td=rest∨td=rest++l.map Ex.lsE)->kp'.length=vp'.length->(∀ v∈kp',@knowB _ kn v)->(∀ x∈vp',∃ n,x=i64 n)->TE H.length td vt env -> @LI _ _ kn Tryz.prog N drawB m72_0 env (H++TS td kp' vp' vt G) K) :
 LI Tryz.prog N drawB m72_0 env (H++TS (rest++[l]) kp vp vt G) K:=by
 have hne:Ex.cL l≠[]:=by
  cases l with
  | nil=>exact absurd rfl hl0
  | cons x r=>obtain⟨a,b,c,d,e⟩:=x; simp[Ex.cL,Ex.c]
 have hcell:exR (rest++[l])=exR rest++[.slc (Ex.cL l) l.length]:=by simp[exR,exS]
 refine LI.learn H.length rest.length (o:=⟨exR (rest++[l]),23,vt,true⟩) (cells:=Ex.cL l) (len:=l.length) (by simp) rfl (by rw[hcell,List.getElem?_append_right (by simp)]; simp) hne (Ex.undL 0 l) fun a cap => ?_
 have hset:(exR (rest++[l])).set rest.length (.val (.slice (some a) l.length cap))=exR rest++[.val (.slice (some a) l.length cap)]:=by
  rw[hcell,List.set_append_right _ _ (by simp)]; simp
 have hkn':∀ v∈kp,@knowB _ ⟨(.slc (Ex.cL l) l.length,.slice (some a) l.length cap)::KnEnv.kn⟩ v:=fun v hv=>by
  obtain⟨hf,a,cells,len,cap,h1,h2,h3⟩:=hkn v hv
  exact⟨hf,a,cells,len,cap,h1,List.mem_cons_of_mem _ h2,h3⟩
 refine @LI.cong _ _ ⟨(.slc (Ex.cL l) l.length,.slice (some a) l.length cap)::KnEnv.kn⟩ _ _ _ _ _ _ _ _ ?_ (@prop_op1 ⟨(.slc (Ex.cL l) l.length,.slice (some a) l.length cap)::KnEnv.kn⟩ H kp vp N K l rest a cap vt G env (List.mem_cons_self ..) hl0 hl3 hok hr hkl hkn' hvp he
  (fun G env he=>h _ _ _ _ _ G env (.inl rfl) hkl hkn' hvp he) (fun kp' vp' vt G env h1 h2 h3 he=>h _ _ _ _ _ G env (.inr rfl) h1 h2 h3 he))
 rw[←hset]; simp
end
theorem prp_sm:∀ {e:Ex},e.prp->e.lsE.length≤3∧∀ x∈e.lsE,x.prp
 | .mk op n nm l p,h=>by
  unfold Ex.prp at h
  refine⟨?_,prpL_iff.1 h.2.2.2⟩
  have hs:=h.1
  simp only[sglE]at hs
  show l.length≤3
  split at hs
  · simp only[Bool.and_eq_true,decide_eq_true_eq]at hs; rw[hs.1.2]; simp
  · split at hs
    · simp only[Bool.and_eq_true,decide_eq_true_eq]at hs; rw[hs.1.2]; simp
    · simp only[Bool.and_eq_true,decide_eq_true_eq]at hs
      have h3:(sgnO op).2≤3:=by
       unfold sgnO
       repeat' split
       all_goals simp
      have:=hs.1.1.2
      omega
section
variable {H:List AO} {N:Nat} {K:XE->Env->List AO->Prop}
theorem prop_run (hK:∀ env G,K (.exit 0) env (H++G)):∀ (M:Nat),M<1000000000->∀ (kn:KnEnv) (td:List (List Ex)) (kp:List Value) (vp:List SV) (vt:Nat) (G:List AO) (env:Env),cstT td≤M->(∀ l∈td,l.length≤100∧∀ e∈l,e.prp) →
 kp.length=vp.length->(∀ v∈kp,@knowB _ kn v)->(∀ x∈vp,∃ n,x=i64 n)->TE H.length td vt env -> @LI _ _ kn Tryz.prog N drawB m72_0 env (H++TS td kp vp vt G) K:=by
 intro M
 induction M using Nat.strongRecOn with
 | ind M ih =>
  intro hM kn td kp vp vt G env hc hok hkl hkn hvp he
  rcases List.eq_nil_or_concat td with rfl | ⟨rest,l,rfl⟩
  · exact prop_end he hK
  · rw[List.concat_eq_append]at *
    have hrl:=cstT_len (rest++[l])
    simp only[List.length_append,List.length_singleton]at hrl
    rw[cstT_app]at hc hrl
    have hl1:cstT [l]=cstL l:=by simp[cstT]
    rw[hl1]at hc hrl
    have hpos:=cstL_pos l
    have hce:=cstL_eq l
    have hrest:∀ l∈rest,l.length≤100∧∀ e∈l,e.prp:=fun x hx=>hok x (by simp[hx])
    obtain⟨hl3,hle⟩:=hok l (by simp)
    by_cases hl0:l=[]
    · subst hl0
      exact prop_nil (by omega) he fun G env he=>ih (cstT rest) (by omega) (by omega) kn rest kp vp vt G env (Nat.le_refl _) hrest hkl hkn hvp he
    · refine prop_op hl0 hl3 hle (by omega) hkl hkn hvp he fun kn' td kp' vp' vt G env htd h1 h2 h3 he2 => ?_
      rcases htd with rfl | rfl
      · exact ih (cstT td) (by omega) (by omega) kn' td kp' vp' vt G env (Nat.le_refl _) hrest h1 h2 h3 he2
      · refine ih (cstT (rest++l.map Ex.lsE)) (by rw[cstT_app]; omega) (by rw[cstT_app]; omega) kn' _ kp' vp' vt G env (Nat.le_refl _) ?_ h1 h2 h3 he2
        intro x hx
        rcases List.mem_append.1 hx with hx | hx
        · exact hrest x hx
        · obtain⟨e,he,rfl⟩:=List.mem_map.1 hx
          exact⟨Nat.le_trans (prp_sm (hle e he)).1 (by omega),(prp_sm (hle e he)).2⟩
theorem ok72 {l:List Ex} (hl:l.length≤100) (hok:∀ e∈l,e.prp) (hc:cstL l<1000000000):Ok Tryz.prog 72 [exS l] H (.ret (bl true)) H:=by
 refine ok_fn hm Tryz.func72 c72m (by simp[exS,Ex.undL]) fun hcl => ?_
 simp -implicitDefEqProofs[i72m,r72,exS]
 refine LI.cong (H':=H++TS [l] [] [] 0 []) (by simp[exR,exS]) ?_
 refine prop_run (fun env G => ?_) (cstL l) hc _ [l] [] [] 0 [] _ (by simp[cstT]) (by simpa using ⟨hl,hok⟩) rfl (by simp) (by simp) ⟨?_,?_⟩
 · simp -implicitDefEqProofs
   exact cv_fz 3 hcl rfl (by simp)
 all_goals simp
end
end Go.Proofs.YtmkdpmfhlfhjkaaGreatDoor
namespace Go.Proofs.YtmkdpmfhlfhjkaaGreatDoor
open Go.Ab
def shwR (e:Ex):List UInt8×Int :=
 if 20000<(prE e []).length then([],4)else if(exprR (prE e [])).2.1≠0 then([],(exprR (prE e [])).2.1)else(prE e [],0)
theorem sbyts_B (s:List UInt8):sbyts (B s)=s.map fun b=>u8 b.toNat:=by simp[sbyts,B]
theorem bys_go:∀ (s:List UInt8) (acc:ByteArray),(bysL (s.map fun b=>u8 b.toNat)).foldl (fun r n=>r.push (UInt8.ofNat n.toNat)) acc=⟨acc.data++s.toArray⟩
 | [],acc=>by simp[bysL]
 | b::r,acc=>by
  have h:=bys_go r (acc.push b)
  have e:UInt8.ofNat ((((u8 b.toNat).u8n).getD 0).toNat)=b:=by
   show UInt8.ofNat (Int.toNat (b.toNat:Int))=b
   rw[Int.toNat_natCast]; exact UInt8.ofNat_toNat
  rw[List.map_cons,bysL,List.foldl_cons,e,h]
  congr 1
  show acc.data.push b++r.toArray=_
  simp
theorem bysS_B (s:List UInt8):bysS (List.take s.length (sbyts (B s)))=B s:=by
 rw[List.take_of_length_le (by rw[sbyts_len]; exact Nat.le_refl _),sbyts_B,bysS,bys_go]
 simp[B,ByteArray.empty,ByteArray.emptyWithCapacity]; rfl
theorem bysB_B (s:List UInt8):bysB (sbyts (B s)) s.length=true:=by
 rw[bysB,List.take_of_length_le (by rw[sbyts_len]; exact Nat.le_refl _),sbyts_len,sbyts_B]
 simp only[Nat.le_refl,decide_true,Bool.true_and,List.all_eq_true,List.length_map]
 intro x hx
 obtain⟨b,_,rfl⟩:=List.mem_map.1 hx
 rfl
section
variable {H:List AO}
theorem ok28 {e:Ex} (he:e.prp) (hc:cstE e<1000000000-1) (hL:(prE e []).length≤140737488355328):Ok Tryz.prog 28 [e.v] H (.ret (.tup [st (B (shwR e).1),i64 (shwR e).2])) H:=by
 have hD:=draw_ok (P:=Tryz.prog) hm
 have h72:=fun H=>(ok72 (H:=H) (l:=[e]) (by simp) (by simpa using he) (by simp[cstL]; omega)).toP
 have h73:=ok73 e he
 have hv:e.v=.agg e.c:=by cases e; rfl
 have hce:Ex.cL [e]=e.c:=by simp[Ex.cL]
 have hc5:=Ex.c_len e
 have hcok:cellsOk e.c:=by cases e; intro s hs; simp[Ex.c]at hs; rcases hs with rfl | rfl | rfl | rfl | rfl<;>rfl
 rw[hv]at h73 ⊢
 simp only[exS,hce]at h72
 have hcc:e.c.take 5=e.c:=by rw[←hc5,List.take_length]
 have hcu:SV.underL 0 e.c=true:=by have:=Ex.undL 0 [e]; rwa [hce]at this
 refine ok_WI hm Tryz.func28 c28 (by simp[SV.under]) fun hcl => ?_
 generalize e.c=c at *
 rw[show i28=.seq (IC.nth 0 i28) (.seq (IC.nth 1 i28) (.seq (IC.nth 2 i28) (IC.tl 3 i28)))from rfl]
 generalize ht:IC.tl 3 i28=t3
 refine WI.seq hD ?_
 simp -implicitDefEqProofs[IC.nth,i28]
 refine⟨hcok,?_⟩
 refine WI.seq hD ?_
 simp -implicitDefEqProofs[IC.nth,i28,hc5,hcc]
 refine⟨hcok,call_goP (OkP.give (H.length+1) 1 (o:=⟨c,25,0,true⟩) (by simp) rfl (OkP.cast (by simp[hcc,hc5]) rfl (h72 _))) ?_⟩
 rintro out H' ⟨rfl,rfl⟩
 simp -implicitDefEqProofs[AO.dead]
 refine WI.seq hD ?_
 simp -implicitDefEqProofs[IC.nth,i28]
 refine WI.tell (Tell.own0 (j:=H.length+2) (p:=0) (o:=⟨[.val (.slice none 0 0)],85,0,true⟩) (by simp) rfl rfl 5 1) ?_
 simp -implicitDefEqProofs
 have hwr:∀ (o:List UInt8) (v:Nat),wr (H++[⟨c,25,0,true⟩,⟨[],25,1,false⟩,⟨[.own (H.length+3) 0 0 1 0],85,0,true⟩,⟨[],5,0,true⟩]) (H.length+2) (H.length+3) o v =
  H++[⟨c,25,0,true⟩,⟨[],25,1,false⟩,⟨[.own (H.length+3) 0 o.length 1 v],85,0,true⟩,⟨sbyts (B o),5,v,true⟩]:=fun o v=>by
  unfold wr prO byO
  rw[set_app,set_app]; rfl
 have hp:PrA (H++[⟨c,25,0,true⟩,⟨[],25,1,false⟩,⟨[.own (H.length+3) 0 0 1 0],85,0,true⟩,⟨[],5,0,true⟩]) (H.length+2) (H.length+3) [] 0:=⟨by simp[prO],by simp[byO]; rfl,by omega⟩
 have key:=h73 _ _ _ _ _ hp hL
 have hful:=fun v=>ok51 (hp.wr (prE e []) v)
 rw[hwr]at key
 simp only[hwr]at key hful
 have hsh:shwR e=if 20000<(prE e []).length then([],4)else if(exprR (prE e [])).2.1≠0 then([],(exprR (prE e [])).2.1)else(prE e [],0):=rfl
 generalize prE e []=s at *
 generalize shwR e=sh at *
 refine WI.of_X hD ?_
 rw[←ht]
 simp -implicitDefEqProofs[IC.tl,i28,r28,hc5,hcc]
 refine call_goP (OkP.cast (by simp[rp]) (by simp; rfl) key) ?_
 rintro out H' ⟨rfl,v',rfl⟩
 simp -implicitDefEqProofs
 refine call_go (hful v') ?_
 by_cases h2:20000<s.length
 · rw[if_pos h2]at hsh
   subst hsh
   simp -implicitDefEqProofs[h2]
   exact cv_fz 3 hcl rfl (by simp)
 rw[if_neg h2]at hsh
 have h11:=fun H=>ok11x (H:=H) (l:=s) (by omega)
 have hv':(exprR s).1.v=.agg (exprR s).1.c:=by cases (exprR s).1; rfl
 have hc5':=Ex.c_len (exprR s).1
 have hcok':cellsOk (exprR s).1.c:=by cases (exprR s).1; intro s hs; simp[Ex.c]at hs; rcases hs with rfl | rfl | rfl | rfl | rfl<;>rfl
 simp only[hv']at h11
 have h11:=fun H=>h11 H
 generalize (exprR s).1.c=c2 at *
 generalize (exprR s).2.1=er at *
 generalize (exprR s).2.2=po at *
 simp -implicitDefEqProofs[h2,bysB_B,bysS_B,sbyts_len]
 refine call_go (h11 _) ?_
 simp -implicitDefEqProofs[fltV,hc5']
 refine⟨hcok',?_⟩
 by_cases h0:er=0
 · rw[if_pos h0]
   rw[if_neg (by simpa using h0)]at hsh
   subst hsh
   exact cv_fz 3 hcl rfl (by simp; rfl)
 · rw[if_neg h0]
   rw[if_pos h0]at hsh
   subst hsh
   exact cv_fz 3 hcl rfl (by simp)
end
end Go.Proofs.YtmkdpmfhlfhjkaaGreatDoor
namespace Go.Proofs.YtmkdpmfhlfhjkaaGreatDoor
open Go.Ab
def tx1:List UInt8:=[49,32,43,32,50,32,42,32,120]
def ex1:Ex:=.mk 8 0 [] [.mk 1 1 [] [] 0,.mk 5 0 [] [.mk 1 2 [] [] 4,.mk 2 0 [120] [] 8] 6] 2
theorem rd1:exprR tx1=(ex1,0,0):=by kernel_rfl
def tx2:List UInt8:=[97,32,45,32,98,32,45,32,99]
def tw2:List UInt8:=[40,97,32,45,32,98,41,32,45,32,99]
def ex2:Ex:=.mk 9 0 [] [.mk 9 0 [] [.mk 2 0 [97] [] 0,.mk 2 0 [98] [] 4] 2,.mk 2 0 [99] [] 8] 6
theorem rd2:exprR tx2=(ex2,0,0):=by kernel_rfl
theorem pr2:prE ex2 []=tw2:=by kernel_rfl
theorem rw2:(exprR tw2).2=(0,0):=by kernel_rfl
theorem sh2:shwR ex2=(tw2,0):=by
 unfold shwR
 rw[pr2,rw2]; rfl
theorem pp2:ex2.prp:=by
 have h1:sglE (.mk 2 0 [97] [] 0)=true:=by kernel_rfl
 have h2:sglE (.mk 2 0 [98] [] 4)=true:=by kernel_rfl
 have h3:sglE (.mk 2 0 [99] [] 8)=true:=by kernel_rfl
 simp[ex2,Ex.prp,Ex.prpL,h1,h2,h3]
 decide
theorem cs2:cstE ex2<1000000000-1:=by decide
section
variable {H:List AO}
theorem ok17 {tx:List UInt8} {e:Ex} {s w:List UInt8} (hl:tx.length<4611686018427387904) (hr:exprR tx=(e,0,0)) (he:e.prp) (hc:cstE e<1000000000-1) (hL:(prE e []).length≤140737488355328) (hs:shwR e=(s,0)) :
 Ok Tryz.prog 17 [st (B tx),st (B w)] H (.ret (bl (decide (s=w)))) H:=by
 have h11:=fun H=>ok11x (H:=H) (l:=tx) hl
 have h28:=fun H=>ok28 (H:=H) he hc hL
 rw[hr]at h11
 rw[hs]at h28
 have hv:e.v=.agg e.c:=by cases e; rfl
 have hc5:=Ex.c_len e
 have hcok:cellsOk e.c:=by cases e; intro s hs; simp[Ex.c]at hs; rcases hs with rfl | rfl | rfl | rfl | rfl<;>rfl
 have hcc:e.c.take 5=e.c:=by rw[←hc5,List.take_length]
 simp only[hv,fltV,if_true]at h11 h28
 generalize e.c=c at *
 refine ok_fn hm Tryz.func17 c17 (by simp) fun hcl => ?_
 simp -implicitDefEqProofs[i17,r17]
 refine call_go (h11 _) ?_
 simp -implicitDefEqProofs[hc5,hcc]
 refine⟨hcok,?_⟩
 refine call_go (h28 _) ?_
 simp -implicitDefEqProofs
 exact cv_fz 3 hcl rfl (by simp)
theorem ok10:Ok Tryz.prog 10 [] H (.ret (bl true)) H:=by
 have hD:=draw_ok (P:=Tryz.prog) hm
 have h11:=fun H=>ok11x (H:=H) (l:=tx1) (by decide)
 have h13:=fun H=>ok13 ex1 (by simp[ex1,Ex.sm,Ex.smL]) H
 have h17:=fun H=>ok17 (H:=H) (tx:=tx2) (w:=tw2) (by decide) rd2 pp2 cs2 (by rw[pr2]; decide) sh2
 rw[rd1]at h11
 simp only[decide_true]at h17
 refine ok_WI hm Tryz.func10 c10 rfl fun hcl => ?_
 rw[show i10=.seq (IC.nth 0 i10) (.seq (IC.nth 1 i10) (.seq (IC.nth 2 i10) (IC.tl 3 i10)))from rfl]
 generalize ht:IC.tl 3 i10=t3
 refine WI.seq hD ?_
 simp -implicitDefEqProofs[IC.nth,i10]
 refine WI.seq hD ?_
 simp -implicitDefEqProofs[IC.nth,i10]
 refine call_go (h11 _) ?_
 simp -implicitDefEqProofs[ex1,Ex.v,Ex.c,fltV]
 refine WI.seq hD ?_
 simp -implicitDefEqProofs[IC.nth,i10]
 refine⟨rfl,?_⟩
 refine WI.keep [0,1,2,3] ?_
 simp -implicitDefEqProofs
 refine WI.tell (Tell.give hcl 2 2 rfl rfl) ?_
 simp -implicitDefEqProofs[AO.gv,AO.dead]
 refine WI.tell (Tell.give hcl 3 2 rfl rfl) ?_
 simp -implicitDefEqProofs[AO.gv,AO.dead]
 refine WI.of_X hD ?_
 rw[←ht]
 simp -implicitDefEqProofs[IC.tl,i10,r10]
 refine callq_st (r:=bl true) (fun _=>(OkP.le ?_ (h13 _).toP).toOk) ?_
 · simp only[ex1,Ex.v,Ex.cL,Ex.c,List.cons_append,List.nil_append,List.append_nil,List.map,SV.strip,List.length_cons,List.length_nil]
   repeat first
    | exact leL.nil
    | refine leL.cons ?_ ?_
    | exact SV.le.refl _
    | exact le_nil
    | refine le_slc ?_ _
    | refine le_agg ?_
 simp -implicitDefEqProofs
 refine callq_go (r:=bl true) (fun _=>h17 _) ?_
 simp -implicitDefEqProofs
 exact cv_fz 3 hcl rfl (by simp)
end
end Go.Proofs.YtmkdpmfhlfhjkaaGreatDoor
namespace Go.Proofs.YtmkdpmfhlfhjkaaGreatDoor
open Go.Ab
def RdA {α:Type} (c:Cx) (k:FuncId) (args:List SV) (F:Rd->α×Rd) (v:α->SV) (d:Nat):Prop :=
 ∀ {H:List AO} {j:Nat} {r:Rd},j<H.length->Gd c d r->Ok Tryz.prog k (rp j::args) (H.set j (rdO c r)) (.ret (v (F r).1)) (H.set j (rdO c (F r).2))
theorem RdA.app {α:Type} {c:Cx} {k:FuncId} {args:List SV} {F:Rd->α×Rd} {v:α->SV} {d:Nat} (h:RdA c k args F v d) {H:List AO} {j:Nat} {r:Rd} (hj:j<H.length) (hr:Gd c d r) (L:List AO) :
 Ok Tryz.prog k (rp j::args) (H.set j (rdO c r)++L) (.ret (v (F r).1)) (H.set j (rdO c (F r).2)++L):=by
 have:=h (H:=H++L) (j:=j) (r:=r) (by simp; omega) hr
 rwa [List.set_append_left _ _ hj,List.set_append_left _ _ hj]at this
theorem t2_keep {c:Cx} {d:Nat} (s:List UInt8) {r:Rd} (h:Gd c d r):Gd c d (t2 c s r)∧r.a≤(t2 c s r).a:=take_keep s r h
theorem t2_strict {c:Cx} {s:List UInt8} {r:Rd} (h:(t2 c s r).e=0):r.e=0∧(t2 c s r).a=r.a+1:=by
 unfold t2 takeR at *
 split at h
 · rename_i hp
   rw[if_pos hp]
   exact⟨(peek_tok hp).1,rfl⟩
 · exfalso
   simp only[failR]at h
   split at h
   · exact absurd h (show ¬ (11:Int)=0 by decide)
   · rename_i h2; exact h2 h
end Go.Proofs.YtmkdpmfhlfhjkaaGreatDoor
namespace Go.Proofs.YtmkdpmfhlfhjkaaGreatDoor
open Go.Ab
theorem exprsL_keep {c:Cx} {d:Nat} {orP:Rd->Ex×Rd} (hk:Kp c d orP):∀ (n:Nat) (l:List Ex) (r:Rd),Gd c d r->Gd c d (exprsL c orP n l r).2∧r.a≤(exprsL c orP n l r).2.a
 | 0,l,r,h=>⟨h,Nat.le_refl _⟩
 | n+1,l,r,h=>by
  rw[exprsL]
  split
  · obtain⟨h1,h2⟩:=t2_keep [44] h
    have h3:Gd c d (if l.length=32∧begR c (t2 c [44] r)=true then failR c 12 (t2 c [44] r)else t2 c [44] r)∧(if l.length=32∧begR c (t2 c [44] r)=true then failR c 12 (t2 c [44] r)else t2 c [44] r).a=(t2 c [44] r).a:=by
     split
     · obtain⟨h4,h5,_⟩:=fail_keep (e:=12) (by decide) h1; exact⟨h4,h5⟩
     · exact⟨h1,rfl⟩
    dsimp only
    generalize (if l.length=32∧begR c (t2 c [44] r)=true then failR c 12 (t2 c [44] r)else t2 c [44] r)=r2 at h3 ⊢
    obtain⟨h6,h7⟩:=hk _ h3.1
    obtain⟨h8,h9⟩:=exprsL_keep hk n (l++[(orP r2).1]) _ h6
    exact⟨h8,by omega⟩
  · exact⟨h,Nat.le_refl _⟩
theorem exprsR_keep {c:Cx} {d:Nat} {orP:Rd->Ex×Rd} (hk:Kp c d orP):Kp c d (exprsR c orP):=by
 intro r h
 obtain⟨h1,h2⟩:=hk r h
 obtain⟨h3,h4⟩:=exprsL_keep hk c.ts.length [(orP r).1] _ h1
 exact⟨h3,Nat.le_trans h2 h4⟩
end Go.Proofs.YtmkdpmfhlfhjkaaGreatDoor
namespace Go.Proofs.YtmkdpmfhlfhjkaaGreatDoor
open Go.Ab
def IC.tl:Nat->IC->IC
 | 0,a=>a
 | k+1,.seq _ b=>IC.tl k b
 | _,a=>a
def IC.nth:Nat->IC->IC
 | 0,.seq a _=>a
 | k+1,.seq _ b=>IC.nth k b
 | _,a=>a
abbrev nl:SV:=.val (.slice none 0 0)
def RowE (n f:Nat) (G:List AO) (x:SV) (l:List Ex):Prop :=
 (x=nl∧l=[])∨∃ k v,x=.own (n+(k+f)) 0 l.length 5 v∧G[k]? = some ⟨Ex.cL l,25,v,true⟩
theorem RowE.app {n f:Nat} {G:List AO} {x:SV} {l:List Ex} (h:RowE n f G x l) (M:List AO):RowE n f (G++M) x l:=by
 rcases h with h | ⟨k,v,h1,h2⟩
 · exact .inl h
 · exact .inr ⟨k,v,h1,by rw[List.getElem?_append_left (getElem?_lt h2)]; exact h2⟩
theorem RowE.cell {n f:Nat} {G:List AO} {x:SV} {l:List Ex} (h:RowE n f G x l):x.isCell=true:=by
 rcases h with ⟨rfl,_⟩ | ⟨k,v,rfl,_⟩<;>rfl
theorem RowE.fz {n f:Nat} {G:List AO} {x:SV} {l:List Ex} (h:RowE n f G x l) (A:List AO) (hA:A.length=f) (d:Nat):SV.le (SV.fz n [] (A++G) (d+2) x) (exS l):=by
 rcases h with ⟨rfl,rfl⟩ | ⟨k,v,rfl,h2⟩
 · rw[fz_under (by rfl)]; exact le_nil
 · have h3:(A++G)[k+f]? = some ⟨Ex.cL l,25,v,true⟩:=by
    rw[List.getElem?_append_right (by omega),show k+f-A.length=k by omega]; exact h2
   rw[fz_own,h3]
   simp only[placeOf]
   have e:(Ex.cL l).take (l.length*5)=Ex.cL l:=List.take_of_length_le (by rw[exL_len]; exact Nat.le_refl _)
   simp only[List.drop_zero,e,exL_fzm,exL_len,Nat.zero_add,Nat.le_refl,and_self,if_true]
   exact SV.le.refl _
@[simp] theorem Ex.take6 (e:Ex) (x:SV):List.take 6 (e.c++[x])=e.c++[x]:=List.take_of_length_le (by simp)
def aZ:AO:=⟨[st (B []),nl,bl false,nl,st (B []),i64 0],89,0,true⟩
def setO (l:List SetP):AO:=⟨rws SetP.c l,91,l.length,true⟩
theorem SetP.len (s:SetP):s.c.length=7:=by simp[SetP.c]
theorem SetP.und (n:Nat) (s:SetP):SV.underL n s.c=true:=by simp[SetP.c,SV.underL,SV.under,SV.underL_append,Ex.und]
@[simp] theorem sets_fzm (n:Nat) (ks:List Nat) (L:List AO) (d:Nat) (l:List SetP):(rws SetP.c l).map (SV.fz n ks L (d+1))=rws SetP.c l:=map_fz_under _ _ _ _ (rws_under (SetP.und _) l)
theorem full_keep {c:Cx} {d:Nat} {r:Rd} {P:Prop} [Decidable P] (h:Gd c d r):Gd c d (if P then failR c 12 r else r)∧(if P then failR c 12 r else r).a=r.a∧((if P then failR c 12 r else r).e=0->r.e=0):=by
 split
 · obtain⟨h4,h5,h6⟩:=fail_keep (e:=12) (by decide) h; exact⟨h4,h5,fun h=>absurd h h6⟩
 · exact⟨h,rfl,fun h=>h⟩
theorem setR_keep {c:Cx} {d:Nat} {orP:Rd->Ex×Rd} (hk:Kp c d orP) (l:List SetP) {r:Rd} (h:Gd c d r):Gd c d (setR c orP l r).2∧r.a≤(setR c orP l r).2.a∧((setR c orP l r).2.e=0->r.a<(setR c orP l r).2.a):=by
 unfold setR
 dsimp only
 obtain⟨h1,h2,_⟩:=full_keep (P:=l.length=32∧freeR c r=true) h
 generalize (if l.length=32∧freeR c r=true then failR c 12 r else r)=r1 at *
 obtain⟨h3,h4⟩:=word_keep r1 h1
 obtain⟨h5,h6⟩:=t2_keep [61] h3
 obtain⟨h7,h8⟩:=hk _ h5
 obtain⟨h9,h10⟩:=t2_keep [59] h7
 refine⟨h9,by omega,fun he => ?_⟩
 have:=(t2_strict he).2
 omega
section
variable {H:List AO} {c:Cx} {r:Rd} {j:Nat} {G:List AO} {nm:List UInt8} {xW:SV} {wh:List Ex} {hid:Bool} {sets:List SetP} {p:Int}
theorem setsL_keep {d:Nat} {orP:Rd->Ex×Rd} (hk:Kp c d orP):∀ (n:Nat) (l:List SetP) (r:Rd),Gd c d r->Gd c d (setsL c orP n l r).2∧r.a≤(setsL c orP n l r).2.a
 | 0,l,r,h=>⟨h,Nat.le_refl _⟩
 | n+1,l,r,h=>by
  rw[setsL]
  split
  · obtain⟨h1,h2,_⟩:=setR_keep hk l h
    obtain⟨h3,h4⟩:=setsL_keep hk n (l++[(setR c orP l r).1]) _ h1
    exact⟨h3,Nat.le_trans h2 h4⟩
  · exact⟨h,Nat.le_refl _⟩
end
end Go.Proofs.YtmkdpmfhlfhjkaaGreatDoor
namespace Go.Proofs.YtmkdpmfhlfhjkaaGreatDoor
open Go.Ab
theorem Xc {P:Program} {N:Nat} {D:Array Oper->List Nat->List Ins->Bool} {i:IC} {env:Env} {H H':List AO} {K:XE->Env->List AO->Prop} (e:H'=H) (h:X P N D i env H' K):X P N D i env H K:=by rw[←e]; exact h
def actV (a:ActP):SV:=.agg a.c
end Go.Proofs.YtmkdpmfhlfhjkaaGreatDoor
namespace Go.Proofs.YtmkdpmfhlfhjkaaGreatDoor
open Go.Ab
def RowI (n f:Nat) (G:List AO) (x:SV) (l:List Int):Prop :=
 (x=nl∧l=[])∨∃ k v,x=.own (n+(k+f)) 0 l.length 1 v∧G[k]? = some ⟨ints l,3,v,true⟩
theorem RowI.cell {n f:Nat} {G:List AO} {x:SV} {l:List Int} (h:RowI n f G x l):x.isCell=true:=by
 rcases h with ⟨rfl,_⟩ | ⟨k,v,rfl,_⟩<;>rfl
theorem ints_und (n:Nat) (l:List Int):SV.underL n (ints l)=true:=(SV.underL_iff _ _).2 fun s hs=>by
 simp[ints]at hs; obtain⟨a,_,rfl⟩:=hs; rfl
theorem RowI.fz {n f:Nat} {G:List AO} {x:SV} {l:List Int} (h:RowI n f G x l) (A:List AO) (hA:A.length=f) (d:Nat):SV.le (SV.fz n [] (A++G) (d+2) x) (.slc (ints l) l.length):=by
 rcases h with ⟨rfl,rfl⟩ | ⟨k,v,rfl,h2⟩
 · rw[fz_under (by rfl)]; exact le_nil
 · have h3:(A++G)[k+f]? = some ⟨ints l,3,v,true⟩:=by
    rw[List.getElem?_append_right (by omega),show k+f-A.length=k by omega]; exact h2
   rw[fz_own,h3]
   simp only[placeOf]
   have e3:(ints l).length=l.length:=by simp[ints]
   have e:(ints l).take l.length=ints l:=List.take_of_length_le (by rw[e3]; exact Nat.le_refl _)
   have e2:(ints l).map (SV.fz n [] (A++G) (d+1))=ints l:=map_fz_under _ _ _ _ (ints_und _ l)
   simp only[List.drop_zero,e,e2,e3,Nat.zero_add,Nat.mul_one,and_self,if_true,Nat.le_refl]
   exact SV.le.refl _
def zS:AO:=⟨[i64 0,st (B []),st (B []),i64 0,i64 0,nl,bl false,nl,nl,nl,nl,i64 0],78,0,true⟩
def stageV (x:StageP):SV:=.agg x.c
section
variable {H:List AO} {c:Cx} {r:Rd} {j:Nat} {G:List AO} {lb nm:List UInt8} {lo hi:Int} {xW xS:SV} {wt:List Ex} {all:Bool} {seen:List Int} {p:Int}
theorem seenL_keep {d:Nat}:∀ (n:Nat) (l:List Int) (r:Rd),Gd c d r->Gd c d (seenL c n l r).2∧r.a≤(seenL c n l r).2.a
 | 0,l,r,h=>⟨h,Nat.le_refl _⟩
 | n+1,l,r,h=>by
  rw[seenL]
  split
  · dsimp only
    obtain⟨h1,h2⟩:=t2_keep [44] h
    obtain⟨h3,h4,_⟩:=full_keep (P:=l.length=32∧(t2 c [44] r).a<c.ts.length∧tokB c { t2 c [44] r with e:=0 } (fun t=>decide (t.k=2))=true) h1
    generalize (if l.length=32∧(t2 c [44] r).a<c.ts.length∧tokB c { t2 c [44] r with e:=0 } (fun t=>decide (t.k=2))=true then failR c 12 (t2 c [44] r)else t2 c [44] r)=r2 at *
    obtain⟨h6,h7⟩:=num_keep r2 h3
    obtain⟨h8,h9⟩:=seenL_keep n (l++[(nmR c r2).1]) _ h6
    exact⟨h8,by omega⟩
  · exact⟨h,Nat.le_refl _⟩
theorem seenR_keep {d:Nat}:Kp c d (seenR c):=by
 intro r h
 unfold seenR
 split
 · dsimp only
   obtain⟨h1,h2⟩:=t2_keep [115,101,101,110] h
   obtain⟨h3,h4⟩:=t2_keep [98,121] h1
   split
   · obtain⟨h5,h6⟩:=t2_keep [97,108,108] h3
     exact⟨h5,by simp only; omega⟩
   · obtain⟨h5,h6⟩:=num_keep _ h3
     obtain⟨h7,h8⟩:=seenL_keep c.ts.length [(nmR c (t2 c [98,121] (t2 c [115,101,101,110] r))).1] _ h5
     exact⟨h7,by simp only; omega⟩
 · exact⟨h,Nat.le_refl _⟩
end
end Go.Proofs.YtmkdpmfhlfhjkaaGreatDoor
namespace Go.Proofs.YtmkdpmfhlfhjkaaGreatDoor
open Go.Ab
end Go.Proofs.YtmkdpmfhlfhjkaaGreatDoor
namespace Go.Proofs.YtmkdpmfhlfhjkaaGreatDoor
open Go.Ab
@[simp] theorem ActP.c_len (a:ActP):a.c.length=6:=rfl
@[simp] theorem ActP.take6 (a:ActP):List.take 6 a.c=a.c:=rfl
theorem ActP.und (n:Nat) (a:ActP):SV.underL n a.c=true:=by
 simp[ActP.c,exS,SV.underL,SV.under,Ex.undL,rws_under (SetP.und n)]
theorem ActP.ok (a:ActP):cellsOk a.c:=by
 intro s hs
 simp[ActP.c]at hs
 rcases hs with rfl | rfl | rfl | rfl | rfl | rfl<;>rfl
@[simp] theorem ActP.okT (a:ActP):cellsOk a.c=True:=eq_true a.ok
theorem flagR_keep {c:Cx} {d:Nat} (s:List UInt8):Kp c d (flagR c s):=by
 intro r h
 unfold flagR
 split
 · exact t2_keep s h
 · exact⟨h,Nat.le_refl _⟩
theorem optR_keep {c:Cx} {d:Nat} {orP:Rd->Ex×Rd} (hk:Kp c d orP) (s:List UInt8):Kp c d (optR c orP s):=by
 intro r h
 unfold optR
 split
 · obtain⟨h1,h2⟩:=t2_keep s h
   obtain⟨h3,h4⟩:=hk _ h1
   exact⟨h3,Nat.le_trans h2 h4⟩
 · exact⟨h,Nat.le_refl _⟩
theorem gotoR_keep {c:Cx} {d:Nat}:Kp c d (gotoR c):=by
 intro r h
 unfold gotoR
 split
 · obtain⟨h1,h2⟩:=t2_keep [103,111,116,111] h
   obtain⟨h3,h4⟩:=word_keep _ h1
   obtain⟨h5,h6⟩:=t2_keep [59] h3
   exact⟨h5,by simp only; omega⟩
 · exact⟨h,Nat.le_refl _⟩
theorem actR_keep {c:Cx} {d:Nat} {orP:Rd->Ex×Rd} (hk:Kp c d orP):Kp c d (actR c orP):=by
 intro r h
 unfold actR
 dsimp only
 obtain⟨h1,i1⟩:=take_keep [97,99,116,105,111,110] r h
 obtain⟨h2,i2⟩:=word_keep _ h1
 obtain⟨h3,i3⟩:=optR_keep hk [119,104,101,110] _ h2
 obtain⟨h4,i4⟩:=flagR_keep [104,105,100,100,101,110] _ h3
 obtain⟨h5,i5⟩:=t2_keep [123] h4
 obtain⟨h6,i6⟩:=setsL_keep hk (c.ts.length+1) [] _ h5
 obtain⟨h7,i7⟩:=t2_keep [125] h6
 obtain⟨h8,i8⟩:=gotoR_keep _ h7
 exact⟨h8,by omega⟩
theorem act_from {c:Cx} {d:Nat} {orP:Rd->Ex×Rd} (hk:Kp c d orP) {r:Rd} (h1:Gd c d (takeR c [97,99,116,105,111,110] r).2):(takeR c [97,99,116,105,111,110] r).2.a≤(actR c orP r).2.a:=by
 unfold actR
 dsimp only
 obtain⟨h2,i2⟩:=word_keep _ h1
 obtain⟨h3,i3⟩:=optR_keep hk [119,104,101,110] _ h2
 obtain⟨h4,i4⟩:=flagR_keep [104,105,100,100,101,110] _ h3
 obtain⟨h5,i5⟩:=t2_keep [123] h4
 obtain⟨h6,i6⟩:=setsL_keep hk (c.ts.length+1) [] _ h5
 obtain⟨h7,i7⟩:=t2_keep [125] h6
 obtain⟨h8,i8⟩:=gotoR_keep _ h7
 omega
def Still {α:Type} (F:Rd->α×Rd):Prop:=∀ r,r.e≠0->(F r).2=r
theorem fail_bad {c:Cx} {r:Rd} {e:Int} (h:r.e≠0):failR c e r=r:=by unfold failR; rw[if_neg h]
theorem peek_bad {c:Cx} {r:Rd} (h:r.e≠0) (s:List UInt8):peekR c s r=false:=by
 rw[←Bool.not_eq_true]; exact fun h2=>h (peek_tok h2).1
theorem free_bad {c:Cx} {r:Rd} (h:r.e≠0):freeR c r=false:=by
 rw[←Bool.not_eq_true]; exact fun h2=>h (tokB_lt h2).1
theorem num_bad {c:Cx} {r:Rd} (h:r.e≠0):isNum c r=false:=by
 rw[←Bool.not_eq_true]; exact fun h2=>h (tokB_lt h2).1
theorem take_still {c:Cx} (s:List UInt8):Still (takeR c s):=fun r h=>by unfold takeR; rw[peek_bad h,fail_bad h]; rfl
theorem t2_still {c:Cx} (s:List UInt8) {r:Rd} (h:r.e≠0):t2 c s r=r:=take_still s r h
theorem word_still {c:Cx}:Still (wordR c):=fun r h=>by unfold wordR; rw[free_bad h,fail_bad h]; rfl
theorem num_still {c:Cx}:Still (nmR c):=fun r h=>by unfold nmR; rw[num_bad h,fail_bad h]; rfl
theorem opAt_bad {c:Cx} {r:Rd} (h:r.e≠0) (ops:List (List UInt8×Int)):opAt c ops r=none:=by
 cases ho:opAt c ops r with
 | none=>rfl
 | some op=>exact absurd (opAt_lt ho).1 h
theorem bin_still {c:Cx} {ops:List (List UInt8×Int)} {f:Rd->Ex×Rd} (hf:Still f):Still (binF c ops f):=by
 intro r h
 unfold binF
 rw[hf r h]
 cases c.ts.length with
 | zero=>rfl
 | succ n=>rw[binL,opAt_bad h]
theorem cmp_still {c:Cx} {f:Rd->Ex×Rd} (hf:Still f):Still (cmpF c f):=by
 intro r h
 unfold cmpF
 rw[hf r h,opAt_bad h]
 exact hf r h
theorem not_still {c:Cx} {cmp ntP:Rd->Ex×Rd} (hf:Still cmp):Still (notG c cmp ntP):=by
 intro r h
 unfold notG
 rw[if_neg (by rw[peek_bad h]; decide)]
 exact hf r h
theorem fac_still {c:Cx} {orP facP:Rd->Ex×Rd}:Still (facG c orP facP):=by
 intro r h
 unfold facG
 rw[if_pos h]
theorem or_still (c:Cx) (d:Nat):Still (orOf c (lv c d)):=by
 have hn:Still (lv c d).nt:=by
  cases d with
  | zero=>exact not_still (cmp_still (bin_still (bin_still fac_still)))
  | succ d=>exact not_still (cmp_still (bin_still (bin_still fac_still)))
 exact bin_still (bin_still hn)
theorem opt_still {c:Cx} {orP:Rd->Ex×Rd} (s:List UInt8):Still (optR c orP s):=fun r h=>by unfold optR; rw[if_neg (by rw[peek_bad h]; decide)]
theorem flag_still {c:Cx} (s:List UInt8):Still (flagR c s):=fun r h=>by unfold flagR; rw[if_neg (by rw[peek_bad h]; decide)]
theorem goto_still {c:Cx}:Still (gotoR c):=fun r h=>by unfold gotoR; rw[if_neg (by rw[peek_bad h]; decide)]
theorem sets_still {c:Cx} {orP:Rd->Ex×Rd} (n:Nat) (l:List SetP):Still (setsL c orP n l):=by
 intro r h
 cases n with
 | zero=>rfl
 | succ n=>rw[setsL,if_neg (fun h2=>h h2.1)]
theorem act_still {c:Cx} {orP:Rd->Ex×Rd}:Still (actR c orP):=by
 intro r h
 unfold actR
 dsimp only
 rw[take_still _ r h,word_still r h,opt_still _ r h,flag_still _ r h,t2_still _ h,sets_still _ _ r h,t2_still _ h,goto_still r h]
section
variable {H:List AO} {c:Cx} {r:Rd} {j:Nat} {G:List AO} {lb:List UInt8} {w:Ex} {p:Int}
theorem actsL_keep {d:Nat} {orP:Rd->Ex×Rd} (hk:Kp c d orP):∀ (n:Nat) (l:List ActP) (r:Rd),Gd c d r->Gd c d (actsL c orP 0 n l r).2∧r.a≤(actsL c orP 0 n l r).2.a
 | 0,l,r,h=>⟨h,Nat.le_refl _⟩
 | n+1,l,r,h=>by
  rw[actsL]
  split
  · dsimp only
    obtain⟨h3,h4,_⟩:=full_keep (P:=l.length=10) h
    generalize (if l.length=10 then failR c 12 r else r)=r2 at *
    obtain⟨h6,h7⟩:=actR_keep hk r2 h3
    obtain⟨h8,h9⟩:=actsL_keep hk n (l++[(actR c orP r2).1]) _ h6
    exact⟨h8,by omega⟩
  · exact⟨h,Nat.le_refl _⟩
end
end Go.Proofs.YtmkdpmfhlfhjkaaGreatDoor
namespace Go.Proofs.YtmkdpmfhlfhjkaaGreatDoor
open Go.Ab
theorem dealR_keep {c:Cx} {d:Nat} {orP:Rd->Ex×Rd} (hk:Kp c d orP) (x:StageP):Kp c d (dealR c orP x):=by
 intro r h
 unfold dealR
 dsimp only
 obtain⟨g1,i1⟩:=take_keep [100,101,97,108] r h
 obtain⟨g2,i2⟩:=word_keep _ g1
 obtain⟨g3,i3⟩:=t2_keep [105,110] g2
 obtain⟨g4,i4⟩:=num_keep _ g3
 obtain⟨g5,i5⟩:=t2_keep [46,46] g4
 obtain⟨g6,i6⟩:=num_keep _ g5
 obtain⟨g7,i7⟩:=optR_keep hk [119,101,105,103,104,116] _ g6
 obtain⟨g8,i8⟩:=seenR_keep _ g7
 obtain⟨g9,i9⟩:=t2_keep [59] g8
 exact⟨g9,by omega⟩
theorem turnR_keep {c:Cx} {d:Nat} {orP:Rd->Ex×Rd} (hk:Kp c d orP) (x:StageP):Kp c d (turnR c orP x):=by
 intro r h
 unfold turnR
 dsimp only
 obtain⟨g1,i1⟩:=take_keep [116,117,114,110] r h
 obtain⟨g2,i2⟩:=hk _ g1
 obtain⟨g3,i3⟩:=t2_keep [123] g2
 obtain⟨g4,i4⟩:=actR_keep hk _ g3
 obtain⟨g5,i5⟩:=actsL_keep hk c.ts.length [(actR c orP (t2 c [123] (orP (takeR c [116,117,114,110] r).2).2)).1] _ g4
 obtain⟨g6,i6⟩:=t2_keep [125] g5
 exact⟨g6,by omega⟩
theorem labelR_keep {c:Cx} {d:Nat}:Kp c d (labelR c):=by
 intro r h
 unfold labelR
 split
 · obtain⟨g1,i1⟩:=word_keep r h
   obtain⟨g2,i2⟩:=t2_keep [58] g1
   exact⟨g2,by simp only; omega⟩
 · exact⟨h,Nat.le_refl _⟩
theorem stageR_keep {c:Cx} {d:Nat} {orP:Rd->Ex×Rd} (hk:Kp c d orP):Kp c d (stageR c orP):=by
 intro r h
 unfold stageR
 dsimp only
 obtain⟨g1,i1⟩:=labelR_keep r h
 split
 · obtain⟨g2,i2⟩:=dealR_keep hk _ _ g1
   exact⟨g2,by omega⟩
 split
 · obtain⟨g2,i2⟩:=turnR_keep hk _ _ g1
   exact⟨g2,by omega⟩
 · obtain⟨g2,i2⟩:=take_keep [101,110,100] _ g1
   obtain⟨g3,i3⟩:=t2_keep [123] g2
   obtain⟨g4,i4⟩:=t2_keep [112,97,121] g3
   obtain⟨g5,i5⟩:=exprsR_keep hk _ g4
   obtain⟨g6,i6⟩:=t2_keep [59] g5
   obtain⟨g7,i7⟩:=t2_keep [125] g6
   exact⟨g7,by simp only; omega⟩
theorem stageR_on {c:Cx} {d:Nat} {orP:Rd->Ex×Rd} (hk:Kp c d orP) {r:Rd} (h:Gd c d r) (he:(stageR c orP r).2.e=0):r.a<(stageR c orP r).2.a:=by
 unfold stageR at he ⊢
 dsimp only at he ⊢
 obtain⟨g1,i1⟩:=labelR_keep r h
 split at he
 · rename_i hp
   rw[if_pos hp]
   unfold dealR at he ⊢
   dsimp only at he ⊢
   obtain⟨g1,i1⟩:=take_keep [100,101,97,108] _ g1
   obtain⟨g2,i2⟩:=word_keep _ g1
   obtain⟨g3,i3⟩:=t2_keep [105,110] g2
   obtain⟨g4,i4⟩:=num_keep _ g3
   obtain⟨g5,i5⟩:=t2_keep [46,46] g4
   obtain⟨g6,i6⟩:=num_keep _ g5
   obtain⟨g7,i7⟩:=optR_keep hk [119,101,105,103,104,116] _ g6
   obtain⟨g8,i8⟩:=seenR_keep _ g7
   have:=(t2_strict he).2
   omega
 · rename_i hp
   rw[if_neg hp]
   split at he
   · rename_i hp
     rw[if_pos hp]
     unfold turnR at he ⊢
     dsimp only at he ⊢
     obtain⟨g1,i1⟩:=take_keep [116,117,114,110] _ g1
     obtain⟨g2,i2⟩:=hk _ g1
     obtain⟨g3,i3⟩:=t2_keep [123] g2
     obtain⟨g4,i4⟩:=actR_keep hk _ g3
     obtain⟨g5,i5⟩:=actsL_keep hk c.ts.length [(actR c orP (t2 c [123] (orP (takeR c [116,117,114,110] (labelR c r).2).2).2)).1] _ g4
     have:=(t2_strict he).2
     omega
   · rename_i hp
     rw[if_neg hp]
     dsimp only at he ⊢
     obtain⟨g2,i2⟩:=take_keep [101,110,100] _ g1
     obtain⟨g3,i3⟩:=t2_keep [123] g2
     obtain⟨g4,i4⟩:=t2_keep [112,97,121] g3
     obtain⟨g5,i5⟩:=exprsR_keep hk _ g4
     obtain⟨g6,i6⟩:=t2_keep [59] g5
     have:=(t2_strict he).2
     omega
theorem StageP.c_len (x:StageP):x.c.length=12:=rfl
theorem StageP.und (n:Nat) (x:StageP):SV.underL n x.c=true:=by
 simp[StageP.c,exS,SV.underL,SV.under,Ex.undL,rws_under (ActP.und n),ints_und]
@[simp] theorem StageP.fzm (n:Nat) (ks:List Nat) (L:List AO) (d:Nat) (x:StageP):x.c.map (SV.fz n ks L (d+1))=x.c:=map_fz_under _ _ _ _ (StageP.und _ x)
theorem StageP.ok (x:StageP):cellsOk x.c:=by
 intro s hs
 simp[StageP.c]at hs
 rcases hs with rfl | rfl | rfl | rfl | rfl | rfl | rfl | rfl | rfl | rfl | rfl | rfl<;>rfl
@[simp] theorem StageP.okT (x:StageP):cellsOk x.c=True:=eq_true x.ok
@[simp] theorem StageP.take12 (x:StageP):List.take 12 x.c=x.c:=rfl
@[simp] theorem StageP.len12 (x:StageP):x.c.length=12:=rfl
def lbO (lb:List UInt8):AO:=⟨[i64 0,st (B lb),st (B []),i64 0,i64 0,nl,bl false,nl,nl,nl,nl,i64 0],78,0,true⟩
end Go.Proofs.YtmkdpmfhlfhjkaaGreatDoor
namespace Go.Proofs.YtmkdpmfhlfhjkaaGreatDoor
open Go.Ab
theorem varR_keep {c:Cx} {d:Nat} (l:List VarP):Kp c d (varR c l):=by
 intro r h
 unfold varR
 dsimp only
 obtain⟨g0,i0⟩:=t2_keep [118,97,114] h
 obtain⟨g1,i1,_⟩:=full_keep (P:=l.length=40∧freeR c (t2 c [118,97,114] r)=true) g0
 generalize (if l.length=40∧freeR c (t2 c [118,97,114] r)=true then failR c 12 (t2 c [118,97,114] r)else t2 c [118,97,114] r)=r1 at *
 obtain⟨g2,i2⟩:=word_keep _ g1
 obtain⟨g3,i3⟩:=t2_keep [61] g2
 obtain⟨g4,i4⟩:=flagR_keep [45] _ g3
 obtain⟨g5,i5⟩:=num_keep _ g4
 obtain⟨g6,i6⟩:=t2_keep [59] g5
 exact⟨g6,by omega⟩
theorem varR_on {c:Cx} {d:Nat} (l:List VarP) {r:Rd} (h:Gd c d r) (he:(varR c l r).2.e=0):r.a<(varR c l r).2.a:=by
 unfold varR at he ⊢
 dsimp only at he ⊢
 obtain⟨g0,i0⟩:=t2_keep [118,97,114] h
 obtain⟨g1,i1,_⟩:=full_keep (P:=l.length=40∧freeR c (t2 c [118,97,114] r)=true) g0
 generalize (if l.length=40∧freeR c (t2 c [118,97,114] r)=true then failR c 12 (t2 c [118,97,114] r)else t2 c [118,97,114] r)=r1 at *
 obtain⟨g2,i2⟩:=word_keep _ g1
 obtain⟨g3,i3⟩:=t2_keep [61] g2
 obtain⟨g4,i4⟩:=flagR_keep [45] _ g3
 obtain⟨g5,i5⟩:=num_keep _ g4
 have:=(t2_strict he).2
 omega
theorem varsL_keep {c:Cx} {d:Nat}:∀ (n:Nat) (l:List VarP) (r:Rd),Gd c d r->Gd c d (varsL c n l r).2∧r.a≤(varsL c n l r).2.a
 | 0,l,r,h=>⟨h,Nat.le_refl _⟩
 | n+1,l,r,h=>by
  rw[varsL]
  split
  · obtain⟨h6,h7⟩:=varR_keep l r h
    obtain⟨h8,h9⟩:=varsL_keep n (l++[(varR c l r).1]) _ h6
    exact⟨h8,by omega⟩
  · exact⟨h,Nat.le_refl _⟩
theorem VarP.c_len (v:VarP):v.c.length=3:=rfl
theorem VarP.und (n:Nat) (v:VarP):SV.underL n v.c=true:=rfl
def zR:AO:=⟨[st (B []),i64 0,nl,nl],36,0,true⟩
def varsO (l:List VarP):AO:=⟨rws VarP.c l,75,l.length,true⟩
def stgsO (l:List StageP):AO:=⟨rws StageP.c l,78,l.length,true⟩
end Go.Proofs.YtmkdpmfhlfhjkaaGreatDoor
namespace Go.Proofs.YtmkdpmfhlfhjkaaGreatDoor
open Go.Ab
theorem label_still {c:Cx}:Still (labelR c):=fun r h=>by unfold labelR; rw[if_neg (by rw[free_bad h]; decide)]
theorem seen_still {c:Cx}:Still (seenR c):=fun r h=>by unfold seenR; rw[if_neg (by rw[peek_bad h]; decide)]
theorem exprs_still {c:Cx} {orP:Rd->Ex×Rd} (ho:Still orP):Still (exprsR c orP):=by
 intro r h
 unfold exprsR
 rw[ho r h]
 cases c.ts.length with
 | zero=>rfl
 | succ n=>rw[exprsL,if_neg (by rw[peek_bad h]; decide)]
theorem stage_still {c:Cx} {orP:Rd->Ex×Rd} (ho:Still orP):Still (stageR c orP):=by
 intro r h
 unfold stageR
 dsimp only
 rw[label_still r h,if_neg (by rw[peek_bad h]; decide),if_neg (by rw[peek_bad h]; decide)]
 dsimp only
 rw[take_still _ r h,t2_still _ h,t2_still _ h,exprs_still ho r h,t2_still _ h,t2_still _ h]
end Go.Proofs.YtmkdpmfhlfhjkaaGreatDoor
namespace Go.Proofs.YtmkdpmfhlfhjkaaGreatDoor
open Go.Ab
def rulesV (r:RulesP):SV:=.agg r.c
theorem zR_le (e p:Int):SV.le (.tup [.agg [st (B []),i64 0,nl,nl],.agg [i64 e,i64 p]]) (.tup [rulesV zRules,fltV e p]) :=
 le_tup (leL.cons (le_agg (leL.cons (SV.le.refl _) (leL.cons (SV.le.refl _) (leL.cons le_nil (leL.cons le_nil leL.nil))))) (leL.cons (SV.le.refl _) leL.nil))
end Go.Proofs.YtmkdpmfhlfhjkaaGreatDoor
namespace Go.Proofs.YtmkdpmfhlfhjkaaGreatDoor
open Go.Ab
section
variable {c:Cx} {r:Rd}
theorem begR_off (hb:begR c r=false):isNum c r=false∧freeR c r=false∧peekR c [110,111,116] r=false∧peekR c [45] r=false∧peekR c [40] r=false∧peekR c [109,105,110] r=false∧peekR c [109,97,120] r=false∧peekR c [105,102] r=false:=by
 unfold begR at hb
 simpa[Bool.or_eq_false_iff,and_assoc]using hb
theorem binF_bad {ops:List (List UInt8×Int)} {F:Rd->Ex×Rd} (h:(F r).2.e≠0):(binF c ops F r).2=(F r).2:=by
 unfold binF; rw[binL_bad h]
theorem or_nb (he:r.e=0) (hb:begR c r=false) (d:Nat):(orOf c (lv c d) r).2=failR c 11 r:=by
 obtain⟨h1,h2,h3,h4,h5,h6,h7,h8⟩:=begR_off hb
 have hfe:(failR c 11 r).e≠0:=by simp[failR,he]
 have hf:∀ orP facP,(facG c orP facP r).2=failR c 11 r:=by
  intro orP facP
  unfold facG
  have hw:wrdO.find? (fun w=>peekR c w.1 r)=none:=by simp[wrdO,h6,h7,h8]
  rw[if_neg (by simp[he]),if_neg (by simp[h2]),if_neg (by simp[h4]),if_neg (by simp[h5]),hw]
  simp[nmR,h1]
 have hb2:∀ ops (F:Rd->Ex×Rd),(F r).2=failR c 11 r->(binF c ops F r).2=failR c 11 r:=fun ops F h=>by
  rw[binF_bad (by rw[h]; exact hfe),h]
 have hn:∀ orP facP ntP,(notG c (cmpOf c (facG c orP facP)) ntP r).2=failR c 11 r:=by
  intro orP facP ntP
  unfold notG
  rw[if_neg (by simp[h3])]
  unfold cmpOf cmpF
  have h9:=hb2 sumO _ (hb2 mulO _ (hf orP facP))
  rw[h9,opAt_bad hfe]
  exact h9
 have hnt:((lv c d).nt r).2=failR c 11 r:=by
  cases d with
  | zero=>exact hn _ _ _
  | succ d=>exact hn _ _ _
 exact hb2 orO _ (hb2 andO _ hnt)
def wordF (c:Cx) (full:Bool) (r:Rd):List UInt8×Rd:=wordR c (if full=true∧freeR c r=true then failR c 12 r else r)
def numF (c:Cx) (full:Bool) (r:Rd):Int×Rd:=nmR c (if full=true∧isNum c r=true then failR c 12 r else r)
end
theorem pd_call {α:Type} {c:Cx} {j k:Nat} {args:List SV} {G:List AO} {f:α->SV} {q:α×Rd} {K:Out->List AO->Prop} (h:OkP Tryz.prog k args G (PdV c G j f q))
 (hok:q.2.e=0->K (.ret (f q.1)) (G.set j (pdO c q.2))) (hbad:q.2.e≠0->∀ H',Keep G [j] H'->K (.pan (fltI q.2.e q.2.p)) H'):CallTo Tryz.prog (.fn (.func k) [] []) args G K:=by
 refine call_goP h ?_
 intro o H' hp
 unfold PdV at hp
 by_cases he:q.2.e=0
 · rw[if_pos he]at hp; obtain⟨rfl,rfl⟩:=hp; exact hok he
 · rw[if_neg he]at hp; obtain⟨rfl,hk⟩:=hp; exact hbad he H' hk
theorem PdV.pan {α:Type} {c:Cx} {j:Nat} {f:α->SV} {G H':List AO} {q:α×Rd} (he:q.2.e≠0) (h:Keep G [j] H'):PdV c G j f q (.pan (fltI q.2.e q.2.p)) H':=by
 unfold PdV; rw[if_neg he]; exact⟨rfl,h⟩
theorem PdV.ret {α:Type} {c:Cx} {j:Nat} {f:α->SV} {G H':List AO} {q:α×Rd} (he:q.2.e=0) (h:H'=G.set j (pdO c q.2)):PdV c G j f q (.ret (f q.1)) H':=by
 unfold PdV; rw[if_pos he]; exact⟨rfl,h⟩
theorem PdV.fail {α:Type} {c:Cx} {j:Nat} {f:α->SV} {G H':List AO} {q:α×Rd} {r:Rd} {e:Int} (hr:r.e=0) (he:e≠0) (hq:q.2=failR c e r) (h:Keep G [j] H'):PdV c G j f q (.pan (fltI e (hereR c r))) H':=by
 have f1:(failR c e r).e=e∧(failR c e r).p=hereR c r:=by simp[failR,hr]
 have:=PdV.pan (c:=c) (f:=f) (q:=q) (by rw[hq,f1.1]; exact he) h
 rwa [hq,f1.1,f1.2]at this
theorem PdV.got {α:Type} {c:Cx} {j:Nat} {f:α->SV} {G H':List AO} {q:α×Rd} {x:α} {r:Rd} {o:Out} (he:r.e=0) (hq:q=(x,r)) (ho:o=.ret (f x)) (h:H'=G.set j (pdO c r)):PdV c G j f q o H':=by
 subst hq ho; exact PdV.ret (q:=(x,r)) he h
theorem wordF_full {c:Cx} {r:Rd} (he:r.e=0) (hp:freeR c r=true):(wordF c true r).2=failR c 12 r:=by
 have hb:(failR c 12 r).e≠0:=by simp[failR,he]
 unfold wordF
 rw[if_pos ⟨rfl,hp⟩]
 unfold wordR
 rw[free_bad hb,fail_bad hb]; rfl
theorem wordF_got {c:Cx} {r:Rd} (hp:freeR c r=true):wordF c false r=((tkR c r).tx,nextR r):=by
 have hlt:=(tokB_lt hp).2.1
 unfold wordF
 rw[if_neg (by simp)]
 unfold wordR
 rw[if_pos hp]; simp[tkR,hlt,List.getD]
theorem wordF_no {c:Cx} {r:Rd} (full:Bool) (hp:freeR c r=false):(wordF c full r).2=failR c 11 r:=by
 unfold wordF
 rw[if_neg (by simp[hp])]
 unfold wordR
 rw[hp]; rfl
theorem numF_full {c:Cx} {r:Rd} (he:r.e=0) (hp:isNum c r=true):(numF c true r).2=failR c 12 r:=by
 have hb:(failR c 12 r).e≠0:=by simp[failR,he]
 unfold numF
 rw[if_pos ⟨rfl,hp⟩]
 unfold nmR
 rw[num_bad hb,fail_bad hb]; rfl
theorem numF_got {c:Cx} {r:Rd} (hp:isNum c r=true):numF c false r=((tkR c r).n,nextR r):=by
 have hlt:=(tokB_lt hp).2.1
 unfold numF
 rw[if_neg (by simp)]
 unfold nmR
 rw[if_pos hp]; simp[tkR,hlt,List.getD]
theorem numF_no {c:Cx} {r:Rd} (full:Bool) (hp:isNum c r=false):(numF c full r).2=failR c 11 r:=by
 unfold numF
 rw[if_neg (by simp[hp])]
 unfold nmR
 rw[hp]; rfl
def exN (l:List Ex):SV:=if l=[]then nl else exS l
def inN (l:List Int):SV:=if l=[]then nl else .slc (ints l) l.length
section
variable {H:List AO} {c:Cx} {r:Rd} {j:Nat}
theorem ok88 (ho:H[j]? = some (pdO c r)) (hl:r.a<4611686018427387904) (he:r.e=0) (full:Bool):OkP Tryz.prog 88 [rp j,bl full] H (PdV c H j (fun s=>st (B s)) (wordF c full r)):=by
 have hj:=getElem?_lt ho
 have h92:=ok92 ho he
 have h140:=ok140 ho hl
 have h11:=ok79 ho 11
 have h12:=ok79 ho 12
 refine okP_fn hm Tryz.func88 c88 (by simp[rp,SV.under,hj]) fun hcl => ?_
 simp -implicitDefEqProofs[i88,r88,rp]
 refine call_go (by simpa[rp]using h92) ?_
 by_cases hp:freeR c r=true
 · cases full with
   | true =>
    simp -implicitDefEqProofs[hp]
    refine call_go (by simpa[rp]using h12) ?_
    simp -implicitDefEqProofs
    exact⟨_,_,PdV.fail he (by decide) (wordF_full he hp) (Keep.refl _ _),cv_id⟩
   | false =>
    simp -implicitDefEqProofs[hp]
    refine call_go (by simpa[rp]using h140) ?_
    simp -implicitDefEqProofs[Tok.v,Tok.c]
    exact⟨_,_,PdV.got (r:=nextR r) he (wordF_got hp) rfl rfl,cv_id⟩
 · rw[Bool.not_eq_true]at hp
   simp -implicitDefEqProofs[hp]
   refine call_go (by simpa[rp]using h11) ?_
   simp -implicitDefEqProofs
   exact⟨_,_,PdV.fail he (by decide) (wordF_no full hp) (Keep.refl _ _),cv_id⟩
theorem ok89 (ho:H[j]? = some (pdO c r)) (hl:r.a<4611686018427387904) (he:r.e=0) (full:Bool):OkP Tryz.prog 89 [rp j,bl full] H (PdV c H j i64 (numF c full r)):=by
 have hj:=getElem?_lt ho
 have h139:=ok139 ho
 have h140:=ok140 ho hl
 have h11:=ok79 ho 11
 have h12:=ok79 ho 12
 have hnt:=num_tk (c:=c) he
 refine okP_fn hm Tryz.func89 c89 (by simp[rp,SV.under,hj]) fun hcl => ?_
 simp -implicitDefEqProofs[i89,r89,rp]
 refine call_go (by simpa[rp]using h139) ?_
 by_cases hp:isNum c r=true
 · have hk:(tkR c r).k=2:=by rw[hp]at hnt; exact of_decide_eq_true hnt.symm
   cases full with
   | true =>
    simp -implicitDefEqProofs[Tok.v,Tok.c,hk]
    refine call_go (by simpa[rp]using h12) ?_
    simp -implicitDefEqProofs
    exact⟨_,_,PdV.fail he (by decide) (numF_full he hp) (Keep.refl _ _),cv_id⟩
   | false =>
    simp -implicitDefEqProofs[Tok.v,Tok.c,hk]
    refine call_go (by simpa[rp]using h140) ?_
    simp -implicitDefEqProofs[Tok.v,Tok.c]
    exact⟨_,_,PdV.got (r:=nextR r) he (numF_got hp) rfl rfl,cv_id⟩
 · rw[Bool.not_eq_true]at hp
   have hk:¬ (tkR c r).k=2:=by rw[hp]at hnt; exact of_decide_eq_false hnt.symm
   simp -implicitDefEqProofs[Tok.v,Tok.c,hk]
   refine call_go (by simpa[rp]using h11) ?_
   simp -implicitDefEqProofs
   exact⟨_,_,PdV.fail he (by decide) (numF_no full hp) (Keep.refl _ _),cv_id⟩
theorem t2_acc {s:List UInt8} (hp:peekR c s r=true):t2 c s r=nextR r:=by simp[t2,takeR,hp]
theorem ok181 (hn:NumT c) {d:Nat} {F:Rd->Ex×Rd} (hF:PdC c 32 [] F d) {s:List UInt8} (hs:wrdB s=true) (ho:H[j]? = some (pdO c r)) (hl:c.ts.length<4611686018427387904) (hg:Gd c d r) (he:r.e=0) :
 OkP Tryz.prog 181 [rp j,st (B s),.fn (.func 32) [rp j] []] H (PdV c H j exN (optR c F s r)):=by
 have hj:=getElem?_lt ho
 have ha:=hg.a
 have h90:=ok90 hn ho (by omega) he hs
 refine okP_fn hm Tryz.func181 c181 (by simp[rp,SV.under,SV.underL,hj]) fun hcl => ?_
 simp -implicitDefEqProofs[i181,r181,rp]
 refine call_go (by simpa[rp]using h90) ?_
 unfold accR
 by_cases hp:peekR c s r=true
 · have hg2:=hg.next (peek_lt hp)
   have hc:=hF (G:=H.set j (pdO c (nextR r))) (j:=j) (r:=nextR r) (by simp[hj]) hg2 he
   have hopt:optR c F s r=([(F (nextR r)).1],(F (nextR r)).2):=by unfold optR; rw[if_pos hp,t2_acc hp]
   rw[hopt]
   simp -implicitDefEqProofs[hp]
   refine call_ofP (a:=[rp j]) (b:=[]) (by simpa[rp]using hc) ?_
   intro o H' hq
   unfold PdP PdV at hq
   generalize F (nextR r)=q at hq ⊢
   by_cases he2:q.2.e=0
   · rw[if_pos he2]at hq
     obtain⟨rfl,rfl⟩:=hq
     rw[List.set_set]
     simp -implicitDefEqProofs[Ex.v]
     refine⟨_,_,PdV.ret (q:=([q.1],q.2)) he2 rfl,?_⟩
     refine cv_fz 3 (closed_pd (c:=c) (a:=q.2.a) (v:=q.2.v) hcl) (by simp) ?_
     simp[exN,exS,Ex.cL,Ex.v]
   · rw[if_neg he2]at hq
     obtain⟨rfl,hk⟩:=hq
     simp -implicitDefEqProofs
     exact⟨_,_,PdV.pan (q:=([q.1],q.2)) he2 ((Keep.set (by simp) _).trans hk),cv_id⟩
 · have hopt:optR c F s r=([],r):=by unfold optR; rw[if_neg hp]
   rw[hopt]
   simp -implicitDefEqProofs[hp]
   refine⟨_,_,PdV.got (r:=r) he rfl (o:=.ret nl) rfl (set_same ho).symm,?_⟩
   rw[set_same ho]
   exact cv_id
def wdN (l:List (List UInt8)):SV:=if l=[]then nl else .slc (wds l) l.length
theorem ok202 (hn:NumT c) {F:Rd->List UInt8×Rd} {f:SV} (hvd:f.vd=true) (hug:f.ug=f) (hfu:f.under H.length=true) {s:List UInt8} (hs:wrdB s=true) (ho:H[j]? = some (pdO c r)) (hl:c.ts.length<4611686018427387904) (ha:r.a≤c.ts.length) (he:r.e=0)
 (hF:peekR c s r=true->OkCP Tryz.prog f [] (H.set j (pdO c (nextR r))) (PdV c (H.set j (pdO c (nextR r))) j (fun s=>st (B s)) (F (nextR r)))) :
 OkP Tryz.prog 202 [rp j,st (B s),f] H (PdV c H j wdN (if peekR c s r=true then([(F (nextR r)).1],(F (nextR r)).2)else([],r))):=by
 have hj:=getElem?_lt ho
 have hopt1:peekR c s r=true->(if peekR c s r=true then([(F (nextR r)).1],(F (nextR r)).2)else(([],r):List (List UInt8)×Rd))=([(F (nextR r)).1],(F (nextR r)).2):=fun h=>if_pos h
 have hopt2:¬ peekR c s r=true->(if peekR c s r=true then([(F (nextR r)).1],(F (nextR r)).2)else(([],r):List (List UInt8)×Rd))=([],r):=fun h=>if_neg h
 generalize (if peekR c s r=true then([(F (nextR r)).1],(F (nextR r)).2)else(([],r):List (List UInt8)×Rd))=res at hopt1 hopt2 ⊢
 have h90:=ok90 hn ho (by omega) he hs
 refine okP_fn hm Tryz.func202 c202 (by simp[rp,SV.under,SV.underL,hj,hfu]) fun hcl => ?_
 simp -implicitDefEqProofs[i202,r202,rp]
 refine call_go (by simpa[rp]using h90) ?_
 unfold accR
 by_cases hp:peekR c s r=true
 · have hc:=hF hp
   rw[hopt1 hp]
   clear hopt1 hopt2
   simp -implicitDefEqProofs[hp]
   refine call_cP hc ?_
   intro o H' hq
   unfold PdV at hq
   generalize F (nextR r)=q at hq ⊢
   by_cases he2:q.2.e=0
   · rw[if_pos he2]at hq
     obtain⟨rfl,rfl⟩:=hq
     rw[List.set_set]
     simp -implicitDefEqProofs
     refine⟨_,_,PdV.ret (q:=([q.1],q.2)) he2 rfl,?_⟩
     refine cv_fz 3 (closed_pd (c:=c) (a:=q.2.a) (v:=q.2.v) hcl) (by simp) ?_
     simp[wdN,wds]
   · rw[if_neg he2]at hq
     obtain⟨rfl,hk⟩:=hq
     simp -implicitDefEqProofs
     exact⟨_,_,PdV.pan (q:=([q.1],q.2)) he2 ((Keep.set (by simp) _).trans hk),cv_id⟩
 · rw[hopt2 hp]
   simp -implicitDefEqProofs[hp]
   refine⟨_,_,PdV.got (r:=r) he rfl (o:=.ret nl) rfl (set_same ho).symm,?_⟩
   rw[set_same ho]
   exact cv_id
theorem ok183 (hn:NumT c) (ho:H[j]? = some (pdO c r)) (he:r.e=0):Ok Tryz.prog 183 [rp j] H (.ret (bl (begR c r))) H:=by
 have hj:=getElem?_lt ho
 have h92:=ok92 ho he
 have h139:=ok139 ho
 have hnt:=num_tk (c:=c) he
 have h93:=ok93 (H:=H++[⟨[st (B [110,111,116]),st (B [45]),st (B [40]),st (B [109,105,110]),st (B [109,97,120]),st (B [105,102])],9,0,true⟩]) (c:=c) (r:=r) (j:=j) (by rw[List.getElem?_append_left hj]; exact ho) (x:=.own H.length 0 6 1 0) (l:=[[110,111,116],[45],[40],[109,105,110],[109,97,120],[105,102]]) (IsS.own1 (k:=0) rfl rfl) (by simp)
 have hb:begR c r=(freeR c r||isNum c r||decide ((tkR c r).tx∈[[110,111,116],[45],[40],[109,105,110],[109,97,120],[105,102]])):=by
  unfold begR
  rw[peek_tk hn (s:=[110,111,116]) rfl he,peek_tk hn (s:=[45]) rfl he,peek_tk hn (s:=[40]) rfl he,peek_tk hn (s:=[109,105,110]) rfl he,peek_tk hn (s:=[109,97,120]) rfl he,peek_tk hn (s:=[105,102]) rfl he]
  rw[Bool.eq_iff_iff]
  simp[or_assoc]
  constructor
  · rintro(h | h | h)<;>simp[h]
  · rintro(h | h | h)<;>simp[h]
 rw[hb]
 refine ok_fn hm Tryz.func183 c183 (by simp[rp,SV.under,hj]) fun hcl => ?_
 simp -implicitDefEqProofs[i183,r183,rp]
 refine call_go (by simpa[rp]using h92) ?_
 by_cases hf:freeR c r=true
 · simp -implicitDefEqProofs[hf]
   refine callq_off _ _ _ _ ?_
   simp -implicitDefEqProofs[hf]
   refine callq_off _ _ _ _ ?_
   simp -implicitDefEqProofs[hf]
   exact cv_id
 · rw[Bool.not_eq_true]at hf
   simp -implicitDefEqProofs[hf]
   refine callq_st (r:=(tkR c r).v) (fun _=>by simpa[rp,SV.strip]using h139) ?_
   by_cases hk:isNum c r=true
   · have hk2:(tkR c r).k=2:=by rw[hk]at hnt; exact of_decide_eq_true hnt.symm
     simp -implicitDefEqProofs[hf,hk,Tok.v,Tok.c,hk2]
     refine callq_off _ _ _ _ ?_
     simp -implicitDefEqProofs[hf,hk,Tok.v,Tok.c,hk2]
     exact cv_id
   · rw[Bool.not_eq_true]at hk
     have hk2:¬ (tkR c r).k=2:=by rw[hk]at hnt; exact of_decide_eq_false hnt.symm
     simp -implicitDefEqProofs[hf,hk,Tok.v,Tok.c,hk2]
     refine callq_st (r:=bl (decide ((tkR c r).tx∈[[110,111,116],[45],[40],[109,105,110],[109,97,120],[105,102]]))) (fun _=>by simpa[rp,SV.strip]using h93) ?_
     simp -implicitDefEqProofs[hf,hk,Tok.v,Tok.c,hk2]
     exact cv_fz 2 hcl rfl rfl
end
end Go.Proofs.YtmkdpmfhlfhjkaaGreatDoor
namespace Go.Proofs.YtmkdpmfhlfhjkaaGreatDoor
open Go.Ab
def w2 (H:List AO) (j k:Nat) (o p:AO):List AO:=(H.set j o).set k p
structure J2 (H:List AO) (j k:Nat):Prop where
 lj:j<H.length
 lk:k<H.length
 ne:j≠k
section
variable {H:List AO} {j k:Nat} {o p:AO}
@[simp] theorem w2_len:(w2 H j k o p).length=H.length:=by simp[w2]
theorem w2_j (h:J2 H j k) (L:List AO):(w2 H j k o p++L)[j]? = some o:=by
 rw[List.getElem?_append_left (by simpa using h.lj),w2,List.getElem?_set_ne (Ne.symm h.ne),List.getElem?_set_self h.lj]
theorem w2_k (h:J2 H j k) (L:List AO):(w2 H j k o p++L)[k]? = some p:=by
 rw[List.getElem?_append_left (by simpa using h.lk),w2,List.getElem?_set_self (by simpa using h.lk)]
theorem w2_setj (h:J2 H j k) (L:List AO) (o':AO):(w2 H j k o p++L).set j o'=w2 H j k o' p++L:=by
 rw[List.set_append_left _ _ (by simpa using h.lj),w2,List.set_comm _ _ (Ne.symm h.ne),List.set_set]; rfl
theorem w2_setk (h:J2 H j k) (L:List AO) (p':AO):(w2 H j k o p++L).set k p'=w2 H j k o p'++L:=by
 rw[List.set_append_left _ _ (by simpa using h.lk),w2,List.set_set]; rfl
theorem w2_ock (h:J2 H j k) (cs:List SV) (T:TypeId) (L:List AO):objCells (w2 H j k o ⟨cs,T,0,true⟩++L) k 0=cs:=objCells_of (o:=⟨cs,T,0,true⟩) (w2_k h L) rfl
theorem w2_sok (h:J2 H j k) (L:List AO) (f:AO->AO):Ab.setObj (w2 H j k o p++L) k f=w2 H j k o (f p)++L:=by
 rw[setObj_some (w2_k h L),w2_setk h]
theorem w2_same (h1:H[j]? = some o) (h2:H[k]? = some p):w2 H j k o p=H:=by
 rw[w2,set_same h1,set_same h2]
@[simp] theorem objCells_w2 (L:List AO) (i ver:Nat):objCells (w2 H j k o p++L) (H.length+i) ver=objCells L i ver:=by
 have:=objCells_new (H:=w2 H j k o p) (L:=L) (k:=i) (ver:=ver); simpa using this
@[simp] theorem setObj_w2 (L:List AO) (i:Nat) (f:AO->AO):Ab.setObj (w2 H j k o p++L) (H.length+i) f=w2 H j k o p++Ab.setObj L i f:=by
 have:=setObj_new (H:=w2 H j k o p) (L:=L) (k:=i) (f:=f); simpa using this
@[simp] theorem objIs_w2 (L:List AO) (i ver:Nat) (T:TypeId) (m:Nat):objIs (w2 H j k o p++L) (H.length+i) ver T m=objIs L i ver T m:=by
 have:=objIs_new (H:=w2 H j k o p) (L:=L) (k:=i) (ver:=ver) (T:=T) (m:=m); simpa using this
theorem Keep.w2 {H' L:List AO} (hJ:J2 H j k) (h:Keep (w2 H j k o p++L) [j] H'):Keep H [j,k] H':=by
 refine⟨Nat.le_trans (by simp) h.len,fun i hi hn => ?_⟩
 simp only[List.mem_cons,List.not_mem_nil,or_false,not_or]at hn
 rw[h.at_ i (by simp; omega) (by simp[hn.1]),List.getElem?_append_left (by simpa using hi),Proofs.YtmkdpmfhlfhjkaaGreatDoor.w2,List.getElem?_set_ne (Ne.symm hn.2),List.getElem?_set_ne (Ne.symm hn.1)]
end
structure Rw (n:Nat) (L:List AO) (x y:SV):Prop where
 cell:x.isCell=true
 ycell:y.isCell=true
 fz:∀ M d,SV.fz n [] (L++M) (d+2) x=y
theorem Rw.app {n:Nat} {L:List AO} {x y:SV} (h:Rw n L x y) (M:List AO):Rw n (L++M) x y:=⟨h.cell,h.ycell,fun M' d=>by rw[List.append_assoc]; exact h.fz _ d⟩
theorem Rw.und {n:Nat} {L:List AO} {x:SV} (h:x.isCell=true) (hu:x.under n=true):Rw n L x x:=⟨h,h,fun M d=>fz_under hu⟩
theorem Rw.own {n q m sz ver T:Nat} {L:List AO} {cells:List SV} (h:L[q]? = some ⟨cells,T,ver,true⟩) (hl:cells.length=m*sz) (hu:SV.underL n cells=true):Rw n L (.own (n+q) 0 m sz ver) (.slc cells m):=by
 refine⟨rfl,rfl,fun M d => ?_⟩
 have hq:(L++M)[q]? = some ⟨cells,T,ver,true⟩:=by rw[List.getElem?_append_left (getElem?_lt h)]; exact h
 have hnu:¬ (SV.own (n+q) 0 m sz ver).under n=true:=by simp[SV.under]
 have e:n+q-n=q:=by omega
 have hp:placeOf [] q=none:=rfl
 rw[SV.fz,if_neg hnu]
 simp only[e,hq,hp]
 rw[if_pos ⟨trivial,trivial,by simp[hl]⟩]
 simp only[List.drop_zero]
 rw[List.take_of_length_le (by omega),map_fz_under _ _ _ _ hu]
def acN (l:List ActP):SV:=if l=[]then nl else .slc (rws ActP.c l) l.length
def StageP.cN (x:StageP):List SV:=[i64 x.k,st (B x.lb),st (B x.nm),i64 x.lo,i64 x.hi,exN x.wt,bl x.all,inN x.seen,exN x.who,acN x.acts,exN x.pays,i64 x.p]
def stO (x:StageP):AO:=⟨StageP.cN x,78,0,true⟩
theorem exN_le (l:List Ex):SV.le (exN l) (exS l):=by
 unfold exN; split
 · rename_i h; subst h; exact le_nil
 · exact SV.le.refl _
theorem inN_le (l:List Int):SV.le (inN l) (.slc (ints l) l.length):=by
 unfold inN; split
 · rename_i h; subst h; exact le_nil
 · exact SV.le.refl _
theorem acN_le (l:List ActP):SV.le (acN l) (.slc (rws ActP.c l) l.length):=by
 unfold acN; split
 · rename_i h; subst h; exact le_nil
 · exact SV.le.refl _
theorem cN_le (x:StageP):leL (StageP.cN x) (StageP.c x) :=
 leL.cons (SV.le.refl _) (leL.cons (SV.le.refl _) (leL.cons (SV.le.refl _) (leL.cons (SV.le.refl _) (leL.cons (SV.le.refl _) (leL.cons (exN_le _) (leL.cons (SV.le.refl _) (leL.cons (inN_le _) (leL.cons (exN_le _) (leL.cons (acN_le _) (leL.cons (exN_le _) (leL.cons (SV.le.refl _) leL.nil)))))))))))
@[simp] theorem exN_cell (l:List Ex):(exN l).isCell=true:=by unfold exN; split<;>rfl
@[simp] theorem inN_cell (l:List Int):(inN l).isCell=true:=by unfold inN; split<;>rfl
@[simp] theorem acN_cell (l:List ActP):(acN l).isCell=true:=by unfold acN; split<;>rfl
@[simp] theorem exN_und (n:Nat) (l:List Ex):(exN l).under n=true:=by unfold exN; split<;>simp[exS,SV.under,Ex.undL]
@[simp] theorem inN_und (n:Nat) (l:List Int):(inN l).under n=true:=by unfold inN; split<;>simp[SV.under,ints_und]
@[simp] theorem acN_und (n:Nat) (l:List ActP):(acN l).under n=true:=by unfold acN; split<;>simp[SV.under,rws_under (ActP.und _)]
@[simp] theorem exN_vd (l:List Ex):(exN l).vd=true:=by unfold exN; split<;>rfl
@[simp] theorem exN_flat (l:List Ex):(exN l).flat=[exN l]:=by unfold exN; split<;>rfl
@[simp] theorem exN_ug (l:List Ex):(exN l).ug=exN l:=by unfold exN; split<;>rfl
def PdS (c:Cx) (G:List AO) (j k:Nat) (q:StageP×Rd) (o:Out) (H':List AO):Prop :=
 if q.2.e=0 then o=.ret (.tup [])∧H'=w2 G j k (pdO c q.2) (stO q.1)else o=.pan (fltI q.2.e q.2.p)∧Keep G [j,k] H'
section
variable {H:List AO} {c:Cx} {r:Rd} {j k:Nat}
theorem PdS.ret {G H':List AO} {q:StageP×Rd} (he:q.2.e=0) (h:H'=w2 G j k (pdO c q.2) (stO q.1)):PdS c G j k q (.ret (.tup [])) H':=by unfold PdS; rw[if_pos he]; exact⟨rfl,h⟩
theorem PdS.pan {G H':List AO} {q:StageP×Rd} (he:q.2.e≠0) (h:Keep G [j,k] H'):PdS c G j k q (.pan (fltI q.2.e q.2.p)) H':=by unfold PdS; rw[if_neg he]; exact⟨rfl,h⟩
theorem w2_hu {p:AO} (hcl:closed H) (hJ:J2 H j k):∀ (i:Nat) (o:AO),i≠k->(w2 H j k (pdO c r) p)[i]? = some o->∀ s∈o.cells,s.under H.length=true:=by
 intro i o hi ho s hs
 rw[w2,List.getElem?_set_ne (Ne.symm hi)]at ho
 by_cases hij:i=j
 · subst hij
   rw[List.getElem?_set_self hJ.lj]at ho
   cases ho
   exact(SV.underL_iff _ _).1 (pd_und _ _ _ _) s hs
 · rw[List.getElem?_set_ne (Ne.symm hij)]at ho
   exact hcl i o ho s hs
theorem st_cv {n0:Nat} (hn0:n0=H.length) (hcl:closed H) (hJ:J2 H j k) {cells:List SV} {x:StageP} {L:List AO} (hfz:cells.map (SV.fz H.length [] L 3)=StageP.cN x) :
 Cv n0 (.tup []) (w2 H j k (pdO c r) ⟨cells,78,0,true⟩++L) (.tup []) (w2 H j k (pdO c r) (stO x)):=by
 have hk0:=w2_k (o:=pdO c r) (p:=⟨cells,78,0,true⟩) hJ []
 rw[List.append_nil]at hk0
 have hz:=Refz.one (H0:=w2 H j k (pdO c r) ⟨cells,78,0,true⟩) (L:=L) (ks:=[]) (d:=3) (j:=k) (o:=⟨cells,78,0,true⟩) (by rw[w2_len]; exact w2_hu hcl hJ) hk0 rfl (by
  rw[w2_len,hfz]
  intro s hs
  simp[StageP.cN]at hs
  rcases hs with rfl | rfl | rfl | rfl | rfl | rfl | rfl | rfl | rfl | rfl | rfl | rfl<;>simp)
 rw[w2_len,hfz]at hz
 have hs:(w2 H j k (pdO c r) ⟨cells,78,0,true⟩).set k ⟨StageP.cN x,78,0,true⟩=w2 H j k (pdO c r) (stO x):=by rw[w2,List.set_set]; rfl
 rw[hs]at hz
 have:=cv_noneM (n0:=n0) (r:=.tup []) (Hx:=w2 H j k (pdO c r) ⟨cells,78,0,true⟩++L) 3 rfl (by rw[w2_len,hn0]; exact Nat.le_refl _) hz
 exact this
theorem accR_eq {s:List UInt8}:accR c s r=if peekR c s r=true then nextR r else r:=rfl
theorem want_at (hn:NumT c) (hct:c.ts.length<4611686018427387904) (hJ:J2 H j k) {p:AO} {L:List AO} {q n T ver:Nat} {l:List (List UInt8)} (hL:L[q]? = some ⟨wds l,T,ver,true⟩) (hn':n=l.length) (hl:l.length<4611686018427387904) (hw:∀ s∈l,wrdB s=true) (he:r.e=0) (ha:r.a≤c.ts.length) :
 OkP Tryz.prog 87 [rp j,.own (H.length+q) 0 n 1 ver] (w2 H j k (pdO c r) p++L) (PdV c (w2 H j k (pdO c r) p++L) j (fun _:Unit=>.tup []) ((),wantR c l r)):=by
 refine ok87 hn (w2_j hJ L) (fun o => ?_) hl hct hw he ha
 have:=own_set (G:=w2 H j k (pdO c r) p) (L:=L) (j:=j) (k:=q) (by simpa using hJ.lj) hL hn' o
 simpa using this
end
end Go.Proofs.YtmkdpmfhlfhjkaaGreatDoor
namespace Go.Proofs.YtmkdpmfhlfhjkaaGreatDoor
open Go.Ab
theorem numF_seen {c:Cx} {r:Rd} (he:r.e=0) (l:List Int):(if l.length=32∧r.a<c.ts.length∧tokB c { r with e:=0 } (fun t=>decide (t.k=2))=true then failR c 12 r else r)=if decide (l.length=32)=true∧isNum c r=true then failR c 12 r else r:=by
 have hr:({ r with e:=0 }:Rd)=r:=by cases r; simp only at he; subst he; rfl
 rw[hr]
 have:(l.length=32∧r.a<c.ts.length∧tokB c r (fun t=>decide (t.k=2))=true)↔(decide (l.length=32)=true∧isNum c r=true):=by
  simp only[decide_eq_true_eq]
  constructor
  · rintro⟨h1,_,h3⟩; exact⟨h1,h3⟩
  · rintro⟨h1,h3⟩; exact⟨h1,(tokB_lt h3).2.1,h3⟩
 simp only[this]
theorem seenL_bad {c:Cx} {n:Nat} {l:List Int} {r:Rd} (h:r.e≠0):seenL c n l r=(l,r):=by
 cases n with
 | zero=>rfl
 | succ n=>rw[seenL,if_neg (by rw[peek_bad h]; decide)]
theorem numF_keep {c:Cx} {d:Nat} {r:Rd} (full:Bool) (h:Gd c d r):Gd c d (numF c full r).2∧r.a≤(numF c full r).2.a:=by
 unfold numF
 obtain⟨h1,h2,_⟩:=full_keep (P:=full=true∧isNum c r=true) h
 obtain⟨h3,h4⟩:=num_keep _ h1
 exact⟨h3,by omega⟩
theorem wordF_keep {c:Cx} {d:Nat} {r:Rd} (full:Bool) (h:Gd c d r):Gd c d (wordF c full r).2∧r.a≤(wordF c full r).2.a:=by
 unfold wordF
 obtain⟨h1,h2,_⟩:=full_keep (P:=full=true∧freeR c r=true) h
 obtain⟨h3,h4⟩:=word_keep _ h1
 exact⟨h3,by omega⟩
theorem numF_off (c:Cx) (r:Rd):numF c false r=nmR c r:=by unfold numF; rw[if_neg (by simp)]
theorem wordF_off (c:Cx) (r:Rd):wordF c false r=wordR c r:=by unfold wordF; rw[if_neg (by simp)]
theorem wantR1 (c:Cx) (s:List UInt8) (r:Rd):wantR c [s] r=t2 c s r:=rfl
theorem wantR2 (c:Cx) (s s':List UInt8) (r:Rd):wantR c [s,s'] r=t2 c s' (t2 c s r):=rfl
theorem ints_snoc (l:List Int) (n:Int):ints (l++[n])=ints l++[i64 n]:=by simp[ints]
section
variable {H:List AO} {c:Cx} {r:Rd} {j k:Nat} {lb nm:List UInt8} {lo hi p:Int} {wt:List Ex}
def dlC (lb nm:List UInt8) (lo hi:Int) (wt:List Ex) (all:Bool) (xS:SV) (p:Int):List SV:=[i64 1,st (B lb),st (B nm),i64 lo,i64 hi,exN wt,bl all,xS,nl,nl,nl,i64 p]
theorem pdeal_t8 (hn:NumT c) (h20:c.ts.length≤20000) (hcl:closed H) (hJ:J2 H j k) (he:r.e=0) (ha:r.a≤c.ts.length) {all:Bool} {seen:List Int} {xS:SV} {L:List AO} (hS:Rw H.length L xS (inN seen)) {env:Env} (h0:env.get 0=rp j) {res:StageP×Rd}
 (hres:(⟨1,lb,nm,lo,hi,wt,all,seen,[],[],[],p⟩,t2 c [59] r)=res) :
 X Tryz.prog Tryz.f147.ntmps drawB (IC.tl 8 i147) env (w2 H j k (pdO c r) ⟨dlC lb nm lo hi wt all xS p,78,0,true⟩++L) (FinP H.length r147 (PdS c H j k res)):=by
 have hct:c.ts.length<4611686018427387904:=by omega
 subst hres
 have hw:=want_at (p:=⟨dlC lb nm lo hi wt all xS p,78,0,true⟩) (L:=L++[⟨[st (B [59])],9,0,true⟩]) (q:=L.length) (n:=1) (T:=9) (ver:=0) (l:=[[59]]) hn hct hJ (by simp[wds]) rfl (by simp) (by intro s hs; simp at hs; subst hs; rfl) he ha
 simp -implicitDefEqProofs[IC.tl,i147,r147,h0,rp]
 refine pd_call (by simpa[rp]using hw) (fun he2 => ?_) (fun he2 H' hk => ?_)
 · rw[w2_setj hJ]
   simp -implicitDefEqProofs
   rw[wantR1]at he2 ⊢
   refine⟨_,_,PdS.ret (q:=(⟨1,lb,nm,lo,hi,wt,all,seen,[],[],[],p⟩,t2 c [59] r)) he2 rfl,?_⟩
   refine st_cv rfl hcl hJ ?_
   have e1:=hS.fz [⟨[st (B [59])],9,0,true⟩] 1
   have e2:=(Rw.und (exN_cell wt) (exN_und H.length wt) (L:=L)).fz [⟨[st (B [59])],9,0,true⟩] 1
   simp only[dlC,List.map_cons,List.map_nil,StageP.cN,e1,e2]
   simp[exN,acN]
 · simp -implicitDefEqProofs
   exact⟨_,_,PdS.pan (q:=(⟨1,lb,nm,lo,hi,wt,all,seen,[],[],[],p⟩,t2 c [59] r)) he2 (hk.w2 hJ),cv_id⟩
theorem loop147 (hn:NumT c) (h20:c.ts.length≤20000) (hJ:J2 H j k) {d:Nat} {N:Nat} {K:XE->Env->List AO->Prop} {res:List Int×Rd} {L:List AO}
 (hexit:∀ l m M env,res.2.e=0->res.1=l->l.length=m+1->Gd c d res.2->env.get 0=rp j->K (.exit 0) env (w2 H j k (pdO c res.2) ⟨dlC lb nm lo hi wt false (.own (H.length+L.length) 0 (m+1) 1 m) p,78,0,true⟩++(L++⟨ints l,3,m,true⟩::M)))
 (hpan:res.2.e≠0->∀ env H',Keep H [j,k] H'->K (.panic (fltI res.2.e res.2.p)) env H') :
 ∀ (n:Nat) (l:List Int) (m:Nat) (r:Rd) (M:List AO) (env:Env),c.ts.length≤r.a+n->l.length=m+1->l.length≤r.a+1->seenL c n l r=res->Gd c d r->r.e=0->env.get 0=rp j->env.get 1=rp k →
  LI Tryz.prog N drawB l147_0 env (w2 H j k (pdO c r) ⟨dlC lb nm lo hi wt false (.own (H.length+L.length) 0 (m+1) 1 m) p,78,0,true⟩++(L++⟨ints l,3,m,true⟩::M)) K:=by
 have hct:c.ts.length<4611686018427387904:=by omega
 intro n
 induction n with
 | zero =>
  intro l m r M env hna hlm hla hr hg he h0 h1
  refine li_go hm l147_0.eq_1 ?_
  have hp:peekR c [44] r=false:=by rw[←Bool.not_eq_true]; intro h; have:=peek_lt h; omega
  have h90:=fun p L=>ok90 hn (w2_j (o:=pdO c r) (p:=p) hJ L) (by have:=hg.a; omega) he (s:=[44]) rfl
  simp -implicitDefEqProofs[h0,h1,rp]
  refine call_go (by simpa[rp]using h90 _ _) ?_
  simp only[accR,hp]
  simp -implicitDefEqProofs[h0,h1,hp]
  rw[w2_setj hJ]
  simp only[seenL]at hr
  subst hr
  exact hexit l m M _ he rfl hlm hg (by simp[h0])
 | succ n ih =>
  intro l m r M env hna hlm hla hr hg he h0 h1
  refine li_go hm l147_0.eq_1 ?_
  have h90:=fun p L=>ok90 hn (w2_j (o:=pdO c r) (p:=p) hJ L) (by have:=hg.a; omega) he (s:=[44]) rfl
  simp -implicitDefEqProofs[h0,h1,rp]
  refine call_go (by simpa[rp]using h90 _ _) ?_
  rw[seenL]at hr
  by_cases hp:peekR c [44] r=true
  · rw[if_pos hp]at hr
    have hlt:=peek_lt hp
    have hla2:=hg.a
    have hg1:=hg.next hlt
    have he1:(nextR r).e=0:=he
    have ha1:(nextR r).a=r.a+1:=rfl
    rw[t2_acc hp]at hr
    simp only[]at hr
    rw[numF_seen he1]at hr
    have hr2:seenL c n (l++[(numF c (decide (l.length=32)) (nextR r)).1]) (numF c (decide (l.length=32)) (nextR r)).2=res:=hr
    have hd:(decide ((m:Int)+1=32))=decide (l.length=32):=by rw[decide_eq_decide]; omega
    have h89:=fun p L=>ok89 (w2_j (o:=pdO c (nextR r)) (p:=p) hJ L) (by omega) he1 (decide (l.length=32))
    obtain⟨k1,k2⟩:=numF_keep (decide (l.length=32)) hg1
    simp only[accR,hp,if_true]
    rw[w2_setj hJ]
    have e2:=fun o cs L f=>w2_sok (o:=o) (p:=⟨cs,78,0,true⟩) hJ L f
    have e3:=fun o cs L=>w2_ock (o:=o) hJ cs 78 L
    simp -implicitDefEqProofs[h0,h1,hp,rp,e2,e3,dlC,hd]
    generalize numF c (decide (l.length=32)) (nextR r)=q at hr2 h89 k1 k2
    refine pd_call (by simpa[rp,dlC]using h89 _ _) (fun he2 => ?_) (fun he2 H' hk => ?_)
    · rw[w2_setj hJ]
      simp -implicitDefEqProofs[h0,h1,hp,rp,e2,e3,dlC,hd]
      have hil:(ints l).length=m+1:=by simp[ints,hlm]
      simp -implicitDefEqProofs[hil]
      refine⟨by omega,by omega,hlm,?_⟩
      refine LI.cong ?_ (ih (l++[q.1]) (m+1) q.2 (M++[⟨[i64 q.1],3,0,true⟩]) _ (by omega) (by simp[hlm]) (by simp; omega) hr2 k1 he2 ?_ ?_)
      · simp[ints_snoc,dlC]
      all_goals simp[h0,h1,rp]
    · simp -implicitDefEqProofs
      rw[seenL_bad he2]at hr2
      subst hr2
      exact hpan he2 _ _ (hk.w2 hJ)
  · rw[if_neg hp]at hr
    rw[Bool.not_eq_true]at hp
    simp only[accR,hp]
    simp -implicitDefEqProofs[h0,h1,hp]
    rw[w2_setj hJ]
    subst hr
    exact hexit l m M _ he rfl hlm hg (by simp[h0])
end
end Go.Proofs.YtmkdpmfhlfhjkaaGreatDoor
namespace Go.Proofs.YtmkdpmfhlfhjkaaGreatDoor
open Go.Ab
section
variable {H:List AO} {c:Cx} {r:Rd} {j k:Nat} {lb nm:List UInt8} {lo hi p:Int} {wt:List Ex}
theorem t2_eq {c:Cx} {s:List UInt8} {r:Rd}:(takeR c s r).2=t2 c s r:=rfl
theorem seenR_no (hp:peekR c [115,101,101,110] r=false):seenR c r=((false,[]),r):=by unfold seenR; rw[if_neg (by simp[hp])]
theorem seenR_by (hp:peekR c [115,101,101,110] r=true) (hb:(t2 c [98,121] (nextR r)).e≠0):(seenR c r).2=t2 c [98,121] (nextR r):=by
 unfold seenR
 rw[if_pos hp,t2_acc hp]
 dsimp only
 generalize t2 c [98,121] (nextR r)=r1 at hb ⊢
 rw[if_neg (by rw[peek_bad hb]; decide),num_still r1 hb,seenL_bad hb]
theorem seenR_all (hp:peekR c [115,101,101,110] r=true) (h2:peekR c [97,108,108] (t2 c [98,121] (nextR r))=true):seenR c r=((true,[]),nextR (t2 c [98,121] (nextR r))):=by
 unfold seenR
 rw[if_pos hp,t2_acc hp]
 dsimp only
 rw[if_pos h2,t2_acc h2]
theorem seenR_list (hp:peekR c [115,101,101,110] r=true) (h2:peekR c [97,108,108] (t2 c [98,121] (nextR r))=false) {r1:Rd} (h1:t2 c [98,121] (nextR r)=r1):seenR c r=((false,(seenL c c.ts.length [(nmR c r1).1] (nmR c r1).2).1),(seenL c c.ts.length [(nmR c r1).1] (nmR c r1).2).2):=by
 subst h1
 unfold seenR
 rw[if_pos hp,t2_acc hp]
 dsimp only
 rw[if_neg (by rw[h2]; decide)]
theorem pdeal_t7 (hn:NumT c) (h20:c.ts.length≤20000) (hcl:closed H) (hJ:J2 H j k) {d:Nat} (hg:Gd c d r) (he:r.e=0) {L:List AO} {env:Env} (h0:env.get 0=rp j) (h1:env.get 1=rp k) {res:StageP×Rd}
 (hres:(⟨1,lb,nm,lo,hi,wt,(seenR c r).1.1,(seenR c r).1.2,[],[],[],p⟩,t2 c [59] (seenR c r).2)=res) :
 X Tryz.prog Tryz.f147.ntmps drawB (IC.tl 7 i147) env (w2 H j k (pdO c r) ⟨dlC lb nm lo hi wt false nl p,78,0,true⟩++L) (FinP H.length r147 (PdS c H j k res)):=by
 have hct:c.ts.length<4611686018427387904:=by omega
 have ha:=hg.a
 have tail:∀ (r:Rd) (all:Bool) (seen:List Int) (xS:SV) (L:List AO) (env:Env),r.e=0->r.a≤c.ts.length->Rw H.length L xS (inN seen)->env.get 0=rp j->(⟨1,lb,nm,lo,hi,wt,all,seen,[],[],[],p⟩,t2 c [59] r)=res->_:=fun r all seen xS L env he ha hS h0 hr=>pdeal_t8 (lb:=lb) (nm:=nm) (lo:=lo) (hi:=hi) (p:=p) (wt:=wt) hn h20 hcl hJ he ha hS h0 hr
 have bad:∀ rf:Rd,rf.e≠0->(seenR c r).2=rf->∀ H',Keep H [j,k] H'->PdS c H j k res (.pan (fltI rf.e rf.p)) H':=by
  intro rf hf hs H' hk
  have:res.2=rf:=by rw[←hres]; simp only[hs]; exact t2_still _ hf
  rw[←this]at hf ⊢
  exact PdS.pan hf hk
 have h90:=fun p L=>ok90 hn (w2_j (o:=pdO c r) (p:=p) hJ L) (by omega) he (s:=[115,101,101,110]) rfl
 have e2:=fun o cs L f=>w2_sok (o:=o) (p:=⟨cs,78,0,true⟩) hJ L f
 have e3:=fun o cs L=>w2_ock (o:=o) hJ cs 78 L
 rw[show IC.tl 7 i147=.seq (IC.nth 7 i147) (IC.tl 8 i147)from rfl]
 generalize IC.tl 8 i147=t8 at tail ⊢
 simp -implicitDefEqProofs[IC.nth,i147,r147,h0,h1,rp]
 refine call_go (by simpa[rp]using h90 _ _) ?_
 rw[w2_setj hJ]
 by_cases hp:peekR c [115,101,101,110] r=true
 · have hg1:=hg.next (peek_lt hp)
   have he1:(nextR r).e=0:=he
   simp only[accR,hp,if_true]
   have hw:=want_at (p:=⟨dlC lb nm lo hi wt false nl p,78,0,true⟩) (L:=L++[⟨[st (B [98,121])],9,0,true⟩]) (q:=L.length) (n:=1) (T:=9) (ver:=0) (l:=[[98,121]]) hn hct hJ (by simp[wds]) rfl (by simp) (by intro s hs; simp at hs; subst hs; rfl) he1 hg1.a
   have hgb:=(t2_keep (c:=c) (d:=d) [98,121] hg1).1
   simp -implicitDefEqProofs[h0,h1,hp,rp]
   refine pd_call (by simpa[rp]using hw) (fun he2 => ?_) (fun he2 H' hk => ?_)
   · rw[w2_setj hJ]
     simp only[wantR1]at he2 ⊢
     have hab:=seenR_all (c:=c) (r:=r) hp
     have hli:=seenR_list (c:=c) (r:=r) hp
     generalize t2 c [98,121] (nextR r)=r1 at hgb he2 hab hli ⊢
     have ha1:=hgb.a
     have h90:=fun p L=>ok90 hn (w2_j (o:=pdO c r1) (p:=p) hJ L) (by omega) he2 (s:=[97,108,108]) rfl
     simp -implicitDefEqProofs[h0,h1,rp]
     refine call_go (by simpa[rp]using h90 _ _) ?_
     rw[w2_setj hJ]
     by_cases hp2:peekR c [97,108,108] r1=true
     · have hg2:=hgb.next (peek_lt hp2)
       simp only[accR,hp2,if_true]
       simp -implicitDefEqProofs[h0,h1,hp2,rp,e2,e3,dlC]
       have hx:=tail (nextR r1) true [] nl (L++[⟨[st (B [98,121])],9,0,true⟩]) ((54,rp k)::env) he2 hg2.a (Rw.und rfl rfl) (by simp[h0]) (by rw[←hres,hab hp2])
       refine Xc ?_ (tail (nextR r1) true [] nl (L++[⟨[st (B [98,121])],9,0,true⟩]) _ he2 hg2.a (Rw.und rfl rfl) ?_ (by rw[←hres,hab hp2]))
       · simp[dlC]
       · simp[h0,rp]
     · rw[Bool.not_eq_true]at hp2
       have hli:=hli hp2 rfl
       have h89:=fun p L=>ok89 (w2_j (o:=pdO c r1) (p:=p) hJ L) (by omega) he2 false
       have hkn:=num_keep (c:=c) (d:=d) r1 hgb
       simp only[numF_off]at h89
       simp only[accR,hp2]
       simp -implicitDefEqProofs[h0,h1,hp2,rp,e2,e3,dlC]
       generalize nmR c r1=q at hkn h89 hli
       obtain⟨k1,k2⟩:=hkn
       refine pd_call (by simpa[rp]using h89 _ _) (fun he3 => ?_) (fun he3 H' hk => ?_)
       · rw[w2_setj hJ]
         simp -implicitDefEqProofs[h0,h1,hp2,rp,e2,e3,dlC]
         generalize hs:seenL c c.ts.length [q.1] q.2=s at hli
         refine LI.cong (H':=w2 H j k (pdO c q.2) ⟨dlC lb nm lo hi wt false (.own (H.length+(L++[⟨[st (B [98,121])],9,0,true⟩]:List AO).length) 0 (0+1) 1 0) p,78,0,true⟩++((L++[⟨[st (B [98,121])],9,0,true⟩])++⟨ints [q.1],3,0,true⟩::[])) (by simp[dlC,ints]) ?_
         refine loop147 hn h20 hJ (L:=L++[⟨[st (B [98,121])],9,0,true⟩]) (res:=s) (fun l m M env hs0 hsl hlm hgs h0 => ?_) (fun hs0 env H' hk => ?_) c.ts.length [q.1] 0 q.2 [] _ (by omega) rfl (by simp) hs k1 he3 ?_ ?_
         · simp -implicitDefEqProofs
           have hR:Rw H.length ((L++[⟨[st (B [98,121])],9,0,true⟩])++⟨ints l,3,m,true⟩::M) (.own (H.length+(L++[⟨[st (B [98,121])],9,0,true⟩]:List AO).length) 0 (m+1) 1 m) (inN l):=by
            have:=Rw.own (n:=H.length) (q:=(L++[⟨[st (B [98,121])],9,0,true⟩]:List AO).length) (m:=m+1) (sz:=1) (ver:=m) (T:=3) (L:=(L++[⟨[st (B [98,121])],9,0,true⟩])++⟨ints l,3,m,true⟩::M) (cells:=ints l) (by simp) (by simp[ints,hlm]) (ints_und _ _)
            have hne:l≠[]:=by rintro rfl; simp at hlm
            rw[inN,if_neg hne,hlm]; exact this
           have hx:=tail s.2 false l _ _ env hs0 hgs.a hR h0 (by rw[←hres,hli,hsl])
           exact Xc (by simp[dlC]) hx
         · simp -implicitDefEqProofs
           exact⟨_,_,bad s.2 hs0 (by rw[hli]) _ hk,cv_id⟩
         all_goals simp[h0,h1,rp]
       · simp -implicitDefEqProofs
         rw[seenL_bad he3]at hli
         exact⟨_,_,bad q.2 he3 (by rw[hli]) _ (hk.w2 hJ),cv_id⟩
   · simp -implicitDefEqProofs
     rw[wantR1]at he2
     exact⟨_,_,bad _ he2 (seenR_by hp he2) _ (hk.w2 hJ),cv_id⟩
 · rw[Bool.not_eq_true]at hp
   simp only[accR,hp]
   simp -implicitDefEqProofs[h0,h1,hp]
   exact tail r false [] nl L _ he ha (Rw.und rfl rfl) (by simp[h0,rp]) (by rw[←hres,seenR_no hp])
end
end Go.Proofs.YtmkdpmfhlfhjkaaGreatDoor
namespace Go.Proofs.YtmkdpmfhlfhjkaaGreatDoor
open Go.Ab
def sC (lb:List UInt8) (p:Int):List SV:=[i64 0,st (B lb),st (B []),i64 0,i64 0,nl,bl false,nl,nl,nl,nl,i64 p]
section
variable {H:List AO} {c:Cx} {r:Rd} {j k:Nat} {lb:List UInt8} {p:Int} {F:Rd->Ex×Rd}
def dealT (c:Cx) (F:Rd->Ex×Rd) (lb:List UInt8) (p:Int) (r:Rd):StageP×Rd :=
 let nm:=wordR c r
 let lo:=nmR c (t2 c [105,110] nm.2)
 let hi:=nmR c (t2 c [46,46] lo.2)
 let w:=optR c F [119,101,105,103,104,116] hi.2
 let s:=seenR c w.2
 (⟨1,lb,nm.1,lo.1,hi.1,w.1,s.1.1,s.1.2,[],[],[],p⟩,t2 c [59] s.2)
theorem takeR_fst (c:Cx) (s:List UInt8) (r:Rd):(takeR c s r).1=hereR c r:=rfl
theorem dealT_eq (r:Rd):dealR c F { zStage with lb:=lb } r=dealT c F lb (hereR c r) (t2 c [100,101,97,108] r):=by
 unfold dealR dealT
 simp only[zStage,takeR_fst,t2_eq]
theorem w2_j0 {o p:AO} (h:J2 H j k):(w2 H j k o p)[j]? = some o:=by simpa using w2_j (o:=o) (p:=p) h []
theorem w2_setj0 {o p:AO} (h:J2 H j k) (o':AO):(w2 H j k o p).set j o'=w2 H j k o' p:=by simpa using w2_setj (o:=o) (p:=p) h [] o'
theorem w2_ock0 {o:AO} (h:J2 H j k) (cs:List SV) (T:TypeId):objCells (w2 H j k o ⟨cs,T,0,true⟩) k 0=cs:=by simpa using w2_ock (o:=o) h cs T []
theorem w2_sok0 {o p:AO} (h:J2 H j k) (f:AO->AO):Ab.setObj (w2 H j k o p) k f=w2 H j k o (f p):=by simpa using w2_sok (o:=o) (p:=p) h [] f
set_option maxHeartbeats 2000000 in
theorem pdeal_t2 (hn:NumT c) (h20:c.ts.length≤20000) (hcl:closed H) (hJ:J2 H j k) {d:Nat} (hF:PdC c 32 [] F d) (hkF:Kp c d F) (hst:Still F) (hg:Gd c d r) (he:r.e=0) {L:List AO} {env:Env} (h0:env.get 0=rp j) (h1:env.get 1=rp k) {nm:List UInt8} {res:StageP×Rd}
 (hres:(fun lo:Int×Rd=>(fun hi:Int×Rd=>(fun w:List Ex×Rd=>(fun s:(Bool×List Int)×Rd=>((⟨1,lb,nm,lo.1,hi.1,w.1,s.1.1,s.1.2,[],[],[],p⟩,t2 c [59] s.2):StageP×Rd)) (seenR c w.2)) (optR c F [119,101,105,103,104,116] hi.2)) (nmR c (t2 c [46,46] lo.2))) (nmR c (t2 c [105,110] r))=res) :
 X Tryz.prog Tryz.f147.ntmps drawB (IC.tl 2 i147) env (w2 H j k (pdO c r) ⟨dlC lb nm 0 0 [] false nl p,78,0,true⟩++L) (FinP H.length r147 (PdS c H j k res)):=by
 have hct:c.ts.length<4611686018427387904:=by omega
 have ha:=hg.a
 have tail:∀ (lo hi:Int) (wt:List Ex) (r:Rd) (L:List AO) (env:Env),Gd c d r->r.e=0->env.get 0=rp j->env.get 1=rp k->(⟨1,lb,nm,lo,hi,wt,(seenR c r).1.1,(seenR c r).1.2,[],[],[],p⟩,t2 c [59] (seenR c r).2)=res->_:=fun lo hi wt r L env hg he h0 h1 hr=>pdeal_t7 (lb:=lb) (nm:=nm) (lo:=lo) (hi:=hi) (p:=p) (wt:=wt) (L:=L) hn h20 hcl hJ hg he h0 h1 hr
 have bad:∀ rf:Rd,rf.e≠0->res.2=rf->∀ H',Keep H [j,k] H'->PdS c H j k res (.pan (fltI rf.e rf.p)) H':=by
  intro rf hf hs H' hk
  rw[←hs]at hf ⊢
  exact PdS.pan hf hk
 have e2:=fun o cs L f=>w2_sok (o:=o) (p:=⟨cs,78,0,true⟩) hJ L f
 have e3:=fun o cs L=>w2_ock (o:=o) hJ cs 78 L
 rw[show IC.tl 2 i147=.seq (IC.nth 2 i147) (IC.tl 3 i147)from rfl,show IC.tl 3 i147=.seq (IC.nth 3 i147) (IC.tl 4 i147)from rfl,show IC.tl 4 i147=.seq (IC.nth 4 i147) (IC.tl 5 i147)from rfl,show IC.tl 5 i147=.seq (IC.nth 5 i147) (IC.tl 6 i147)from rfl,show IC.tl 6 i147=.seq (IC.nth 6 i147) (IC.tl 7 i147)from rfl]
 generalize IC.tl 7 i147=t7 at tail ⊢
 have hw:=want_at (p:=⟨dlC lb nm 0 0 [] false nl p,78,0,true⟩) (L:=L++[⟨[st (B [105,110])],9,0,true⟩]) (q:=L.length) (n:=1) (T:=9) (ver:=0) (l:=[[105,110]]) hn hct hJ (by simp[wds]) rfl (by simp) (by intro s hs; simp at hs; subst hs; rfl) he ha
 have hg1:=(t2_keep (c:=c) (d:=d) [105,110] hg).1
 simp -implicitDefEqProofs[IC.nth,i147,r147,h0,h1,rp]
 refine pd_call (by simpa[rp]using hw) (fun he1 => ?_) (fun he1 H' hk => ?_)
 · rw[w2_setj hJ]
   simp only[wantR1]at he1 ⊢
   generalize t2 c [105,110] r=r1 at hg1 he1 hres ⊢
   have ha1:=hg1.a
   have h89:=fun p L=>ok89 (w2_j (o:=pdO c r1) (p:=p) hJ L) (by omega) he1 false
   simp only[numF_off]at h89
   have hg2:=(num_keep (c:=c) (d:=d) r1 hg1).1
   simp -implicitDefEqProofs[h0,h1,rp]
   generalize nmR c r1=q at hg2 h89 hres
   refine pd_call (by simpa[rp]using h89 _ _) (fun he2 => ?_) (fun he2 H' hk => ?_)
   · rw[w2_setj hJ]
     simp -implicitDefEqProofs[h0,h1,rp,e2,e3,dlC]
     have hw:=want_at (p:=⟨dlC lb nm q.1 0 [] false nl p,78,0,true⟩) (L:=(L++[⟨[st (B [105,110])],9,0,true⟩])++[⟨[st (B [46,46])],9,0,true⟩]) (q:=(L++[(⟨[st (B [105,110])],9,0,true⟩:AO)]).length) (n:=1) (T:=9) (ver:=0) (l:=[[46,46]]) hn hct hJ (by simp[wds]) rfl (by simp) (by intro s hs; simp at hs; subst hs; rfl) he2 hg2.a
     have hg3:=(t2_keep (c:=c) (d:=d) [46,46] hg2).1
     refine pd_call (by simpa[rp,dlC]using hw) (fun he3 => ?_) (fun he3 H' hk => ?_)
     · rw[w2_setj hJ]
       simp only[wantR1]at he3 ⊢
       try simp only at hres
       generalize t2 c [46,46] q.2=r3 at hg3 he3 hres ⊢
       have ha3:=hg3.a
       have h89:=fun p L=>ok89 (w2_j (o:=pdO c r3) (p:=p) hJ L) (by omega) he3 false
       simp only[numF_off]at h89
       have hg4:=(num_keep (c:=c) (d:=d) r3 hg3).1
       simp -implicitDefEqProofs[h0,h1,rp]
       generalize nmR c r3=q4 at hg4 h89 hres
       refine pd_call (by simpa[rp]using h89 _ _) (fun he4 => ?_) (fun he4 H' hk => ?_)
       · rw[w2_setj hJ]
         simp -implicitDefEqProofs[h0,h1,rp,e2,e3,dlC]
         have h181:=fun p L=>ok181 hn hF (s:=[119,101,105,103,104,116]) rfl (w2_j (o:=pdO c q4.2) (p:=p) hJ L) hct hg4 he4
         have hg5:=(optR_keep hkF [119,101,105,103,104,116] _ hg4).1
         try simp only at hres
         generalize optR c F [119,101,105,103,104,116] q4.2=q5 at hg5 h181 hres
         refine pd_call (by simpa[rp]using h181 _ _) (fun he5 => ?_) (fun he5 H' hk => ?_)
         · rw[w2_setj hJ]
           simp -implicitDefEqProofs[h0,h1,rp,e2,e3,dlC]
           refine Xc ?_ (tail q.1 q4.1 q5.1 q5.2 (L++[⟨[st (B [105,110])],9,0,true⟩,⟨[st (B [46,46])],9,0,true⟩]) _ hg5 he5 ?_ ?_ hres)
           · simp[dlC]
           all_goals simp[h0,h1,rp]
         · simp -implicitDefEqProofs
           refine⟨_,_,bad _ he5 ?_ _ (hk.w2 hJ),cv_id⟩
           rw[←hres,seen_still _ he5,t2_still _ he5]
       · simp -implicitDefEqProofs
         refine⟨_,_,bad _ he4 ?_ _ (hk.w2 hJ),cv_id⟩
         rw[←hres]
         simp only[opt_still _ _ he4,seen_still _ he4,t2_still _ he4]
     · simp -implicitDefEqProofs
       rw[wantR1]at he3
       refine⟨_,_,bad _ he3 ?_ _ (hk.w2 hJ),cv_id⟩
       rw[←hres]
       simp only[num_still _ he3,opt_still _ _ he3,seen_still _ he3,t2_still _ he3]
   · simp -implicitDefEqProofs
     refine⟨_,_,bad _ he2 ?_ _ (hk.w2 hJ),cv_id⟩
     rw[←hres]
     simp only[num_still _ he2,opt_still _ _ he2,seen_still _ he2,t2_still _ he2]
 · simp -implicitDefEqProofs
   rw[wantR1]at he1
   refine⟨_,_,bad _ he1 ?_ _ (hk.w2 hJ),cv_id⟩
   rw[←hres]
   simp only[num_still _ he1,opt_still _ _ he1,seen_still _ he1,t2_still _ he1]
set_option maxHeartbeats 2000000 in
theorem ok147 (hn:NumT c) (h20:c.ts.length≤20000) (hJ:J2 H j k) {d:Nat} (hF:PdC c 32 [] F d) (hkF:Kp c d F) (hst:Still F) (ho:H[j]? = some (pdO c r)) (hk0:H[k]? = some ⟨sC lb p,78,0,true⟩) (hg:Gd c d r) (he:r.e=0) :
 OkP Tryz.prog 147 [rp j,rp k] H (PdS c H j k (dealT c F lb p r)):=by
 have hct:c.ts.length<4611686018427387904:=by omega
 have ha:=hg.a
 have e2:=fun o cs f=>w2_sok0 (o:=o) (p:=⟨cs,78,0,true⟩) hJ f
 have e3:=fun o cs=>w2_ock0 (o:=o) hJ cs 78
 refine okP_fn hm Tryz.func147 c147 (by simp[rp,SV.under,hJ.lj,hJ.lk]) fun hcl => ?_
 refine Xc (H':=w2 H j k (pdO c r) ⟨sC lb p,78,0,true⟩) (w2_same ho hk0) ?_
 have hg1:=(word_keep (c:=c) (d:=d) r hg).1
 have h88:=fun p=>ok88 (w2_j0 (o:=pdO c r) (p:=p) hJ) (by omega) he false
 simp only[wordF_off]at h88
 have tail:∀ (nm:List UInt8) (r:Rd) (L:List AO) (env:Env) (res:StageP×Rd),Gd c d r->r.e=0->env.get 0=rp j->env.get 1=rp k->_->_:=fun nm r L env res hg he h0 h1 hr=>pdeal_t2 (lb:=lb) (nm:=nm) (p:=p) (L:=L) (res:=res) hn h20 hcl hJ hF hkF hst hg he h0 h1 hr
 rw[show i147=.seq (IC.nth 0 i147) (.seq (IC.nth 1 i147) (IC.tl 2 i147))from rfl]
 generalize IC.tl 2 i147=t2' at tail ⊢
 generalize hres:dealT c F lb p r=res
 unfold dealT at hres
 simp -implicitDefEqProofs[IC.nth,i147,r147,rp,e2,e3,sC]
 generalize wordR c r=q at hg1 h88 hres
 refine pd_call (by simpa[rp]using h88 _) (fun he1 => ?_) (fun he1 H' hk => ?_)
 · rw[w2_setj0 hJ]
   simp -implicitDefEqProofs[rp,e2,e3]
   refine Xc ?_ (tail q.1 q.2 [] _ res hg1 he1 ?_ ?_ hres)
   · simp[dlC,exN]
   all_goals simp[rp]
 · simp -implicitDefEqProofs
   have hb:res.2=q.2:=by
    rw[←hres]
    simp only[num_still _ he1,opt_still _ _ he1,seen_still _ he1,t2_still _ he1]
   have hk':Keep H [j,k] H':=(show Keep (w2 H j k (pdO c r) _++[]) [j] H' by simpa using hk).w2 hJ
   rw[←hb]at he1 ⊢
   exact⟨_,_,PdS.pan he1 hk',cv_id⟩
end
end Go.Proofs.YtmkdpmfhlfhjkaaGreatDoor
namespace Go.Proofs.YtmkdpmfhlfhjkaaGreatDoor
open Go.Ab
theorem okP_WI {P:Program} (hm:P.follows .mixedOrders=true) {f:FuncId} {fn:Func} {i:IC} {rs:List RS} (hf:P.funcs[f]? = some fn) (hc:chkF P drawB fn i rs=true)
 {args:List SV} {H:List AO} {Pt:Out->List AO->Prop} (hn:args.length=fn.params.size+fn.nfree)
 (hx:closed H->WI P fn.ntmps drawB i (argsEnv args) H (FinP H.length rs Pt)):OkP P f args H Pt:=by
 unfold chkF at hc
 rw[Bool.and_eq_true,Bool.and_eq_true,Bool.and_eq_true]at hc
 obtain⟨⟨⟨h1,h2⟩,h3⟩,h4⟩:=hc
 split at h1
 · rename_i c hb
   exact okP_W hf hb (by simpa using h2) (by rw[hn]; simpa using h4) h3 fun hcl=>hx hcl c h1
 · cases h1
section
variable {H:List AO} {c:Cx} {r:Rd} {j:Nat}
theorem s1_j (hj:j<H.length) (o:AO) (L:List AO):(H.set j o++L)[j]? = some o:=by rw[List.getElem?_append_left (by simpa using hj)]; simp[hj]
theorem s1_set (hj:j<H.length) (o o':AO) (L:List AO):(H.set j o++L).set j o'=H.set j o'++L:=by rw[List.set_append_left _ _ (by simpa using hj),List.set_set]
theorem ok91p (hj:j<H.length) (r:Rd) (L:List AO):Ok Tryz.prog 91 [rp j] (H.set j (pdO c r)++L) (.ret (i64 (hereR c r))) (H.set j (pdO c r)++L):=ok91 (s1_j hj _ _)
theorem ok90p (hn:NumT c) (hj:j<H.length) (hl:r.a<4611686018427387904) (he:r.e=0) (L:List AO) {s:List UInt8} (hs:wrdB s=true):Ok Tryz.prog 90 [rp j,st (B s)] (H.set j (pdO c r)++L) (.ret (bl (peekR c s r))) (H.set j (pdO c (accR c s r))++L):=by
 have:=ok90 hn (s1_j hj (pdO c r) L) hl he hs
 rwa [s1_set hj]at this
theorem ok88p (hj:j<H.length) (hl:r.a<4611686018427387904) (he:r.e=0) (L:List AO) (full:Bool):OkP Tryz.prog 88 [rp j,bl full] (H.set j (pdO c r)++L) (PdV c (H.set j (pdO c r)++L) j (fun s=>st (B s)) (wordF c full r)):=ok88 (s1_j hj (pdO c r) L) hl he full
theorem ok89p (hj:j<H.length) (hl:r.a<4611686018427387904) (he:r.e=0) (L:List AO) (full:Bool):OkP Tryz.prog 89 [rp j,bl full] (H.set j (pdO c r)++L) (PdV c (H.set j (pdO c r)++L) j i64 (numF c full r)):=ok89 (s1_j hj (pdO c r) L) hl he full
theorem want_p (hn:NumT c) (hct:c.ts.length<4611686018427387904) (hj:j<H.length) {L:List AO} {q n T ver:Nat} {l:List (List UInt8)} (hL:L[q]? = some ⟨wds l,T,ver,true⟩) (hn':n=l.length) (hl:l.length<4611686018427387904) (hw:∀ s∈l,wrdB s=true) (he:r.e=0) (ha:r.a≤c.ts.length) :
 OkP Tryz.prog 87 [rp j,.own (H.length+q) 0 n 1 ver] (H.set j (pdO c r)++L) (PdV c (H.set j (pdO c r)++L) j (fun _:Unit=>.tup []) ((),wantR c l r)):=by
 refine ok87 hn (s1_j hj _ L) (fun o => ?_) hl hct hw he ha
 have:=own_set (G:=H.set j (pdO c r)) (L:=L) (j:=j) (k:=q) (by simpa using hj) hL hn' o
 simpa using this
def gotoT (c:Cx) (r:Rd):List UInt8×Rd:=((wordR c r).1,t2 c [59] (wordR c r).2)
theorem ok201 (hn:NumT c) (hct:c.ts.length<4611686018427387904) {q:Nat} (hq:H[q]? = some (bxO j)) (ho:H[j]? = some (pdO c r)) (he:r.e=0) (ha:r.a≤c.ts.length):OkP Tryz.prog 201 [rp q] H (PdV c H j (fun s=>st (B s)) (gotoT c r)):=by
 have hj:=getElem?_lt ho
 have hqj:=getElem?_lt hq
 have hne:j≠q:=by
  rintro rfl
  rw[hq]at ho
  simp only[bxO,pdO,Option.some.injEq,AO.mk.injEq]at ho
  have:=congrArg List.length ho.1
  simp[pdC]at this
 have e1:objCells H q 0=[rp j]:=objCells_of (o:=bxO j) hq rfl
 have e1s:∀ o L,objCells (H.set j o++L) q 0=[rp j]:=fun o L=>objCells_of (o:=bxO j) (by rw[List.getElem?_append_left (by simpa using hqj),List.getElem?_set_ne hne]; exact hq) rfl
 have e1n:∀ o,objCells (H.set j o) q 0=[rp j]:=fun o=>by simpa using e1s o []
 have h88:=ok88 ho (by omega) he false
 simp only[wordF_off]at h88
 have hwk:(wordR c r).2.a≤c.ts.length:=by
  unfold wordR; split
  · rename_i h; exact(tokB_lt h).2.1
  · unfold failR; split<;>exact ha
 refine okP_fn hm Tryz.func201 c201 (by simp[rp,SV.under,hqj]) fun hcl => ?_
 unfold gotoT
 simp -implicitDefEqProofs[i201,r201,rp,e1,e1n]
 generalize wordR c r=w at h88 hwk ⊢
 refine pd_call (by simpa[rp]using h88) (fun he1 => ?_) (fun he1 H' hk => ?_)
 · simp -implicitDefEqProofs[rp,e1,e1n,e1s]
   have hw:=want_p (r:=w.2) (L:=[⟨[st (B [59])],9,0,true⟩]) (q:=0) (n:=1) (T:=9) (ver:=0) (l:=[[59]]) hn hct hj (by simp[wds]) rfl (by simp) (by intro s hs; simp at hs; subst hs; rfl) he1 hwk
   refine pd_call (by simpa[rp]using hw) (fun he2 => ?_) (fun he2 H' hk => ?_)
   · rw[s1_set hj]
     simp -implicitDefEqProofs[rp,e1,e1n,e1s]
     simp only[wantR1]at he2 ⊢
     exact⟨_,_,PdV.got he2 rfl rfl rfl,cv_fz 2 (closed_pd (c:=c) (a:=(t2 c [59] w.2).a) (v:=(t2 c [59] w.2).v) hcl) (by simp) rfl⟩
   · simp -implicitDefEqProofs
     rw[wantR1]at he2
     exact⟨_,_,PdV.pan (q:=(w.1,t2 c [59] w.2)) he2 hk.of_set,cv_id⟩
 · simp -implicitDefEqProofs
   refine⟨_,_,PdV.eqv (q:=w) (.inr ⟨he1,?_,?_⟩) (PdV.pan he1 hk),cv_id⟩<;>simp only[t2_still _ he1]
theorem setR_eq {F:Rd->Ex×Rd} (l:List SetP):setR c F l r=(⟨(wordF c (decide (l.length=32)) r).1,(F (t2 c [61] (wordF c (decide (l.length=32)) r).2)).1,hereR c r⟩,t2 c [59] (F (t2 c [61] (wordF c (decide (l.length=32)) r).2)).2):=by
 have hh:hereR c (if l.length=32∧freeR c r=true then failR c 12 r else r)=hereR c r:=by
  split
  · unfold failR; split<;>rfl
  · rfl
 unfold setR wordF
 simp only[hh,decide_eq_true_eq]
theorem sets_bad {F:Rd->Ex×Rd} {n:Nat} {l:List SetP} (h:r.e≠0):setsL c F n l r=(l,r):=by
 cases n with
 | zero=>rfl
 | succ n=>rw[setsL,if_neg (fun h2=>h h2.1)]
def pactO (n:Nat) (nm:List UInt8) (wh:List Ex) (hid:Bool) (m:Nat) (go:List UInt8) (p:Int):AO:=⟨[st (B nm),exN wh,bl hid,.own (n+3) 0 m 7 m,st (B go),i64 p],89,0,true⟩
set_option maxHeartbeats 2000000 in
theorem loop182 (hn:NumT c) (h20:c.ts.length≤20000) (hj:j<H.length) {d:Nat} {F:Rd->Ex×Rd} (hF:PdC c 32 [] F d) (hkF:Kp c d F) (hst:Still F) {nm:List UInt8} {wh:List Ex} {hid:Bool} {p:Int} {N:Nat} {K:XE->Env->List AO->Prop} {res:List SetP×Rd}
 (hexit:∀ env G,res.2.e=0->peekR c [125] res.2=true->Gd c d res.2->env.get 1=rp H.length->env.get 2=rp (H.length+1)->env.get 3=rp (H.length+2)->K (.exit 0) env (H.set j (pdO c (nextR res.2))++(bxO j::aZ::pactO H.length nm wh hid res.1.length [] p::setO res.1::G)))
 (hpan:res.2.e≠0->∀ env H',Keep H [j] H'->K (.panic (fltI res.2.e res.2.p)) env H') :
 ∀ (n:Nat) (l:List SetP) (r:Rd) (G:List AO) (env:Env),c.ts.length<r.a+n->l.length≤r.a->setsL c F n l r=res->Gd c d r->r.e=0->env.get 1=rp H.length->env.get 2=rp (H.length+1)->env.get 3=rp (H.length+2) →
  LI Tryz.prog N drawB l182_0 env (H.set j (pdO c r)++(bxO j::aZ::pactO H.length nm wh hid l.length [] p::setO l::G)) K:=by
 have hct:c.ts.length<4611686018427387904:=by omega
 intro n
 induction n with
 | zero=>intro l r G env hna hla hr hg; have:=hg.a; omega
 | succ n ih =>
  intro l r G env hna hla hr hg he h1 h2 h3
  have ha:=hg.a
  refine li_go hm l182_0.eq_1 ?_
  have h90:=ok90p (r:=r) hn hj (by omega) he (s:=[125])
  simp -implicitDefEqProofs[h1,h2,h3,rp,bxO]
  refine call_go (by simpa[rp]using h90 _ rfl) ?_
  rw[setsL]at hr
  by_cases hp:peekR c [125] r=true
  · rw[if_neg (by simp[hp])]at hr
    subst hr
    simp only[accR,hp,if_true]
    simp -implicitDefEqProofs[h1,h2,h3,hp]
    exact hexit _ G he hp hg (by simp[h1,rp]) (by simp[h2,rp]) (by simp[h3,rp])
  · rw[Bool.not_eq_true]at hp
    rw[if_pos ⟨he,hp⟩]at hr
    obtain⟨k1,k2,k3⟩:=setR_keep hkF l hg
    have hseq:=setR_eq (c:=c) (r:=r) (F:=F) l
    have hd:(decide ((l.length:Int)=32))=decide (l.length=32):=by rw[decide_eq_decide]; omega
    have h88:=fun L=>ok88p (c:=c) (r:=r) hj (by omega) he L (decide (l.length=32))
    have hgw:=(wordF_keep (decide (l.length=32)) hg).1
    simp only[accR,hp]
    simp -implicitDefEqProofs[h1,h2,h3,hp,rp,pactO]
    refine call_go (by simpa[rp]using ok91p (c:=c) hj r _) ?_
    simp -implicitDefEqProofs[h1,h2,h3,hp,rp,hd]
    generalize wordF c (decide (l.length=32)) r=w at h88 hseq hgw
    refine⟨rfl,?_⟩
    refine pd_call (by simpa[rp]using h88 _) (fun he1 => ?_) (fun he1 H' hk => ?_)
    · rw[s1_set hj]
      simp -implicitDefEqProofs[h1,h2,h3,rp,hd]
      have hg2:=(t2_keep (c:=c) (d:=d) [61] hgw).1
      have hw:=want_p (H:=H) (j:=j) (r:=w.2) (L:=bxO j::aZ::pactO H.length nm wh hid l.length [] p::setO l::(G++[⟨[st (B w.1),i64 0,i64 0,st (B []),nl,i64 0,i64 (hereR c r)],91,0,true⟩,⟨[st (B [61])],9,0,true⟩])) (q:=G.length+1+4) (n:=1) (T:=9) (ver:=0) (l:=[[61]]) hn hct hj (by simp[wds]) rfl (by simp) (by intro s hs; simp at hs; subst hs; rfl) he1 hgw.a
      refine pd_call (by simpa[rp,bxO,pactO]using hw) (fun he2 => ?_) (fun he2 H' hk => ?_)
      · rw[s1_set hj]
        simp only[wantR1]at he2 ⊢
        generalize t2 c [61] w.2=r2 at hg2 he2 hseq ⊢
        have hc:=fun L=>hF (s1_j hj (pdO c r2) L) hg2 he2
        have hg3:=(hkF _ hg2).1
        simp -implicitDefEqProofs[h1,h2,h3,rp]
        refine call_goP (by simpa[rp]using hc _) ?_
        intro o H' hq
        unfold PdP PdV at hq
        generalize F r2=x at hq hg3 hseq
        by_cases he3:x.2.e=0
        · rw[if_pos he3]at hq
          obtain⟨rfl,rfl⟩:=hq
          rw[s1_set hj]
          simp -implicitDefEqProofs[h1,h2,h3,rp,Ex.v]
          have hw:=want_p (H:=H) (j:=j) (r:=x.2) (L:=bxO j::aZ::pactO H.length nm wh hid l.length [] p::setO l::(G++[⟨st (B w.1)::(x.1.c++[i64 (hereR c r)]),91,0,true⟩,⟨[st (B [61])],9,0,true⟩,⟨[st (B [59])],9,0,true⟩])) (q:=G.length+2+4) (n:=1) (T:=9) (ver:=0) (l:=[[59]]) hn hct hj (by simp[wds]) rfl (by simp) (by intro s hs; simp at hs; subst hs; rfl) he3 hg3.a
          refine pd_call (by simpa[rp,bxO,pactO]using hw) (fun he4 => ?_) (fun he4 H' hk => ?_)
          · rw[s1_set hj]
            simp only[wantR1]at he4 ⊢
            simp -implicitDefEqProofs[h1,h2,h3,rp,setO,rws_len SetP.len]
            refine⟨by omega,by omega,?_⟩
            have hs4:(setR c F l r).2.e=0:=by rw[hseq]; exact he4
            have ha4:=k1.a
            have k3':=k3 hs4
            refine LI.cong ?_ (ih (l++[(setR c F l r).1]) (setR c F l r).2 (G++[⟨st (B w.1)::(x.1.c++[i64 (hereR c r)]),91,0,true⟩,⟨[st (B [61])],9,0,true⟩,⟨[st (B [59])],9,0,true⟩,⟨st (B w.1)::(x.1.c++[i64 (hereR c r)]),91,0,true⟩]) _ (by omega) (by simp; omega) hr k1 hs4 ?_ ?_ ?_)
            · rw[hseq]
              simp[pactO,setO,rws_app,rws,SetP.c,bxO,rp]
            all_goals simp[h1,h2,h3,rp]
          · simp -implicitDefEqProofs
            rw[wantR1]at he4
            have hs4:(setR c F l r).2=t2 c [59] x.2:=by rw[hseq]
            rw[sets_bad (by rw[hs4]; exact he4),hs4]at hr
            subst hr
            exact hpan he4 _ _ hk.of_set
        · rw[if_neg he3]at hq
          obtain⟨rfl,hk⟩:=hq
          simp -implicitDefEqProofs
          have hs4:(setR c F l r).2=x.2:=by rw[hseq]; exact t2_still _ he3
          rw[sets_bad (by rw[hs4]; exact he3),hs4]at hr
          subst hr
          exact hpan he3 _ _ hk.of_set
      · simp -implicitDefEqProofs
        rw[wantR1]at he2
        have hs4:(setR c F l r).2=t2 c [61] w.2:=by rw[hseq]; simp only[hst _ he2,t2_still _ he2]
        rw[sets_bad (by rw[hs4]; exact he2),hs4]at hr
        subst hr
        exact hpan he2 _ _ hk.of_set
    · simp -implicitDefEqProofs
      have hs4:(setR c F l r).2=w.2:=by rw[hseq]; simp only[t2_still _ he1,hst _ he1]
      rw[sets_bad (by rw[hs4]; exact he1),hs4]at hr
      subst hr
      exact hpan he1 _ _ hk.of_set
end
end Go.Proofs.YtmkdpmfhlfhjkaaGreatDoor
