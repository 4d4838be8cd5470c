/- Steps of the proof. -/
import Derived.Test.YtmkdpmfhlfhjkaaGreatDoorCore2
set_option linter.all false
namespace Go.Ab
section
variable [QR] [QP] [Qv]
inductive IC where
 |skip
 |reg (l:List Ins)
 |drw (ns:List Nat) (l:List Ins)
 |drq (Ts:List ZK) (n0:Nat) (ns:List Nat) (l:List Ins) (os:List (List Nat)) (tl:List Ins)
 |seq (a b:IC)
 |cond (c:Od) (a b:IC)
 |blk (id:Nat) (a:IC)
 |loop (a:IC)
 |exit (id:Nat)
 |ret
 |keep (ks:List Nat) (a:IC)
 |rng (k:Nat) (g:Od) (ps:List Nat) (ia ib:IC)
 |scp (a:IC)
 |lab
 |no
def Env.keep (e:Env) (ks:List Nat):Env:=ks.map λk=>(k,e.get k)
theorem Env.get_keep (e:Env) (ks:List Nat) (t:Nat):(e.keep ks).get t=e.get t\/(e.keep ks).get t=.any:=by
 induction ks with
 |nil=>right; rfl
 |cons k r ih =>
  simp only[Env.keep,Vg,Env.get];by_cases h:k=t
  . rw[Zo h,h]; left; rfl
  . rw[Zn h]; exact ih
theorem QJ.keep {S:St} {e:Env} {tmps:Array Value} (h:QJ S e tmps) (ks:List Nat):QJ S (e.keep ks) tmps:=by
 refine⟨λt => ?_⟩;rcases e.get_keep ks t with h1|h1<;>rw[h1]
 . exact h.get t
 . exact .any _
def QhW (l:List Ins) (env:Env):List Nat:=l.filterMap (·.d)++env.map Prod.fst
def W (P:ZL) (N:Nat) (c:Code) (env:Env) (H:ZG) (K:ZF):Prop :=
 ∀ (db:DB) (S:St) (a:Act),S.H=H->Sim S->QJ S env a.tmps->a.tmps.size=N->db.Ok S.w a.defers->c.wq db.ro P (Qaz S N db K) a S.w
def St.newRes (S:St) (T:ZK):St:=⟨upd S.ρ S.H.length none,S.H++[⟨[],T,0,false⟩],S.w⟩
theorem QtM (S:St) (T:ZK):Ext S.H.length S (S.newRes T) where
 obj:=by
  intro i o hi ho;refine⟨o,?_,Vb _,λ_=>QbH _ _ (by omega)⟩;show(S.H++_)[i]? = _;rw[Vc hi]; exact ho
 imm:=by
  intro k hk hn;refine⟨rfl,?_⟩;rintro⟨i,o,ho,hl,hρ⟩;simp only[St.newRes]at ho hρ;by_cases hi:i=S.H.length
  . subst hi; rw[QaZ]at hρ; cases hρ
  . rw[QbH _ _ hi]at hρ;have hi':i<S.H.length:=by have:=Ql ho; simp at this; omega
    rw[Vc hi']at ho;exact hn ⟨i,o,ho,hl,hρ⟩
 size:=Vb _
 shape:=λ_ _ _ h=>h
 loops:=λ_ r h=>⟨r,h⟩
 os:=rfl
 tape:=rfl
 output:=rfl
theorem QBB {S:St} (h:Sim S) (T:ZK):Sim (S.newRes T):=by
 refine h.step (QtM S T) (by simp[St.newRes]) ?_ ?_
 . intro i o ho;by_cases hi:i=S.H.length
   . subst hi;have:o=⟨[],T,0,false⟩:=by simpa[St.newRes]using ho.symm
     subst this;refine .inr ⟨λ_ => ?_,λs hs=>by simp at hs,λ_ hc=>absurd rfl hc⟩;simp only[St.newRes,QaZ]
   . have hi':i<S.H.length:=by have:=Ql ho; simp[St.newRes]at this; omega
     refine .inl ⟨?_,QbH _ _ hi,λb hb hl=>rfl⟩;simp only[St.newRes]at ho; rw[Vc hi']at ho; exact ho
 . intro i j o o' b hi hj hl hl' hρ hρ';have key:∀ (i:Nat) (o:AO),(S.newRes T).H[i]? = some o->(S.newRes T).ρ i=some b->S.H[i]? = some o/\S.ρ i=some b:=by
    intro i o ho hρ;by_cases hi:i=S.H.length
    . subst hi; simp only[St.newRes,QaZ]at hρ; cases hρ
    . have hi':i<S.H.length:=by have:=Ql ho; simp[St.newRes]at this; omega
      simp only[St.newRes]at ho hρ;rw[Vc hi']at ho;rw[QbH _ _ hi]at hρ;exact⟨ho,hρ⟩
   obtain⟨h1,h2⟩:=key i o hi hρ;obtain⟨h3,h4⟩:=key j o' hj hρ';exact h.inj i j o o' b h1 h3 hl hl' h2 h4
def QcB (Ts:List ZK):ZG:=Ts.map λT=>⟨[],T,0,false⟩
theorem Qo2:∀ (Ts:List ZK) {S:St},Sim S->∃ ρ,Ext S.H.length S ⟨ρ,S.H++QcB Ts,S.w⟩/\Sim ⟨ρ,S.H++QcB Ts,S.w⟩
 |[],S,h=>⟨S.ρ,by simpa[QcB]using Ext.refl _ S,by simpa[QcB]using h⟩
 |T::r,S,h=>by
  have h1:=QtM S T;have h2:=QBB h T;obtain⟨ρ,h3,h4⟩:=Qo2 r h2;have e:(S.newRes T).H++QcB r=S.H++QcB (T::r):=by simp[St.newRes,QcB]
  rw[e]at h3 h4;exact⟨ρ,h1.trans (h3.mono (h1.len (Vb _))),h4⟩
def E.rs (n:Nat):E->E
 |e=>e
def J.rs (n:Nat):J->J
 |.e i=>.e (i.rs n)
 |j=>j
def Ins.rs (n:Nat) (o:Ins):Ins:=⟨o.d,o.g,o.j.rs n⟩
def QeV (P:ZL) (N:Nat) (ops:Array Oper) (ns:List Nat) (l:List Ins):Bool :=
 (ns.zip l).all λx=>match ops[x.1]? with|some o=>QdR P N ops o x.2|none=>false
def J.dep:J->Bool
 |.p (.ld1 _)|.p (.ldn _ _)|.p (.lkp _ _ _ _ _)|.p (.bys _)|.q _ _=>true
 |_=>false
def J.quiet:J->Bool
 |.e _=>false
 |_=>true
def QbP (P:ZL) (o:Ins) (env:Env) (H:ZG) (v:SV):Prop :=
 match o.g with
 |none =>
  match o.j with
  |.p i=>(pv i env.ev H).1/\v=(pv i env.ev H).2
  |.q f args=>OkC P (env.ev f) (args.map env.ev) H (.ret v) H
  |.e _=>False
 |some (s,want) =>
  (env.get s).bish=true /\
  match o.j with
  |.p i=>((env.get s).on want=true->(pv i env.ev H).1)/\v=.gd ((env.get s).on want) (pv i env.ev H).2
  |.q f args=>∃ r,((env.get s).on want=true->OkC P (env.ev f) (args.map env.ev) H (.ret r) H)/\v=.gd ((env.get s).on want) r
  |.e _=>False
def Od.slots:Od->List Nat
 |.t n=>[n]
 |.c _=>[]
def I.ods:I->List Od
 |.eqf _ _ x y=>[x,y]
 |.mov x=>[x]
 |.pick c a b=>[c,a,b]
 |.bin _ _ x y=>[x,y]
 |.neg _ x=>[x]
 |.not x=>[x]
 |.cvi _ x=>[x]
 |.ld1 p=>[p]
 |.ldn _ p=>[p]
 |.fa _ p=>[p]
 |.fld1 _ x=>[x]
 |.ia _ s i=>[s,i]
 |.iap _ _ p i=>[p,i]
 |.ixs s i=>[s,i]
 |.ixa _ _ _ x i=>[x,i]
 |.sl _ x lo hi=>x::(lo.toList++hi.toList)
 |.sls x lo hi=>x::(lo.toList++hi.toList)
 |.ext x _=>[x]
 |.len x=>[x]
 |.lens x=>[x]
 |.mm _ _ x y=>[x,y]
 |.mkf _ a b=>a++b
 |.mki _ x=>[x]
 |.nck x=>[x]
 |.bld _ ps=>ps.map λp=>p.2.2
 |.kro _ _ _ _ _=>[]
 |.ifn _ _ x=>[x]
 |.rst x=>[x]
 |.tas _ _ _ x=>[x]
 |.gix _ _ _ _ j=>[j]
 |.lkp _ _ _ m k=>[m,k]
 |.iav _ s j=>[s,j]
 |.lnv x=>[x]
 |.bys x=>[x]
 |.no=>[]
def E.ods:E->List Od
 |.alc _ _=>[]
 |.box _ x=>[x]
 |.bsl _ _ _ _ ps=>ps.map λp=>p.2
 |.mks _ _ _ _ l c=>[l,c]
 |.app _ _ _ s x=>[s,x]
 |.st _ p x=>[p,x]
 |.stw ws _ p x=>p::x::ws.map Od.t
 |.call f as=>f::as
 |.nil _ _ x=>[x]
 |.sby x=>[x]
 |.aps _ s x=>[s,x]
 |.pan x=>[x]
 |.mkm _=>[]
 |.mup _ m k v=>[m,k,v]
def J.slots:J->List Nat
 |.p i=>i.ods.flatMap Od.slots
 |.q f args=>(f::args).flatMap Od.slots
 |.e i=>i.ods.flatMap Od.slots
def Ins.slots (o:Ins):List Nat:=(match o.g with|some (s,_)=>[s]|none=>[])++o.j.slots
def Qgn (ts:List Nat):Option Nat->Bool
 |some d=>ts.contains d
 |none=>false
def QfY (ts:List Nat):List (Ins×SV)->List Nat
 |[]=>ts
 | (p,_)::r=>if Qgn ts p.d=true then QfY (p.slots++ts) r else QfY ts r
def QjC (o:Ins) (pend:List (Ins×SV)) (p:Ins):Bool:=p.j.dep && !Qgn (QfY o.slots pend) p.d
def xd (P:ZL) (pend:List (Ins×SV)):List Ins->Env->ZG->(ZF)->Prop
 |[],env,H,K=>K .normal env H
 |o::r,env,H,K =>
  if o.j.quiet=true then
   match o.g,o.j with
   |none,.p i=>(pv i env.ev H).1/\xd P ((o,(pv i env.ev H).2)::pend) r (env.put o.d (pv i env.ev H).2) H K
   |none,.q f args=>∃ v,OkC P (env.ev f) (args.map env.ev) H (.ret v) H/\xd P ((o,v)::pend) r (env.put o.d v) H K
   |some (s,want),.p i=>(env.get s).bish=true/\((env.get s).on want=true->(pv i env.ev H).1) /\
    xd P ((o,.gd ((env.get s).on want) (pv i env.ev H).2)::pend) r (env.put o.d (.gd ((env.get s).on want) (pv i env.ev H).2)) H K
   |some (s,want),.q f args=>(env.get s).bish=true/\∃ v,((env.get s).on want=true->OkC P (env.ev f) (args.map env.ev) H (.ret v) H) /\
    xd P ((o,.gd ((env.get s).on want) v)::pend) r (env.put o.d (.gd ((env.get s).on want) v)) H K
   |_,_=>False
  else xo P o env H λx env' H' =>
   match x with
   |.normal=>(∀ p∈pend,QjC o pend p.1=true->QbP P p.1 env' H' p.2)/\xd P pend r env' H' K
   |x=>K x [] H'
def Q2 (P:ZL) (N:Nat) (D:Array Oper->List Nat->List Ins->Bool):Code->IC->Bool
 |c,.keep _ a=>Q2 P N D c a
 |_,.no=>true
 |.skip,.skip=>true
 |.region _ ops false,.reg l=>ndB ops&&chkL P N ops ops.toList l
 |.region _ ops true,.drw m l=>ndB ops&&(QeV P N ops m l&&(D ops m l&&QkL ops l))
 |.region _ ops true,.drq _ n0 m l os tl=>ndB ops&&((Qkf ops n0&&QcR ops os (ops.size-n0) [] (Array.replicate n0 true++Array.replicate (ops.size-n0) false))&&((chkL P N ops (ops.toList.drop n0) tl&&tl.all QgS)&&(QeV P N (ops.extract 0 n0) m l&&D (ops.extract 0 n0) m l)))
 |.seq x y,.seq a b=>Q2 P N D x a&&Q2 P N D y b
 |.cond c x y,.cond c' a b=>Qy c c'&&Q2 P N D x a&&Q2 P N D y b
 |.block id x,.blk id' a=>id==id'&&Q2 P N D x a
 |.loop x,.loop a=>Q2 P N D x a
 |.exit id,.exit id'=>id==id'
 |.ret,.ret=>true
 |.scope x,.scp a=>Q2 P N D x a
 |.label _,.lab=>true
 |.rangeFunc g ps a b,.rng _ g' ps' ia ib=>(Qy g g'&&ps.toList==ps')&&(Q2 P N D a ia&&Q2 P N D b ib)
 |_,_=>false
def DOk0 (P:ZL) (D:Array Oper->List Nat->List Ins->Bool):Prop :=
 ∀ (N:Nat) (ops:Array Oper) (m:List Nat) (l:List Ins) (env:Env) (H:ZG) (K:ZF),QeV P N ops m l=true->D ops m l=true->xd P [] l env H K ->
  ∀ (db:DB) (S:St) (a:Act),S.H=H->Sim S->QJ S env a.tmps->a.tmps.size=N->db.Ok S.w a.defers->Qcp P .any ops (Qaz S N db K) ops.size (Array.replicate ops.size false) a S.w.drew
structure DOk (P:ZL) (D:Array Oper->List Nat->List Ins->Bool):Prop where
 rs:∀ (n:Nat) (ops:Array Oper) (m:List Nat) (l:List Ins),D ops m l=true->D ops m (l.map (Ins.rs n))=true
 ok:DOk0 P D
 mixed:P.follows .mixedOrders=true
theorem QuQ {P:ZL} {N:Nat} {ops:Array Oper} {op:Oper} {o:Ins} (n:Nat) (h:QdR P N ops op o=true):QdR P N ops op (o.rs n)=true:=by
 obtain⟨d,g,j⟩:=o
 cases j with
 |p i=>exact h
 |q f as=>exact h
 |e i=>cases i<;>exact h
theorem QAL {P:ZL} {N:Nat} {ops:Array Oper} {ns:List Nat} {l:List Ins} (n:Nat) (h:QeV P N ops ns l=true):QeV P N ops ns (l.map (Ins.rs n))=true:=by
 unfold QeV at h ⊢;rw[Vn]at h ⊢;intro x hx;rw[List.zip_map_right,Vx]at hx;obtain⟨y,hy,rfl⟩:=hx;have:=h y hy;simp only[Prod.map_fst,id_eq,Prod.map_snd];split at this
 . exact QuQ n this
 . cases this
def Qgr (ro:Option Nat) (P:ZL) (c:Code) (Q:Exit->Act->ZM->Prop) (a:Act) (w:ZM):Prop :=
 ∀ (b:Frame) (k:List Item) (cs:List Frame),b.roundOf=ro->∃ e a' w',Q e a' w'/\ArrivesIn (Machine.fenced P (Fr ro)) P (lone (b.atR a (.code c::.inLoop c::k)) cs w) b k cs e a' w'
section
variable {ro:Option Nat} {P:ZL} {c:Code} {Q:Exit->Act->ZM->Prop} {a:Act} {w:ZM}
theorem Qhu {fr:Frame} {cs:List Frame} {w:ZM} (h:fr.about P w=none):(lone fr cs w).fenced P (Fr ro):=fenced_calm (n:=0) trivial (Qhl _ _) h
theorem QA8 (h:Qgr ro P c Q a w):(Code.loop c).wq ro P Q a w:=by
 intro b k cs hro _ _;obtain⟨e,a',w',hq,harr⟩:=h b k cs hro;exact⟨e,a',w',hq,.of_steps (.one (Qhu rfl) stepR_loop) harr⟩
theorem QB6 (h:c.wq ro P (Exit.then (Qgr ro P c Q) Q) a w):Qgr ro P c Q a w:=by
 intro b k cs hro;obtain⟨e,a₁,w₁,hq,harr⟩:=h b (.inLoop c::k) cs hro trivial (Qhl _ _)
 cases e with
 |normal =>
  obtain⟨e₂,a₂,w₂,hq₂,harr₂⟩:=hq b k cs hro;exact⟨e₂,a₂,w₂,hq₂,.of_steps (StepsIn.trans harr (.one (Qhu rfl) stepR_inLoop)) harr₂⟩
 |exit id=>exact⟨_,a₁,w₁,hq,.pass (x:=.inLoop c) rfl (λ_ _=>.inl (by simp)) harr⟩
 |goto l=>exact⟨_,a₁,w₁,hq,.pass (x:=.inLoop c) rfl (λ_ _=>.inl (by simp)) harr⟩
 |ret=>exact⟨_,a₁,w₁,hq,.pass (x:=.inLoop c) rfl (λ_ _=>.inl (by simp)) harr⟩
 |panic ch=>exact⟨_,a₁,w₁,hq,.pass (x:=.inLoop c) rfl (λ_ _=>.inl (by simp)) harr⟩
 |outgrown=>exact⟨_,a₁,w₁,hq,.pass (x:=.inLoop c) rfl (λ_ _=>.inl (by simp)) harr⟩
theorem QjB {Q':Exit->Act->ZM->Prop} (h:Qgr ro P c Q a w) (hq:∀ e a w,Q e a w->Q' e a w):Qgr ro P c Q' a w :=
 λb k cs hro=>let ⟨e,a',w',q,r⟩:=h b k cs hro; ⟨e,a',w',hq _ _ _ q,r⟩
end
def okL (P:ZL) (N:Nat) (D:Array Oper->List Nat->List Ins->Bool) (ps:List Nat) (ia ib:IC) (r:Loop):Prop :=
 r.params.toList=ps/\r.tmps.size=N/\Q2 P N D r.assign ia=true/\Q2 P N D r.body ib=true
def Env.vals (e:Env) (N:Nat):ZH:=(List.range N).map e.get
def lpo (P:ZL) (N:Nat) (D:Array Oper->List Nat->List Ins->Bool) (k:Nat) (ps:List Nat) (ia ib:IC) (cs:ZH) (st:LSt):AO:=⟨.lp k (okL P N D ps ia ib) st::cs,0,0,false⟩
def QfH:AO:=⟨[],0,1,false⟩
def LSt.out (K:ZF) (env:Env) (H:ZG):LSt->Prop
 |.ready=>K .normal env H
 |.busy=>False
 |.ret=>K .ret env H
 |.exit id=>K (.exit id) env H
 |.goto l=>K (.goto l) env H
def LI (P:ZL) (N:Nat) (D:Array Oper->List Nat->List Ins->Bool) (i:IC) (env:Env) (H:ZG) (K:ZF):Prop :=
 ∀ c,Q2 P N D c i=true->∀ (db:DB) (S:St) (a:Act),S.H=H->Sim S->QJ S env a.tmps->a.tmps.size=N->db.Ok S.w a.defers->Qgr db.ro P c (Qaz S N db K) a S.w
def WI (P:ZL) (N:Nat) (D:Array Oper->List Nat->List Ins->Bool) (i:IC) (env:Env) (H:ZG) (K:ZF):Prop :=
 ∀ c,Q2 P N D c i=true->W P N c env H K
def X (P:ZL) (N:Nat) (D:Array Oper->List Nat->List Ins->Bool):IC->Env->ZG->(ZF)->Prop
 |.skip,env,H,K=>K .normal env H
 |.reg l,env,H,K=>QbK P l env H K
 |.drw _ l,env,H,K=>xd P [] l env H λx e H =>
  match x with
  |.normal=>K .normal e H
  |x=>K x (Qdc l env) H
 |.drq Ts n0 _ l os tl,env,H,K=>xd P [] (l.map (Ins.rs H.length)) env (H++QcB Ts) λx env H =>
  match x with
  |.normal=>xrt P n0 tl os env H λx e H=>K x (e.keep (QhW tl env)) H
  |x=>K x env H
 |.seq a b,env,H,K=>X P N D a env H λx env H =>
  match x with
  |.normal=>X P N D b env H K
  |x=>K x env H
 |.cond c a b,env,H,K=>(env.ev c).isB=true/\((env.ev c).bool=true->X P N D a env H K)/\((env.ev c).bool=false->X P N D b env H K)
 |.blk id a,env,H,K=>X P N D a env H λx env H =>
  match x with
  |.exit i=>if i=id then K .normal env H else K (.exit i) env H
  |x=>K x env H
 |.loop a,env,H,K=>LI P N D a env H K
 |.exit id,env,H,K=>K (.exit id) env H
 |.ret,env,H,K=>K .ret env H
 |.keep ks a,env,H,K=>X P N D a (env.keep ks) H K
 |.rng kk g ps ia ib,env,H,K=>(env.ev g).vd=true/\match (env.ev g).ug with
  |.fn (.func k) first cap=>∃ Pt:Out->ZG->Prop,OkP P k (first++[.yl H.length]++cap) (H++[lpo P N D kk ps ia ib (env.vals N) .ready]) Pt /\
   ∀ out H',Pt out H'->match out with
    |.ret _=>∃ k' ok st cs,H'[H.length]? = some ⟨.lp k' ok st::cs,0,0,false⟩/\st.out K env (H'.set H.length QfH)
    |.pan x=>K (.panic x) env H'
  |_=>False
 |.scp a,env,H,K=>X P N D a env H λx env H =>
  match x with
  |.goto _=>False
  |x=>K x env H
 |.lab,env,H,K=>K .normal env H
 |.no,_,_,_=>False
section
variable {P:ZL} {N:Nat} {D:Array Oper->List Nat->List Ins->Bool}
theorem W.mono {c:Code} {env:Env} {H:ZG} {K K':ZF} (h:W P N c env H K) (hk:∀ x env H,K x env H->K' x env H):W P N c env H K':=by
 intro db S a h1 h2 h3 h4 h5;refine wq_mono (h db S a h1 h2 h3 h4 h5) ?_;rintro e a w ⟨x,env',ρ,H',g1,g2,g3,g4,g5,g6,g7⟩;exact⟨x,env',ρ,H',g1,g2,g3,g4,g5,g6,hk _ _ _ g7⟩
theorem W.keep {c:Code} {env:Env} {H:ZG} {K:ZF} (ks:List Nat) (h:W P N c (env.keep ks) H K):W P N c env H K :=
 λdb S a h1 h2 h3 h4 h5=>h db S a h1 h2 (h3.keep ks) h4 h5
theorem WI.keep {i:IC} {env:Env} {H:ZG} {K:ZF} (ks:List Nat) (h:WI P N D i (env.keep ks) H K):WI P N D i env H K :=
 λc hc=>(h c hc).keep ks
theorem W.seq {x y:Code} {env:Env} {H:ZG} {K:ZF}
 (h:W P N x env H λe env H=>match e with|.normal=>W P N y env H K|e=>K e env H):W P N (.seq x y) env H K:=by
 intro db S a h1 h2 h3 h4 h5;refine wpIn_seq (wq_mono (h db S a h1 h2 h3 h4 h5) ?_);rintro e a' w ⟨xe,env',ρ,H',g1,g2,g3,g4,g5,g6,g7⟩
 cases xe<;>cases e<;>simp only[ER]at g1
 . exact wq_mono (g7 db ⟨ρ,H',w⟩ a' rfl g3 g4 g5 g6) λe a w h=>Qaz.trans g2 h
 . exact⟨.exit _,env',ρ,H',g1,g2,g3,g4,g5,g6,g7⟩
 . exact⟨.goto _,env',ρ,H',g1,g2,g3,g4,g5,g6,g7⟩
 . exact⟨.ret,env',ρ,H',g1,g2,g3,g4,g5,g6,g7⟩
 . exact⟨.panic _,env',ρ,H',g1,g2,g3,g4,g5,g6,g7⟩
theorem W.cond {c:Operand} {c':Od} {x y:Code} {env:Env} {H:ZG} {K:ZF} (hc:Qy c c'=true) (hb:(env.ev c').isB=true)
 (ht:(env.ev c').bool=true->W P N x env H K) (hf:(env.ev c').bool=false->W P N y env H K):W P N (.cond c x y) env H K:=by
 intro db S a h1 h2 h3 h4 h5;have e1:=(QA hc h3).isB hb;exact wpIn_cond_split e1 (λh=>ht h db S a h1 h2 h3 h4 h5) (λh=>hf h db S a h1 h2 h3 h4 h5)
theorem W.block {id:Nat} {x:Code} {env:Env} {H:ZG} {K:ZF}
 (h:W P N x env H λe env H=>match e with|.exit i=>if i=id then K .normal env H else K (.exit i) env H|e=>K e env H):W P N (.block id x) env H K:=by
 intro db S a h1 h2 h3 h4 h5;refine wpIn_block (wq_mono (h db S a h1 h2 h3 h4 h5) ?_);rintro e a' w ⟨xe,env',ρ,H',g1,g2,g3,g4,g5,g6,g7⟩
 cases xe<;>cases e<;>simp only[ER]at g1
 case exit.exit i j =>
  subst g1;simp only[Exit.inBlock];simp only at g7;by_cases hij:i=id
  . rw[Zo hij]at g7 ⊢;exact⟨.normal,env',ρ,H',trivial,g2,g3,g4,g5,g6,g7⟩
  . rw[Zn hij]at g7 ⊢;exact⟨.exit i,env',ρ,H',rfl,g2,g3,g4,g5,g6,g7⟩
 . exact⟨.normal,env',ρ,H',g1,g2,g3,g4,g5,g6,g7⟩
 . exact⟨.goto _,env',ρ,H',g1,g2,g3,g4,g5,g6,g7⟩
 . exact⟨.ret,env',ρ,H',g1,g2,g3,g4,g5,g6,g7⟩
 . exact⟨.panic _,env',ρ,H',g1,g2,g3,g4,g5,g6,g7⟩
theorem W.scope {x:Code} {env:Env} {H:ZG} {K:ZF}
 (h:W P N x env H λe env H=>match e with|.goto _=>False|e=>K e env H):W P N (.scope x) env H K:=by
 intro db S a h1 h2 h3 h4 h5;refine QuR (wq_mono (h db S a h1 h2 h3 h4 h5) ?_);rintro e a' w ⟨xe,env',ρ,H',g1,g2,g3,g4,g5,g6,g7⟩
 cases xe<;>cases e<;>simp only[ER]at g1
 . exact⟨trivial,.normal,env',ρ,H',trivial,g2,g3,g4,g5,g6,g7⟩
 . exact⟨trivial,.exit _,env',ρ,H',g1,g2,g3,g4,g5,g6,g7⟩
 . exact g7.elim
 . exact⟨trivial,.ret,env',ρ,H',trivial,g2,g3,g4,g5,g6,g7⟩
 . exact⟨trivial,.panic _,env',ρ,H',g1,g2,g3,g4,g5,g6,g7⟩
theorem Env.vals_rel {S:St} {env:Env} {tmps:Array Value} (h:QJ S env tmps) (hN:tmps.size=N):VRs S (env.vals N) tmps.toList:=by
 refine⟨by simp[Env.vals,hN],λj s u h1 h2 => ?_⟩;have hj:j<N:=by have:=Ql h2; simp at this; omega
 simp only[Env.vals,Vp,YC hj,VG,Option.some.injEq]at h1;subst h1;have h3:=h.get j;have h4:tmps[j]? = some u:=by simpa using h2
 rwa [VQ,h4]at h3
theorem QxD {S:St} {db:DB} {ds:List Deferred} (hS:Sim S) (hdb:db.Ok S.w ds) (fn:ZN) {tmps:Array Value} {ps:Array Tmp} {a b:Code} {cs:ZH} {kk:Nat} {ok:Loop->Prop} (hv:VRs S cs tmps.toList)
 (hok:∀ st pe l,ok { state:=st,pending:=pe,fn,tmps,params:=ps,assign:=a,body:=b,defers:=l }) :
 ∃ (l:Nat) (mk:List Deferred) (w1:ZM) (ρ1:Nat->Option Nat),(Instr.enterLoop fn tmps ps a b db.ro).run P S.w=.ok (l,mk) w1/\ρ1 S.H.length=some l /\
  Ext S.H.length S ⟨ρ1,S.H++[⟨.lp kk ok .ready::cs,0,0,false⟩],w1⟩/\Sim ⟨ρ1,S.H++[⟨.lp kk ok .ready::cs,0,0,false⟩],w1⟩/\db.Ok w1 (mk++ds):=by
 cases hro:db.ro with
 |none =>
  have h1:=Qiy hS (.deferred (some []));have e1:=Qi0 (S:=S) (.deferred (some []));have hsz:(S.w.alloc (.deferred (some []))).heap.size=S.w.heap.size+1:=by simp
  obtain⟨r,hr⟩:∃ r:Loop,r={ state:=.ready,pending:=none,fn,tmps,params:=ps,assign:=a,body:=b,defers:=S.w.heap.size }:=⟨_,rfl⟩;have h2:=QoX (r:=r) (kk:=kk) (ok:=ok) (cs:=cs) (T:=0) h1 (by rw[hr]; exact hok _ _ _) (by rw[hr]; exact⟨rfl,rfl⟩) (by rw[hr]; exact hv.ext e1);have e2:=Qti (S:=⟨S.ρ,S.H,S.w.alloc (.deferred (some []))⟩) r ⟨.lp kk ok .ready::cs,0,0,false⟩;have hd2:=(hdb.ext hS e1).ext h1 e2;refine⟨S.w.heap.size+1,[QcD S.w.heap.size],_,_,?_,?_,e1.trans e2,h2,?_⟩
  . rw[run_enterLoop_outer,hr]; rfl
  . simp only[QaZ,hsz]
  . obtain⟨ms,k1,k2,k3⟩:=hdb.ms;refine⟨hd2.le,⟨S.w.heap.size::ms,by simp[k1],?_,?_⟩,hd2.ro⟩
    . rw[Y0];refine⟨λhm => ?_,k2⟩;have:=QcU (k3 _ hm).2;omega
    . obtain⟨ms',g1,_,g3⟩:=hd2.ms;have hmm:ms'=ms:=by
       have:ms'.map QcD=ms.map QcD:=by
        have:=g1.symm.trans k1;exact List.append_cancel_right this
       exact List.map_inj_right (λx y h=>by simpa[QcD]using h) |>.1 this
      subst hmm;intro D hD;rw[Vd]at hD;rcases hD with rfl|hD
      . refine⟨hdb.le,?_⟩;refine((Qbt _ _ ?_).trans (Qfd S.w _));rw[hsz]; omega
      . exact g3 D hD
 |some l0 =>
  obtain⟨r0,hr0⟩:=hdb.ro l0 hro;obtain⟨r,hr⟩:∃ r:Loop,r={ state:=.ready,pending:=none,fn,tmps,params:=ps,assign:=a,body:=b,defers:=r0.defers }:=⟨_,rfl⟩;have h2:=QoX (r:=r) (kk:=kk) (ok:=ok) (cs:=cs) (T:=0) hS (by rw[hr]; exact hok _ _ _) (by rw[hr]; exact⟨rfl,rfl⟩) (by rw[hr]; exact hv);have e2:=Qti (S:=S) r ⟨.lp kk ok .ready::cs,0,0,false⟩;refine⟨S.w.heap.size,[],_,_,?_,?_,e2,h2,hdb.ext hS e2⟩
  . rw[QBR hr0,hr]
  . simp only[QaZ]
theorem W.rng {kk:Nat} {g:Operand} {g':Od} {ps:Array Tmp} {a b:Code} {ia ib:IC} {env:Env} {H:ZG} {K:ZF} (hg:Qy g g'=true) (ha:Q2 P N D a ia=true) (hb:Q2 P N D b ib=true)
 (hvd:(env.ev g').vd=true) {k:ZN} {first cap:ZH} (hf:(env.ev g').ug=.fn (.func k) first cap) {Pt:Out->ZG->Prop}
 (hok:OkP P k (first++[.yl H.length]++cap) (H++[lpo P N D kk ps.toList ia ib (env.vals N) .ready]) Pt)
 (hK:∀ out H',Pt out H'->match out with
  |.ret _=>∃ k' ok st cs,H'[H.length]? = some ⟨.lp k' ok st::cs,0,0,false⟩/\st.out K env (H'.set H.length QfH)
  |.pan x=>K (.panic x) env H'):W P N (.rangeFunc g ps a b) env H K:=by
 intro db S act h1 h2 h3 h4 h5;subst h1;have hgv:=(QA hg h3).ug hvd;rw[hf]at hgv;obtain⟨us,vs,hv,hus,hvs⟩:=hgv.fn_inv;refine wpIn_rangeFunc λfn _ => ?_;obtain⟨l,mk,w1,ρ1,he,hl,hext,hsim,hdb⟩:=QxD (P:=P) (a:=a) (b:=b) (ps:=ps) h2 h5 fn (cs:=env.vals N) (kk:=kk) (ok:=okL P N D ps.toList ia ib) (Env.vals_rel h3 h4) (λst pe l=>⟨rfl,h4,ha,hb⟩);change Ext S.H.length S ⟨ρ1,S.H++[lpo P N D kk ps.toList ia ib (env.vals N) .ready],w1⟩at hext;change Sim ⟨ρ1,S.H++[lpo P N D kk ps.toList ia ib (env.vals N) .ready],w1⟩at hsim;obtain⟨o1,ho1⟩:∃ o1,o1=lpo P N D kk ps.toList ia ib (env.vals N) .ready:=⟨_,rfl⟩;rw[<-ho1]at hext hsim hok;have hat:(S.H++[o1])[S.H.length]? = some o1:=by simp
 obtain⟨y,hyv⟩:∃ y:Value,y=.func (.yield l) #[] #[]:=⟨_,rfl⟩;have hy:VRs (⟨ρ1,S.H++[o1],w1⟩:St) [.yl S.H.length] [y]:=by
  rw[hyv];exact VRs.cons (VR.yl (S:=⟨ρ1,S.H++[o1],w1⟩) S.H.length l o1 hat λ_=>hl) (VRs.nil _)
 have hcalls:=hok.2 ⟨ρ1,S.H++[o1],w1⟩ (us++[y]++vs) rfl hsim (((hus.ext hext).append hy).append (hvs.ext hext));refine⟨l,mk,w1,{ target:=.fn (.func k) vs.toArray,args:=us.toArray ++ #[y] },w1,k,(us++[y]++vs).toArray,w1,he,?_,λ_ _=>trivial,?_,QjZ,callsIn_wide.2 (hcalls.mono ?_)⟩
 . simp only[resolve,hv,Deferred.ofValue,Sem.run_pure,hyv,List.map_toArray,Vg,VF,Qtd]
 . have e1:us.toArray ++ #[y]++vs.toArray=(us++[y]++vs).toArray:=by apply Ys; simp
   simp only[invoke];rw[e1,hok.1]
 rintro e w3 ⟨out,H',v,ρ3,hpt,hext3,hsim3,hout⟩;have hE:=hext.trans (hext3.mono (hext.len (Vb _)));have hd3:=hdb.ext hsim hext3
 cases out with
 |pan x =>
  obtain⟨rfl,hx⟩:=hout;exact⟨.panic x,env,ρ3,H',⟨v,rfl,hx⟩,hE,hsim3,h3.ext hE,h4,hd3,hK _ _ hpt⟩
 |ret r =>
  obtain⟨rfl,hx⟩:=hout;obtain⟨k',ok',st,cs,hH,hst⟩:=hK _ _ hpt;obtain⟨l',r,k1,k2,k3,k4,k5⟩:=hsim3.loop hH;have hll:l'=l:=by
   obtain⟨o',g1,g2,g3⟩:=hext3.obj S.H.length o1 (by simp) hat;have g4:o'=⟨.lp k' ok' st::cs,0,0,false⟩:=by rw[show(⟨ρ3,H',w3⟩:St).H=H' from rfl,hH]at g1; cases g1; rfl
   have:=g3 (by rw[g4,ho1]; rfl);simp only at this k1;rw[k1,hl]at this;exact(Option.some.inj this)
  subst hll;have hnb:r.state≠.busy:=by
   intro hbz
   cases st<;>simp only[QgF,hbz]at k4<;>first|exact hst|(obtain⟨k4,_⟩:=k4; cases k4)
  have hend:=run_endLoop (P:=P) k2 hnb;obtain⟨ext4,sim4⟩:=QnS hsim3 (o':=QfH) (r':={ r with state:=.exhausted }) hH rfl (by simp) k1 k2 rfl (by simp[QfH]) (.inl rfl);obtain⟨w4,hw4⟩:∃ w4,w4=w3.putObj l' (.loop { r with state:=.exhausted }):=⟨_,rfl⟩;simp only at hend ext4 sim4;rw[<-hw4]at hend ext4 sim4;have hE4:=hE.trans (ext4.mono (hE.len (Vb _)));have hd4:=hd3.ext hsim3 ext4;have fin:∀ x e,ER ⟨ρ3,H'.set S.H.length QfH,w4⟩ x e->K x env (H'.set S.H.length QfH)->Qaz S N db K e { act with defers:=mk++act.defers } w4 :=
   λx e hx hk=>⟨x,env,ρ3,_,hx,hE4,sim4,h3.ext hE4,h4,hd4,hk⟩
  refine⟨r.pending,_,hend,?_⟩
  cases st with
  |ready=>rw[k4.2]; exact fin .normal .normal trivial hst
  |busy=>exact hst.elim
  |ret=>rw[k4.2]; exact wpIn_ret (fin .ret .ret trivial hst)
  |exit id=>rw[k4.2]; exact wpIn_exit (fin (.exit id) (.exit id) rfl hst)
  |goto j=>rw[k4.2]; exact wpIn_goto (fin (.goto j) (.goto j) rfl hst)
theorem Qev (hD:DOk P D) (i:IC):∀ {env:Env} {H:ZG} {K:ZF} {c:Code},Q2 P N D c i=true->X P N D i env H K->W P N c env H K:=by
 induction i with
 |skip =>
  intro env H K c hc h
  cases c<;>simp only[Q2,Vw]at hc
  intro db S a h1 h2 h3 h4 h5;subst h1;exact wpIn_skip ⟨.normal,env,S.ρ,S.H,trivial,Ext.refl _ S,h2,h3,h4,h5,h⟩
 |reg l =>
  intro env H K c hc h;obtain⟨id,ops,rfl,hnd,hc⟩:∃ id ops,c=.region id ops false/\ndB ops=true/\chkL P N ops ops.toList l=true:=by
   cases c with
   |region id ops dr=>cases dr<;>simp[Q2]at hc; exact⟨id,ops,rfl,hc⟩
   |_=>simp[Q2]at hc
  intro db S a h1 h2 h3 h4 h5;subst h1;exact Qxu hnd (QnA _ _ h2 h3 h4 h5 hc h)
 |drw m l =>
  intro env H K c hc h;obtain⟨id,ops,rfl,hnd,hcc⟩:∃ id ops,c=.region id ops true/\ndB ops=true/\(QeV P N ops m l=true/\D ops m l=true/\QkL ops l=true):=by
   cases c with
   |region id ops dr=>cases dr<;>simp[Q2]at hc; exact⟨id,ops,rfl,hc⟩
   |_=>simp[Q2]at hc
  intro db S a h1 h2 h3 h4 h5;exact wq_mono (Qso hnd hD.mixed (Qpl _ _ _ _ (hD.ok N ops m l env H _ hcc.1 hcc.2.1 h db S a h1 h2 h3 h4 h5) λt _=>rfl)) λe a' w' hq=>Qaz.off h3 hcc.2.2 hq
 |drq Ts n0 m l os tl =>
  intro env H K c hc h;obtain⟨id,ops,rfl,hnd,⟨h1,h2⟩,⟨h3,h3p⟩,h4,h5⟩:∃ id ops,c=.region id ops true/\ndB ops=true/\(Qkf ops n0=true/\QcR ops os (ops.size-n0) [] (Array.replicate n0 true++Array.replicate (ops.size-n0) false)=true)/\(chkL P N ops (ops.toList.drop n0) tl=true/\tl.all QgS=true)/\QeV P N (ops.extract 0 n0) m l=true/\D (ops.extract 0 n0) m l=true:=by
   cases c with
   |region id ops dr =>
    cases dr
    . simp[Q2]at hc
    . simp only[Q2,Va]at hc;exact⟨id,ops,rfl,hc.1,hc.2.1,hc.2.2.1,hc.2.2.2⟩
   |_=>simp[Q2]at hc
  intro db S a g1 g2 g3 g4 g5;subst g1;obtain⟨ρ0,he0,hs0⟩:=Qo2 Ts g2;have ht:=QxV h1;have hle:=ht.le;have hxs:(ops.extract 0 n0).size=n0:=by simp; omega
  have h6:=hD.ok N (ops.extract 0 n0) m _ env _ _ (QAL _ h4) (hD.rs _ _ m l h5) h db ⟨ρ0,S.H++QcB Ts,S.w⟩ a rfl hs0 (g3.ext he0) g4 g5;rw[hxs]at h6;have hnone:∀ n i,(Array.replicate n false).getD i false=false:=by
   intro n i;rw[VQ,Zg];split<;>rfl
  have h7:=Qzy ht (Q:=Qaz ⟨ρ0,S.H++QcB Ts,S.w⟩ N db K) ?_ ?_ n0 (Array.replicate n0 false) (Array.replicate ops.size false) a S.w.drew (by simp) (by simp) (λi _=>by rw[hnone,hnone]) (λi _=>hnone _ _) (λj o hj=>by rw[hnone]at hj; cases hj) h6
  . rw[show n0+(ops.size-n0)=ops.size by omega]at h7;exact wq_mono (Qso hnd hD.mixed h7) λe a' w hq=>Qaz.trans he0 hq
  . rintro e a w hne ⟨x,env',ρ,H',k1,k2,k3,k4,k5,k6,k7⟩
    cases x<;>cases e<;>simp only[ER]at k1
    . exact absurd rfl hne
    . exact⟨.exit _,env',ρ,H',k1,k2,k3,k4,k5,k6,k7⟩
    . exact⟨.goto _,env',ρ,H',k1,k2,k3,k4,k5,k6,k7⟩
    . exact⟨.ret,env',ρ,H',k1,k2,k3,k4,k5,k6,k7⟩
    . exact⟨.panic _,env',ρ,H',k1,k2,k3,k4,k5,k6,k7⟩
  . rintro fuel listed a w j1 j2 j3 j4 ⟨x,env',ρ,H',k1,k2,k3,k4,k5,k6,k7⟩
    cases x<;>simp only[ER]at k1
    have hls:listed=Array.replicate n0 true++Array.replicate (ops.size-n0) false:=by
     refine Zc λi => ?_;by_cases hi:i<ops.size
     . have e1:listed[i]? = some (decide (i<n0)):=by
        have hi':i<listed.size:=by omega
        rw[VZ hi'];by_cases h:i<n0
        . have:=j3 i h;rw[VQ,VZ hi']at this;simpa[h]using this
        . have:=j4 i (by omega);rw[VQ,VZ hi']at this;simpa[h]using this
       rw[e1,Array.getElem?_append];simp only[Array.size_replicate,Zg];by_cases h:i<n0
       . simp[h]
       . simp[h]; omega
     . rw[V1 (by omega),V1 (by simp; omega)]
    obtain⟨d,hd⟩:∃ d,fuel=(ops.size-n0)+d:=⟨fuel-(ops.size-n0),by omega⟩;have h8:Qcp P .any ops (Qaz ⟨ρ0,S.H++QcB Ts,S.w⟩ N db λx e H=>K x (e.keep (QhW tl env')) H) fuel listed a w :=
     Qyh h3 h3p fuel [] listed ⟨ρ,H',w⟩ env' a (by rw[hls,hd]; exact Qsy h2 d) j2 j3 (λrest hm=>Qtx k7 rest (by simpa using hm)) k2 k3 k4 k5 k6
    refine QjL (λe a w hh => ?_) _ _ _ _ h8;obtain⟨x,env2,ρ2,H2,q1,q2,q3,q4,q5,q6,q7⟩:=hh;exact⟨x,env2.keep (QhW tl env'),ρ2,H2,q1,q2,q3,q4.keep _,q5,q6,q7⟩
 |seq a b iha ihb =>
  intro env H K c hc h
  cases c<;>simp only[Q2,Vw,Va]at hc
  refine W.seq ((iha hc.1 h).mono ?_);intro x env H hk
  cases x<;>first|exact hk|exact ihb hc.2 hk
 |cond c' a b iha ihb =>
  intro env H K c hc h
  cases c<;>simp only[Q2,Vw,Va]at hc
  exact W.cond hc.1.1 h.1 (λhb=>iha hc.1.2 (h.2.1 hb)) (λhb=>ihb hc.2 (h.2.2 hb))
 |blk id a iha =>
  intro env H K c hc h
  cases c<;>simp only[Q2,Vw,Va,Zr]at hc
  obtain⟨rfl,hc⟩:=hc;exact W.block (iha hc h)
 |loop a iha =>
  intro env H K c hc h
  cases c<;>simp only[Q2,Vw]at hc
  intro db S a h1 h2 h3 h4 h5;exact QA8 (h _ hc db S a h1 h2 h3 h4 h5)
 |exit id =>
  intro env H K c hc h
  cases c<;>simp only[Q2,Vw,Zr]at hc
  subst hc;intro db S a h1 h2 h3 h4 h5;subst h1;exact wpIn_exit ⟨.exit _,env,S.ρ,S.H,rfl,Ext.refl _ S,h2,h3,h4,h5,h⟩
 |ret =>
  intro env H K c hc h
  cases c<;>simp only[Q2,Vw]at hc
  intro db S a h1 h2 h3 h4 h5;subst h1;exact wpIn_ret ⟨.ret,env,S.ρ,S.H,trivial,Ext.refl _ S,h2,h3,h4,h5,h⟩
 |scp a iha =>
  intro env H K c hc h
  cases c<;>simp only[Q2,Vw]at hc
  exact W.scope (iha hc h)
 |lab =>
  intro env H K c hc h
  cases c<;>simp only[Q2,Vw]at hc
  intro db S a h1 h2 h3 h4 h5;subst h1;exact wpIn_label ⟨.normal,env,S.ρ,S.H,trivial,Ext.refl _ S,h2,h3,h4,h5,h⟩
 |keep ks a iha =>
  intro env H K c hc h;exact(iha (by simpa only[Q2]using hc) h).keep ks
 |rng kk g' ps' ia ib _ _ =>
  intro env H K c hc h
  cases c<;>simp only[Q2,Vw,Va,Zr]at hc
  rename_i g ps a b;obtain⟨⟨hg,rfl⟩,ha,hb⟩:=hc;obtain⟨hvd,h⟩:=h;split at h
  . rename_i k first cap hf
    obtain⟨Pt,hok,hK⟩:=h;exact W.rng hg ha hb hvd hf hok hK
  . exact h.elim
 |no=>intro env H K c hc h; exact h.elim
theorem LI.round (hD:DOk P D) {i:IC} {env:Env} {H:ZG} {K:ZF}
 (h:X P N D i env H λx env H=>match x with|.normal=>LI P N D i env H K|x=>K x env H):LI P N D i env H K:=by
 intro c hc db S a h1 h2 h3 h4 h5;refine QB6 (wq_mono (Qev hD i hc h db S a h1 h2 h3 h4 h5) ?_);rintro e a' w ⟨xe,env',ρ,H',g1,g2,g3,g4,g5,g6,g7⟩
 cases xe<;>cases e<;>simp only[ER]at g1
 . exact QjB (g7 c hc db ⟨ρ,H',w⟩ a' rfl g3 g4 g5 g6) λe a w h=>Qaz.trans g2 h
 . exact⟨.exit _,env',ρ,H',g1,g2,g3,g4,g5,g6,g7⟩
 . exact⟨.goto _,env',ρ,H',g1,g2,g3,g4,g5,g6,g7⟩
 . exact⟨.ret,env',ρ,H',g1,g2,g3,g4,g5,g6,g7⟩
 . exact⟨.panic _,env',ρ,H',g1,g2,g3,g4,g5,g6,g7⟩
end
end
section
variable [QR] [QP] [Qv]
inductive RS where
 |t (n:Nat)
 |c1 (slot:Nat)
 |cn (slot n:Nat)
def RS.side (e:Env) (H:ZG):RS->Prop
 |.t _=>True
 |.c1 s=>(e.get s).vd=true/\0<((e.get s).ug.at H).length
 |.cn s n=>(e.get s).vd=true/\n<=((e.get s).ug.at H).length/\0<n
def RS.ev (e:Env) (H:ZG):RS->SV
 |.t n=>e.get n
 |.c1 s=>((e.get s).ug.at H).headD .any
 |.cn s n=>.agg (((e.get s).ug.at H).take n)
def Qa7 (e:Env) (H:ZG) (rs:List RS):SV :=
 match rs.map (RS.ev e H)with
 |[x]=>x
 |l=>.tup l
def Qpm (P:ZL):ResultVar->RS->Bool
 |.tmp t,.t n=>t==n
 |.cell t T,.c1 s=>t==s&&QcY P T
 |.cell t T,.cn s n=>t==s&&Qeu P T&&QaO P T n
 |_,_=>false
def Qcv (P:ZL):List ResultVar->List RS->Bool
 |[],[]=>true
 |x::r,y::s=>Qpm P x y&&Qcv P r s
 |_,_=>false
def Cv (n0:Nat) (r1:SV) (H1:ZG) (r:SV) (H':ZG):Prop :=
 ∀ (S:St) (v:Value),S.H=H1->Sim S->VR S r1 v->∃ ρ',Ext n0 S ⟨ρ',H',S.w⟩/\Sim ⟨ρ',H',S.w⟩/\VR ⟨ρ',H',S.w⟩ r v
def Fin (n0:Nat) (rs:List RS) (out:Out) (H':ZG):ZF:=λx env H1 =>
 match x,out with
 |.normal,.ret r=>(∀ s∈rs,s.side env H1)/\Cv n0 (Qa7 env H1 rs) H1 r H'
 |.ret,.ret r=>(∀ s∈rs,s.side env H1)/\Cv n0 (Qa7 env H1 rs) H1 r H'
 |.panic x,.pan y=>Cv n0 x H1 y H'
 |_,_=>False
def Qcl (l:ZH):Env:=(List.range l.length).zip l
section
variable {P:ZL} {S:St} {N:Nat} {D:Array Oper->List Nat->List Ins->Bool}
theorem QvZ (l:ZH) (k t:Nat):Env.get ((List.range' k l.length).zip l) t=if k<=t/\t<k+l.length then l.getD (t-k) .any else .any:=by
 induction l generalizing k with
 |nil=>simp[Env.get]
 |cons x r ih =>
  simp only[Vh,YT,List.zip_cons_cons,Env.get];rw[ih];by_cases h:k=t
  . subst h; simp
  . rw[Zn h];by_cases h1:k+1<=t/\t<k+1+r.length
    . rw[Zo h1,Zo (by omega)];have:t-k=(t-(k+1))+1:=by omega
      rw[this]; simp
    . rw[Zn h1,Zn (by omega)]
theorem Qnq {args:ZH} {vs:ZI} (h:VRs S args vs) (m:Nat):QJ S (Qcl args) (vs.toArray++Array.replicate m undef):=by
 refine⟨λt => ?_⟩;unfold Qcl;rw[YU,QvZ];by_cases ht:0<=t/\t<0+args.length
 . rw[Zo ht];obtain⟨u,h1,h2⟩:=h.getD (j:=t) (by omega);have hlt:t<vs.length:=Ql h1;rw[VQ,Array.getElem?_append];rw[Zo (by simpa using hlt)];simp only[List.getElem?_toArray,h1,VX,Nat.sub_zero]; exact h2
 . rw[Zn ht]; exact .any _
def Qhw (tmps:Array Value):ResultVar->Sem Value
 |.tmp t=>pure (tmps.getD t undef)
 |.cell a t=>do loadVar t (<- asAddr (tmps.getD a undef))
theorem Qv2 (fn:Func) (tmps:Array Value):results fn tmps=(do
 let vs <- fn.results.mapM (Qhw tmps)
 pure (if h:vs.size=1 then vs[0]else .tuple vs)):=by
 unfold results;congr 1
theorem Qrm {e:Env} {tmps:Array Value} (hS:Sim S) (he:QJ S e tmps):∀ {rvs:List ResultVar} {rs:List RS},Qcv P rvs rs=true->(∀ s∈rs,s.side e S.H) ->
 ∃ vs,(rvs.mapM (Qhw tmps)).run P S.w=.ok vs S.w/\VRs S (rs.map (RS.ev e S.H)) vs
 |[],[],_,_=>⟨[],rfl,VRs.nil S⟩
 |[],_::_,h,_=>by simp[Qcv]at h
 |_::_,[],h,_=>by simp[Qcv]at h
 |x::rvs,y::rs,h,hs=>by
  simp only[Qcv,Va]at h;obtain⟨vs,h1,h2⟩:=Qrm hS he h.2 (λs hm=>hs s (by simp[hm]));have h3:=hs y (by simp);have h4:=h.1;unfold Qpm at h4;split at h4
  . rename_i t n;simp at h4; subst h4;refine⟨tmps.getD t undef::vs,?_,VRs.cons (he.get _) h2⟩;simp[YS,h1,Qhw]
  . rename_i t T s;simp only[Va,Zr]at h4;obtain⟨rfl,h4⟩:=h4;obtain⟨g1,g2⟩:=h3;have h5:=(he.get t).ug g1;obtain⟨u,h6,h7⟩:=Qpo (P:=P) hS h5 h4 g2;have h0:((e.get t).ug.at S.H)[0]? = some ((e.get t).ug.at S.H)[0]:=Ve g2;obtain⟨ad,_,h8,_,_⟩:=h5.at hS h0;refine⟨u::vs,?_,VRs.cons h7 h2⟩;rw[h8]at h6;simp only[Instr.loadAt,Instr.sureAddr,Sem.run_bind,Sem.run_pure,Result.andThen_ok]at h6;rw[YS,Qhw,Sem.run_bind,Sem.run_bind,h8];simp only[asAddr,Sem.run_pure,Result.andThen_ok,h6,Sem.run_bind,h1]
  . rename_i t T s n;simp only[Va,Zr]at h4;obtain⟨⟨rfl,h4⟩,h4'⟩:=h4;obtain⟨g1,g2,g3⟩:=h3;have h5:=(he.get t).ug g1;obtain⟨u,h6,h7⟩:=Qoy (P:=P) hS h5 h4 h4' g2 g3;have h0:((e.get t).ug.at S.H)[0]? = some (((e.get t).ug.at S.H)[0]'(by omega)):=Ve (by omega);obtain⟨ad,_,h8,_,_⟩:=h5.at hS h0;refine⟨u::vs,?_,VRs.cons h7 h2⟩;rw[h8]at h6;simp only[Instr.loadAt,Instr.sureAddr,Sem.run_bind,Sem.run_pure,Result.andThen_ok]at h6;rw[YS,Qhw,Sem.run_bind,Sem.run_bind,h8];simp only[asAddr,Sem.run_pure,Result.andThen_ok,h6,Sem.run_bind,h1]
  . cases h4
theorem Qk6 {fn:Func} {e:Env} {tmps:Array Value} (hS:Sim S) (he:QJ S e tmps) {rs:List RS} (hc:Qcv P fn.results.toList rs=true) (hs:∀ s∈rs,s.side e S.H) :
 ∃ v,(results fn tmps).run P S.w=.ok v S.w/\VR S (Qa7 e S.H rs) v:=by
 obtain⟨vs,h1,h2⟩:=Qrm hS he hc hs;have h3:∃ arr:Array Value,arr=vs.toArray/\(results fn tmps).run P S.w=.ok (if h:arr.size=1 then arr[0]else .tuple arr) S.w:=by
  refine⟨vs.toArray,rfl,?_⟩;rw[Qv2,Array.mapM_eq_mapM_toList];simp only[Sem.run_bind,Sem.run_map,h1,Result.andThen_ok,Sem.run_pure]
 obtain⟨arr,rfl,h3⟩:=h3;refine⟨_,h3,?_⟩;unfold Qa7
 revert h2
 generalize rs.map (RS.ev e S.H)=l;intro h2
 match l,vs,h2 with
 |[],[],h2=>exact VR.of_tup h2
 |[x],[v],h2=>exact h2.2 0 x v rfl rfl
 |x::y::r,v::u::s,h2 =>
  rw[ZA (by simp)];exact VR.of_tup h2
 |[],_::_,h2=>simp[VRs]at h2
 |[_],[],h2=>simp[VRs]at h2
 |[_],_::_::_,h2=>simp[VRs]at h2
 |_::_::_,[],h2=>simp[VRs]at h2
 |_::_::_,[_],h2=>simp[VRs]at h2
structure QeC (n0:Nat) (w w':ZM):Prop where
 size:w'.heap.size=w.heap.size
 at_:∀ k,w'.heap[k]? = w.heap[k]? \/ (n0<=k/\w.heap[k]? = some (Obj.deferred (some []))/\w'.heap[k]? = some (Obj.deferred none))
 os:w'.os=w.os
 tape:w'.tape=w.tape
 output:w'.output=w.output
theorem Qer {n0:Nat} {ρ:Nat->Option Nat} {H:ZG} {w w':ZM} (h:QeC n0 w w'):QfU H.length ⟨ρ,H,w⟩ ⟨ρ,H,w'⟩:=by
 refine⟨λi o _ ho=>⟨o,ho,Vb _,λ_=>rfl⟩,λk c T f hk hn=>⟨?_,hn⟩,λk T m hs => ?_,λk es cl hk hn=>⟨?_,hn⟩⟩
 . rcases h.at_ k with h1|⟨_,h1,_⟩
   . exact h1
   . rw[show(⟨ρ,H,w⟩:St).w.heap[k]? = w.heap[k]? from rfl,h1]at hk; cases hk
 . unfold World.shape? at *;rcases h.at_ k with h1|⟨_,h1,_⟩
   . simp only at hs ⊢; rw[h1]; exact hs
   . simp only at hs; rw[h1]at hs; cases hs
 . rcases h.at_ k with h1|⟨_,h1,_⟩
   . exact h1
   . rw[show(⟨ρ,H,w⟩:St).w.heap[k]? = w.heap[k]? from rfl,h1]at hk; cases hk
theorem Qe0 {n0:Nat} {ρ:Nat->Option Nat} {H:ZG} {w w':ZM} (h:QeC n0 w w') (hS:Sim ⟨ρ,H,w⟩):Sim ⟨ρ,H,w'⟩:=by
 have hv:=Qer (ρ:=ρ) (H:=H) h;have hvs:∀ {l:ZH} {us:ZI},VRs ⟨ρ,H,w⟩ l us->VRs ⟨ρ,H,w'⟩ l us:=λh=>⟨h.1,λj s u h1 h2=>(h.2 j s u h1 h2).extV hv (.inl rfl)⟩;refine⟨λi o ho hl => ?_,hS.bel,hS.inj,λi o ho hl hc => ?_,hS.gl.extV hv,hS.kf.extV hv⟩
 . have h1:=hS.live i o ho hl;simp only at h1 ⊢
   cases hρ:ρ i with
   |none=>rw[hρ]at h1; exact h1
   |some b =>
    rw[hρ]at h1;obtain⟨us,rest,h2,h3⟩:=h1;refine⟨us,rest,?_,hvs h3⟩;rcases h.at_ b with h4|⟨_,h4,_⟩
    . rw[h4]; exact h2
    . rw[h4]at h2; cases h2
 . obtain⟨l,x,m,us,env,k1,k2,k3,k4,k6⟩:=hS.lp i o ho hl hc;refine⟨l,x,m,us,env,k1,k2,?_,k4,hvs k6⟩;simp only at k3 ⊢;rcases h.at_ l with h4|⟨_,h4,_⟩
   . rw[h4]; exact k3
   . rw[h4]at k3; cases k3; rcases k4.kind with ⟨r,e⟩|⟨es,cl,e⟩<;>cases e
theorem Qg7 {n n0:Nat} {S0:St} {ρ:Nat->Option Nat} {H:ZG} {w w':ZM} (h:QeC n0 w w') (he:Ext n S0 ⟨ρ,H,w⟩) (hn:S0.w.heap.size<=n0):Ext n S0 ⟨ρ,H,w'⟩:=by
 refine⟨he.obj,λk hk hnr => ?_,by have:=he.size; simp only[h.size]; exact this,λk T m hs => ?_,λk r hr => ?_,h.os.trans he.os,h.tape.trans he.tape,h.output.trans he.output⟩
 . obtain⟨h1,h2⟩:=he.imm k hk hnr;refine⟨?_,h2⟩;rcases h.at_ k with h3|⟨h3,_,_⟩
   . exact h3.trans h1
   . omega
 . exact(Qer (ρ:=ρ) (H:=H) h).shape k T m (he.shape k T m hs)
 . obtain⟨r',h1⟩:=he.loops k r hr;rcases h.at_ k with h3|⟨_,h3,_⟩
   . exact⟨r',h3.trans h1⟩
   . simp only at h1; rw[h3]at h1; cases h1
theorem QhX {fn:Func} {tmps:Array Value} {R:Ending->ZM->Prop} {n0:Nat} {u:FrameMode} (hu:u≠.run):∀ (ms:List Nat) (w:ZM),ms.Nodup->(∀ D∈ms,n0<=D/\w.heap[D]? = some (Obj.deferred (some []))) ->
 (∀ w',QeC n0 w w'->LeavesIn (Fr none) 0 P fn tmps R [] u w')->LeavesInM (Fr none) 0 P fn tmps R (ms.map QcD) u w
 |[],w,_,_,h=>h w ⟨rfl,λ_=>.inl rfl,rfl,rfl,rfl⟩
 |D::ms,w,hnd,hms,h=>by
  rw[Y0]at hnd;obtain⟨h1,h2⟩:=hms D (by simp);refine⟨hu,.inl ⟨D,_,rfl,run_takeDeferred h2,?_⟩⟩;refine QhX hu ms _ hnd.2 (λD' hD'=>⟨(hms D' (by simp[hD'])).1,?_⟩) λw' ht=>h w' ?_
  . have hne:D'≠D:=λe=>hnd.1 (e ▸ hD');exact(World.putObj_heap_other hne).trans (hms D' (by simp[hD'])).2
  . refine⟨by rw[ht.size]; simp,λk => ?_,ht.os,ht.tape,ht.output⟩;by_cases hk:k=D
    . subst hk;right;refine⟨h1,h2,?_⟩;rcases ht.at_ k with h3|⟨_,h3,h4⟩
      . exact h3.trans (World.putObj_heap_same (QcU h2))
      . exact h4
    . rcases ht.at_ k with h3|⟨h3,h4,h5⟩
      . exact .inl (h3.trans (World.putObj_heap_other hk))
      . exact .inr ⟨h3,(World.putObj_heap_other hk).symm.trans h4,h5⟩
def Qdm (n0:Nat) (Pt:Out->ZG->Prop) (v:SV) (H1:ZG):Prop:=∃ r H',Pt (.ret r) H'/\Cv n0 v H1 r H'
def FinP (n0:Nat) (rs:List RS) (Pt:Out->ZG->Prop) (x:XE) (env:Env) (H1:ZG):Prop :=
 match x with
 |.normal=>(∀ s∈rs,s.side env H1)/\Qdm n0 Pt (Qa7 env H1 rs) H1
 |.ret=>(∀ s∈rs,s.side env H1)/\Qdm n0 Pt (Qa7 env H1 rs) H1
 |.panic x=>∃ y H',Pt (.pan y) H'/\Cv n0 x H1 y H'
 |_=>False
theorem Qj0 {f:ZN} {fn:Func} {c:Code} {rs:List RS} {args:ZH} {H:ZG} {Pt:Out->ZG->Prop} (hf:P.funcs[f]? = some fn) (hb:fn.body=some c)
 (hname : (fn.name == "runtime.NumGoroutine") = false) (hn : args.length <= fn.ntmps) (hr : Qcv P fn.results.toList rs = true)
 (hx:closed H->W P fn.ntmps c (Qcl args) H (FinP H.length rs Pt)):OkP P f args H Pt:=by
 refine⟨λvs w=>Go.MuLone.run_callFunc_enter hf hname hb vs w,?_⟩;intro S vs hH hS hvs;subst hH;refine callsIn_wide.1 (callsIn_of_wp_marks (F:=Fr none) (n:=0) hf hb trivial ?_);have hl:vs.length=args.length:=hvs.1;have hw:=hx hS.closed ⟨S.w.heap.size,[],none⟩ S ⟨vs.toArray++Array.replicate (fn.ntmps-vs.toArray.size) undef,[]⟩ rfl hS (Qnq hvs _) (by simp; omega) ⟨Vb _,⟨[],rfl,YI,λD hD=>by simp at hD⟩,λl h=>by cases h⟩;refine wq_mono hw ?_;rintro e a w ⟨x,env,ρ,H1,g1,g2,g3,g4,g5,g6,g7⟩;obtain⟨ms,m1,m2,m3⟩:=g6.ms;simp only[VE]at m1;have env':∀ w',QeC S.w.heap.size w w'->QJ ⟨ρ,H1,w'⟩ env a.tmps:=λw' ht=>⟨λt=>(g4.get t).extV (Qer ht) (.inl rfl)⟩;have ret:((∀ s∈rs,s.side env H1)/\Qdm S.H.length Pt (Qa7 env H1 rs) H1) ->
  LeavesInM (Fr none) 0 P fn a.tmps (λe w'=>∃ (out:Out) (H':ZG) (v:Value) (ρ':Nat->Option Nat),Pt out H'/\Ext S.H.length S ⟨ρ',H',w'⟩/\Sim ⟨ρ',H',w'⟩ /\
  match out with
  |.ret r=>e=.returned v/\VR ⟨ρ',H',w'⟩ r v
  |.pan x=>e=.panicked [{ v:=v,recovered:=false }]/\VR ⟨ρ',H',w'⟩ x v) a.defers .returning w:=by
  rintro⟨h1,r,H',hp,h2⟩;rw[m1];refine QhX (by simp) ms w m2 m3 λw' ht => ?_;obtain⟨v,h3,h4⟩:=Qk6 (P:=P) (S:=⟨ρ,H1,w'⟩) (Qe0 ht g3) (env' w' ht) hr h1;obtain⟨ρ',h5,h6,h7⟩:=h2 ⟨ρ,H1,w'⟩ v rfl (Qe0 ht g3) h4;exact⟨v,h3,.ret r,H',v,ρ',hp,(Qg7 ht g2 (Vb _)).trans h5,h6,rfl,h7⟩
 cases x<;>cases e<;>simp only[ER]at g1
 . exact ret g7
 . exact g7.elim
 . exact g7.elim
 . exact ret g7
 . obtain⟨y,H',hp,hcv⟩:=g7;obtain⟨v,rfl,hv⟩:=g1;show LeavesInM _ _ _ _ _ _ _ _ _;rw[m1];refine QhX (by simp) ms w m2 m3 λw' ht => ?_;obtain⟨ρ',h5,h6,h7⟩:=hcv ⟨ρ,H1,w'⟩ v rfl (Qe0 ht g3) (hv.extV (Qer ht) (.inl rfl));exact⟨.pan y,H',v,ρ',hp,(Qg7 ht g2 (Vb _)).trans h5,h6,rfl,h7⟩
theorem QvM (hD:DOk P D) {f:ZN} {fn:Func} {c:Code} {i:IC} {rs:List RS} {args:ZH} {H:ZG} {Pt:Out->ZG->Prop} (hf:P.funcs[f]? = some fn) (hb:fn.body=some c)
 (hname : (fn.name == "runtime.NumGoroutine") = false) (hn : args.length <= fn.ntmps) (hc : Q2 P fn.ntmps D c i = true) (hr : Qcv P fn.results.toList rs = true)
 (hx:closed H->X P fn.ntmps D i (Qcl args) H (FinP H.length rs Pt)):OkP P f args H Pt :=
 Qj0 hf hb hname hn hr λhcl=>Qev hD i hc (hx hcl)
theorem OkP.toOk {f:ZN} {args:ZH} {H:ZG} {out:Out} {H':ZG} (h:OkP P f args H λo h=>o=out/\h=H'):Ok P f args H out H':=by
 refine⟨h.1,λS vs h1 h2 h3=>(h.2 S vs h1 h2 h3).mono ?_⟩;rintro e w ⟨o,h',v,ρ',⟨rfl,rfl⟩,h4⟩;exact⟨v,ρ',h4⟩
theorem Qt2 {n0:Nat} {rs:List RS} {out:Out} {H':ZG} {x:XE} {env:Env} {H1:ZG} (h:Fin n0 rs out H' x env H1):FinP n0 rs (λo h=>o=out/\h=H') x env H1:=by
 cases x<;>cases out<;>first|exact h.elim|exact⟨h.1,_,_,⟨rfl,rfl⟩,h.2⟩|exact⟨_,_,⟨rfl,rfl⟩,h⟩
theorem QxH (hD:DOk P D) {f:ZN} {fn:Func} {c:Code} {i:IC} {rs:List RS} {args:ZH} {H:ZG} {out:Out} {H':ZG} (hf:P.funcs[f]? = some fn) (hb:fn.body=some c)
 (hname : (fn.name == "runtime.NumGoroutine") = false) (hn : args.length <= fn.ntmps) (hc : Q2 P fn.ntmps D c i = true) (hr : Qcv P fn.results.toList rs = true)
 (hx:closed H->X P fn.ntmps D i (Qcl args) H (Fin H.length rs out H')):Ok P f args H out H' :=
 (Qj0 hf hb hname hn hr λhcl=>(Qev hD i hc (hx hcl)).mono λx env H1 h=>Qt2 h).toOk
end
end
section
variable [QR] [QP] [Qv]
theorem Qlg {lo:Option Od} {g g':Od->SV} (h:∀ x∈lo.toList,g x=g' x):lo.map g=lo.map g':=by
 cases lo with
 |none=>rfl
 |some x=>simp[h x (by simp)]
theorem QAV (i:I) (g g':Od->SV) (H:ZG) (h:∀ x∈i.ods,g x=g' x):pv i g H=pv i g' H:=by
 cases i with
 |sl sz x lo hi =>
  simp only[I.ods,Vd,Vq]at h;have h1:=h x (.inl rfl);have h2:=Qlg (lo:=lo) λy hy=>h y (.inr (.inl hy));have h3:=Qlg (lo:=hi) λy hy=>h y (.inr (.inr hy));simp only[pv,h1,h2,h3]
 |sls x lo hi =>
  simp only[I.ods,Vd,Vq]at h;have h1:=h x (.inl rfl);have h2:=Qlg (lo:=lo) λy hy=>h y (.inr (.inl hy));have h3:=Qlg (lo:=hi) λy hy=>h y (.inr (.inr hy));simp only[pv,h1,h2,h3]
 |mkf f a b =>
  simp only[I.ods,Vq]at h;have h1:a.map g=a.map g':=V8 λx hx=>h x (.inl hx);have h2:b.map g=b.map g':=V8 λx hx=>h x (.inr hx);simp only[pv,h1,h2]
 |bld z ps =>
  simp only[I.ods,Vx]at h;have h1:∀ p∈ps,g p.2.2=g' p.2.2:=λp hp=>h _ ⟨p,hp,rfl⟩;have h2:(ps.map λp=>(p.1,g p.2.2))=ps.map λp=>(p.1,g' p.2.2):=V8 λp hp=>by rw[h1 p hp]
  have h3:(∀ p∈ps,QaY p.2.1 (g p.2.2)/\p.1+p.2.1<=z.length)=∀ p∈ps,QaY p.2.1 (g' p.2.2)/\p.1+p.2.1<=z.length:=by
   apply propext;constructor
   . intro hh p hp; rw[<-h1 p hp]; exact hh p hp
   . intro hh p hp; rw[h1 p hp]; exact hh p hp
  simp only[pv,h2,h3]
 |_=>simp only[I.ods,Vd,Vu,Zt,Zz,Zy]at h; simp only[pv,h]
theorem QuC {i:E} {g g':Od->SV} {H:ZG} {K K':SV->ZG->Prop} (h:∀ x∈i.ods,g x=g' x) (hk:∀ v H,K v H->K' v H) (hx:xe i g H K):xe i g' H K':=by
 cases i with
 |alc T z=>exact hk _ _ hx
 |box T x =>
  simp only[E.ods,Vd,Vu,Zt,Zy]at h;simp only[xe,<- h]at *;exact⟨hx.1,hx.2.1,hk _ _ hx.2.2⟩
 |bsl T sz len z ps =>
  simp only[E.ods,Vx]at h;have h1:∀ p∈ps,g p.2=g' p.2:=λp hp=>h _ ⟨p,hp,rfl⟩;have h2:(ps.map λp=>(p.1*sz,g p.2))=ps.map λp=>(p.1*sz,g' p.2):=V8 λp hp=>by rw[h1 p hp]
  simp only[xe,<- h2]at *;exact⟨λp hp=>by rw[<-h1 p hp]; exact hx.1 p hp,hx.2.1,hk _ _ hx.2.2⟩
 |mks T sz by_ z l c =>
  simp only[E.ods,Vd,Vu,Zt,Zz,Zy]at h;simp only[xe,<- h.1,<- h.2]at *;obtain⟨a1,a2,a3,a4,a5,a6,a7⟩:=hx;exact⟨a1,a2,a3,a4,a5,a6,hk _ _ a7⟩
 |app T sz by_ s x =>
  simp only[E.ods,Vd,Vu,Zt,Zz,Zy]at h;simp only[xe,<- h.1,<- h.2]at *;obtain⟨a1,a2,a3,a4,a5,a6,a7,a8⟩:=hx;refine⟨a1,a2,a3,a4,a5,a6,a7,?_⟩;split
  . rename_i hs;rw[hs]at a8;exact⟨a8.1,a8.2.1,hk _ _ a8.2.2⟩
  . rename_i hs;split at a8
    . rename_i hs'; exact absurd hs' (hs _ _ _ _)
    . exact⟨a8.1,hk _ _ a8.2⟩
 |st n p x =>
  simp only[E.ods,Vd,Vu,Zt,Zz,Zy]at h;simp only[xe,<- h.1,<- h.2]at *;obtain⟨a1,a2,a3,a4,a5,a6⟩:=hx;refine⟨a1,a2,a3,a4,a5,?_⟩;split
  . rename_i hs;rw[hs]at a6;exact⟨a6.1,hk _ _ a6.2⟩
  . rename_i hs;split at a6
    . rename_i hs'; exact absurd hs' (hs _ _ _ _ _ _)
    . exact a6
 |stw ws n p x =>
  simp only[E.ods,Vd,Zz]at h;simp only[xe,<- h.1,<- h.2.1]at *;obtain⟨a1,a2,a3,a4,a5,a6⟩:=hx;refine⟨a1,a2,a3,a4,a5,?_⟩;split
  . rename_i hs;rw[hs]at a6;exact⟨a6.1,hk _ _ a6.2⟩
  . rename_i hs;split at a6
    . rename_i hs'; exact absurd hs' (hs _ _ _ _ _ _)
    . exact a6
 |call f as=>exact hx.elim
 |pan x=>exact hx.elim
 |mkm T=>exact hk _ _ hx
 |mup kk m k v =>
  simp only[E.ods,Vd,Vu,Zt,Zz,Zy]at h;simp only[xe,<- h.1,<- h.2.1,<- h.2.2]at *;obtain⟨a1,a2,a3,a4⟩:=hx;refine⟨a1,a2,a3,?_⟩;split at a4
  . exact⟨a4.1,a4.2.1,hk _ _ a4.2.2⟩
  . exact a4.elim
 |nil T sz x =>
  simp only[E.ods,Vd,Vu,Zt,Zy]at h;simp only[xe,<- h]at *;exact⟨hx.1,hx.2.1,hk _ _ hx.2.2⟩
 |aps T s x =>
  simp only[E.ods,Vd,Vu,Zt,Zz,Zy]at h;simp only[xe,<- h.1,<- h.2]at *;obtain⟨a1,a2,a3,a8⟩:=hx;refine⟨a1,a2,a3,?_⟩;split
  . rename_i hs;rw[hs]at a8;exact⟨a8.1,a8.2.1,hk _ _ a8.2.2⟩
  . rename_i hs;split at a8
    . rename_i hs'; exact absurd hs' (hs _ _ _ _)
    . exact⟨a8.1,hk _ _ a8.2⟩
 |sby x =>
  simp only[E.ods,Vd,Vu,Zt,Zy]at h;simp only[xe,<- h]at *;exact⟨hx.1,hk _ _ hx.2⟩
theorem Qjw {e e':Env} {x:Od} (h:∀ t∈x.slots,e'.get t=e.get t):e'.ev x=e.ev x:=by
 cases x with
 |t n=>exact h n (by simp[Od.slots])
 |c s=>rfl
theorem Qh4 {P:ZL} {o:Ins} {env env':Env} {H:ZG} {v:SV} (h:QbP P o env H v) (hk:∀ t∈o.slots,env'.get t=env.get t):QbP P o env' H v:=by
 have hg:∀ s w,o.g=some (s,w)->env'.get s=env.get s:=by
  intro s w hs;exact hk s (by simp[Ins.slots,hs])
 have hp:∀ i,o.j=.p i->pv i env'.ev H=pv i env.ev H:=by
  intro i hi;refine QAV i _ _ H λx hx=>Qjw λt ht=>hk t ?_;simp only[Ins.slots,hi,J.slots,Vq,Y1];exact .inr ⟨x,hx,ht⟩
 have hq:∀ f args,o.j=.q f args->env'.ev f=env.ev f/\args.map env'.ev=args.map env.ev:=by
  intro f args hq;constructor
  . refine Qjw λt ht=>hk t ?_;simp only[Ins.slots,hq,J.slots,Vq,Y1];exact .inr ⟨f,by simp,ht⟩
  . refine V8 λx hx=>Qjw λt ht=>hk t ?_;simp only[Ins.slots,hq,J.slots,Vq,Y1];exact .inr ⟨x,by simp[hx],ht⟩
 unfold QbP at *
 cases hog:o.g with
 |none =>
  rw[hog]at h
  cases hoj:o.j with
  |p i=>rw[hoj]at h; simp only at h ⊢; rw[hp i hoj]; exact h
  |q f args=>rw[hoj]at h; simp only at h ⊢; rw[(hq f args hoj).1,(hq f args hoj).2]; exact h
  |e i=>rw[hoj]at h; exact h.elim
 |some sw =>
  obtain⟨s,want⟩:=sw;rw[hog]at h;simp only at h ⊢;rw[hg s want hog];refine⟨h.1,?_⟩;have h2:=h.2
  cases hoj:o.j with
  |p i=>rw[hoj]at h2; simp only at h2 ⊢; rw[hp i hoj]; exact h2
  |q f args=>rw[hoj]at h2; simp only at h2 ⊢; rw[(hq f args hoj).1,(hq f args hoj).2]; exact h2
  |e i=>rw[hoj]at h2; exact h2.elim
theorem QAt {P:ZL} {o:Ins} {env:Env} {H:ZG} {v:SV} {K:ZF} (h:QbP P o env H v) (hk:K .normal (env.put o.d v) H):xo P o env H K:=by
 unfold QbP at h;unfold xo
 cases hog:o.g with
 |none =>
  rw[hog]at h;simp only;unfold xj
  cases hoj:o.j with
  |p i=>rw[hoj]at h; obtain⟨h1,rfl⟩:=h; exact⟨h1,hk⟩
  |q f args=>rw[hoj]at h; exact⟨v,h,hk⟩
  |e i=>rw[hoj]at h; exact h.elim
 |some sw =>
  obtain⟨s,want⟩:=sw;rw[hog]at h;simp only at h ⊢;refine⟨h.1,?_⟩;have h2:=h.2
  cases hoj:o.j with
  |p i=>rw[hoj]at h2; obtain⟨h3,rfl⟩:=h2; exact⟨h3,hk⟩
  |q f args=>rw[hoj]at h2; obtain⟨r,h3,rfl⟩:=h2; exact⟨r,h3,hk⟩
  |e i=>rw[hoj]at h2; exact h2.elim
def QkN (acc:List Nat) (o:Oper):Nat:=o.after.toList.foldl (λs e=>if Region.binds .any e then s ||| (2 ^ e.on ||| acc.getD e.on 0)else s) 0
def Qbr:List Oper->List Nat->List Nat
 |[],acc=>acc
 |o::r,acc=>Qbr r (acc++[QkN acc o])
theorem Qn5:∀ (l:List Oper) (acc:List Nat),(Qbr l acc).length=acc.length+l.length
 |[],acc=>by simp[Qbr]
 |o::r,acc=>by simp[Qbr,Qn5 r]; omega
theorem QnI:∀ (l:List Oper) (acc:List Nat) (j:Nat),j<acc.length->(Qbr l acc)[j]? = acc[j]?
 |[],acc,j,_=>rfl
 |o::r,acc,j,h=>by
  rw[Qbr,QnI r _ j (by simp; omega),Vc h]
theorem Qo4:∀ (l:List Oper) (acc:List Nat) (j:Nat) (o:Oper),l[j]? = some o ->
 ∃ pre:List Nat,pre.length=acc.length+j/\(Qbr l acc)[acc.length+j]? = some (QkN pre o)/\∀ k,k<acc.length+j->pre[k]? = (Qbr l acc)[k]?
 |[],acc,j,o,h=>by simp at h
 |o'::r,acc,0,o,h=>by
  simp at h; subst h;refine⟨acc,rfl,?_,λk hk => ?_⟩
  . rw[Qbr,QnI r _ _ (by simp)]; simp
  . rw[QnI _ _ _ (by omega)]
 |o'::r,acc,j+1,o,h=>by
  obtain⟨pre,h1,h2,h3⟩:=Qo4 r (acc++[QkN acc o']) j o (by simpa using h);refine⟨pre,by rw[h1]; simp; omega,?_,λk hk => ?_⟩
  . rw[Qbr]; rw[<-h2]; congr 1; simp; omega
  . rw[Qbr]; exact h3 k (by simp; omega)
theorem Qsb (acc:List Nat) (i:Nat):∀ (l:List Edge) (s:Nat),(l.foldl (λs e=>if Region.binds .any e then s ||| (2 ^ e.on ||| acc.getD e.on 0)else s) s).testBit i=true ->
 s.testBit i=true\/∃ e∈l,Region.binds .any e=true/\(i=e.on\/(acc.getD e.on 0).testBit i=true)
 |[],s,h=>.inl h
 |e::r,s,h=>by
  simp only[YD]at h;rcases Qsb acc i r _ h with h1|⟨e',h1,h2⟩
  . by_cases hb:Region.binds .any e=true
    . rw[Zo hb]at h1;simp only[Nat.testBit_or,V4]at h1;rcases h1 with h1|h1|h1
      . exact .inl h1
      . refine .inr ⟨e,by simp,hb,.inl ?_⟩;rw[Nat.testBit_two_pow]at h1;simpa using (Zw h1).symm
      . exact .inr ⟨e,by simp,hb,.inr h1⟩
    . rw[Zn hb]at h1; exact .inl h1
  . exact .inr ⟨e',by simp[h1],h2⟩
def Qgp (ops:Array Oper) (L:Nat->Prop):Prop:=∀ (j:Nat) (o:Oper),L j->ops[j]? = some o->∀ e∈o.after.toList,Region.binds .any e=true->L e.on
def QAm (ops:Array Oper) (L:Nat->Prop) (j:Nat):Prop:=∀ (o:Oper),ops[j]? = some o->∀ e∈o.after.toList,Region.binds .any e=true->L e.on
theorem QyT {ops:Array Oper} {L:Nat->Prop} (hL:Qgp ops L):∀ (j:Nat),QAm ops L j->∀ i b,(Qbr ops.toList [])[j]? = some b->b.testBit i=true->L i:=by
 intro j
 induction j using Nat.strongRecOn with
 |_ j ih =>
  intro hw i b hb hi;have hj:j<ops.toList.length:=by have:=Ql hb; rw[Qn5]at this; simpa using this
  obtain⟨pre,h1,h2,h3⟩:=Qo4 ops.toList [] j ops.toList[j] (Ve hj);simp only[VH,Ya]at h1 h2 h3;rw[hb]at h2
  cases h2
  unfold QkN at hi;rcases Qsb pre i _ 0 hi with h|⟨e,he,hbd,h⟩
  . simp at h
  . have ho:ops[j]? = some ops.toList[j]:=by simp[VZ (by simpa using hj)]
    have hon:=hw _ ho e he hbd;rcases h with h|h
    . rw[h]; exact hon
    . have hlt:e.on<pre.length:=by
       rcases Vs e.on pre.length with h4|h4
       . exact h4
       . rw[Vz,VP h4]at h; simp at h
      rw[Vz,Ve hlt]at h;have h5:=h3 e.on (by omega);rw[Ve hlt]at h5;exact ih e.on (by omega) (λo ho' e' he' hb'=>hL e.on o hon ho' e' he' hb') i _ h5.symm h
def QdM (B:List Nat) (i j:Nat):Bool:=(B.getD j 0).testBit i
def QgV (ops:Array Oper) (ns:List Nat) (l:List Ins):Bool :=
 let B:=Qbr ops.toList []
 let n:=l.length
 let L:=ns.zip l
 (n==ops.size)&&(ns.length==n)&&((List.range n).all λi=>ns.contains i) &&
 ((List.range n).all λi=>((ops.getD i default).after.toList.all λe => !Region.binds .any e||decide (e.on<i))) &&
 (L.zipIdx.all λx=>L.zipIdx.all λy =>
  (match x.1.2.d with
   |none=>true
   |some d=>(x.2==y.2||y.1.2.d != some d)&&(!y.1.2.slots.contains d||(QdM B x.1.1 y.1.1&&decide (x.2<y.2)))) &&
  (x.1.2.j.quiet||decide (y.2<=x.2)||QdM B x.1.1 y.1.1)&&(x.2==y.2||x.1.1 != y.1.1))
end
section
variable [QR] [QP] [Qv]
def QbS:Env->List Ins->ZH->Env
 |e,o::r,v::vs=>QbS (e.put o.d v) r vs
 |e,_,_=>e
theorem Qg5 {e:Env} {d:Option Nat} {v:SV} {t:Nat} (h:d≠some t):(e.put d v).get t=e.get t:=by
 cases d with
 |none=>rfl
 |some d=>simp only[Env.put,Env.get]; rw[Zn (λe=>h (by rw[e]))]
theorem QjG {e:Env} {v:SV} {t:Nat}:(e.put (some t) v).get t=v:=by simp[Env.put,Env.get]
theorem QgQ:∀ (os:List Ins) (vs:ZH) (e:Env) (t:Nat),(∀ o∈os,o.d≠some t)->(QbS e os vs).get t=e.get t
 |[],vs,e,t,_=>rfl
 |o::r,[],e,t,_=>rfl
 |o::r,v::vs,e,t,h=>by
  rw[QbS,QgQ r vs _ t (λo' ho'=>h o' (by simp[ho'])),Qg5 (h o (by simp))]
theorem Qid:∀ (os:List Ins) (vs:ZH) (e:Env) (t i:Nat) (o:Ins) (v:SV),os[i]? = some o->vs[i]? = some v->o.d=some t->(∀ j p,i<j->os[j]? = some p->p.d≠some t) ->
 (QbS e os vs).get t=v
 |[],vs,e,t,i,o,v,h,_,_,_=>by simp at h
 |o'::r,[],e,t,i,o,v,_,h,_,_=>by simp at h
 |o'::r,v'::vs,e,t,0,o,v,h1,h2,h3,h4=>by
  simp at h1 h2; subst h1 h2;rw[QbS,QgQ r vs _ t,h3,QjG];intro p hp;obtain⟨j,hj⟩:=Vy hp;exact h4 (j+1) p (by omega) (by simpa using hj)
 |o'::r,v'::vs,e,t,i+1,o,v,h1,h2,h3,h4=>by
  rw[QbS];exact Qid r vs _ t i o v (by simpa using h1) (by simpa using h2) h3 λj p hj hp=>h4 (j+1) p (by omega) (by simpa using hp)
theorem QJ.congr {S:St} {e e':Env} {tmps:Array Value} (h:QJ S e tmps) (hk:∀ t,e'.get t=.any\/e'.get t=e.get t):QJ S e' tmps:=by
 refine⟨λt => ?_⟩;rcases hk t with h1|h1<;>rw[h1]
 . exact .any _
 . exact h.get t
theorem Qrq {α:Type} {p q:α->Bool}:∀ (l:List α),(∀ x∈l,q x=true->p x=true)->∀ i∈l,p i=true->q i=false->(l.filter q).length<(l.filter p).length
 |[],_,i,hi,_,_=>by simp at hi
 |x::r,h,i,hi,hp,hq=>by
  have hle:∀ (l:List α),(∀ x∈l,q x=true->p x=true)->(l.filter q).length<=(l.filter p).length:=by
   intro l
   induction l with
   |nil=>intro _; simp
   |cons y s ih =>
    intro hh;have:=ih (λz hz=>hh z (by simp[hz]));simp only[List.filter_cons];by_cases hqy:q y=true
    . rw[Zo hqy,Zo (hh y (by simp) hqy)]; simp; omega
    . rw[Zn hqy]; split<;>simp<;>omega
  simp only[Vd]at hi;simp only[List.filter_cons];rcases hi with rfl|hi
  . rw[Zo hp,Zn (by simp[hq])];have:=hle r (λz hz=>h z (by simp[hz]));simp; omega
  . have ih:=Qrq r (λz hz=>h z (by simp[hz])) i hi hp hq;by_cases hqx:q x=true
    . rw[Zo hqx,Zo (h x (by simp) hqx)]; simp; omega
    . rw[Zn hqx]; split<;>simp<;>omega
abbrev CI:=Nat×Ins
structure DC (ops:Array Oper) (C:List CI):Prop where
 cov:∀ i,i<ops.size->∃ x∈C,x.1=i
 edge:∀ i o,ops[i]? = some o->∀ e∈o.after.toList,Region.binds .any e=true->e.on<i
 uniq:∀ x∈C,∀ y∈C,x.1≠y.1->∀ d,x.2.d=some d->y.2.d≠some d
 dep:∀ x∈C,∀ y∈C,∀ d,x.2.d=some d->d∈y.2.slots->QdM (Qbr ops.toList []) x.1 y.1=true
 self:∀ x∈C,∀ d,x.2.d=some d->d∉x.2.slots
theorem Qwd {ns:List Nat} {l:List Ins} (h:ns.length=l.length) {i:Nat} (hi:i∈ns):∃ x∈ns.zip l,x.1=i:=by
 obtain⟨k,hk⟩:=Vy hi;have hlt:k<l.length:=by rw[<-h]; exact Ql hk
 exact⟨(i,l[k]),Vv (i:=k) (by rw[YO]; exact⟨hk,Ve hlt⟩),rfl⟩
theorem Qx7 {ops:Array Oper} {ns:List Nat} {l:List Ins} (h:QgV ops ns l=true):DC ops (ns.zip l) /\
 (ns.zip l).Pairwise λx y=>(∀ d,y.2.d=some d->d∉x.2.slots)/\(x.2.j.quiet=false->QdM (Qbr ops.toList []) x.1 y.1=true)/\x.1≠y.1:=by
 unfold QgV at h;simp only[Va,Zr,Vn,V2,V4,VM,Zq,List.contains_eq_mem]at h;obtain⟨⟨⟨⟨h1,h2⟩,h3⟩,h4⟩,h5⟩:=h;generalize hC:ns.zip l=C at h5 ⊢;have hp:∀ (a b:Nat) (x y:CI),C[a]? = some x->C[b]? = some y ->
  (∀ d,x.2.d=some d->(a=b\/y.2.d≠some d)/\(d∈y.2.slots->QdM (Qbr ops.toList []) x.1 y.1=true/\a<b)) /\
  ((x.2.j.quiet=true\/b<=a)\/QdM (Qbr ops.toList []) x.1 y.1=true)/\(a=b\/x.1≠y.1):=by
  intro a b x y hx hy;have hxm:(x,a)∈C.zipIdx:=Vv (i:=a) (by rw[List.getElem?_zipIdx]; simp[hx]);have hym:(y,b)∈C.zipIdx:=Vv (i:=b) (by rw[List.getElem?_zipIdx]; simp[hy]);have h6:=h5 (x,a) hxm (y,b) hym;simp only[bne_iff_ne,ne_eq]at h6;obtain⟨⟨h6,h7⟩,h8⟩:=h6;refine⟨λd hd => ?_,h7,h8⟩;rw[hd]at h6;simp only[Va,V4,Zr,bne_iff_ne,ne_eq,VM,Zq,ZB]at h6;refine⟨h6.1,λhm => ?_⟩;rcases h6.2 with h9|h9
  . exact absurd hm h9
  . exact h9
 refine⟨⟨λi hi => ?_,?_,?_,?_,?_⟩,?_⟩
 . rw[<-hC]; exact Qwd h2 (h3 i (by omega))
 . intro i o ho e he hb;have hi:i<ops.size:=(V7.1 ho).1;rcases h4 i (by omega) e (by rw[VQ,ho]; simpa using he)with h6|h6
   . rw[hb]at h6; cases h6
   . exact h6
 . intro x hx y hy hne d hd hd';obtain⟨a,ha⟩:=Vy hx;obtain⟨b,hb⟩:=Vy hy;rcases((hp a b x y ha hb).1 d hd).1 with h6|h6
   . subst h6; rw[ha]at hb; cases hb; exact hne rfl
   . exact h6 hd'
 . intro x hx y hy d hd hs;obtain⟨a,ha⟩:=Vy hx;obtain⟨b,hb⟩:=Vy hy;exact(((hp a b x y ha hb).1 d hd).2 hs).1
 . intro x hx d hd hs;obtain⟨a,ha⟩:=Vy hx;have:=(((hp a a x x ha ha).1 d hd).2 hs).2; omega
 . rw[Zh];intro a b ha hb hab;have h6:=hp a b C[a] C[b] (Ve ha) (Ve hb);have h7:=hp b a C[b] C[a] (Ve hb) (Ve ha);refine⟨λd hd hs => ?_,λhq => ?_,?_⟩
   . have:=((h7.1 d hd).2 hs).2; omega
   . rcases h6.2.1 with (h8|h8)|h8
     . rw[hq]at h8; cases h8
     . omega
     . exact h8
   . rcases h6.2.2 with h8|h8
     . omega
     . exact h8
abbrev QI:=Nat×Ins×SV
def unl (listed:Array Bool) (q:QI):Bool := !listed.getD q.1 false
def Qe1 (Qs:List QI) (e:Env):Env:=(Qs.filterMap λq=>q.2.1.d.map λd=>(d,SV.any))++e
theorem Qh3 {e:Env} {t:Nat}:∀ {Qs:List QI},(∃ q∈Qs,q.2.1.d=some t)->(Qe1 Qs e).get t=.any
 |[],h=>by obtain⟨q,hq,_⟩:=h; simp at hq
 |q::r,h=>by
  simp only[Qe1,Zi]
  cases hd:q.2.1.d with
  |none =>
   simp only[Option.map_none];refine Qh3 ?_;obtain⟨q',hq',ht⟩:=h;simp only[Vd]at hq';rcases hq' with rfl|hq'
   . rw[hd]at ht; cases ht
   . exact⟨q',hq',ht⟩
  |some d =>
   simp only[VG,Vr,Env.get];by_cases h2:d=t
   . rw[Zo h2]
   . rw[Zn h2];refine Qh3 ?_;obtain⟨q',hq',ht⟩:=h;simp only[Vd]at hq';rcases hq' with rfl|hq'
     . rw[hd]at ht; cases ht; exact absurd rfl h2
     . exact⟨q',hq',ht⟩
theorem QeS {e:Env} {t:Nat}:∀ {Qs:List QI},(∀ q∈Qs,q.2.1.d≠some t)->(Qe1 Qs e).get t=e.get t
 |[],_=>rfl
 |q::r,h=>by
  simp only[Qe1,Zi]
  cases hd:q.2.1.d with
  |none=>simp only[Option.map_none]; exact QeS λq' hq'=>h q' (by simp[hq'])
  |some d =>
   simp only[VG,Vr,Env.get];rw[Zn (λe=>h q (by simp) (by rw[hd,e]))];exact QeS λq' hq'=>h q' (by simp[hq'])
section
variable {P:ZL}
theorem Qvl {o:Ins} {env env':Env} {H:ZG} {K:ZF} (hq:o.j.quiet=false) (hs:∀ t∈o.slots,env'.get t=env.get t) (h:xo P o env H K) :
 xo P o env' H λx e2 H'=>match x with
  |.normal=>∃ v,e2=env'.put o.d v/\K .normal (env.put o.d v) H'
  |x=>K x env H':=by
 cases hoj:o.j with
 |p i=>rw[hoj]at hq; simp[J.quiet]at hq
 |q f args=>rw[hoj]at hq; simp[J.quiet]at hq
 |e i =>
  have hods:∀ x∈i.ods,env.ev x=env'.ev x:=by
   intro x hx;refine(Qjw λt ht=>hs t ?_).symm;simp only[Ins.slots,hoj,J.slots,Vq,Y1];exact .inr ⟨x,hx,ht⟩
  have hj:xj P o env H K->xj P o env' H λx e2 H'=>match x with
   |.normal=>∃ v,e2=env'.put o.d v/\K .normal (env.put o.d v) H'
   |x=>K x env H':=by
   intro hx;by_cases hc:i.isCall=true
   . cases i<;>simp[E.isCall]at hc
     case call f args =>
      simp only[E.ods,Vd,Zz]at hods;have h1:args.map env.ev=args.map env'.ev:=V8 hods.2;unfold xj at hx ⊢;rw[hoj]at hx ⊢;simp only at hx ⊢;obtain⟨Pt,h2,h3⟩:=hx;refine⟨Pt,by rw[<-hods.1,<- h1]; exact h2,λout H' hp => ?_⟩;have h3:=h3 out H' hp
      cases out with
      |ret r=>exact⟨r,rfl,h3⟩
      |pan x=>exact h3
     case pan x =>
      have h1:=hods x (by simp[E.ods]);unfold xj at hx ⊢;rw[hoj]at hx ⊢;simp only at hx ⊢;rw[<-h1];exact hx
   . have hc':i.isCall=false:=by simpa using hc
     unfold xj at hx ⊢;rw[hoj]at hx ⊢;have h1:xe i env.ev H λv H'=>K .normal (env.put o.d v) H':=by
      cases i<;>first|exact hx|simp[E.isCall]at hc'
     have h2:=QuC (K':=λv H'=>∃ v',env'.put o.d v=env'.put o.d v'/\K .normal (env.put o.d v') H') hods (λv H' hk=>⟨v,rfl,hk⟩) h1
     cases i<;>first|exact h2|simp[E.isCall]at hc'
  unfold xo at h ⊢
  cases hog:o.g with
  |none=>rw[hog]at h; exact hj h
  |some sw =>
   obtain⟨s,want⟩:=sw;rw[hog]at h;have hgs:env'.get s=env.get s:=hs s (by simp[Ins.slots,hog]);rw[hoj]at h ⊢;simp only at h ⊢;rw[hgs];exact⟨h.1,λhon=>hj (h.2.1 hon),λhoff=>⟨_,rfl,h.2.2 hoff⟩⟩
theorem pv_H {i:I} (h:J.dep (.p i)=false) (g:Od->SV) (H H':ZG):pv i g H=pv i g H':=by
 cases i<;>first|rfl|(simp[J.dep]at h)
theorem Qvu {o:Ins} {env:Env} {H H':ZG} {v:SV} (hd:o.j.dep=false) (h:QbP P o env H v):QbP P o env H' v:=by
 unfold QbP at *
 cases hoj:o.j with
 |p i =>
  rw[hoj]at h hd;simp only[pv_H hd env.ev H H']at h;exact h
 |q f args=>rw[hoj]at hd; simp[J.dep]at hd
 |e i=>rw[hoj]at h; exact h
theorem QlX {H:ZG} {K:ZF}:∀ (rest:List CI) (pend:List (Ins×SV)) (env:Env),xd P pend (rest.map (·.2)) env H K ->
 ∃ (F:List QI) (rest':List CI) (pend':List (Ins×SV)),rest=(F.map λq=>(q.1,q.2.1))++rest'/\(rest'=[]\/∃ c r,rest'=c::r/\c.2.j.quiet=false) /\
  (∀ q∈F,q.2.1.j.quiet=true)/\(∀ p∈pend,p∈pend')/\(∀ q∈F,(q.2.1,q.2.2)∈pend')/\(∀ p∈pend',p∈pend\/∃ q∈F,p.1=q.2.1) /\
  (∀ (k:Nat) (q:QI),F[k]? = some q->QbP P q.2.1 (QbS env ((F.take k).map (·.2.1)) ((F.take k).map (·.2.2))) H q.2.2) /\
  xd P pend' (rest'.map (·.2)) (QbS env (F.map (·.2.1)) (F.map (·.2.2))) H K
 |[],pend,env,h=>⟨[],[],pend,rfl,.inl rfl,λq hq=>by simp at hq,λp hp=>hp,λq hq=>by simp at hq,λp hp=>.inl hp,λk q hk=>by simp at hk,h⟩
 |c::r,pend,env,h=>by
  by_cases hq:c.2.j.quiet=true
  . have key:∃ v,QbP P c.2 env H v/\xd P ((c.2,v)::pend) (r.map (·.2)) (env.put c.2.d v) H K:=by
     simp only[Vg,xd]at h;rw[Zo hq]at h;unfold QbP
     cases hog:c.2.g with
     |none =>
      rw[hog]at h
      cases hoj:c.2.j with
      |p i =>
       rw[hoj]at h;simp only at h ⊢;exact⟨_,⟨h.1,rfl⟩,h.2⟩
      |q f args =>
       rw[hoj]at h;simp only at h ⊢;obtain⟨v,h1,h2⟩:=h;exact⟨v,h1,h2⟩
      |e i=>rw[hoj]at hq; simp[J.quiet]at hq
     |some sw =>
      obtain⟨s,want⟩:=sw;rw[hog]at h
      cases hoj:c.2.j with
      |p i =>
       rw[hoj]at h;simp only at h ⊢;exact⟨_,⟨h.1,h.2.1,rfl⟩,h.2.2⟩
      |q f args =>
       rw[hoj]at h;simp only at h ⊢;obtain⟨h0,v,h1,h2⟩:=h;exact⟨_,⟨h0,v,h1,rfl⟩,h2⟩
      |e i=>rw[hoj]at hq; simp[J.quiet]at hq
    obtain⟨v,h1,h4⟩:=key;obtain⟨F,rest',pend',g1,g2,g3,g4,g5,g8,g6,g7⟩:=QlX r _ _ h4;refine⟨(c.1,c.2,v)::F,rest',pend',by simp[g1],g2,?_,λp hp=>g4 p (by simp[hp]),?_,?_,?_,by simpa[QbS]using g7⟩
    . intro q hqm;simp only[Vd]at hqm;rcases hqm with rfl|hqm
      . exact hq
      . exact g3 q hqm
    . intro q hqm;simp only[Vd]at hqm;rcases hqm with rfl|hqm
      . exact g4 _ (by simp)
      . exact g5 q hqm
    . intro p hp;rcases g8 p hp with h|⟨q,hqm,h⟩
      . simp only[Vd]at h;rcases h with rfl|h
        . exact .inr ⟨(c.1,c.2,v),by simp,rfl⟩
        . exact .inl h
      . exact .inr ⟨q,by simp[hqm],h⟩
    . intro k q hk
      cases k with
      |zero=>simp at hk; subst hk; simpa[QbS]using h1
      |succ k=>simpa[QbS]using g6 k q (by simpa using hk)
  . exact⟨[],c::r,pend,rfl,.inr ⟨c,r,rfl,by simpa using hq⟩,λq hq=>by simp at hq,λp hp=>hp,λq hq=>by simp at hq,λp hp=>.inl hp,λk q hk=>by simp at hk,h⟩
theorem QeK {listed:Array Bool} {i k:Nat} (hi:i<listed.size):(listed.setIfInBounds i true).getD k false=true↔(k=i\/listed.getD k false=true):=by
 by_cases h:i=k
 . subst h; simp[hi]
 . rw[getD_set_ne false h];constructor
   . exact λh'=>.inr h'
   . rintro(h'|h')
     . exact absurd h'.symm h
     . exact h'
theorem Qmn {listed:Array Bool} {i:Nat} (h:i<listed.size):listed.getD i true=listed.getD i false:=by
 simp[VQ,VZ h]
theorem Qsf {ops:Array Oper} {Q:Exit->Act->ZM->Prop} {i:Nat} {o:Oper} {a:Act} {w:ZM} {next:Act->ZM->Prop} (ho:ops[i]? = some o) (h:Qgg P ops o a w next Q):Qcc P ops Q i next a w:=by
 unfold Qcc;rw[ho];simp only;unfold Qgg at h;split
 . rename_i hw; rw[Zo hw]at h; exact h
 . rename_i hw; rw[Zn hw]at h; exact h
theorem Qx4 {ops:Array Oper} (hedge:∀ i o,ops[i]? = some o->∀ e∈o.after.toList,Region.binds .any e=true->e.on<i) {listed:Array Bool} (hsz:listed.size=ops.size) (hr:Region.ready .any ops listed=[]) :
 ∀ i,i<ops.size->listed.getD i false=true:=by
 intro i
 induction i using Nat.strongRecOn with
 |_ i ih =>
  intro hi
  cases h:listed.getD i false with
  |true=>rfl
  |false =>
   have:i∈Region.ready .any ops listed:=by
    rw[mem_ready];refine⟨by rw[Qmn (by omega)]; exact h,ops[i],VZ hi,λe he hb => ?_⟩;have:=hedge i ops[i] (VZ hi) e (by simpa using he) hb;exact ih e.on this (by omega)
   rw[hr]at this; simp at this
theorem Qs1 {ops:Array Oper} {listed:Array Bool} {j:Nat} {o:Oper} (ho:ops[j]? = some o) (hcl:Qgp ops λt=>listed.getD t false=true)
 (hdeps:∀ e∈o.after,Region.binds .any e=true->listed.getD e.on false=true) {i:Nat} (hb:QdM (Qbr ops.toList []) i j=true):listed.getD i false=true:=by
 have hlt:j<ops.size:=(V7.1 ho).1;have h4:j<(Qbr ops.toList []).length:=by rw[Qn5]; simpa using hlt
 unfold QdM at hb;rw[Vz,Ve h4]at hb;exact QyT hcl j (λo' ho' e hem hb=>by rw[ho]at ho'; cases ho'; exact hdeps e (by simpa using hem) hb) i _ (Ve h4) hb
theorem Qvm {ops:Array Oper} {listed:Array Bool} {i j:Nat} {o:Oper} (ho:ops[j]? = some o) (hcl:Qgp ops λt=>listed.getD t false=true) (hj:listed.getD j false=true)
 (hb:QdM (Qbr ops.toList []) i j=true):listed.getD i false=true :=
 Qs1 ho hcl (λe he hb=>hcl j o hj ho e (by simpa using he) hb) hb
theorem Qoj {N:Nat} {ops:Array Oper} {C:List CI} (hd:DC ops C) (hchk:∀ x∈C,∃ o,ops[x.1]? = some o/\QdR P N ops o x.2=true) {listed:Array Bool} (hcl:Qgp ops λt=>listed.getD t false=true) :
 ∀ (pend:List (Ins×SV)) (ts:List Nat),(∀ p∈pend,∃ i,(i,p.1)∈C)->(∀ t∈ts,∀ y∈C,y.2.d=some t->listed.getD y.1 false=true) ->
  ∀ s∈QfY ts pend,∀ y∈C,y.2.d=some s->listed.getD y.1 false=true
 |[],ts,_,h=>h
 | (p,v)::r,ts,hp,h=>by
  unfold QfY;by_cases hm:Qgn ts p.d=true
  . rw[Zo hm];refine Qoj hd hchk hcl r _ (λq hq=>hp q (by simp[hq])) ?_;intro t ht y hy hyd;rcases Vq.1 ht with ht|ht
    . obtain⟨i,hi⟩:=hp (p,v) (by simp);obtain⟨o,ho,_⟩:=hchk _ hi
      cases hpd:p.d with
      |none=>rw[hpd]at hm; simp[Qgn]at hm
      |some d =>
       rw[hpd]at hm;simp only[Qgn]at hm;have h1:=h d (by simpa using hm) (i,p) hi hpd;exact Qvm ho hcl h1 (hd.dep y hy (i,p) hi t hyd ht)
    . exact h t ht y hy hyd
  . rw[Zn hm];exact Qoj hd hchk hcl r ts (λq hq=>hp q (by simp[hq])) h
theorem Qz7 {N:Nat} {ops:Array Oper} {C:List CI} {S:St} {db:DB} {K:ZF} (hd:DC ops C) (hchk:∀ x∈C,∃ o,ops[x.1]? = some o/\QdR P N ops o x.2=true) :
 ∀ (fuel:Nat) (listed:Array Bool) (S':St) (a:Act) (Qs:List QI) (Ef:Env) (pend:List (Ins×SV)) (rest:List CI),
 rest.length+(Qs.filter (unl listed)).length<=fuel->listed.size=ops.size->(Qgp ops λt=>listed.getD t false=true) ->
 (∀ q∈Qs,(q.1,q.2.1)∈C)->(∀ r∈rest,r∈C) ->
 (∀ i,i<ops.size->listed.getD i false=false->(∃ q∈Qs,q.1=i)\/∃ r∈rest,r.1=i) ->
 (∀ r∈rest,listed.getD r.1 false=false) ->
 (rest.Pairwise λx y=>(∀ d,y.2.d=some d->d∉x.2.slots)/\(x.2.j.quiet=false->QdM (Qbr ops.toList []) x.1 y.1=true)/\x.1≠y.1) ->
 (rest=[]\/∃ c r,rest=c::r/\c.2.j.quiet=false) ->
 (∀ q∈Qs,∀ r∈rest,(∀ d,r.2.d=some d->d∉q.2.1.slots)/\q.1≠r.1) ->
 (∀ q∈Qs,∀ q'∈Qs,q.1=q'.1->q=q')->(∀ q∈Qs,q.2.1.j.quiet=true) ->
 (∀ q∈Qs,∀ d,q.2.1.d=some d->Ef.get d=q.2.2) ->
 (∀ q∈Qs,listed.getD q.1 false=false->QbP P q.2.1 Ef S'.H q.2.2) ->
 (∀ q∈Qs,(q.2.1,q.2.2)∈pend)->(∀ p∈pend,∃ i,(i,p.1)∈C) ->
 Ext S.H.length S S'->Sim S'->QJ S' (Qe1 (Qs.filter (unl listed)) Ef) a.tmps->a.tmps.size=N->db.Ok S'.w a.defers ->
 xd P pend (rest.map (·.2)) Ef S'.H K->Qcp P .any ops (Qaz S N db K) fuel listed a S'.w:=by
 intro fuel
 induction fuel with
 |zero =>
  intro listed S' a Qs Ef pend rest hf hsz hcl hQC hrC hcov hrl hpw hhead hqr hqn hqq hval hqv hpend hpC he hS henv hN hdf hx;obtain rfl:rest=[]:=VJ (by omega);have hun:Qs.filter (unl listed)=[]:=VJ (by omega);have hall:∀ i,i<ops.size->listed.getD i false=true:=by
   intro i hi
   cases h:listed.getD i false with
   |true=>rfl
   |false =>
    rcases hcov i hi h with ⟨q,hq,rfl⟩|⟨r,hr,_⟩
    . have:q∈Qs.filter (unl listed):=by rw[V9]; exact⟨hq,by simp[unl]; simpa using h⟩
      rw[hun]at this; simp at this
    . simp at hr
  rw[hun]at henv;refine⟨?_,⟨.normal,Ef,S'.ρ,S'.H,trivial,he,hS,henv,hN,hdf,hx⟩⟩;rw[List.eq_nil_iff_forall_not_mem];intro i hi;rw[mem_ready]at hi;obtain⟨h1,o,ho,_⟩:=hi;have hlt:i<ops.size:=(V7.1 ho).1;rw[Qmn (by omega),hall i hlt]at h1; cases h1
 |succ fuel ih =>
  intro listed S' a Qs Ef pend rest hf hsz hcl hQC hrC hcov hrl hpw hhead hqr hqn hqq hval hqv hpend hpC he hS henv hN hdf hx;refine⟨λhr => ?_,λj hj => ?_⟩
  . have hall:=Qx4 hd.edge hsz hr;have hrest:rest=[]:=by
     cases rest with
     |nil=>rfl
     |cons c r =>
      obtain⟨o,ho,_⟩:=hchk c (hrC c (by simp));have h1:=hrl c (by simp);rw[hall c.1 (V7.1 ho).1]at h1; cases h1
    subst hrest;have hun:Qs.filter (unl listed)=[]:=by
     rw[List.filter_eq_nil_iff];intro q hq hu;obtain⟨o,ho,_⟩:=hchk _ (hQC q hq);have:=hall q.1 (V7.1 ho).1;have e:unl listed q=false:=by unfold unl; rw[this]; rfl
     rw[e]at hu; cases hu
    rw[hun]at henv;exact⟨.normal,Ef,S'.ρ,S'.H,trivial,he,hS,henv,hN,hdf,hx⟩
  . rw[mem_ready]at hj;obtain⟨g1,o,ho,hdeps⟩:=hj;have hlt:j<ops.size:=(V7.1 ho).1;rw[Qmn (by omega)]at g1;have before:=λ(i:Nat)=>Qs1 (i:=i) ho hcl hdeps;have hjs:j<listed.size:=by omega
    have hset:∀ k,(listed.setIfInBounds j true).getD k false=false->listed.getD k false=false:=by
     intro k hk
     cases h:listed.getD k false with
     |false=>rfl
     |true=>rw[(QeK (k:=k) hjs).2 (.inr h)]at hk; cases hk
    have hclosed':Qgp ops λt=>(listed.setIfInBounds j true).getD t false=true:=by
     intro i p hi hp e hem hb;rw[QeK hjs]at hi ⊢;rcases hi with rfl|hi
     . rw[ho]at hp; cases hp; exact .inr (hdeps e (by simpa using hem) hb)
     . exact .inr (hcl i p hi hp e hem hb)
    rcases hcov j hlt g1 with ⟨q,hq,rfl⟩|⟨c,hc,rfl⟩
    . -- a quiet operation
      obtain⟨o',ho',hci⟩:=hchk _ (hQC q hq);rw[ho]at ho'; cases ho'
      have hm:∀ t∈q.2.1.slots,(Qe1 (Qs.filter (unl listed)) Ef).get t=Ef.get t:=by
       intro t ht;refine QeS λq' hq' hd' => ?_;rw[V9]at hq';have h1:=before q'.1 (hd.dep _ (hQC q' hq'.1) _ (hQC q hq) t hd' ht);have h2:=hq'.2;simp only[unl,VM]at h2;rw[h1]at h2; cases h2
      have hq1:=Qh4 (hqv q hq g1) hm;have hxo:xo P q.2.1 (Qe1 (Qs.filter (unl listed)) Ef) S'.H (λx env' H'=>x=.normal/\env'=(Qe1 (Qs.filter (unl listed)) Ef).put q.2.1.d q.2.2/\H'=S'.H):=QAt hq1 ⟨rfl,rfl,rfl⟩;refine Qsf ho (QhJ hS henv hN hdf hci hxo ?_ ?_)
      . rintro a' w' ⟨x,env',ρ',H',hx',hext,hsim,henv',hN',hdf',hxn,rfl,rfl⟩;refine ih _ ⟨ρ',S'.H,w'⟩ a' Qs Ef pend rest ?_ (by simpa using hsz) hclosed' hQC hrC (λi hi h=>hcov i hi (hset i h)) ?_ hpw hhead hqr hqn hqq hval
         (λq' hq' h=>hqv q' hq' (hset _ h)) hpend hpC (he.trans (hext.mono (he.len (Vb _)))) hsim ?_ hN' hdf' hx
        . have:=Qrq (p:=unl listed) (q:=unl (listed.setIfInBounds q.1 true)) Qs (by
           intro q' _ h;simp only[unl,VM]at h ⊢;exact hset _ h) q hq (by simp only[unl,g1]; rfl) (by
           simp only[unl,Bool.not_eq_false'];exact(QeK hjs).2 (.inl rfl))
          omega
        . intro r hr;have h1:=hrl r hr
          cases h:(listed.setIfInBounds q.1 true).getD r.1 false with
          |false=>rfl
          |true =>
           rw[QeK hjs]at h;rcases h with h|h
           . exact absurd h.symm (hqr q hq r hr).2
           . rw[h1]at h; cases h
        . refine henv'.congr λt => ?_;by_cases hun:∃ q'∈Qs.filter (unl (listed.setIfInBounds q.1 true)),q'.2.1.d=some t
          . exact .inl (Qh3 hun)
          . right;rw[QeS (λq' hq' h=>hun ⟨q',hq',h⟩)];by_cases h2:q.2.1.d=some t
            . rw[h2,QjG]; exact hval q hq t h2
            . rw[Qg5 h2,QeS];intro q' hq' h3;apply hun;refine⟨q',?_,h3⟩;rw[V9]at hq' ⊢;refine⟨hq'.1,?_⟩;have h4:=hq'.2;simp only[unl,VM]at h4 ⊢
              cases h5:(listed.setIfInBounds q.1 true).getD q'.1 false with
              |false=>rfl
              |true =>
               rw[QeK hjs]at h5;rcases h5 with h5|h5
               . have:=hqn q' hq'.1 q hq h5;subst this; exact absurd h3 h2
               . rw[h4]at h5; cases h5
      . rintro ch a' w' ⟨x,env',ρ',H',hx',hext,hsim,henv',hN',hdf',hxn,_⟩;subst hxn;simp only[ER]at hx'
    . -- the next write
      have hhd:∃ r,rest=c::r:=by
       rcases hhead with rfl|⟨c',r,rfl,hq'⟩
       . simp at hc
       . simp only[Vd]at hc;rcases hc with rfl|hc
         . exact⟨r,rfl⟩
         . rw[List.pairwise_cons]at hpw;have h1:=before c'.1 ((hpw.1 c hc).2.1 hq');rw[hrl c' (by simp)]at h1; cases h1
      obtain⟨r,rfl⟩:=hhd;have hcq:c.2.j.quiet=false:=by
       rcases hhead with h|⟨c',r',h,hq'⟩
       . cases h
       . cases h; exact hq'
      obtain⟨o',ho',hci⟩:=hchk c (hrC c (by simp));rw[ho]at ho'; cases ho'
      rw[List.pairwise_cons]at hpw;have hm:∀ t∈c.2.slots,(Qe1 (Qs.filter (unl listed)) Ef).get t=Ef.get t:=by
       intro t ht;refine QeS λq' hq' hd' => ?_;rw[V9]at hq';have h1:=before q'.1 (hd.dep _ (hQC q' hq'.1) _ (hrC c (by simp)) t hd' ht);have h2:=hq'.2;simp only[unl,VM]at h2;rw[h1]at h2; cases h2
      simp only[Vg,xd]at hx;rw[Zn (by simp[hcq])]at hx;have hxo:=Qvl hcq hm hx;refine Qsf ho (QhJ hS henv hN hdf hci hxo ?_ ?_)
      . rintro a' w' ⟨x,env',ρ',H',hx',hext,hsim,henv',hN',hdf',hk⟩
        cases x<;>simp only[ER]at hx'
        obtain⟨v,rfl,hpv,hxd⟩:=hk;obtain⟨F,rest',pend',f1,f2,f3,f4,f5,f8,f6,f7⟩:=QlX r pend _ hxd;subst f1;have hFC:∀ q∈F,(q.1,q.2.1)∈C:=λq hq=>hrC _ (by simp; exact .inr (.inl ⟨q.2.2,hq⟩));have hr'C:∀ y∈rest',y∈C:=λy hy=>hrC _ (by simp[hy]);have hFr:∀ q∈F,(q.1,q.2.1)∈(F.map λq=>(q.1,q.2.1))++rest':=λq hq=>Yu _ (Vx.2 ⟨q,hq,rfl⟩);rw[List.pairwise_append]at hpw;obtain⟨hpc,hpF,hpr,hpFr⟩:=hpw;have hFidx:∀ (i k:Nat) (x y:QI),F[i]? = some x->F[k]? = some y->i<k->(∀ d,y.2.1.d=some d->d∉x.2.1.slots)/\x.1≠y.1:=by
         intro i k x y hx hy hik;rw[List.pairwise_map,Zh]at hpF;have h1:=Ql hx;have h2:=Ql hy;have h3:=hpF i k h1 h2 hik;rw[Ve h1]at hx; cases hx
         rw[Ve h2]at hy; cases hy
         exact⟨h3.1,h3.2.2⟩
        generalize hE1:Ef.put c.2.d v=E1 at *;have getF:∀ (t:Nat),(∀ q∈F,q.2.1.d≠some t)->(QbS E1 (F.map (·.2.1)) (F.map (·.2.2))).get t=E1.get t:=by
         intro t h;refine QgQ _ _ _ _ λp hp => ?_;obtain⟨q,hq,rfl⟩:=Vx.1 hp;exact h q hq
        have getF1:∀ q∈F,∀ d,q.2.1.d=some d->(QbS E1 (F.map (·.2.1)) (F.map (·.2.2))).get d=q.2.2:=by
         intro q hq d hqd;obtain⟨k,hk⟩:=Vy hq;refine Qid _ _ _ d k q.2.1 q.2.2 (by simp[hk]) (by simp[hk]) hqd ?_;intro i p hik hp hpd;simp only[Vp,VY]at hp;obtain⟨y,hy,rfl⟩:=hp;exact hd.uniq _ (hFC q hq) _ (hFC y (Vv hy)) (hFidx k i q y hk hy hik).2 d hqd hpd
        have hcF:∀ q∈F,c.1≠q.1:=λq hq=>(hpc _ (hFr q hq)).2.2;have hcr':∀ y∈rest',c.1≠y.1:=λy hy=>(hpc _ (Yv _ hy)).2.2;have hlF:∀ q∈F,(listed.setIfInBounds c.1 true).getD q.1 false=false:=by
         intro q hq
         cases h:(listed.setIfInBounds c.1 true).getD q.1 false with
         |false=>rfl
         |true =>
          rw[QeK hjs]at h;rcases h with h|h
          . exact absurd h.symm (hcF q hq)
          . have:=hrl (q.1,q.2.1) (VL _ (hFr q hq)); rw[this]at h; cases h
        have hQF:∀ q∈Qs,∀ q'∈F,(∀ d,q'.2.1.d=some d->d∉q.2.1.slots)/\q.1≠q'.1:=λq hq q' hq'=>hqr q hq (q'.1,q'.2.1) (VL _ (hFr q' hq'));have hQc:∀ q∈Qs,(∀ d,c.2.d=some d->d∉q.2.1.slots)/\q.1≠c.1:=λq hq=>hqr q hq c (by simp);refine ih _ ⟨ρ',H',w'⟩ a' (Qs++F) (QbS E1 (F.map (·.2.1)) (F.map (·.2.2))) pend' rest' ?_ (by simpa using hsz) hclosed' ?_ hr'C ?_ ?_ hpr f2 ?_ ?_ ?_ ?_ ?_ ?_ ?_
         (he.trans (hext.mono (he.len (Vb _)))) hsim ?_ hN' hdf' f7
        . -- fuel
          have h1:((Qs++F).filter (unl (listed.setIfInBounds c.1 true))).length<=(Qs.filter (unl listed)).length+F.length:=by
           rw[List.filter_append,Vj];have h2:=Zj (unl (listed.setIfInBounds c.1 true)) F;have h3:(Qs.filter (unl (listed.setIfInBounds c.1 true))).length<=(Qs.filter (unl listed)).length:=by
            have:Qs.filter (unl (listed.setIfInBounds c.1 true))=(Qs.filter (unl listed)).filter (unl (listed.setIfInBounds c.1 true)):=by
             rw[List.filter_filter];refine List.filter_congr λq _ => ?_;simp only[unl]
             cases h:(listed.setIfInBounds c.1 true).getD q.1 false with
             |true=>rfl
             |false=>rw[hset _ h]; rfl
            rw[this]; exact Zj _ _
           omega
          simp only[Vh,Vj,Yl]at hf;omega
        . intro q hq;rcases Vq.1 hq with hq|hq
          . exact hQC q hq
          . exact hFC q hq
        . intro i hi h;have h0:=hset i h;rcases hcov i hi h0 with ⟨q,hq,rfl⟩|⟨y,hy,rfl⟩
          . exact .inl ⟨q,Yu _ hq,rfl⟩
          . simp only[Vd,Vq,Vx]at hy;rcases hy with rfl|⟨q,hq,rfl⟩|hy
            . rw[(QeK (k:=y.1) hjs).2 (.inl rfl)]at h; cases h
            . exact .inl ⟨q,Yv _ hq,rfl⟩
            . exact .inr ⟨y,hy,rfl⟩
        . intro y hy
          cases h:(listed.setIfInBounds c.1 true).getD y.1 false with
          |false=>rfl
          |true =>
           rw[QeK hjs]at h;rcases h with h|h
           . exact absurd h.symm (hcr' y hy)
           . have:=hrl y (VL _ (Yv _ hy)); rw[this]at h; cases h
        . intro q hq y hy;rcases Vq.1 hq with hq|hq
          . exact hqr q hq y (VL _ (Yv _ hy))
          . have:=hpFr (q.1,q.2.1) (Vx.2 ⟨q,hq,rfl⟩) y hy;exact⟨this.1,this.2.2⟩
        . intro q hq q' hq' heq;rcases Vq.1 hq with hq|hq<;>rcases Vq.1 hq' with hq'|hq'
          . exact hqn q hq q' hq' heq
          . exact absurd heq (hQF q hq q' hq').2
          . exact absurd heq.symm (hQF q' hq' q hq).2
          . obtain⟨i,hi⟩:=Vy hq;obtain⟨k,hk⟩:=Vy hq';rcases Yw i k with h|h|h
            . exact absurd heq (hFidx i k q q' hi hk h).2
            . subst h; rw[hi]at hk; cases hk; rfl
            . exact absurd heq.symm (hFidx k i q' q hk hi h).2
        . intro q hq;rcases Vq.1 hq with hq|hq
          . exact hqq q hq
          . exact f3 q hq
        . intro q hq d hqd;rcases Vq.1 hq with hq|hq
          . rw[getF d (λq' hq' h=>hd.uniq _ (hQC q hq) _ (hFC q' hq') (hQF q hq q' hq').2 d hqd h),<- hE1,Qg5 (λh=>hd.uniq _ (hQC q hq) _ (hrC c (by simp)) (hQc q hq).2 d hqd h)];exact hval q hq d hqd
          . exact getF1 q hq d hqd
        . intro q hq hun;rcases Vq.1 hq with hq|hq
          . have hcg:∀ t∈q.2.1.slots,(QbS E1 (F.map (·.2.1)) (F.map (·.2.2))).get t=E1.get t:=λt ht=>getF t λq' hq' h=>(hQF q hq q' hq').1 t h ht;refine Qh4 ?_ hcg;by_cases hdep:q.2.1.j.dep=true
            . refine hpv _ (hpend q hq) ?_;simp only[QjC,hdep,Bool.true_and,VM];unfold Qgn
              cases hqd:q.2.1.d with
              |none=>rfl
              |some d =>
               simp only
               cases hcn:(QfY c.2.slots pend).contains d with
               |false=>rfl
               |true =>
                have h1:=Qoj hd hchk hcl pend c.2.slots hpC (λt ht y hy hyd=>before y.1 (hd.dep y hy c (hrC c (by simp)) t hyd ht)) d (by simpa using hcn) _ (hQC q hq) hqd;rw[hset _ hun]at h1; cases h1
            . refine Qvu (by simpa using hdep) (Qh4 (hqv q hq (hset _ hun)) λt ht => ?_);rw[<-hE1,Qg5 (λh=>(hQc q hq).1 t h ht)]
          . obtain⟨k,hk⟩:=Vy hq;refine Qh4 (f6 k q hk) λt ht => ?_;by_cases hw:∃ y∈F,y.2.1.d=some t
            . obtain⟨y,hy,hyd⟩:=hw;obtain⟨i,hi⟩:=Vy hy;have hik:i<k:=by
               rcases Yw i k with h|h|h
               . exact h
               . subst h; rw[hi]at hk; cases hk
                 exact absurd ht (hd.self _ (hFC q hq) t hyd)
               . exact absurd ht ((hFidx k i q y hk hi h).1 t hyd)
              rw[getF1 y hy t hyd];refine(Qid _ _ _ t i y.2.1 y.2.2 ?_ ?_ hyd ?_).symm
              . simp only[Vp,VK,Zo hik,hi,VG]
              . simp only[Vp,VK,Zo hik,hi,VG]
              . intro m p him hp hpd;simp only[Vp,VK,VY]at hp;obtain⟨z,hz,rfl⟩:=hp;split at hz
                . exact hd.uniq _ (hFC y hy) _ (hFC z (Vv hz)) (hFidx i m y z hi hz him).2 t hyd hpd
                . cases hz
            . have hw':∀ y∈F,y.2.1.d≠some t:=λy hy h=>hw ⟨y,hy,h⟩;rw[getF t hw'];refine(QgQ _ _ _ _ λp hp => ?_).symm;obtain⟨z,hz,rfl⟩:=Vx.1 hp;exact hw' z (Yj hz)
        . intro q hq;rcases Vq.1 hq with hq|hq
          . exact f4 _ (hpend q hq)
          . exact f5 q hq
        . intro p hp;rcases f8 p hp with h|⟨q,hq,h⟩
          . exact hpC p h
          . exact⟨q.1,by rw[h]; exact hFC q hq⟩
        . refine henv'.congr λt => ?_;by_cases hun:∃ q'∈(Qs++F).filter (unl (listed.setIfInBounds c.1 true)),q'.2.1.d=some t
          . exact .inl (Qh3 hun)
          . right;rw[QeS (λq' hq' h=>hun ⟨q',hq',h⟩)];have hnF:∀ q∈F,q.2.1.d≠some t:=by
             intro q hq h;exact hun ⟨q,by rw[V9]; exact⟨Yv _ hq,by simp only[unl,hlF q hq]; rfl⟩,h⟩
            rw[getF t hnF,<- hE1];by_cases h2:c.2.d=some t
            . rw[h2,QjG,QjG]
            . rw[Qg5 h2,Qg5 h2,QeS];intro q' hq' h3;apply hun;refine⟨q',?_,h3⟩;rw[V9]at hq' ⊢;refine⟨Yu _ hq'.1,?_⟩;have h4:=hq'.2;simp only[unl,VM]at h4 ⊢
              cases h5:(listed.setIfInBounds c.1 true).getD q'.1 false with
              |false=>rfl
              |true =>
               rw[QeK hjs]at h5;rcases h5 with h5|h5
               . exact absurd h5 (hQc q' hq'.1).2
               . rw[h4]at h5; cases h5
      . rintro ch a' w' ⟨x,env',ρ',H',hx',hext,hsim,henv',hN',hdf',hk⟩
        cases x<;>simp only[ER]at hx'
        exact⟨.panic _,[],ρ',H',hx',he.trans (hext.mono (he.len (Vb _))),hsim,⟨λt=>.any _⟩,hN',hdf',hk⟩
theorem QB4 {P:ZL}:DOk0 P QgV:=by
 intro N ops ns l env H K hc hdr hx db S a hH hS he hN hdf;subst hH;obtain⟨hd,hpw⟩:=Qx7 hdr;have hlen:ns.length=l.length/\l.length=ops.size:=by
  unfold QgV at hdr;simp only[Va,Zr]at hdr;exact⟨hdr.1.1.1.2,hdr.1.1.1.1⟩
 have hsnd:(ns.zip l).map (·.2)=l:=by rw[List.map_snd_zip]; omega
 have hchk:∀ x∈ns.zip l,∃ o,ops[x.1]? = some o/\QdR P N ops o x.2=true:=by
  intro x hx;unfold QeV at hc;rw[Vn]at hc;have:=hc x hx;split at this
  . rename_i o ho; exact⟨o,ho,this⟩
  . cases this
 have hnone:∀ i,(Array.replicate ops.size false).getD i false=false:=by
  intro i;rw[VQ,Zg];split<;>rfl
 have hE:=Qkh (S:=S) (w':=S.w.drew) rfl rfl rfl rfl;have hS':=QnM hS (w':=S.w.drew) rfl rfl rfl rfl;obtain⟨F,rest',pend',f1,f2,f3,f4,f5,f8,f6,f7⟩:=QlX (ns.zip l) [] env (by rw[hsnd]; exact hx);have hFC:∀ q∈F,(q.1,q.2.1)∈ns.zip l:=λq hq=>by rw[f1]; exact Yu _ (Vx.2 ⟨q,hq,rfl⟩)
 have hr'C:∀ y∈rest',y∈ns.zip l:=λy hy=>by rw[f1]; exact Yv _ hy
 rw[f1,List.pairwise_append]at hpw;obtain⟨hpF,hpr,hpFr⟩:=hpw;have hFidx:∀ (i k:Nat) (x y:QI),F[i]? = some x->F[k]? = some y->i<k->(∀ d,y.2.1.d=some d->d∉x.2.1.slots)/\x.1≠y.1:=by
  intro i k x y hx hy hik;rw[List.pairwise_map,Zh]at hpF;have h1:=Ql hx;have h2:=Ql hy;have h3:=hpF i k h1 h2 hik;rw[Ve h1]at hx; cases hx
  rw[Ve h2]at hy; cases hy
  exact⟨h3.1,h3.2.2⟩
 have getF:∀ (t:Nat),(∀ q∈F,q.2.1.d≠some t)->(QbS env (F.map (·.2.1)) (F.map (·.2.2))).get t=env.get t:=by
  intro t h;refine QgQ _ _ _ _ λp hp => ?_;obtain⟨q,hq,rfl⟩:=Vx.1 hp;exact h q hq
 have getF1:∀ q∈F,∀ d,q.2.1.d=some d->(QbS env (F.map (·.2.1)) (F.map (·.2.2))).get d=q.2.2:=by
  intro q hq d hqd;obtain⟨k,hk⟩:=Vy hq;refine Qid _ _ _ d k q.2.1 q.2.2 (by simp[hk]) (by simp[hk]) hqd ?_;intro i p hik hp hpd;simp only[Vp,VY]at hp;obtain⟨y,hy,rfl⟩:=hp;exact hd.uniq _ (hFC q hq) _ (hFC y (Vv hy)) (hFidx k i q y hk hy hik).2 d hqd hpd
 refine Qz7 hd hchk ops.size (Array.replicate ops.size false) ⟨S.ρ,S.H,S.w.drew⟩ a F (QbS env (F.map (·.2.1)) (F.map (·.2.2))) pend' rest' ?_ (by simp) ?_ hFC hr'C ?_ (λr _=>hnone _) hpr f2 ?_ ?_ f3 getF1 ?_ f5 (λp hp=>by
  rcases f8 p hp with h|⟨q,hq,h⟩
  . simp at h
  . exact⟨q.1,by rw[h]; exact hFC q hq⟩)
  hE hS' ?_ hN hdf.drew f7
 . have h1:=Zj (unl (Array.replicate ops.size false)) F;have h2:(ns.zip l).length=ops.size:=by rw[List.length_zip]; omega
   rw[f1]at h2;simp at h2; omega
 . intro j o hj;simp only[hnone]at hj; cases hj
 . intro i hi _;obtain⟨x,hx,rfl⟩:=hd.cov i hi;rw[f1,Vq,Vx]at hx;rcases hx with ⟨q,hq,rfl⟩|hx
   . exact .inl ⟨q,hq,rfl⟩
   . exact .inr ⟨x,hx,rfl⟩
 . intro q hq y hy;have:=hpFr (q.1,q.2.1) (Vx.2 ⟨q,hq,rfl⟩) y hy;exact⟨this.1,this.2.2⟩
 . intro q hq q' hq' heq;obtain⟨i,hi⟩:=Vy hq;obtain⟨k,hk⟩:=Vy hq';rcases Yw i k with h|h|h
   . exact absurd heq (hFidx i k q q' hi hk h).2
   . subst h; rw[hi]at hk; cases hk; rfl
   . exact absurd heq.symm (hFidx k i q' q hk hi h).2
 . intro q hq _;obtain⟨k,hk⟩:=Vy hq;refine Qh4 (f6 k q hk) λt ht => ?_;by_cases hw:∃ y∈F,y.2.1.d=some t
   . obtain⟨y,hy,hyd⟩:=hw;obtain⟨i,hi⟩:=Vy hy;have hik:i<k:=by
      rcases Yw i k with h|h|h
      . exact h
      . subst h; rw[hi]at hk; cases hk
        exact absurd ht (hd.self _ (hFC q hq) t hyd)
      . exact absurd ht ((hFidx k i q y hk hi h).1 t hyd)
     rw[getF1 y hy t hyd];refine(Qid _ _ _ t i y.2.1 y.2.2 ?_ ?_ hyd ?_).symm
     . simp only[Vp,VK,Zo hik,hi,VG]
     . simp only[Vp,VK,Zo hik,hi,VG]
     . intro m p him hp hpd;simp only[Vp,VK,VY]at hp;obtain⟨z,hz,rfl⟩:=hp;split at hz
       . exact hd.uniq _ (hFC y hy) _ (hFC z (Vv hz)) (hFidx i m y z hi hz him).2 t hyd hpd
       . cases hz
   . have hw':∀ y∈F,y.2.1.d≠some t:=λy hy h=>hw ⟨y,hy,h⟩;rw[getF t hw'];refine(QgQ _ _ _ _ λp hp => ?_).symm;obtain⟨z,hz,rfl⟩:=Vx.1 hp;exact hw' z (Yj hz)
 . refine(he.ext hE).congr λt => ?_;by_cases hw:∃ y∈F,y.2.1.d=some t
   . left;obtain⟨y,hy,hyd⟩:=hw;exact Qh3 ⟨y,by rw[V9]; exact⟨hy,by simp only[unl,hnone]; rfl⟩,hyd⟩
   . right;have hw':∀ y∈F,y.2.1.d≠some t:=λy hy h=>hw ⟨y,hy,h⟩;rw[QeS (λq hq=>hw' q (V9.1 hq).1),getF t hw']
end
end
section
variable [QR] [QP] [Qv]
theorem QwC (n:Nat) (o:Ins):(o.rs n).slots=o.slots:=by
 obtain⟨d,g,j⟩:=o
 cases j with
 |e i=>cases i<;>rfl
 |_=>rfl
theorem Qud (n:Nat) (o:Ins):(o.rs n).j.quiet=o.j.quiet:=by
 obtain⟨d,g,j⟩:=o
 cases j<;>rfl
theorem d_rs (n:Nat) (o:Ins):(o.rs n).d=o.d:=rfl
def Qhn (free:Ins->Bool) (ops:Array Oper) (ns:List Nat) (l:List Ins):Bool :=
 let B:=Qbr ops.toList []
 let n:=l.length
 let L:=ns.zip l
 (n==ops.size)&&(ns.length==n)&&((List.range n).all λi=>ns.contains i) &&
 ((List.range n).all λi=>((ops.getD i default).after.toList.all λe => !Region.binds .any e||decide (e.on<i))) &&
 (L.zipIdx.all λx=>L.zipIdx.all λy =>
  (match x.1.2.d with
   |none=>true
   |some d=>(x.2==y.2||y.1.2.d != some d)&&(!y.1.2.slots.contains d||(QdM B x.1.1 y.1.1&&decide (x.2<y.2)))) &&
  (free x.1.2||decide (y.2<=x.2)||QdM B x.1.1 y.1.1)&&(x.2==y.2||x.1.1 != y.1.1))
theorem QAw {free:Ins->Bool} (n:Nat) (hf:∀ o,free (Ins.rs n o)=free o) {ops:Array Oper} {ns:List Nat} {l:List Ins} (h:Qhn free ops ns l=true):Qhn free ops ns (l.map (Ins.rs n))=true:=by
 have e:Qhn free ops ns (l.map (Ins.rs n))=Qhn free ops ns l:=by
  unfold Qhn;simp only[Yl,List.zip_map_right,List.zipIdx_map,List.all_map,Function.comp_def,Prod.map_fst,Prod.map_snd,id_eq,d_rs,QwC,hf]
 rw[e]; exact h
theorem QCu (ops:Array Oper) (ns:List Nat) (l:List Ins):QgV ops ns l=Qhn (λo=>o.j.quiet) ops ns l:=rfl
def Qf (ops:Array Oper) (ns:List Nat) (l:List Ins):Bool:=QgV ops ns l
theorem Qb1 {P:ZL} (hm:P.follows .mixedOrders=true):DOk P Qf where
 rs:=by
  intro n ops m l h;unfold Qf at h ⊢;rw[QCu]at h ⊢; exact QAw n (λo=>Qud n o) h
 mixed:=hm
 ok:=λN ops m l env H K hc h hx=>QB4 N ops m l env H K hc h hx
end
section
variable [QR] [QP] [Qv]
def QdG (P:ZL) (D:Array Oper->List Nat->List Ins->Bool) (fn:Func) (i:IC) (rs:List RS):Bool :=
 (match fn.body with | some c => Q2 P fn.ntmps D c i | none => false) && !(fn.name == "runtime.NumGoroutine") && Qcv P fn.results.toList rs && decide (fn.params.size + fn.nfree <= fn.ntmps)
theorem Qz {P:ZL} (hm:P.follows .mixedOrders=true) {f:ZN} {fn:Func} {i:IC} {rs:List RS} (hf:P.funcs[f]? = some fn) (hc:QdG P Qf fn i rs=true)
 {args:ZH} {H:ZG} {out:Out} {H':ZG} (hn:args.length=fn.params.size+fn.nfree)
 (hx:closed H->X P fn.ntmps Qf i (Qcl args) H (Fin H.length rs out H')):Ok P f args H out H':=by
 unfold QdG at hc;rw[Va,Va,Va]at hc;obtain⟨⟨⟨h1,h2⟩,h3⟩,h4⟩:=hc;split at h1
 . rename_i c hb;exact QxH (Qb1 hm) hf hb (by simpa using h2) (by rw[hn]; simpa using h4) h1 h3 hx
 . cases h1
theorem Qbd {P:ZL} (hm:P.follows .mixedOrders=true) {f:ZN} {fn:Func} {i:IC} {rs:List RS} (hf:P.funcs[f]? = some fn) (hc:QdG P Qf fn i rs=true)
 {args:ZH} {H:ZG} {Pt:Out->ZG->Prop} (hn:args.length=fn.params.size+fn.nfree)
 (hx:closed H->X P fn.ntmps Qf i (Qcl args) H (FinP H.length rs Pt)):OkP P f args H Pt:=by
 unfold QdG at hc;rw[Va,Va,Va]at hc;obtain⟨⟨⟨h1,h2⟩,h3⟩,h4⟩:=hc;split at h1
 . rename_i c hb;exact QvM (Qb1 hm) hf hb (by simpa using h2) (by rw[hn]; simpa using h4) h1 h3 hx
 . cases h1
theorem Qw5 {P:ZL} (hm:P.follows .mixedOrders=true) {N:Nat} {i:IC} {env:Env} {H:ZG} {K:ZF}
 (h:X P N Qf i env H λx env H=>match x with|.normal=>LI P N Qf i env H K|x=>K x env H):LI P N Qf i env H K:=LI.round (Qb1 hm) h
theorem Qyo (n:Int):(i64 n).isI .i64=true:=rfl
theorem QAb (n:Int):(i64 n).int=n:=rfl
theorem QvH (n:Int):(i64 n).isN=true:=rfl
theorem QBG (b:Bool):(bl b).isB=true:=rfl
theorem QvR (b:Bool):(bl b).bool=b:=rfl
theorem Qvi (n:Int):(i64 n).ug=i64 n:=rfl
theorem Qxe (n:Int):(i64 n).vd=true:=rfl
theorem QA0 (b:Bool):(bl b).ug=bl b:=rfl
theorem Qy5 (b:Bool):(bl b).vd=true:=rfl
theorem Qah {n:Int} (h1 : -9223372036854775808<=n) (h2:n<=9223372036854775807):IntKind.i64.wrap n=n:=by rw[IntKind.wrap_i64]; omega
theorem Qyn (n:Int):SV.val (.int .i64 n)=i64 n:=rfl
theorem QfX (H L:ZG) (k ver:Nat):Qo (H++L) (H.length+k) ver=Qo L k ver:=by
 unfold Qo; rw[Vl (by omega)]; simp
theorem QvW (H L:ZG) (ver:Nat):Qo (H++L) H.length ver=Qo L 0 ver:=QfX H L 0 ver
theorem Qji (H L:ZG) (k:Nat) (f:AO->AO):setObj (H++L) (H.length+k) f=H++setObj L k f:=by
 unfold setObj;rw[Vl (by omega)];have:H.length+k-H.length=k:=by omega
 rw[this]
 cases L[k]? with
 |none=>rfl
 |some o=>simp
theorem QwW (H L:ZG) (f:AO->AO):setObj (H++L) H.length f=H++setObj L 0 f:=Qji H L 0 f
end
section
variable [QR] [QP] [Qv]
theorem QzW {n0:Nat} {H1 H0 L:ZG} {r:SV} (d:Nat) (ks:List Nat) (h:H1=H0++L) (hn:n0<=H0.length) (hcl:closed H0) (hk:Qcw H0.length ks L d ks) :
 Cv n0 r H1 (r.fz H0.length ks L d) (H0++Qet H0.length ks L d):=by
 intro S v hS hsim hv;subst h;exact⟨_,(QfD hS hk).mono hn,QAG hsim hS hcl hk,Qnp hsim hS hk d (Vb _) r v hv⟩
theorem Qzh {n0:Nat} {H1 H0 L:ZG} {r:SV} (d:Nat) (h:H1=H0++L) (hn:n0<=H0.length) (hcl:closed H0):Cv n0 r H1 (r.fz H0.length [] L d) H0:=by
 have:=QzW (r:=r) d [] h hn hcl trivial;simpa[Qet]using this
end
section
variable [QR] [QP] [Qv]
section
variable {P:ZL} {N:Nat}
def Env.puts (e:Env):List Nat->ZH->Env
 |p::ps,v::vs=>Env.puts ((p,v)::e) ps vs
 |_,_=>e
theorem Env.puts_rel {S:St}:∀ (ps:List Nat) (l:ZH) (vs:ZI) (e:Env) (tmps:Array Value),QJ S e tmps->VRs S l vs->(∀ p∈ps,p<tmps.size) ->
 QJ S (e.puts ps l) ((ps.zip vs).foldl (λt (x:Nat×Value)=>t.setIfInBounds x.1 x.2) tmps)
 |[],_,_,e,tmps,h,_,_=>by simpa[Env.puts]using h
 |p::ps,[],vs,e,tmps,h,hv,_=>by
  have:vs=[]:=VJ (by simpa using hv.1);subst this; simpa[Env.puts]using h
 |p::ps,v::l,[],e,tmps,h,hv,_=>by have:=hv.1; simp at this
 |p::ps,v::l,u::vs,e,tmps,h,hv,hp=>by
  simp only[Env.puts,List.zip_cons_cons,YD];have h1:VR S v u:=hv.2 0 v u rfl rfl;have h2:VRs S l vs:=⟨by simpa using hv.1,λj s w h3 h4=>hv.2 (j+1) s w (by simpa using h3) (by simpa using h4)⟩;refine Env.puts_rel ps l vs _ _ ?_ h2 (λq hq=>by simpa using hp q (by simp[hq]));have h3:=QJ.put (a:=⟨tmps,[]⟩) (d:=some p) (v:=u) (s:=v) h (λt ht=>by cases ht; exact hp p (by simp)) h1;simpa[Env.put,Act.put]using h3
theorem Env.of_vals {S:St} {e:Env} {N:Nat} {tmps:Array Value} (h:VRs S (e.vals N) tmps.toList) (he:(e.all λp=>decide (p.1<N))=true):QJ S e tmps:=by
 refine⟨λt => ?_⟩;have hN:tmps.size=N:=by have:=h.1; simpa[Env.vals]using this
 by_cases ht:t<N
 . have h1:(e.vals N)[t]? = some (e.get t):=by simp[Env.vals,YC ht]
   obtain⟨u,h2,h3⟩:=h.get h1;rw[VQ];have:tmps[t]? = some u:=by simpa using h2
   rw[this]; exact h3
 . have:e.get t=.any:=by
    clear h
    induction e with
    |nil=>rfl
    |cons p r ih =>
     simp only[YP,Va,Zq]at he;simp only[Env.get];rw[Zn (by omega)];exact ih he.2
   rw[this]; exact .any _
def Qoa (P:ZL) (N kk:Nat) (ps:List Nat) (ia ib:IC) (i n0:Nat) (Pt:Out->ZG->Prop) (x:XE) (_:Env) (H:ZG):Prop :=
 ∃ cs,H[i]? = some (lpo P N Qf kk ps ia ib cs .busy)/\∃ (st:LSt) (b:Bool) (H':ZG),
  (match x with
   |.normal=>st=.ready/\b=true
   |.exit id=>st=.exit id/\b=false
   |.goto l=>st=.goto l/\b=false
   |.ret=>st=.ret/\b=false
   |.panic _=>False)/\Pt (.ret (bl b)) H'/\Cv n0 (bl b) (H.set i (lpo P N Qf kk ps ia ib cs st)) (bl b) H'
theorem QsS {l l':Nat} {S S':St} {i:Nat} {o o':AO} (he:Ext S.H.length S S') (ho:S.H[i]? = some o) (ho':S'.H[i]? = some o') (hv:o.ver=o'.ver) (h:S.ρ i=some l) (h':S'.ρ i=some l'):l'=l:=by
 obtain⟨o1,g1,g2,g3⟩:=he.obj i o (Ql ho) ho;rw[ho']at g1; cases g1
 have:=g3 hv;rw[h,h']at this;exact Option.some.inj this
theorem QAB (hm:P.follows .mixedOrders=true) {i kk:Nat} {ps:List Nat} {ia ib:IC} {env:Env} {args:ZH} {H:ZG} {Pt:Out->ZG->Prop}
 {cs0:ZH} (ho:H[i]? = some (lpo P N Qf kk ps ia ib cs0 .ready)) (he:∀ (S:St) (tmps:Array Value),VRs S cs0 tmps.toList->QJ S env tmps) (hp:(ps.all λp=>decide (p<N))=true) (hl:args.length=ps.length)
 (hx:closed H->X P N Qf ia (env.puts ps args) H λx env1 H1=>x=.normal/\∃ cs,H1[i]? = some (lpo P N Qf kk ps ia ib cs .ready)/\X P N Qf ib env1 (H1.set i (lpo P N Qf kk ps ia ib cs .busy)) (Qoa P N kk ps ia ib i H.length Pt)) :
 YlP P i args H Pt:=by
 refine⟨⟨_,ho,rfl⟩,?_⟩;intro S vs l hH hS hvs hρ;subst hH;obtain⟨l',r,h1,h2,⟨k1,k2,k3,k4⟩,h4,h5⟩:=hS.loop ho;rw[hρ]at h1; cases h1
 have hps:r.params.size=ps.length:=by rw[<-k1]; simp
 have hlen:vs.length=args.length:=hvs.1;refine⟨r,h2,by omega,?_⟩;have htm:(r.params.zip vs.toArray).foldl (λtmps (x:Nat×Value)=>tmps.setIfInBounds x.1 x.2) r.tmps=(ps.zip vs).foldl (λt (x:Nat×Value)=>t.setIfInBounds x.1 x.2) r.tmps:=by
  rw[<-Array.foldl_toList,Array.toList_zip,k1]
 have hall:∀ p∈ps,p<r.tmps.size:=λp hpp=>by rw[Vn]at hp; rw[k2]; simpa using hp p hpp
 have henv:=Env.puts_rel ps args vs env r.tmps (he S r.tmps h5) hvs hall;have hsz:∀ (l:List (Nat×Value)) (t:Array Value),(l.foldl (λt (x:Nat×Value)=>t.setIfInBounds x.1 x.2) t).size=t.size:=by
  intro l
  induction l with
  |nil=>intro t; rfl
  |cons x l ih=>intro t; simp only[YD]; rw[ih]; simp
 have hdb:(⟨S.w.heap.size,[],some l⟩:DB).Ok S.w []:=⟨Vb _,⟨[],rfl,YI,λD hD=>by simp at hD⟩,λl' hl'=>by cases hl'; exact⟨r,h2⟩⟩;have hW:=Qev (Qb1 hm) ia k3 (hx hS.closed) ⟨S.w.heap.size,[],some l⟩ S ⟨(ps.zip vs).foldl (λt (x:Nat×Value)=>t.setIfInBounds x.1 x.2) r.tmps,[]⟩ rfl hS henv (by simp only; rw[hsz]; exact k2) hdb;refine roundIn_of_wpIn (F:=Fr none) trivial ?_;rw[show(λtmps (x:Nat×Value)=>tmps.setIfInBounds x.1 x.2)=(λ(t:Array Value) (x:Nat×Value)=>t.setIfInBounds x.1 x.2)from rfl]at htm;rw[show((r.params.zip vs.toArray).foldl (λtmps (t,a)=>tmps.setIfInBounds t a) r.tmps)=(ps.zip vs).foldl (λt (x:Nat×Value)=>t.setIfInBounds x.1 x.2) r.tmps from htm];refine wpIn_mono hW ?_;rintro e a1 w1 ⟨x1,env1,ρ1,H1,g1,g2,g3,g4,g5,g6,rfl,cs,g7,g8⟩
 cases e<;>simp only[ER]at g1
 obtain⟨l1,r1,j1,j2,j3,j4,j5⟩:=g3.loop g7;have hl1:l1=l:=QsS g2 ho g7 rfl hρ j1;subst hl1;have hbr:=run_beginRound (P:=P) j2 j4.1;obtain⟨e2,s2⟩:=QnS g3 (o':=lpo P N Qf kk ps ia ib cs .busy) (r':={ r1 with state:=.busy }) g7 rfl (by simp[lpo]) j1 j2 rfl (Vb _) (.inr ⟨kk,_,.busy,cs,rfl,j3,rfl,j5⟩);simp only at hbr e2 s2 j2;refine⟨_,hbr,?_⟩;have hW2:=Qev (Qb1 hm) ib k4 g8 ⟨S.w.heap.size,[],some l1⟩ ⟨ρ1,H1.set i (lpo P N Qf kk ps ia ib cs .busy),w1.putObj l1 (.loop { r1 with state:=.busy })⟩ a1 rfl s2 (g4.ext e2) g5 (g6.ext g3 e2);refine wpIn_mono hW2 ?_;rintro e a3 w3 ⟨x3,env3,ρ3,H3,m1,m2,m3,m4,m5,m6,cs3,m7,st,b,H',m8,m9,m10⟩;obtain⟨l3,r3,q1,q2,q3,q4,q5⟩:=m3.loop m7;have hat2:(⟨ρ1,H1.set i (lpo P N Qf kk ps ia ib cs .busy),w1.putObj l1 (.loop { r1 with state:=.busy })⟩:St).H[i]? = some (lpo P N Qf kk ps ia ib cs .busy):=Vo (Ql g7);have hl3:l3=l1:=QsS m2 hat2 m7 rfl (show ρ1 i=some l1 from j1) q1;subst hl3;have fin:∀ (jump:Option Code) (x:LoopState) (hx:x=(if jump.isNone then .ready else .done)),jump.isNone=b->QgF { r3 with state:=x,pending:=jump } st ->
  ∃ v w',(Instr.endRound l3 jump).run P w3=.ok v w'/\∃ (out:Out) (H':ZG) (v':Value) (ρ':Nat->Option Nat),Pt out H'/\Ext S.H.length S ⟨ρ',H',w'⟩/\Sim ⟨ρ',H',w'⟩ /\
   match out with
   |.ret r=>Ending.returned v=.returned v'/\VR ⟨ρ',H',w'⟩ r v'
   |.pan x=>Ending.returned v=.panicked [{ v:=v',recovered:=false }]/\VR ⟨ρ',H',w'⟩ x v':=by
  intro jump x hx hj hst;have hend:=run_endRound (P:=P) jump q2;rw[<-hx,hj]at hend;obtain⟨e4,s4⟩:=QnS m3 (o':=lpo P N Qf kk ps ia ib cs3 st) (r':={ r3 with state:=x,pending:=jump }) m7 rfl (by simp[lpo]) q1 q2 rfl (Vb _) (.inr ⟨kk,_,st,cs3,rfl,q3,hst,q5⟩);obtain⟨ρ',c1,c2,c3⟩:=m10 _ (.bool b) rfl s4 (.val _);refine⟨_,_,hend,.ret (bl b),H',.bool b,ρ',m9,?_,c2,rfl,c3⟩;exact(g2.trans ((e2.trans ((m2.trans (e4.mono (m2.len (Vb _)))).mono (e2.len (Vb _)))).mono (g2.len (Vb _)))).trans c1
 cases x3<;>cases e<;>simp only[ER]at m1
 . obtain⟨rfl,rfl⟩:=m8; exact fin none .ready rfl rfl ⟨rfl,rfl⟩
 . subst m1; obtain⟨rfl,rfl⟩:=m8; exact fin (some (.exit _)) .done rfl rfl ⟨rfl,rfl⟩
 . subst m1; obtain⟨rfl,rfl⟩:=m8; exact fin (some (.goto _)) .done rfl rfl ⟨rfl,rfl⟩
 . obtain⟨rfl,rfl⟩:=m8; exact fin (some .ret) .done rfl rfl ⟨rfl,rfl⟩
 . exact m8.elim
theorem Qwf (hm:P.follows .mixedOrders=true) {i kk:Nat} {ps:List Nat} {ia ib:IC} {env:Env} {args:ZH} {H:ZG} {Pt:Out->ZG->Prop}
 (ho:H[i]? = some (lpo P N Qf kk ps ia ib (env.vals N) .ready)) (he:(env.all λp=>decide (p.1<N))=true) (hp:(ps.all λp=>decide (p<N))=true) (hl:args.length=ps.length)
 (hx:closed H->X P N Qf ia (env.puts ps args) H λx env1 H1=>x=.normal/\∃ cs,H1[i]? = some (lpo P N Qf kk ps ia ib cs .ready)/\X P N Qf ib env1 (H1.set i (lpo P N Qf kk ps ia ib cs .busy)) (Qoa P N kk ps ia ib i H.length Pt)) :
 YlP P i args H Pt:=QAB hm ho (λS tmps h=>Env.of_vals h he) hp hl hx
end
end
end Go.Ab
