/- Steps of the proof. -/
import Derived.Test.YtmkdpmfhlfhjkaaGreatDoorCore2
set_option linter.all false
namespace Go.Ab
section
variable [QN] [QG] [Qr]
inductive IC where
 |skip
 |reg (l:List Ins)
 |drw (ns:List Nat) (l:List Ins)
 |drq (Ts:List ZK) (n0:Nat) (ns:List Nat) (l:List Ins) (os:List (List Nat)) (tl:List Ins)
 |seq (a b:IC)
 |cond (c:Od) (a b:IC)
 |blk (id:Nat) (a:IC)
 |loop (a:IC)
 |exit (id:Nat)
 |ret
 |keep (ks:List Nat) (a:IC)
 |rng (k:Nat) (g:Od) (ps:List Nat) (ia ib:IC)
 |scp (a:IC)
 |lab
 |no
def Env.keep (e:Env) (ks:List Nat):Env:=ks.map λk=>(k,e.get k)
theorem Env.get_keep (e:Env) (ks:List Nat) (t:Nat):(e.keep ks).get t=e.get t\/(e.keep ks).get t=.any:=by
 induction ks with
 |nil=>right; rfl
 |cons k r ih =>
  simp only[Env.keep,Vn,Env.get];by_cases h:k=t
  . rw[Zn h,h]; left; rfl
  . rw[Zm h]; exact ih
theorem QD.keep {S:St} {e:Env} {tmps:Array Value} (h:QD S e tmps) (ks:List Nat):QD S (e.keep ks) tmps:=by
 refine⟨λt => ?_⟩;rcases e.get_keep ks t with h1|h1<;>rw[h1]
 . exact h.get t
 . exact .any _
def Qho (l:List Ins) (env:Env):List Nat:=l.filterMap (·.d)++env.map Prod.fst
def W (P:ZL) (N:Nat) (c:Code) (env:Env) (H:ZG) (K:ZF):Prop :=
 ∀ (db:DB) (S:St) (a:Act),S.H=H->Sim S->QD S env a.tmps->a.tmps.size=N->db.Ok S.w a.defers->c.wq db.ro P (Qav S N db K) a S.w
def St.newRes (S:St) (T:ZK):St:=⟨upd S.ρ S.H.length none,S.H++[⟨[],T,0,false⟩],S.w⟩
theorem Qp7 (S:St) (T:ZK):Ext S.H.length S (S.newRes T) where
 obj:=by
  intro i o hi ho;refine⟨o,?_,Vb _,λ_=>QbD _ _ (by omega)⟩;show(S.H++_)[i]? = _;rw[Vc hi]; exact ho
 imm:=by
  intro k hk hn;refine⟨rfl,?_⟩;rintro⟨i,o,ho,hl,hρ⟩;simp only[St.newRes]at ho hρ;by_cases hi:i=S.H.length
  . subst hi; rw[Qa1]at hρ; cases hρ
  . rw[QbD _ _ hi]at hρ;have hi':i<S.H.length:=by have:=Qj ho; simp at this; omega
    rw[Vc hi']at ho;exact hn ⟨i,o,ho,hl,hρ⟩
 size:=Vb _
 shape:=λ_ _ _ h=>h
 loops:=λ_ r h=>⟨r,h⟩
 os:=rfl
 tape:=rfl
 output:=rfl
theorem QwU {S:St} (h:Sim S) (T:ZK):Sim (S.newRes T):=by
 refine h.step (Qp7 S T) (by simp[St.newRes]) ?_ ?_
 . intro i o ho;by_cases hi:i=S.H.length
   . subst hi;have:o=⟨[],T,0,false⟩:=by simpa[St.newRes]using ho.symm
     subst this;refine .inr ⟨λ_ => ?_,λs hs=>by simp at hs,λ_ hc=>absurd rfl hc⟩;simp only[St.newRes,Qa1]
   . have hi':i<S.H.length:=by have:=Qj ho; simp[St.newRes]at this; omega
     refine .inl ⟨?_,QbD _ _ hi,λb hb hl=>rfl⟩;simp only[St.newRes]at ho; rw[Vc hi']at ho; exact ho
 . intro i j o o' b hi hj hl hl' hρ hρ';have key:∀ (i:Nat) (o:AO),(S.newRes T).H[i]? = some o->(S.newRes T).ρ i=some b->S.H[i]? = some o/\S.ρ i=some b:=by
    intro i o ho hρ;by_cases hi:i=S.H.length
    . subst hi; simp only[St.newRes,Qa1]at hρ; cases hρ
    . have hi':i<S.H.length:=by have:=Qj ho; simp[St.newRes]at this; omega
      simp only[St.newRes]at ho hρ;rw[Vc hi']at ho;rw[QbD _ _ hi]at hρ;exact⟨ho,hρ⟩
   obtain⟨h1,h2⟩:=key i o hi hρ;obtain⟨h3,h4⟩:=key j o' hj hρ';exact h.inj i j o o' b h1 h3 hl hl' h2 h4
def Qcz (Ts:List ZK):ZG:=Ts.map λT=>⟨[],T,0,false⟩
theorem QqK:∀ (Ts:List ZK) {S:St},Sim S->∃ ρ,Ext S.H.length S ⟨ρ,S.H++Qcz Ts,S.w⟩/\Sim ⟨ρ,S.H++Qcz Ts,S.w⟩
 |[],S,h=>⟨S.ρ,by simpa[Qcz]using Ext.refl _ S,by simpa[Qcz]using h⟩
 |T::r,S,h=>by
  have h1:=Qp7 S T;have h2:=QwU h T;obtain⟨ρ,h3,h4⟩:=QqK r h2;have e:(S.newRes T).H++Qcz r=S.H++Qcz (T::r):=by simp[St.newRes,Qcz]
  rw[e]at h3 h4;exact⟨ρ,h1.trans (h3.mono (h1.len (Vb _))),h4⟩
def E.rs (n:Nat):E->E
 |e=>e
def J.rs (n:Nat):J->J
 |.e i=>.e (i.rs n)
 |j=>j
def Ins.rs (n:Nat) (o:Ins):Ins:=⟨o.d,o.g,o.j.rs n⟩
def QeL (P:ZL) (N:Nat) (ops:Array Oper) (ns:List Nat) (l:List Ins):Bool :=
 (ns.zip l).all λx=>match ops[x.1]? with|some o=>Qdy P N ops o x.2|none=>false
def J.dep:J->Bool
 |.p (.ld1 _)|.p (.ldn _ _)|.p (.lkp _ _ _ _ _)|.p (.bys _)|.q _ _=>true
 |_=>false
def J.quiet:J->Bool
 |.e _=>false
 |_=>true
def QbI (P:ZL) (o:Ins) (env:Env) (H:ZG) (v:SV):Prop :=
 match o.g with
 |none =>
  match o.j with
  |.p i=>(pv i env.ev H).1/\v=(pv i env.ev H).2
  |.q f args=>OkC P (env.ev f) (args.map env.ev) H (.ret v) H
  |.e _=>False
 |some (s,want) =>
  (env.get s).bish=true /\
  match o.j with
  |.p i=>((env.get s).on want=true->(pv i env.ev H).1)/\v=.gd ((env.get s).on want) (pv i env.ev H).2
  |.q f args=>∃ r,((env.get s).on want=true->OkC P (env.ev f) (args.map env.ev) H (.ret r) H)/\v=.gd ((env.get s).on want) r
  |.e _=>False
def Od.slots:Od->List Nat
 |.t n=>[n]
 |.c _=>[]
def I.ods:I->List Od
 |.eqf _ _ x y=>[x,y]
 |.mov x=>[x]
 |.pick c a b=>[c,a,b]
 |.bin _ _ x y=>[x,y]
 |.neg _ x=>[x]
 |.not x=>[x]
 |.cvi _ x=>[x]
 |.ld1 p=>[p]
 |.ldn _ p=>[p]
 |.fa _ p=>[p]
 |.fld1 _ x=>[x]
 |.ia _ s i=>[s,i]
 |.iap _ _ p i=>[p,i]
 |.ixs s i=>[s,i]
 |.ixa _ _ _ x i=>[x,i]
 |.sl _ x lo hi=>x::(lo.toList++hi.toList)
 |.sls x lo hi=>x::(lo.toList++hi.toList)
 |.ext x _=>[x]
 |.len x=>[x]
 |.lens x=>[x]
 |.mm _ _ x y=>[x,y]
 |.mkf _ a b=>a++b
 |.mki _ x=>[x]
 |.nck x=>[x]
 |.bld _ ps=>ps.map λp=>p.2.2
 |.kro _ _ _ _ _=>[]
 |.ifn _ _ x=>[x]
 |.rst x=>[x]
 |.tas _ _ _ x=>[x]
 |.gix _ _ _ _ j=>[j]
 |.lkp _ _ _ m k=>[m,k]
 |.iav _ s j=>[s,j]
 |.lnv x=>[x]
 |.bys x=>[x]
 |.no=>[]
def E.ods:E->List Od
 |.alc _ _=>[]
 |.box _ x=>[x]
 |.bsl _ _ _ _ ps=>ps.map λp=>p.2
 |.app _ _ _ s x=>[s,x]
 |.st _ p x=>[p,x]
 |.stw ws _ p x=>p::x::ws.map Od.t
 |.call f as=>f::as
 |.nil _ _ x=>[x]
 |.sby x=>[x]
 |.aps _ s x=>[s,x]
 |.pan x=>[x]
 |.mkm _=>[]
 |.mup _ m k v=>[m,k,v]
def J.slots:J->List Nat
 |.p i=>i.ods.flatMap Od.slots
 |.q f args=>(f::args).flatMap Od.slots
 |.e i=>i.ods.flatMap Od.slots
def Ins.slots (o:Ins):List Nat:=(match o.g with|some (s,_)=>[s]|none=>[])++o.j.slots
def QfZ (ts:List Nat):Option Nat->Bool
 |some d=>ts.contains d
 |none=>false
def QfS (ts:List Nat):List (Ins×SV)->List Nat
 |[]=>ts
 | (p,_)::r=>if QfZ ts p.d=true then QfS (p.slots++ts) r else QfS ts r
def QjN (o:Ins) (pend:List (Ins×SV)) (p:Ins):Bool:=p.j.dep && !QfZ (QfS o.slots pend) p.d
def xd (P:ZL) (pend:List (Ins×SV)):List Ins->Env->ZG->(ZF)->Prop
 |[],env,H,K=>K .normal env H
 |o::r,env,H,K =>
  if o.j.quiet=true then
   match o.g,o.j with
   |none,.p i=>(pv i env.ev H).1/\xd P ((o,(pv i env.ev H).2)::pend) r (env.put o.d (pv i env.ev H).2) H K
   |none,.q f args=>∃ v,OkC P (env.ev f) (args.map env.ev) H (.ret v) H/\xd P ((o,v)::pend) r (env.put o.d v) H K
   |some (s,want),.p i=>(env.get s).bish=true/\((env.get s).on want=true->(pv i env.ev H).1) /\
    xd P ((o,.gd ((env.get s).on want) (pv i env.ev H).2)::pend) r (env.put o.d (.gd ((env.get s).on want) (pv i env.ev H).2)) H K
   |some (s,want),.q f args=>(env.get s).bish=true/\∃ v,((env.get s).on want=true->OkC P (env.ev f) (args.map env.ev) H (.ret v) H) /\
    xd P ((o,.gd ((env.get s).on want) v)::pend) r (env.put o.d (.gd ((env.get s).on want) v)) H K
   |_,_=>False
  else xo P o env H λx env' H' =>
   match x with
   |.normal=>(∀ p∈pend,QjN o pend p.1=true->QbI P p.1 env' H' p.2)/\xd P pend r env' H' K
   |x=>K x [] H'
def QW (P:ZL) (N:Nat) (D:Array Oper->List Nat->List Ins->Bool):Code->IC->Bool
 |c,.keep _ a=>QW P N D c a
 |_,.no=>true
 |.skip,.skip=>true
 |.region _ ops false,.reg l=>ndB ops&&chkL P N ops ops.toList l
 |.region _ ops true,.drw m l=>ndB ops&&(QeL P N ops m l&&(D ops m l&&QiS ops l))
 |.region _ ops true,.drq _ n0 m l os tl=>ndB ops&&((Qkt ops n0&&QcN ops os (ops.size-n0) [] (Array.replicate n0 true++Array.replicate (ops.size-n0) false))&&((chkL P N ops (ops.toList.drop n0) tl&&tl.all QgT)&&(QeL P N (ops.extract 0 n0) m l&&D (ops.extract 0 n0) m l)))
 |.seq x y,.seq a b=>QW P N D x a&&QW P N D y b
 |.cond c x y,.cond c' a b=>Qw c c'&&QW P N D x a&&QW P N D y b
 |.block id x,.blk id' a=>id==id'&&QW P N D x a
 |.loop x,.loop a=>QW P N D x a
 |.exit id,.exit id'=>id==id'
 |.ret,.ret=>true
 |.scope x,.scp a=>QW P N D x a
 |.label _,.lab=>true
 |.rangeFunc g ps a b,.rng _ g' ps' ia ib=>(Qw g g'&&ps.toList==ps')&&(QW P N D a ia&&QW P N D b ib)
 |_,_=>false
def DOk0 (P:ZL) (D:Array Oper->List Nat->List Ins->Bool):Prop :=
 ∀ (N:Nat) (ops:Array Oper) (m:List Nat) (l:List Ins) (env:Env) (H:ZG) (K:ZF),QeL P N ops m l=true->D ops m l=true->xd P [] l env H K ->
  ∀ (db:DB) (S:St) (a:Act),S.H=H->Sim S->QD S env a.tmps->a.tmps.size=N->db.Ok S.w a.defers->Qcb P .any ops (Qav S N db K) ops.size (Array.replicate ops.size false) a S.w.drew
structure DOk (P:ZL) (D:Array Oper->List Nat->List Ins->Bool):Prop where
 rs:∀ (n:Nat) (ops:Array Oper) (m:List Nat) (l:List Ins),D ops m l=true->D ops m (l.map (Ins.rs n))=true
 ok:DOk0 P D
 mixed:P.follows .mixedOrders=true
theorem Qwu {P:ZL} {N:Nat} {ops:Array Oper} {op:Oper} {o:Ins} (n:Nat) (h:Qdy P N ops op o=true):Qdy P N ops op (o.rs n)=true:=by
 obtain⟨d,g,j⟩:=o
 cases j with
 |p i=>exact h
 |q f as=>exact h
 |e i=>cases i<;>exact h
theorem QtV {P:ZL} {N:Nat} {ops:Array Oper} {ns:List Nat} {l:List Ins} (n:Nat) (h:QeL P N ops ns l=true):QeL P N ops ns (l.map (Ins.rs n))=true:=by
 unfold QeL at h ⊢;rw[Vm]at h ⊢;intro x hx;rw[List.zip_map_right,Vy]at hx;obtain⟨y,hy,rfl⟩:=hx;have:=h y hy;simp only[Prod.map_fst,id_eq,Prod.map_snd];split at this
 . exact Qwu n this
 . cases this
def QgE (ro:Option Nat) (P:ZL) (c:Code) (Q:Exit->Act->ZM->Prop) (a:Act) (w:ZM):Prop :=
 ∀ (b:Frame) (k:List Item) (cs:List Frame),b.roundOf=ro->∃ e a' w',Q e a' w'/\ArrivesIn (Machine.fenced P (Fr ro)) P (lone (b.atR a (.code c::.inLoop c::k)) cs w) b k cs e a' w'
section
variable {ro:Option Nat} {P:ZL} {c:Code} {Q:Exit->Act->ZM->Prop} {a:Act} {w:ZM}
theorem Qil {fr:Frame} {cs:List Frame} {w:ZM} (h:fr.about P w=none):(lone fr cs w).fenced P (Fr ro):=fenced_calm (n:=0) Zo (Qgu _ _) h
theorem QyD (h:QgE ro P c Q a w):(Code.loop c).wq ro P Q a w:=by
 intro b k cs hro _ _;obtain⟨e,a',w',hq,harr⟩:=h b k cs hro;exact⟨e,a',w',hq,.of_steps (.one (Qil rfl) stepR_loop) harr⟩
theorem QA6 (h:c.wq ro P (Exit.then (QgE ro P c Q) Q) a w):QgE ro P c Q a w:=by
 intro b k cs hro;obtain⟨e,a₁,w₁,hq,harr⟩:=h b (.inLoop c::k) cs hro Zo (Qgu _ _)
 cases e with
 |normal =>
  obtain⟨e₂,a₂,w₂,hq₂,harr₂⟩:=hq b k cs hro;exact⟨e₂,a₂,w₂,hq₂,.of_steps (StepsIn.trans harr (.one (Qil rfl) stepR_inLoop)) harr₂⟩
 |exit id=>exact⟨_,a₁,w₁,hq,.pass (x:=.inLoop c) rfl (λ_ _=>.inl (by simp)) harr⟩
 |goto l=>exact⟨_,a₁,w₁,hq,.pass (x:=.inLoop c) rfl (λ_ _=>.inl (by simp)) harr⟩
 |ret=>exact⟨_,a₁,w₁,hq,.pass (x:=.inLoop c) rfl (λ_ _=>.inl (by simp)) harr⟩
 |panic ch=>exact⟨_,a₁,w₁,hq,.pass (x:=.inLoop c) rfl (λ_ _=>.inl (by simp)) harr⟩
 |outgrown=>exact⟨_,a₁,w₁,hq,.pass (x:=.inLoop c) rfl (λ_ _=>.inl (by simp)) harr⟩
theorem Qjo {Q':Exit->Act->ZM->Prop} (h:QgE ro P c Q a w) (hq:∀ e a w,Q e a w->Q' e a w):QgE ro P c Q' a w :=
 λb k cs hro=>let ⟨e,a',w',q,r⟩:=h b k cs hro; ⟨e,a',w',hq _ _ _ q,r⟩
end
def okL (P:ZL) (N:Nat) (D:Array Oper->List Nat->List Ins->Bool) (ps:List Nat) (ia ib:IC) (r:Loop):Prop :=
 r.params.toList=ps/\r.tmps.size=N/\QW P N D r.assign ia=true/\QW P N D r.body ib=true
def Env.vals (e:Env) (N:Nat):ZH:=(List.range N).map e.get
def lpo (P:ZL) (N:Nat) (D:Array Oper->List Nat->List Ins->Bool) (k:Nat) (ps:List Nat) (ia ib:IC) (cs:ZH) (st:LSt):AO:=⟨.lp k (okL P N D ps ia ib) st::cs,0,0,false⟩
def Qfv:AO:=⟨[],0,1,false⟩
def LSt.out (K:ZF) (env:Env) (H:ZG):LSt->Prop
 |.ready=>K .normal env H
 |.busy=>False
 |.ret=>K .ret env H
 |.exit id=>K (.exit id) env H
 |.goto l=>K (.goto l) env H
def LI (P:ZL) (N:Nat) (D:Array Oper->List Nat->List Ins->Bool) (i:IC) (env:Env) (H:ZG) (K:ZF):Prop :=
 ∀ c,QW P N D c i=true->∀ (db:DB) (S:St) (a:Act),S.H=H->Sim S->QD S env a.tmps->a.tmps.size=N->db.Ok S.w a.defers->QgE db.ro P c (Qav S N db K) a S.w
def WI (P:ZL) (N:Nat) (D:Array Oper->List Nat->List Ins->Bool) (i:IC) (env:Env) (H:ZG) (K:ZF):Prop :=
 ∀ c,QW P N D c i=true->W P N c env H K
def X (P:ZL) (N:Nat) (D:Array Oper->List Nat->List Ins->Bool):IC->Env->ZG->(ZF)->Prop
 |.skip,env,H,K=>K .normal env H
 |.reg l,env,H,K=>QbF P l env H K
 |.drw _ l,env,H,K=>xd P [] l env H λx e H =>
  match x with
  |.normal=>K .normal e H
  |x=>K x (Qc8 l env) H
 |.drq Ts n0 _ l os tl,env,H,K=>xd P [] (l.map (Ins.rs H.length)) env (H++Qcz Ts) λx env H =>
  match x with
  |.normal=>xrt P n0 tl os env H λx e H=>K x (e.keep (Qho tl env)) H
  |x=>K x env H
 |.seq a b,env,H,K=>X P N D a env H λx env H =>
  match x with
  |.normal=>X P N D b env H K
  |x=>K x env H
 |.cond c a b,env,H,K=>(env.ev c).isB=true/\((env.ev c).bool=true->X P N D a env H K)/\((env.ev c).bool=false->X P N D b env H K)
 |.blk id a,env,H,K=>X P N D a env H λx env H =>
  match x with
  |.exit i=>if i=id then K .normal env H else K (.exit i) env H
  |x=>K x env H
 |.loop a,env,H,K=>LI P N D a env H K
 |.exit id,env,H,K=>K (.exit id) env H
 |.ret,env,H,K=>K .ret env H
 |.keep ks a,env,H,K=>X P N D a (env.keep ks) H K
 |.rng kk g ps ia ib,env,H,K=>(env.ev g).vd=true/\match (env.ev g).ug with
  |.fn (.func k) first cap=>∃ Pt:Out->ZG->Prop,OkP P k (first++[.yl H.length]++cap) (H++[lpo P N D kk ps ia ib (env.vals N) .ready]) Pt /\
   ∀ out H',Pt out H'->match out with
    |.ret _=>∃ k' ok st cs,H'[H.length]? = some ⟨.lp k' ok st::cs,0,0,false⟩/\st.out K env (H'.set H.length Qfv)
    |.pan x=>K (.panic x) env H'
  |_=>False
 |.scp a,env,H,K=>X P N D a env H λx env H =>
  match x with
  |.goto _=>False
  |x=>K x env H
 |.lab,env,H,K=>K .normal env H
 |.no,_,_,_=>False
section
variable {P:ZL} {N:Nat} {D:Array Oper->List Nat->List Ins->Bool}
theorem W.mono {c:Code} {env:Env} {H:ZG} {K K':ZF} (h:W P N c env H K) (hk:∀ x env H,K x env H->K' x env H):W P N c env H K':=by
 intro db S a h1 h2 h3 h4 h5;refine wq_mono (h db S a h1 h2 h3 h4 h5) ?_;rintro e a w ⟨x,env',ρ,H',g1,g2,g3,g4,g5,g6,g7⟩;exact⟨x,env',ρ,H',g1,g2,g3,g4,g5,g6,hk _ _ _ g7⟩
theorem W.keep {c:Code} {env:Env} {H:ZG} {K:ZF} (ks:List Nat) (h:W P N c (env.keep ks) H K):W P N c env H K :=
 λdb S a h1 h2 h3 h4 h5=>h db S a h1 h2 (h3.keep ks) h4 h5
theorem WI.keep {i:IC} {env:Env} {H:ZG} {K:ZF} (ks:List Nat) (h:WI P N D i (env.keep ks) H K):WI P N D i env H K :=
 λc hc=>(h c hc).keep ks
theorem W.seq {x y:Code} {env:Env} {H:ZG} {K:ZF}
 (h:W P N x env H λe env H=>match e with|.normal=>W P N y env H K|e=>K e env H):W P N (.seq x y) env H K:=by
 intro db S a h1 h2 h3 h4 h5;refine wpIn_seq (wq_mono (h db S a h1 h2 h3 h4 h5) ?_);rintro e a' w ⟨xe,env',ρ,H',g1,g2,g3,g4,g5,g6,g7⟩
 cases xe<;>cases e<;>simp only[ER]at g1
 . exact wq_mono (g7 db ⟨ρ,H',w⟩ a' rfl g3 g4 g5 g6) λe a w h=>Qav.trans g2 h
 . exact⟨.exit _,env',ρ,H',g1,g2,g3,g4,g5,g6,g7⟩
 . exact⟨.goto _,env',ρ,H',g1,g2,g3,g4,g5,g6,g7⟩
 . exact⟨.ret,env',ρ,H',g1,g2,g3,g4,g5,g6,g7⟩
 . exact⟨.panic _,env',ρ,H',g1,g2,g3,g4,g5,g6,g7⟩
theorem W.cond {c:Operand} {c':Od} {x y:Code} {env:Env} {H:ZG} {K:ZF} (hc:Qw c c'=true) (hb:(env.ev c').isB=true)
 (ht:(env.ev c').bool=true->W P N x env H K) (hf:(env.ev c').bool=false->W P N y env H K):W P N (.cond c x y) env H K:=by
 intro db S a h1 h2 h3 h4 h5;have e1:=(QA hc h3).isB hb;exact wpIn_cond_split e1 (λh=>ht h db S a h1 h2 h3 h4 h5) (λh=>hf h db S a h1 h2 h3 h4 h5)
theorem W.block {id:Nat} {x:Code} {env:Env} {H:ZG} {K:ZF}
 (h:W P N x env H λe env H=>match e with|.exit i=>if i=id then K .normal env H else K (.exit i) env H|e=>K e env H):W P N (.block id x) env H K:=by
 intro db S a h1 h2 h3 h4 h5;refine wpIn_block (wq_mono (h db S a h1 h2 h3 h4 h5) ?_);rintro e a' w ⟨xe,env',ρ,H',g1,g2,g3,g4,g5,g6,g7⟩
 cases xe<;>cases e<;>simp only[ER]at g1
 case exit.exit i j =>
  subst g1;simp only[Exit.inBlock];simp only at g7;by_cases hij:i=id
  . rw[Zn hij]at g7 ⊢;exact⟨.normal,env',ρ,H',Zo,g2,g3,g4,g5,g6,g7⟩
  . rw[Zm hij]at g7 ⊢;exact⟨.exit i,env',ρ,H',rfl,g2,g3,g4,g5,g6,g7⟩
 . exact⟨.normal,env',ρ,H',g1,g2,g3,g4,g5,g6,g7⟩
 . exact⟨.goto _,env',ρ,H',g1,g2,g3,g4,g5,g6,g7⟩
 . exact⟨.ret,env',ρ,H',g1,g2,g3,g4,g5,g6,g7⟩
 . exact⟨.panic _,env',ρ,H',g1,g2,g3,g4,g5,g6,g7⟩
theorem W.scope {x:Code} {env:Env} {H:ZG} {K:ZF}
 (h:W P N x env H λe env H=>match e with|.goto _=>False|e=>K e env H):W P N (.scope x) env H K:=by
 intro db S a h1 h2 h3 h4 h5;refine Qzd (wq_mono (h db S a h1 h2 h3 h4 h5) ?_);rintro e a' w ⟨xe,env',ρ,H',g1,g2,g3,g4,g5,g6,g7⟩
 cases xe<;>cases e<;>simp only[ER]at g1
 . exact⟨Zo,.normal,env',ρ,H',Zo,g2,g3,g4,g5,g6,g7⟩
 . exact⟨Zo,.exit _,env',ρ,H',g1,g2,g3,g4,g5,g6,g7⟩
 . exact g7.elim
 . exact⟨Zo,.ret,env',ρ,H',Zo,g2,g3,g4,g5,g6,g7⟩
 . exact⟨Zo,.panic _,env',ρ,H',g1,g2,g3,g4,g5,g6,g7⟩
theorem Env.vals_rel {S:St} {env:Env} {tmps:Array Value} (h:QD S env tmps) (hN:tmps.size=N):VRs S (env.vals N) tmps.toList:=by
 refine⟨by simp[Env.vals,hN],λj s u h1 h2 => ?_⟩;have hj:j<N:=by have:=Qj h2; simp at this; omega
 simp only[Env.vals,Vp,Yy hj,VF,Option.some.injEq]at h1;subst h1;have h3:=h.get j;have h4:tmps[j]? = some u:=by simpa using h2
 rwa [VM,h4]at h3
theorem QvS {S:St} {db:DB} {ds:List Deferred} (hS:Sim S) (hdb:db.Ok S.w ds) (fn:ZN) {tmps:Array Value} {ps:Array Tmp} {a b:Code} {cs:ZH} {kk:Nat} {ok:Loop->Prop} (hv:VRs S cs tmps.toList)
 (hok:∀ st pe l,ok { state:=st,pending:=pe,fn,tmps,params:=ps,assign:=a,body:=b,defers:=l }) :
 ∃ (l:Nat) (mk:List Deferred) (w1:ZM) (ρ1:Nat->Option Nat),(Instr.enterLoop fn tmps ps a b db.ro).run P S.w=.ok (l,mk) w1/\ρ1 S.H.length=some l /\
  Ext S.H.length S ⟨ρ1,S.H++[⟨.lp kk ok .ready::cs,0,0,false⟩],w1⟩/\Sim ⟨ρ1,S.H++[⟨.lp kk ok .ready::cs,0,0,false⟩],w1⟩/\db.Ok w1 (mk++ds):=by
 cases hro:db.ro with
 |none =>
  have h1:=Qhi hS (.deferred (some []));have e1:=QkK (S:=S) (.deferred (some []));have hsz:(S.w.alloc (.deferred (some []))).heap.size=S.w.heap.size+1:=by simp
  obtain⟨r,hr⟩:∃ r:Loop,r={ state:=.ready,pending:=none,fn,tmps,params:=ps,assign:=a,body:=b,defers:=S.w.heap.size }:=⟨_,rfl⟩;have h2:=QpT (r:=r) (kk:=kk) (ok:=ok) (cs:=cs) (T:=0) h1 (by rw[hr]; exact hok _ _ _) (by rw[hr]; exact⟨rfl,rfl⟩) (by rw[hr]; exact hv.ext e1);have e2:=QsU (S:=⟨S.ρ,S.H,S.w.alloc (.deferred (some []))⟩) r ⟨.lp kk ok .ready::cs,0,0,false⟩;have hd2:=(hdb.ext hS e1).ext h1 e2;refine⟨S.w.heap.size+1,[QcE S.w.heap.size],_,_,?_,?_,e1.trans e2,h2,?_⟩
  . rw[run_enterLoop_outer,hr]; rfl
  . simp only[Qa1,hsz]
  . obtain⟨ms,k1,k2,k3⟩:=hdb.ms;refine⟨hd2.le,⟨S.w.heap.size::ms,by simp[k1],?_,?_⟩,hd2.ro⟩
    . rw[YW];refine⟨λhm => ?_,k2⟩;have:=QcZ (k3 _ hm).2;omega
    . obtain⟨ms',g1,_,g3⟩:=hd2.ms;have hmm:ms'=ms:=by
       have:ms'.map QcE=ms.map QcE:=by
        have:=g1.symm.trans k1;exact List.append_cancel_right this
       exact List.map_inj_right (λx y h=>by simpa[QcE]using h) |>.1 this
      subst hmm;intro D hD;rw[Ve]at hD;rcases hD with rfl|hD
      . refine⟨hdb.le,?_⟩;refine((Qbs _ _ ?_).trans (Qe8 S.w _));rw[hsz]; omega
      . exact g3 D hD
 |some l0 =>
  obtain⟨r0,hr0⟩:=hdb.ro l0 hro;obtain⟨r,hr⟩:∃ r:Loop,r={ state:=.ready,pending:=none,fn,tmps,params:=ps,assign:=a,body:=b,defers:=r0.defers }:=⟨_,rfl⟩;have h2:=QpT (r:=r) (kk:=kk) (ok:=ok) (cs:=cs) (T:=0) hS (by rw[hr]; exact hok _ _ _) (by rw[hr]; exact⟨rfl,rfl⟩) (by rw[hr]; exact hv);have e2:=QsU (S:=S) r ⟨.lp kk ok .ready::cs,0,0,false⟩;refine⟨S.w.heap.size,[],_,_,?_,?_,e2,h2,hdb.ext hS e2⟩
  . rw[QyX hr0,hr]
  . simp only[Qa1]
theorem W.rng {kk:Nat} {g:Operand} {g':Od} {ps:Array Tmp} {a b:Code} {ia ib:IC} {env:Env} {H:ZG} {K:ZF} (hg:Qw g g'=true) (ha:QW P N D a ia=true) (hb:QW P N D b ib=true)
 (hvd:(env.ev g').vd=true) {k:ZN} {first cap:ZH} (hf:(env.ev g').ug=.fn (.func k) first cap) {Pt:Out->ZG->Prop}
 (hok:OkP P k (first++[.yl H.length]++cap) (H++[lpo P N D kk ps.toList ia ib (env.vals N) .ready]) Pt)
 (hK:∀ out H',Pt out H'->match out with
  |.ret _=>∃ k' ok st cs,H'[H.length]? = some ⟨.lp k' ok st::cs,0,0,false⟩/\st.out K env (H'.set H.length Qfv)
  |.pan x=>K (.panic x) env H'):W P N (.rangeFunc g ps a b) env H K:=by
 intro db S act h1 h2 h3 h4 h5;subst h1;have hgv:=(QA hg h3).ug hvd;rw[hf]at hgv;obtain⟨us,vs,hv,hus,hvs⟩:=hgv.fn_inv;refine wpIn_rangeFunc λfn _ => ?_;obtain⟨l,mk,w1,ρ1,he,hl,hext,hsim,hdb⟩:=QvS (P:=P) (a:=a) (b:=b) (ps:=ps) h2 h5 fn (cs:=env.vals N) (kk:=kk) (ok:=okL P N D ps.toList ia ib) (Env.vals_rel h3 h4) (λst pe l=>⟨rfl,h4,ha,hb⟩);change Ext S.H.length S ⟨ρ1,S.H++[lpo P N D kk ps.toList ia ib (env.vals N) .ready],w1⟩at hext;change Sim ⟨ρ1,S.H++[lpo P N D kk ps.toList ia ib (env.vals N) .ready],w1⟩at hsim;obtain⟨o1,ho1⟩:∃ o1,o1=lpo P N D kk ps.toList ia ib (env.vals N) .ready:=⟨_,rfl⟩;rw[<-ho1]at hext hsim hok;have hat:(S.H++[o1])[S.H.length]? = some o1:=by simp
 obtain⟨y,hyv⟩:∃ y:Value,y=.func (.yield l) #[] #[]:=⟨_,rfl⟩;have hy:VRs (⟨ρ1,S.H++[o1],w1⟩:St) [.yl S.H.length] [y]:=by
  rw[hyv];exact VRs.cons (VR.yl (S:=⟨ρ1,S.H++[o1],w1⟩) S.H.length l o1 hat λ_=>hl) (VRs.nil _)
 have hcalls:=hok.2 ⟨ρ1,S.H++[o1],w1⟩ (us++[y]++vs) rfl hsim (((hus.ext hext).append hy).append (hvs.ext hext));refine⟨l,mk,w1,{ target:=.fn (.func k) vs.toArray,args:=us.toArray ++ #[y] },w1,k,(us++[y]++vs).toArray,w1,he,?_,λ_ _=>Zo,?_,Qj5,callsIn_wide.2 (hcalls.mono ?_)⟩
 . simp only[resolve,hv,Deferred.ofValue,Sem.run_pure,hyv,List.map_toArray,Vn,VU,QsA]
 . have e1:us.toArray ++ #[y]++vs.toArray=(us++[y]++vs).toArray:=by apply Yo; simp
   simp only[invoke];rw[e1,hok.1]
 rintro e w3 ⟨out,H',v,ρ3,hpt,hext3,hsim3,hout⟩;have hE:=hext.trans (hext3.mono (hext.len (Vb _)));have hd3:=hdb.ext hsim hext3
 cases out with
 |pan x =>
  obtain⟨rfl,hx⟩:=hout;exact⟨.panic x,env,ρ3,H',⟨v,rfl,hx⟩,hE,hsim3,h3.ext hE,h4,hd3,hK _ _ hpt⟩
 |ret r =>
  obtain⟨rfl,hx⟩:=hout;obtain⟨k',ok',st,cs,hH,hst⟩:=hK _ _ hpt;obtain⟨l',r,k1,k2,k3,k4,k5⟩:=hsim3.loop hH;have hll:l'=l:=by
   obtain⟨o',g1,g2,g3⟩:=hext3.obj S.H.length o1 (by simp) hat;have g4:o'=⟨.lp k' ok' st::cs,0,0,false⟩:=by rw[show(⟨ρ3,H',w3⟩:St).H=H' from rfl,hH]at g1; cases g1; rfl
   have:=g3 (by rw[g4,ho1]; rfl);simp only at this k1;rw[k1,hl]at this;exact(Option.some.inj this)
  subst hll;have hnb:r.state≠.busy:=by
   intro hbz
   cases st<;>simp only[Qg2,hbz]at k4<;>first|exact hst|(obtain⟨k4,_⟩:=k4; cases k4)
  have hend:=run_endLoop (P:=P) k2 hnb;obtain⟨ext4,sim4⟩:=QnR hsim3 (o':=Qfv) (r':={ r with state:=.exhausted }) hH rfl (by simp) k1 k2 rfl (by simp[Qfv]) (.inl rfl);obtain⟨w4,hw4⟩:∃ w4,w4=w3.putObj l' (.loop { r with state:=.exhausted }):=⟨_,rfl⟩;simp only at hend ext4 sim4;rw[<-hw4]at hend ext4 sim4;have hE4:=hE.trans (ext4.mono (hE.len (Vb _)));have hd4:=hd3.ext hsim3 ext4;have fin:∀ x e,ER ⟨ρ3,H'.set S.H.length Qfv,w4⟩ x e->K x env (H'.set S.H.length Qfv)->Qav S N db K e { act with defers:=mk++act.defers } w4 :=
   λx e hx hk=>⟨x,env,ρ3,_,hx,hE4,sim4,h3.ext hE4,h4,hd4,hk⟩
  refine⟨r.pending,_,hend,?_⟩
  cases st with
  |ready=>rw[k4.2]; exact fin .normal .normal Zo hst
  |busy=>exact hst.elim
  |ret=>rw[k4.2]; exact wpIn_ret (fin .ret .ret Zo hst)
  |exit id=>rw[k4.2]; exact wpIn_exit (fin (.exit id) (.exit id) rfl hst)
  |goto j=>rw[k4.2]; exact wpIn_goto (fin (.goto j) (.goto j) rfl hst)
theorem Qed (hD:DOk P D) (i:IC):∀ {env:Env} {H:ZG} {K:ZF} {c:Code},QW P N D c i=true->X P N D i env H K->W P N c env H K:=by
 induction i with
 |skip =>
  intro env H K c hc h
  cases c<;>simp only[QW,Vt]at hc
  intro db S a h1 h2 h3 h4 h5;subst h1;exact wpIn_skip ⟨.normal,env,S.ρ,S.H,Zo,Ext.refl _ S,h2,h3,h4,h5,h⟩
 |reg l =>
  intro env H K c hc h;obtain⟨id,ops,rfl,hnd,hc⟩:∃ id ops,c=.region id ops false/\ndB ops=true/\chkL P N ops ops.toList l=true:=by
   cases c with
   |region id ops dr=>cases dr<;>simp[QW]at hc; exact⟨id,ops,rfl,hc⟩
   |_=>simp[QW]at hc
  intro db S a h1 h2 h3 h4 h5;subst h1;exact Qtl hnd (QmD _ _ h2 h3 h4 h5 hc h)
 |drw m l =>
  intro env H K c hc h;obtain⟨id,ops,rfl,hnd,hcc⟩:∃ id ops,c=.region id ops true/\ndB ops=true/\(QeL P N ops m l=true/\D ops m l=true/\QiS ops l=true):=by
   cases c with
   |region id ops dr=>cases dr<;>simp[QW]at hc; exact⟨id,ops,rfl,hc⟩
   |_=>simp[QW]at hc
  intro db S a h1 h2 h3 h4 h5;exact wq_mono (Qog hnd hD.mixed (Qox _ _ _ _ (hD.ok N ops m l env H _ hcc.1 hcc.2.1 h db S a h1 h2 h3 h4 h5) λt _=>rfl)) λe a' w' hq=>Qav.off h3 hcc.2.2 hq
 |drq Ts n0 m l os tl =>
  intro env H K c hc h;obtain⟨id,ops,rfl,hnd,⟨h1,h2⟩,⟨h3,h3p⟩,h4,h5⟩:∃ id ops,c=.region id ops true/\ndB ops=true/\(Qkt ops n0=true/\QcN ops os (ops.size-n0) [] (Array.replicate n0 true++Array.replicate (ops.size-n0) false)=true)/\(chkL P N ops (ops.toList.drop n0) tl=true/\tl.all QgT=true)/\QeL P N (ops.extract 0 n0) m l=true/\D (ops.extract 0 n0) m l=true:=by
   cases c with
   |region id ops dr =>
    cases dr
    . simp[QW]at hc
    . simp only[QW,Va]at hc;exact⟨id,ops,rfl,hc.1,hc.2.1,hc.2.2.1,hc.2.2.2⟩
   |_=>simp[QW]at hc
  intro db S a g1 g2 g3 g4 g5;subst g1;obtain⟨ρ0,he0,hs0⟩:=QqK Ts g2;have ht:=QuZ h1;have hle:=ht.le;have hxs:(ops.extract 0 n0).size=n0:=by simp; omega
  have h6:=hD.ok N (ops.extract 0 n0) m _ env _ _ (QtV _ h4) (hD.rs _ _ m l h5) h db ⟨ρ0,S.H++Qcz Ts,S.w⟩ a rfl hs0 (g3.ext he0) g4 g5;rw[hxs]at h6;have hnone:∀ n i,(Array.replicate n false).getD i false=false:=by
   intro n i;rw[VM,Zd];split<;>rfl
  have h7:=QuH ht (Q:=Qav ⟨ρ0,S.H++Qcz Ts,S.w⟩ N db K) ?_ ?_ n0 (Array.replicate n0 false) (Array.replicate ops.size false) a S.w.drew (by simp) (by simp) (λi _=>by rw[hnone,hnone]) (λi _=>hnone _ _) (λj o hj=>by rw[hnone]at hj; cases hj) h6
  . rw[show n0+(ops.size-n0)=ops.size by omega]at h7;exact wq_mono (Qog hnd hD.mixed h7) λe a' w hq=>Qav.trans he0 hq
  . rintro e a w hne ⟨x,env',ρ,H',k1,k2,k3,k4,k5,k6,k7⟩
    cases x<;>cases e<;>simp only[ER]at k1
    . exact absurd rfl hne
    . exact⟨.exit _,env',ρ,H',k1,k2,k3,k4,k5,k6,k7⟩
    . exact⟨.goto _,env',ρ,H',k1,k2,k3,k4,k5,k6,k7⟩
    . exact⟨.ret,env',ρ,H',k1,k2,k3,k4,k5,k6,k7⟩
    . exact⟨.panic _,env',ρ,H',k1,k2,k3,k4,k5,k6,k7⟩
  . rintro fuel listed a w j1 j2 j3 j4 ⟨x,env',ρ,H',k1,k2,k3,k4,k5,k6,k7⟩
    cases x<;>simp only[ER]at k1
    have hls:listed=Array.replicate n0 true++Array.replicate (ops.size-n0) false:=by
     refine Y8 λi => ?_;by_cases hi:i<ops.size
     . have e1:listed[i]? = some (decide (i<n0)):=by
        have hi':i<listed.size:=by omega
        rw[VT hi'];by_cases h:i<n0
        . have:=j3 i h;rw[VM,VT hi']at this;simpa[h]using this
        . have:=j4 i (by omega);rw[VM,VT hi']at this;simpa[h]using this
       rw[e1,Array.getElem?_append];simp only[Array.size_replicate,Zd];by_cases h:i<n0
       . simp[h]
       . simp[h]; omega
     . rw[VW (by omega),VW (by simp; omega)]
    obtain⟨d,hd⟩:∃ d,fuel=(ops.size-n0)+d:=⟨fuel-(ops.size-n0),by omega⟩;have h8:Qcb P .any ops (Qav ⟨ρ0,S.H++Qcz Ts,S.w⟩ N db λx e H=>K x (e.keep (Qho tl env')) H) fuel listed a w :=
     Qth h3 h3p fuel [] listed ⟨ρ,H',w⟩ env' a (by rw[hls,hd]; exact QrW h2 d) j2 j3 (λrest hm=>QrO k7 rest (by simpa using hm)) k2 k3 k4 k5 k6
    refine QkO (λe a w hh => ?_) _ _ _ _ h8;obtain⟨x,env2,ρ2,H2,q1,q2,q3,q4,q5,q6,q7⟩:=hh;exact⟨x,env2.keep (Qho tl env'),ρ2,H2,q1,q2,q3,q4.keep _,q5,q6,q7⟩
 |seq a b iha ihb =>
  intro env H K c hc h
  cases c<;>simp only[QW,Vt,Va]at hc
  refine W.seq ((iha hc.1 h).mono ?_);intro x env H hk
  cases x<;>first|exact hk|exact ihb hc.2 hk
 |cond c' a b iha ihb =>
  intro env H K c hc h
  cases c<;>simp only[QW,Vt,Va]at hc
  exact W.cond hc.1.1 h.1 (λhb=>iha hc.1.2 (h.2.1 hb)) (λhb=>ihb hc.2 (h.2.2 hb))
 |blk id a iha =>
  intro env H K c hc h
  cases c<;>simp only[QW,Vt,Va,Zr]at hc
  obtain⟨rfl,hc⟩:=hc;exact W.block (iha hc h)
 |loop a iha =>
  intro env H K c hc h
  cases c<;>simp only[QW,Vt]at hc
  intro db S a h1 h2 h3 h4 h5;exact QyD (h _ hc db S a h1 h2 h3 h4 h5)
 |exit id =>
  intro env H K c hc h
  cases c<;>simp only[QW,Vt,Zr]at hc
  subst hc;intro db S a h1 h2 h3 h4 h5;subst h1;exact wpIn_exit ⟨.exit _,env,S.ρ,S.H,rfl,Ext.refl _ S,h2,h3,h4,h5,h⟩
 |ret =>
  intro env H K c hc h
  cases c<;>simp only[QW,Vt]at hc
  intro db S a h1 h2 h3 h4 h5;subst h1;exact wpIn_ret ⟨.ret,env,S.ρ,S.H,Zo,Ext.refl _ S,h2,h3,h4,h5,h⟩
 |scp a iha =>
  intro env H K c hc h
  cases c<;>simp only[QW,Vt]at hc
  exact W.scope (iha hc h)
 |lab =>
  intro env H K c hc h
  cases c<;>simp only[QW,Vt]at hc
  intro db S a h1 h2 h3 h4 h5;subst h1;exact wpIn_label ⟨.normal,env,S.ρ,S.H,Zo,Ext.refl _ S,h2,h3,h4,h5,h⟩
 |keep ks a iha =>
  intro env H K c hc h;exact(iha (by simpa only[QW]using hc) h).keep ks
 |rng kk g' ps' ia ib _ _ =>
  intro env H K c hc h
  cases c<;>simp only[QW,Vt,Va,Zr]at hc
  rename_i g ps a b;obtain⟨⟨hg,rfl⟩,ha,hb⟩:=hc;obtain⟨hvd,h⟩:=h;split at h
  . rename_i k first cap hf
    obtain⟨Pt,hok,hK⟩:=h;exact W.rng hg ha hb hvd hf hok hK
  . exact h.elim
 |no=>intro env H K c hc h; exact h.elim
theorem LI.round (hD:DOk P D) {i:IC} {env:Env} {H:ZG} {K:ZF}
 (h:X P N D i env H λx env H=>match x with|.normal=>LI P N D i env H K|x=>K x env H):LI P N D i env H K:=by
 intro c hc db S a h1 h2 h3 h4 h5;refine QA6 (wq_mono (Qed hD i hc h db S a h1 h2 h3 h4 h5) ?_);rintro e a' w ⟨xe,env',ρ,H',g1,g2,g3,g4,g5,g6,g7⟩
 cases xe<;>cases e<;>simp only[ER]at g1
 . exact Qjo (g7 c hc db ⟨ρ,H',w⟩ a' rfl g3 g4 g5 g6) λe a w h=>Qav.trans g2 h
 . exact⟨.exit _,env',ρ,H',g1,g2,g3,g4,g5,g6,g7⟩
 . exact⟨.goto _,env',ρ,H',g1,g2,g3,g4,g5,g6,g7⟩
 . exact⟨.ret,env',ρ,H',g1,g2,g3,g4,g5,g6,g7⟩
 . exact⟨.panic _,env',ρ,H',g1,g2,g3,g4,g5,g6,g7⟩
end
end
section
variable [QN] [QG] [Qr]
inductive RS where
 |t (n:Nat)
 |c1 (slot:Nat)
 |cn (slot n:Nat)
def RS.side (e:Env) (H:ZG):RS->Prop
 |.t _=>True
 |.c1 s=>(e.get s).vd=true/\0<((e.get s).ug.at H).length
 |.cn s n=>(e.get s).vd=true/\n<=((e.get s).ug.at H).length/\0<n
def RS.ev (e:Env) (H:ZG):RS->SV
 |.t n=>e.get n
 |.c1 s=>((e.get s).ug.at H).headD .any
 |.cn s n=>.agg (((e.get s).ug.at H).take n)
def Qa2 (e:Env) (H:ZG) (rs:List RS):SV :=
 match rs.map (RS.ev e H)with
 |[x]=>x
 |l=>.tup l
def Qsq (P:ZL):ResultVar->RS->Bool
 |.tmp t,.t n=>t==n
 |.cell t T,.c1 s=>t==s&&QcP P T
 |.cell t T,.cn s n=>t==s&&Qec P T&&QaG P T n
 |_,_=>false
def Qcx (P:ZL):List ResultVar->List RS->Bool
 |[],[]=>true
 |x::r,y::s=>Qsq P x y&&Qcx P r s
 |_,_=>false
def Cv (n0:Nat) (r1:SV) (H1:ZG) (r:SV) (H':ZG):Prop :=
 ∀ (S:St) (v:Value),S.H=H1->Sim S->VR S r1 v->∃ ρ',Ext n0 S ⟨ρ',H',S.w⟩/\Sim ⟨ρ',H',S.w⟩/\VR ⟨ρ',H',S.w⟩ r v
def Fin (n0:Nat) (rs:List RS) (out:Out) (H':ZG):ZF:=λx env H1 =>
 match x,out with
 |.normal,.ret r=>(∀ s∈rs,s.side env H1)/\Cv n0 (Qa2 env H1 rs) H1 r H'
 |.ret,.ret r=>(∀ s∈rs,s.side env H1)/\Cv n0 (Qa2 env H1 rs) H1 r H'
 |.panic x,.pan y=>Cv n0 x H1 y H'
 |_,_=>False
def Qce (l:ZH):Env:=(List.range l.length).zip l
section
variable {P:ZL} {S:St} {N:Nat} {D:Array Oper->List Nat->List Ins->Bool}
theorem QvP (l:ZH) (k t:Nat):Env.get ((List.range' k l.length).zip l) t=if k<=t/\t<k+l.length then l.getD (t-k) .any else .any:=by
 induction l generalizing k with
 |nil=>simp[Env.get]
 |cons x r ih =>
  simp only[Vh,YR,List.zip_cons_cons,Env.get];rw[ih];by_cases h:k=t
  . subst h; simp
  . rw[Zm h];by_cases h1:k+1<=t/\t<k+1+r.length
    . rw[Zn h1,Zn (by omega)];have:t-k=(t-(k+1))+1:=by omega
      rw[this]; simp
    . rw[Zm h1,Zm (by omega)]
theorem Qnu {args:ZH} {vs:ZI} (h:VRs S args vs) (m:Nat):QD S (Qce args) (vs.toArray++Array.replicate m undef):=by
 refine⟨λt => ?_⟩;unfold Qce;rw[YS,QvP];by_cases ht:0<=t/\t<0+args.length
 . rw[Zn ht];obtain⟨u,h1,h2⟩:=h.getD (j:=t) (by omega);have hlt:t<vs.length:=Qj h1;rw[VM,Array.getElem?_append];rw[Zn (by simpa using hlt)];simp only[List.getElem?_toArray,h1,VX,Nat.sub_zero]; exact h2
 . rw[Zm ht]; exact .any _
def Qim (tmps:Array Value):ResultVar->Sem Value
 |.tmp t=>pure (tmps.getD t undef)
 |.cell a t=>do loadVar t (<- asAddr (tmps.getD a undef))
theorem QyL (fn:Func) (tmps:Array Value):results fn tmps=(do
 let vs <- fn.results.mapM (Qim tmps)
 pure (if h:vs.size=1 then vs[0]else .tuple vs)):=by
 unfold results;congr 1
theorem Qor {e:Env} {tmps:Array Value} (hS:Sim S) (he:QD S e tmps):∀ {rvs:List ResultVar} {rs:List RS},Qcx P rvs rs=true->(∀ s∈rs,s.side e S.H) ->
 ∃ vs,(rvs.mapM (Qim tmps)).run P S.w=.ok vs S.w/\VRs S (rs.map (RS.ev e S.H)) vs
 |[],[],_,_=>⟨[],rfl,VRs.nil S⟩
 |[],_::_,h,_=>by simp[Qcx]at h
 |_::_,[],h,_=>by simp[Qcx]at h
 |x::rvs,y::rs,h,hs=>by
  simp only[Qcx,Va]at h;obtain⟨vs,h1,h2⟩:=Qor hS he h.2 (λs hm=>hs s (by simp[hm]));have h3:=hs y (by simp);have h4:=h.1;unfold Qsq at h4;split at h4
  . rename_i t n;simp at h4; subst h4;refine⟨tmps.getD t undef::vs,?_,VRs.cons (he.get _) h2⟩;simp[YQ,h1,Qim]
  . rename_i t T s;simp only[Va,Zr]at h4;obtain⟨rfl,h4⟩:=h4;obtain⟨g1,g2⟩:=h3;have h5:=(he.get t).ug g1;obtain⟨u,h6,h7⟩:=QsN (P:=P) hS h5 h4 g2;have h0:((e.get t).ug.at S.H)[0]? = some ((e.get t).ug.at S.H)[0]:=Vd g2;obtain⟨ad,_,h8,_,_⟩:=h5.at hS h0;refine⟨u::vs,?_,VRs.cons h7 h2⟩;rw[h8]at h6;simp only[Instr.loadAt,Instr.sureAddr,Sem.run_bind,Sem.run_pure,Result.andThen_ok]at h6;rw[YQ,Qim,Sem.run_bind,Sem.run_bind,h8];simp only[asAddr,Sem.run_pure,Result.andThen_ok,h6,Sem.run_bind,h1]
  . rename_i t T s n;simp only[Va,Zr]at h4;obtain⟨⟨rfl,h4⟩,h4'⟩:=h4;obtain⟨g1,g2,g3⟩:=h3;have h5:=(he.get t).ug g1;obtain⟨u,h6,h7⟩:=Qp5 (P:=P) hS h5 h4 h4' g2 g3;have h0:((e.get t).ug.at S.H)[0]? = some (((e.get t).ug.at S.H)[0]'(by omega)):=Vd (by omega);obtain⟨ad,_,h8,_,_⟩:=h5.at hS h0;refine⟨u::vs,?_,VRs.cons h7 h2⟩;rw[h8]at h6;simp only[Instr.loadAt,Instr.sureAddr,Sem.run_bind,Sem.run_pure,Result.andThen_ok]at h6;rw[YQ,Qim,Sem.run_bind,Sem.run_bind,h8];simp only[asAddr,Sem.run_pure,Result.andThen_ok,h6,Sem.run_bind,h1]
  . cases h4
theorem Qjl {fn:Func} {e:Env} {tmps:Array Value} (hS:Sim S) (he:QD S e tmps) {rs:List RS} (hc:Qcx P fn.results.toList rs=true) (hs:∀ s∈rs,s.side e S.H) :
 ∃ v,(results fn tmps).run P S.w=.ok v S.w/\VR S (Qa2 e S.H rs) v:=by
 obtain⟨vs,h1,h2⟩:=Qor hS he hc hs;have h3:∃ arr:Array Value,arr=vs.toArray/\(results fn tmps).run P S.w=.ok (if h:arr.size=1 then arr[0]else .tuple arr) S.w:=by
  refine⟨vs.toArray,rfl,?_⟩;rw[QyL,Array.mapM_eq_mapM_toList];simp only[Sem.run_bind,Sem.run_map,h1,Result.andThen_ok,Sem.run_pure]
 obtain⟨arr,rfl,h3⟩:=h3;refine⟨_,h3,?_⟩;unfold Qa2
 revert h2
 generalize rs.map (RS.ev e S.H)=l;intro h2
 match l,vs,h2 with
 |[],[],h2=>exact VR.of_tup h2
 |[x],[v],h2=>exact h2.2 0 x v rfl rfl
 |x::y::r,v::u::s,h2 =>
  rw[Zz (by simp)];exact VR.of_tup h2
 |[],_::_,h2=>simp[VRs]at h2
 |[_],[],h2=>simp[VRs]at h2
 |[_],_::_::_,h2=>simp[VRs]at h2
 |_::_::_,[],h2=>simp[VRs]at h2
 |_::_::_,[_],h2=>simp[VRs]at h2
structure Qeh (n0:Nat) (w w':ZM):Prop where
 size:w'.heap.size=w.heap.size
 at_:∀ k,w'.heap[k]? = w.heap[k]? \/ (n0<=k/\w.heap[k]? = some (Obj.deferred (some []))/\w'.heap[k]? = some (Obj.deferred none))
 os:w'.os=w.os
 tape:w'.tape=w.tape
 output:w'.output=w.output
theorem Qer {n0:Nat} {ρ:Nat->Option Nat} {H:ZG} {w w':ZM} (h:Qeh n0 w w'):QfU H.length ⟨ρ,H,w⟩ ⟨ρ,H,w'⟩:=by
 refine⟨λi o _ ho=>⟨o,ho,Vb _,λ_=>rfl⟩,λk c T f hk hn=>⟨?_,hn⟩,λk T m hs => ?_,λk es cl hk hn=>⟨?_,hn⟩⟩
 . rcases h.at_ k with h1|⟨_,h1,_⟩
   . exact h1
   . rw[show(⟨ρ,H,w⟩:St).w.heap[k]? = w.heap[k]? from rfl,h1]at hk; cases hk
 . unfold World.shape? at *;rcases h.at_ k with h1|⟨_,h1,_⟩
   . simp only at hs ⊢; rw[h1]; exact hs
   . simp only at hs; rw[h1]at hs; cases hs
 . rcases h.at_ k with h1|⟨_,h1,_⟩
   . exact h1
   . rw[show(⟨ρ,H,w⟩:St).w.heap[k]? = w.heap[k]? from rfl,h1]at hk; cases hk
theorem QeG {n0:Nat} {ρ:Nat->Option Nat} {H:ZG} {w w':ZM} (h:Qeh n0 w w') (hS:Sim ⟨ρ,H,w⟩):Sim ⟨ρ,H,w'⟩:=by
 have hv:=Qer (ρ:=ρ) (H:=H) h;have hvs:∀ {l:ZH} {us:ZI},VRs ⟨ρ,H,w⟩ l us->VRs ⟨ρ,H,w'⟩ l us:=λh=>⟨h.1,λj s u h1 h2=>(h.2 j s u h1 h2).extV hv (.inl rfl)⟩;refine⟨λi o ho hl => ?_,hS.bel,hS.inj,λi o ho hl hc => ?_,hS.gl.extV hv,hS.kf.extV hv⟩
 . have h1:=hS.live i o ho hl;simp only at h1 ⊢
   cases hρ:ρ i with
   |none=>rw[hρ]at h1; exact h1
   |some b =>
    rw[hρ]at h1;obtain⟨us,rest,h2,h3⟩:=h1;refine⟨us,rest,?_,hvs h3⟩;rcases h.at_ b with h4|⟨_,h4,_⟩
    . rw[h4]; exact h2
    . rw[h4]at h2; cases h2
 . obtain⟨l,x,m,us,env,k1,k2,k3,k4,k6⟩:=hS.lp i o ho hl hc;refine⟨l,x,m,us,env,k1,k2,?_,k4,hvs k6⟩;simp only at k3 ⊢;rcases h.at_ l with h4|⟨_,h4,_⟩
   . rw[h4]; exact k3
   . rw[h4]at k3; cases k3; rcases k4.kind with ⟨r,e⟩|⟨es,cl,e⟩<;>cases e
theorem QgP {n n0:Nat} {S0:St} {ρ:Nat->Option Nat} {H:ZG} {w w':ZM} (h:Qeh n0 w w') (he:Ext n S0 ⟨ρ,H,w⟩) (hn:S0.w.heap.size<=n0):Ext n S0 ⟨ρ,H,w'⟩:=by
 refine⟨he.obj,λk hk hnr => ?_,by have:=he.size; simp only[h.size]; exact this,λk T m hs => ?_,λk r hr => ?_,h.os.trans he.os,h.tape.trans he.tape,h.output.trans he.output⟩
 . obtain⟨h1,h2⟩:=he.imm k hk hnr;refine⟨?_,h2⟩;rcases h.at_ k with h3|⟨h3,_,_⟩
   . exact h3.trans h1
   . omega
 . exact(Qer (ρ:=ρ) (H:=H) h).shape k T m (he.shape k T m hs)
 . obtain⟨r',h1⟩:=he.loops k r hr;rcases h.at_ k with h3|⟨_,h3,_⟩
   . exact⟨r',h3.trans h1⟩
   . simp only at h1; rw[h3]at h1; cases h1
theorem Qic {fn:Func} {tmps:Array Value} {R:Ending->ZM->Prop} {n0:Nat} {u:FrameMode} (hu:u≠.run):∀ (ms:List Nat) (w:ZM),ms.Nodup->(∀ D∈ms,n0<=D/\w.heap[D]? = some (Obj.deferred (some []))) ->
 (∀ w',Qeh n0 w w'->LeavesIn (Fr none) 0 P fn tmps R [] u w')->LeavesInM (Fr none) 0 P fn tmps R (ms.map QcE) u w
 |[],w,_,_,h=>h w ⟨rfl,λ_=>.inl rfl,rfl,rfl,rfl⟩
 |D::ms,w,hnd,hms,h=>by
  rw[YW]at hnd;obtain⟨h1,h2⟩:=hms D (by simp);refine⟨hu,.inl ⟨D,_,rfl,run_takeDeferred h2,?_⟩⟩;refine Qic hu ms _ hnd.2 (λD' hD'=>⟨(hms D' (by simp[hD'])).1,?_⟩) λw' ht=>h w' ?_
  . have hne:D'≠D:=λe=>hnd.1 (e ▸ hD');exact(World.putObj_heap_other hne).trans (hms D' (by simp[hD'])).2
  . refine⟨by rw[ht.size]; simp,λk => ?_,ht.os,ht.tape,ht.output⟩;by_cases hk:k=D
    . subst hk;right;refine⟨h1,h2,?_⟩;rcases ht.at_ k with h3|⟨_,h3,h4⟩
      . exact h3.trans (World.putObj_heap_same (QcZ h2))
      . exact h4
    . rcases ht.at_ k with h3|⟨h3,h4,h5⟩
      . exact .inl (h3.trans (World.putObj_heap_other hk))
      . exact .inr ⟨h3,(World.putObj_heap_other hk).symm.trans h4,h5⟩
def Qc4 (n0:Nat) (Pt:Out->ZG->Prop) (v:SV) (H1:ZG):Prop:=∃ r H',Pt (.ret r) H'/\Cv n0 v H1 r H'
def FinP (n0:Nat) (rs:List RS) (Pt:Out->ZG->Prop) (x:XE) (env:Env) (H1:ZG):Prop :=
 match x with
 |.normal=>(∀ s∈rs,s.side env H1)/\Qc4 n0 Pt (Qa2 env H1 rs) H1
 |.ret=>(∀ s∈rs,s.side env H1)/\Qc4 n0 Pt (Qa2 env H1 rs) H1
 |.panic x=>∃ y H',Pt (.pan y) H'/\Cv n0 x H1 y H'
 |_=>False
theorem QkQ {f:ZN} {fn:Func} {c:Code} {rs:List RS} {args:ZH} {H:ZG} {Pt:Out->ZG->Prop} (hf:P.funcs[f]? = some fn) (hb:fn.body=some c)
 (hname : (fn.name == "runtime.NumGoroutine") = false) (hn : args.length <= fn.ntmps) (hr : Qcx P fn.results.toList rs = true)
 (hx:closed H->W P fn.ntmps c (Qce args) H (FinP H.length rs Pt)):OkP P f args H Pt:=by
 refine⟨λvs w=>Go.MuLone.run_callFunc_enter hf hname hb vs w,?_⟩;intro S vs hH hS hvs;subst hH;refine callsIn_wide.1 (callsIn_of_wp_marks (F:=Fr none) (n:=0) hf hb Zo ?_);have hl:vs.length=args.length:=hvs.1;have hw:=hx hS.closed ⟨S.w.heap.size,[],none⟩ S ⟨vs.toArray++Array.replicate (fn.ntmps-vs.toArray.size) undef,[]⟩ rfl hS (Qnu hvs _) (by simp; omega) ⟨Vb _,⟨[],rfl,YF,λD hD=>by simp at hD⟩,λl h=>by cases h⟩;refine wq_mono hw ?_;rintro e a w ⟨x,env,ρ,H1,g1,g2,g3,g4,g5,g6,g7⟩;obtain⟨ms,m1,m2,m3⟩:=g6.ms;simp only[VE]at m1;have env':∀ w',Qeh S.w.heap.size w w'->QD ⟨ρ,H1,w'⟩ env a.tmps:=λw' ht=>⟨λt=>(g4.get t).extV (Qer ht) (.inl rfl)⟩;have ret:((∀ s∈rs,s.side env H1)/\Qc4 S.H.length Pt (Qa2 env H1 rs) H1) ->
  LeavesInM (Fr none) 0 P fn a.tmps (λe w'=>∃ (out:Out) (H':ZG) (v:Value) (ρ':Nat->Option Nat),Pt out H'/\Ext S.H.length S ⟨ρ',H',w'⟩/\Sim ⟨ρ',H',w'⟩ /\
  match out with
  |.ret r=>e=.returned v/\VR ⟨ρ',H',w'⟩ r v
  |.pan x=>e=.panicked [{ v:=v,recovered:=false }]/\VR ⟨ρ',H',w'⟩ x v) a.defers .returning w:=by
  rintro⟨h1,r,H',hp,h2⟩;rw[m1];refine Qic (by simp) ms w m2 m3 λw' ht => ?_;obtain⟨v,h3,h4⟩:=Qjl (P:=P) (S:=⟨ρ,H1,w'⟩) (QeG ht g3) (env' w' ht) hr h1;obtain⟨ρ',h5,h6,h7⟩:=h2 ⟨ρ,H1,w'⟩ v rfl (QeG ht g3) h4;exact⟨v,h3,.ret r,H',v,ρ',hp,(QgP ht g2 (Vb _)).trans h5,h6,rfl,h7⟩
 cases x<;>cases e<;>simp only[ER]at g1
 . exact ret g7
 . exact g7.elim
 . exact g7.elim
 . exact ret g7
 . obtain⟨y,H',hp,hcv⟩:=g7;obtain⟨v,rfl,hv⟩:=g1;show LeavesInM _ _ _ _ _ _ _ _ _;rw[m1];refine Qic (by simp) ms w m2 m3 λw' ht => ?_;obtain⟨ρ',h5,h6,h7⟩:=hcv ⟨ρ,H1,w'⟩ v rfl (QeG ht g3) (hv.extV (Qer ht) (.inl rfl));exact⟨.pan y,H',v,ρ',hp,(QgP ht g2 (Vb _)).trans h5,h6,rfl,h7⟩
theorem QA9 (hD:DOk P D) {f:ZN} {fn:Func} {c:Code} {i:IC} {rs:List RS} {args:ZH} {H:ZG} {Pt:Out->ZG->Prop} (hf:P.funcs[f]? = some fn) (hb:fn.body=some c)
 (hname : (fn.name == "runtime.NumGoroutine") = false) (hn : args.length <= fn.ntmps) (hc : QW P fn.ntmps D c i = true) (hr : Qcx P fn.results.toList rs = true)
 (hx:closed H->X P fn.ntmps D i (Qce args) H (FinP H.length rs Pt)):OkP P f args H Pt :=
 QkQ hf hb hname hn hr λhcl=>Qed hD i hc (hx hcl)
theorem OkP.toOk {f:ZN} {args:ZH} {H:ZG} {out:Out} {H':ZG} (h:OkP P f args H λo h=>o=out/\h=H'):Ok P f args H out H':=by
 refine⟨h.1,λS vs h1 h2 h3=>(h.2 S vs h1 h2 h3).mono ?_⟩;rintro e w ⟨o,h',v,ρ',⟨rfl,rfl⟩,h4⟩;exact⟨v,ρ',h4⟩
theorem Qrz {n0:Nat} {rs:List RS} {out:Out} {H':ZG} {x:XE} {env:Env} {H1:ZG} (h:Fin n0 rs out H' x env H1):FinP n0 rs (λo h=>o=out/\h=H') x env H1:=by
 cases x<;>cases out<;>first|exact h.elim|exact⟨h.1,_,_,⟨rfl,rfl⟩,h.2⟩|exact⟨_,_,⟨rfl,rfl⟩,h⟩
theorem QwW (hD:DOk P D) {f:ZN} {fn:Func} {c:Code} {i:IC} {rs:List RS} {args:ZH} {H:ZG} {out:Out} {H':ZG} (hf:P.funcs[f]? = some fn) (hb:fn.body=some c)
 (hname : (fn.name == "runtime.NumGoroutine") = false) (hn : args.length <= fn.ntmps) (hc : QW P fn.ntmps D c i = true) (hr : Qcx P fn.results.toList rs = true)
 (hx:closed H->X P fn.ntmps D i (Qce args) H (Fin H.length rs out H')):Ok P f args H out H' :=
 (QkQ hf hb hname hn hr λhcl=>(Qed hD i hc (hx hcl)).mono λx env H1 h=>Qrz h).toOk
end
end
section
variable [QN] [QG] [Qr]
theorem Qld {lo:Option Od} {g g':Od->SV} (h:∀ x∈lo.toList,g x=g' x):lo.map g=lo.map g':=by
 cases lo with
 |none=>rfl
 |some x=>simp[h x (by simp)]
theorem QAs (i:I) (g g':Od->SV) (H:ZG) (h:∀ x∈i.ods,g x=g' x):pv i g H=pv i g' H:=by
 cases i with
 |sl sz x lo hi =>
  simp only[I.ods,Ve,Vq]at h;have h1:=h x (.inl rfl);have h2:=Qld (lo:=lo) λy hy=>h y (.inr (.inl hy));have h3:=Qld (lo:=hi) λy hy=>h y (.inr (.inr hy));simp only[pv,h1,h2,h3]
 |sls x lo hi =>
  simp only[I.ods,Ve,Vq]at h;have h1:=h x (.inl rfl);have h2:=Qld (lo:=lo) λy hy=>h y (.inr (.inl hy));have h3:=Qld (lo:=hi) λy hy=>h y (.inr (.inr hy));simp only[pv,h1,h2,h3]
 |mkf f a b =>
  simp only[I.ods,Vq]at h;have h1:a.map g=a.map g':=Ya λx hx=>h x (.inl hx);have h2:b.map g=b.map g':=Ya λx hx=>h x (.inr hx);simp only[pv,h1,h2]
 |bld z ps =>
  simp only[I.ods,Vy]at h;have h1:∀ p∈ps,g p.2.2=g' p.2.2:=λp hp=>h _ ⟨p,hp,rfl⟩;have h2:(ps.map λp=>(p.1,g p.2.2))=ps.map λp=>(p.1,g' p.2.2):=Ya λp hp=>by rw[h1 p hp]
  have h3:(∀ p∈ps,QaY p.2.1 (g p.2.2)/\p.1+p.2.1<=z.length)=∀ p∈ps,QaY p.2.1 (g' p.2.2)/\p.1+p.2.1<=z.length:=by
   apply propext;constructor
   . intro hh p hp; rw[<-h1 p hp]; exact hh p hp
   . intro hh p hp; rw[h1 p hp]; exact hh p hp
  simp only[pv,h2,h3]
 |_=>simp only[I.ods,Ve,VC,Zu,ZA,Zx]at h; simp only[pv,h]
theorem Qyf {i:E} {g g':Od->SV} {H:ZG} {K K':SV->ZG->Prop} (h:∀ x∈i.ods,g x=g' x) (hk:∀ v H,K v H->K' v H) (hx:xe i g H K):xe i g' H K':=by
 cases i with
 |alc T z=>exact hk _ _ hx
 |box T x =>
  simp only[E.ods,Ve,VC,Zu,Zx]at h;simp only[xe,<- h]at *;exact⟨hx.1,hx.2.1,hk _ _ hx.2.2⟩
 |bsl T sz len z ps =>
  simp only[E.ods,Vy]at h;have h1:∀ p∈ps,g p.2=g' p.2:=λp hp=>h _ ⟨p,hp,rfl⟩;have h2:(ps.map λp=>(p.1*sz,g p.2))=ps.map λp=>(p.1*sz,g' p.2):=Ya λp hp=>by rw[h1 p hp]
  simp only[xe,<- h2]at *;exact⟨λp hp=>by rw[<-h1 p hp]; exact hx.1 p hp,hx.2.1,hk _ _ hx.2.2⟩
 |app T sz by_ s x =>
  simp only[E.ods,Ve,VC,Zu,ZA,Zx]at h;simp only[xe,<- h.1,<- h.2]at *;obtain⟨a1,a2,a3,a4,a5,a6,a7,a8⟩:=hx;refine⟨a1,a2,a3,a4,a5,a6,a7,?_⟩;split
  . rename_i hs;rw[hs]at a8;exact⟨a8.1,a8.2.1,hk _ _ a8.2.2⟩
  . rename_i hs;split at a8
    . rename_i hs'; exact absurd hs' (hs _ _ _ _)
    . exact⟨a8.1,hk _ _ a8.2⟩
 |st n p x =>
  simp only[E.ods,Ve,VC,Zu,ZA,Zx]at h;simp only[xe,<- h.1,<- h.2]at *;obtain⟨a1,a2,a3,a4,a5,a6⟩:=hx;refine⟨a1,a2,a3,a4,a5,?_⟩;split
  . rename_i hs;rw[hs]at a6;exact⟨a6.1,hk _ _ a6.2⟩
  . rename_i hs;split at a6
    . rename_i hs'; exact absurd hs' (hs _ _ _ _ _ _)
    . exact a6
 |stw ws n p x =>
  simp only[E.ods,Ve,ZA]at h;simp only[xe,<- h.1,<- h.2.1]at *;obtain⟨a1,a2,a3,a4,a5,a6⟩:=hx;refine⟨a1,a2,a3,a4,a5,?_⟩;split
  . rename_i hs;rw[hs]at a6;exact⟨a6.1,hk _ _ a6.2⟩
  . rename_i hs;split at a6
    . rename_i hs'; exact absurd hs' (hs _ _ _ _ _ _)
    . exact a6
 |call f as=>exact hx.elim
 |pan x=>exact hx.elim
 |mkm T=>exact hk _ _ hx
 |mup kk m k v =>
  simp only[E.ods,Ve,VC,Zu,ZA,Zx]at h;simp only[xe,<- h.1,<- h.2.1,<- h.2.2]at *;obtain⟨a1,a2,a3,a4⟩:=hx;refine⟨a1,a2,a3,?_⟩;split at a4
  . exact⟨a4.1,a4.2.1,hk _ _ a4.2.2⟩
  . exact a4.elim
 |nil T sz x =>
  simp only[E.ods,Ve,VC,Zu,Zx]at h;simp only[xe,<- h]at *;exact⟨hx.1,hx.2.1,hk _ _ hx.2.2⟩
 |aps T s x =>
  simp only[E.ods,Ve,VC,Zu,ZA,Zx]at h;simp only[xe,<- h.1,<- h.2]at *;obtain⟨a1,a2,a3,a8⟩:=hx;refine⟨a1,a2,a3,?_⟩;split
  . rename_i hs;rw[hs]at a8;exact⟨a8.1,a8.2.1,hk _ _ a8.2.2⟩
  . rename_i hs;split at a8
    . rename_i hs'; exact absurd hs' (hs _ _ _ _)
    . exact⟨a8.1,hk _ _ a8.2⟩
 |sby x =>
  simp only[E.ods,Ve,VC,Zu,Zx]at h;simp only[xe,<- h]at *;exact⟨hx.1,hk _ _ hx.2⟩
theorem Qjx {e e':Env} {x:Od} (h:∀ t∈x.slots,e'.get t=e.get t):e'.ev x=e.ev x:=by
 cases x with
 |t n=>exact h n (by simp[Od.slots])
 |c s=>rfl
theorem Qhy {P:ZL} {o:Ins} {env env':Env} {H:ZG} {v:SV} (h:QbI P o env H v) (hk:∀ t∈o.slots,env'.get t=env.get t):QbI P o env' H v:=by
 have hg:∀ s w,o.g=some (s,w)->env'.get s=env.get s:=by
  intro s w hs;exact hk s (by simp[Ins.slots,hs])
 have hp:∀ i,o.j=.p i->pv i env'.ev H=pv i env.ev H:=by
  intro i hi;refine QAs i _ _ H λx hx=>Qjx λt ht=>hk t ?_;simp only[Ins.slots,hi,J.slots,Vq,YX];exact .inr ⟨x,hx,ht⟩
 have hq:∀ f args,o.j=.q f args->env'.ev f=env.ev f/\args.map env'.ev=args.map env.ev:=by
  intro f args hq;constructor
  . refine Qjx λt ht=>hk t ?_;simp only[Ins.slots,hq,J.slots,Vq,YX];exact .inr ⟨f,by simp,ht⟩
  . refine Ya λx hx=>Qjx λt ht=>hk t ?_;simp only[Ins.slots,hq,J.slots,Vq,YX];exact .inr ⟨x,by simp[hx],ht⟩
 unfold QbI at *
 cases hog:o.g with
 |none =>
  rw[hog]at h
  cases hoj:o.j with
  |p i=>rw[hoj]at h; simp only at h ⊢; rw[hp i hoj]; exact h
  |q f args=>rw[hoj]at h; simp only at h ⊢; rw[(hq f args hoj).1,(hq f args hoj).2]; exact h
  |e i=>rw[hoj]at h; exact h.elim
 |some sw =>
  obtain⟨s,want⟩:=sw;rw[hog]at h;simp only at h ⊢;rw[hg s want hog];refine⟨h.1,?_⟩;have h2:=h.2
  cases hoj:o.j with
  |p i=>rw[hoj]at h2; simp only at h2 ⊢; rw[hp i hoj]; exact h2
  |q f args=>rw[hoj]at h2; simp only at h2 ⊢; rw[(hq f args hoj).1,(hq f args hoj).2]; exact h2
  |e i=>rw[hoj]at h2; exact h2.elim
theorem QyU {P:ZL} {o:Ins} {env:Env} {H:ZG} {v:SV} {K:ZF} (h:QbI P o env H v) (hk:K .normal (env.put o.d v) H):xo P o env H K:=by
 unfold QbI at h;unfold xo
 cases hog:o.g with
 |none =>
  rw[hog]at h;simp only;unfold xj
  cases hoj:o.j with
  |p i=>rw[hoj]at h; obtain⟨h1,rfl⟩:=h; exact⟨h1,hk⟩
  |q f args=>rw[hoj]at h; exact⟨v,h,hk⟩
  |e i=>rw[hoj]at h; exact h.elim
 |some sw =>
  obtain⟨s,want⟩:=sw;rw[hog]at h;simp only at h ⊢;refine⟨h.1,?_⟩;have h2:=h.2
  cases hoj:o.j with
  |p i=>rw[hoj]at h2; obtain⟨h3,rfl⟩:=h2; exact⟨h3,hk⟩
  |q f args=>rw[hoj]at h2; obtain⟨r,h3,rfl⟩:=h2; exact⟨r,h3,hk⟩
  |e i=>rw[hoj]at h2; exact h2.elim
def QjZ (acc:List Nat) (o:Oper):Nat:=o.after.toList.foldl (λs e=>if Region.binds .any e then s ||| (2 ^ e.on ||| acc.getD e.on 0)else s) 0
def Qbi:List Oper->List Nat->List Nat
 |[],acc=>acc
 |o::r,acc=>Qbi r (acc++[QjZ acc o])
theorem QmW:∀ (l:List Oper) (acc:List Nat),(Qbi l acc).length=acc.length+l.length
 |[],acc=>by simp[Qbi]
 |o::r,acc=>by simp[Qbi,QmW r]; omega
theorem Qmi:∀ (l:List Oper) (acc:List Nat) (j:Nat),j<acc.length->(Qbi l acc)[j]? = acc[j]?
 |[],acc,j,_=>rfl
 |o::r,acc,j,h=>by
  rw[Qbi,Qmi r _ j (by simp; omega),Vc h]
theorem Qq1:∀ (l:List Oper) (acc:List Nat) (j:Nat) (o:Oper),l[j]? = some o ->
 ∃ pre:List Nat,pre.length=acc.length+j/\(Qbi l acc)[acc.length+j]? = some (QjZ pre o)/\∀ k,k<acc.length+j->pre[k]? = (Qbi l acc)[k]?
 |[],acc,j,o,h=>by simp at h
 |o'::r,acc,0,o,h=>by
  simp at h; subst h;refine⟨acc,rfl,?_,λk hk => ?_⟩
  . rw[Qbi,Qmi r _ _ (by simp)]; simp
  . rw[Qmi _ _ _ (by omega)]
 |o'::r,acc,j+1,o,h=>by
  obtain⟨pre,h1,h2,h3⟩:=Qq1 r (acc++[QjZ acc o']) j o (by simpa using h);refine⟨pre,by rw[h1]; simp; omega,?_,λk hk => ?_⟩
  . rw[Qbi]; rw[<-h2]; congr 1; simp; omega
  . rw[Qbi]; exact h3 k (by simp; omega)
theorem Qp1 (acc:List Nat) (i:Nat):∀ (l:List Edge) (s:Nat),(l.foldl (λs e=>if Region.binds .any e then s ||| (2 ^ e.on ||| acc.getD e.on 0)else s) s).testBit i=true ->
 s.testBit i=true\/∃ e∈l,Region.binds .any e=true/\(i=e.on\/(acc.getD e.on 0).testBit i=true)
 |[],s,h=>.inl h
 |e::r,s,h=>by
  simp only[Yz]at h;rcases Qp1 acc i r _ h with h1|⟨e',h1,h2⟩
  . by_cases hb:Region.binds .any e=true
    . rw[Zn hb]at h1;simp only[Nat.testBit_or,V3]at h1;rcases h1 with h1|h1|h1
      . exact .inl h1
      . refine .inr ⟨e,by simp,hb,.inl ?_⟩;rw[Nat.testBit_two_pow]at h1;simpa using (Zv h1).symm
      . exact .inr ⟨e,by simp,hb,.inr h1⟩
    . rw[Zm hb]at h1; exact .inl h1
  . exact .inr ⟨e',by simp[h1],h2⟩
def Qg4 (ops:Array Oper) (L:Nat->Prop):Prop:=∀ (j:Nat) (o:Oper),L j->ops[j]? = some o->∀ e∈o.after.toList,Region.binds .any e=true->L e.on
def Qy5 (ops:Array Oper) (L:Nat->Prop) (j:Nat):Prop:=∀ (o:Oper),ops[j]? = some o->∀ e∈o.after.toList,Region.binds .any e=true->L e.on
theorem QzC {ops:Array Oper} {L:Nat->Prop} (hL:Qg4 ops L):∀ (j:Nat),Qy5 ops L j->∀ i b,(Qbi ops.toList [])[j]? = some b->b.testBit i=true->L i:=by
 intro j
 induction j using Nat.strongRecOn with
 |_ j ih =>
  intro hw i b hb hi;have hj:j<ops.toList.length:=by have:=Qj hb; rw[QmW]at this; simpa using this
  obtain⟨pre,h1,h2,h3⟩:=Qq1 ops.toList [] j ops.toList[j] (Vd hj);simp only[VK,V7]at h1 h2 h3;rw[hb]at h2
  cases h2
  unfold QjZ at hi;rcases Qp1 pre i _ 0 hi with h|⟨e,he,hbd,h⟩
  . simp at h
  . have ho:ops[j]? = some ops.toList[j]:=by simp[VT (by simpa using hj)]
    have hon:=hw _ ho e he hbd;rcases h with h|h
    . rw[h]; exact hon
    . have hlt:e.on<pre.length:=by
       rcases Vr e.on pre.length with h4|h4
       . exact h4
       . rw[VB,VL h4]at h; simp at h
      rw[VB,Vd hlt]at h;have h5:=h3 e.on (by omega);rw[Vd hlt]at h5;exact ih e.on (by omega) (λo ho' e' he' hb'=>hL e.on o hon ho' e' he' hb') i _ h5.symm h
def Qdq (B:List Nat) (i j:Nat):Bool:=(B.getD j 0).testBit i
def QgI (ops:Array Oper) (ns:List Nat) (l:List Ins):Bool :=
 let B:=Qbi ops.toList []
 let n:=l.length
 let L:=ns.zip l
 (n==ops.size)&&(ns.length==n)&&((List.range n).all λi=>ns.contains i) &&
 ((List.range n).all λi=>((ops.getD i default).after.toList.all λe => !Region.binds .any e||decide (e.on<i))) &&
 (L.zipIdx.all λx=>L.zipIdx.all λy =>
  (match x.1.2.d with
   |none=>true
   |some d=>(x.2==y.2||y.1.2.d != some d)&&(!y.1.2.slots.contains d||(Qdq B x.1.1 y.1.1&&decide (x.2<y.2)))) &&
  (x.1.2.j.quiet||decide (y.2<=x.2)||Qdq B x.1.1 y.1.1)&&(x.2==y.2||x.1.1 != y.1.1))
end
section
variable [QN] [QG] [Qr]
def QbQ:Env->List Ins->ZH->Env
 |e,o::r,v::vs=>QbQ (e.put o.d v) r vs
 |e,_,_=>e
theorem Qgy {e:Env} {d:Option Nat} {v:SV} {t:Nat} (h:d≠some t):(e.put d v).get t=e.get t:=by
 cases d with
 |none=>rfl
 |some d=>simp only[Env.put,Env.get]; rw[Zm (λe=>h (by rw[e]))]
theorem Qku {e:Env} {v:SV} {t:Nat}:(e.put (some t) v).get t=v:=by simp[Env.put,Env.get]
theorem Qg1:∀ (os:List Ins) (vs:ZH) (e:Env) (t:Nat),(∀ o∈os,o.d≠some t)->(QbQ e os vs).get t=e.get t
 |[],vs,e,t,_=>rfl
 |o::r,[],e,t,_=>rfl
 |o::r,v::vs,e,t,h=>by
  rw[QbQ,Qg1 r vs _ t (λo' ho'=>h o' (by simp[ho'])),Qgy (h o (by simp))]
theorem Qih:∀ (os:List Ins) (vs:ZH) (e:Env) (t i:Nat) (o:Ins) (v:SV),os[i]? = some o->vs[i]? = some v->o.d=some t->(∀ j p,i<j->os[j]? = some p->p.d≠some t) ->
 (QbQ e os vs).get t=v
 |[],vs,e,t,i,o,v,h,_,_,_=>by simp at h
 |o'::r,[],e,t,i,o,v,_,h,_,_=>by simp at h
 |o'::r,v'::vs,e,t,0,o,v,h1,h2,h3,h4=>by
  simp at h1 h2; subst h1 h2;rw[QbQ,Qg1 r vs _ t,h3,Qku];intro p hp;obtain⟨j,hj⟩:=Vw hp;exact h4 (j+1) p (by omega) (by simpa using hj)
 |o'::r,v'::vs,e,t,i+1,o,v,h1,h2,h3,h4=>by
  rw[QbQ];exact Qih r vs _ t i o v (by simpa using h1) (by simpa using h2) h3 λj p hj hp=>h4 (j+1) p (by omega) (by simpa using hp)
theorem QD.congr {S:St} {e e':Env} {tmps:Array Value} (h:QD S e tmps) (hk:∀ t,e'.get t=.any\/e'.get t=e.get t):QD S e' tmps:=by
 refine⟨λt => ?_⟩;rcases hk t with h1|h1<;>rw[h1]
 . exact .any _
 . exact h.get t
theorem Qr9 {α:Type} {p q:α->Bool}:∀ (l:List α),(∀ x∈l,q x=true->p x=true)->∀ i∈l,p i=true->q i=false->(l.filter q).length<(l.filter p).length
 |[],_,i,hi,_,_=>by simp at hi
 |x::r,h,i,hi,hp,hq=>by
  have hle:∀ (l:List α),(∀ x∈l,q x=true->p x=true)->(l.filter q).length<=(l.filter p).length:=by
   intro l
   induction l with
   |nil=>intro _; simp
   |cons y s ih =>
    intro hh;have:=ih (λz hz=>hh z (by simp[hz]));simp only[List.filter_cons];by_cases hqy:q y=true
    . rw[Zn hqy,Zn (hh y (by simp) hqy)]; simp; omega
    . rw[Zm hqy]; split<;>simp<;>omega
  simp only[Ve]at hi;simp only[List.filter_cons];rcases hi with rfl|hi
  . rw[Zn hp,Zm (by simp[hq])];have:=hle r (λz hz=>h z (by simp[hz]));simp; omega
  . have ih:=Qr9 r (λz hz=>h z (by simp[hz])) i hi hp hq;by_cases hqx:q x=true
    . rw[Zn hqx,Zn (h x (by simp) hqx)]; simp; omega
    . rw[Zm hqx]; split<;>simp<;>omega
abbrev CI:=Nat×Ins
structure DC (ops:Array Oper) (C:List CI):Prop where
 cov:∀ i,i<ops.size->∃ x∈C,x.1=i
 edge:∀ i o,ops[i]? = some o->∀ e∈o.after.toList,Region.binds .any e=true->e.on<i
 uniq:∀ x∈C,∀ y∈C,x.1≠y.1->∀ d,x.2.d=some d->y.2.d≠some d
 dep:∀ x∈C,∀ y∈C,∀ d,x.2.d=some d->d∈y.2.slots->Qdq (Qbi ops.toList []) x.1 y.1=true
 self:∀ x∈C,∀ d,x.2.d=some d->d∉x.2.slots
theorem Qwv {ns:List Nat} {l:List Ins} (h:ns.length=l.length) {i:Nat} (hi:i∈ns):∃ x∈ns.zip l,x.1=i:=by
 obtain⟨k,hk⟩:=Vw hi;have hlt:k<l.length:=by rw[<-h]; exact Qj hk
 exact⟨(i,l[k]),Vs (i:=k) (by rw[YN]; exact⟨hk,Vd hlt⟩),rfl⟩
theorem QyB {ops:Array Oper} {ns:List Nat} {l:List Ins} (h:QgI ops ns l=true):DC ops (ns.zip l) /\
 (ns.zip l).Pairwise λx y=>(∀ d,y.2.d=some d->d∉x.2.slots)/\(x.2.j.quiet=false->Qdq (Qbi ops.toList []) x.1 y.1=true)/\x.1≠y.1:=by
 unfold QgI at h;simp only[Va,Zr,Vm,V0,V3,VI,Zq,List.contains_eq_mem]at h;obtain⟨⟨⟨⟨h1,h2⟩,h3⟩,h4⟩,h5⟩:=h;generalize hC:ns.zip l=C at h5 ⊢;have hp:∀ (a b:Nat) (x y:CI),C[a]? = some x->C[b]? = some y ->
  (∀ d,x.2.d=some d->(a=b\/y.2.d≠some d)/\(d∈y.2.slots->Qdq (Qbi ops.toList []) x.1 y.1=true/\a<b)) /\
  ((x.2.j.quiet=true\/b<=a)\/Qdq (Qbi ops.toList []) x.1 y.1=true)/\(a=b\/x.1≠y.1):=by
  intro a b x y hx hy;have hxm:(x,a)∈C.zipIdx:=Vs (i:=a) (by rw[List.getElem?_zipIdx]; simp[hx]);have hym:(y,b)∈C.zipIdx:=Vs (i:=b) (by rw[List.getElem?_zipIdx]; simp[hy]);have h6:=h5 (x,a) hxm (y,b) hym;simp only[bne_iff_ne,ne_eq]at h6;obtain⟨⟨h6,h7⟩,h8⟩:=h6;refine⟨λd hd => ?_,h7,h8⟩;rw[hd]at h6;simp only[Va,V3,Zr,bne_iff_ne,ne_eq,VI,Zq,ZB]at h6;refine⟨h6.1,λhm => ?_⟩;rcases h6.2 with h9|h9
  . exact absurd hm h9
  . exact h9
 refine⟨⟨λi hi => ?_,?_,?_,?_,?_⟩,?_⟩
 . rw[<-hC]; exact Qwv h2 (h3 i (by omega))
 . intro i o ho e he hb;have hi:i<ops.size:=(V5.1 ho).1;rcases h4 i (by omega) e (by rw[VM,ho]; simpa using he)with h6|h6
   . rw[hb]at h6; cases h6
   . exact h6
 . intro x hx y hy hne d hd hd';obtain⟨a,ha⟩:=Vw hx;obtain⟨b,hb⟩:=Vw hy;rcases((hp a b x y ha hb).1 d hd).1 with h6|h6
   . subst h6; rw[ha]at hb; cases hb; exact hne rfl
   . exact h6 hd'
 . intro x hx y hy d hd hs;obtain⟨a,ha⟩:=Vw hx;obtain⟨b,hb⟩:=Vw hy;exact(((hp a b x y ha hb).1 d hd).2 hs).1
 . intro x hx d hd hs;obtain⟨a,ha⟩:=Vw hx;have:=(((hp a a x x ha ha).1 d hd).2 hs).2; omega
 . rw[Ze];intro a b ha hb hab;have h6:=hp a b C[a] C[b] (Vd ha) (Vd hb);have h7:=hp b a C[b] C[a] (Vd hb) (Vd ha);refine⟨λd hd hs => ?_,λhq => ?_,?_⟩
   . have:=((h7.1 d hd).2 hs).2; omega
   . rcases h6.2.1 with (h8|h8)|h8
     . rw[hq]at h8; cases h8
     . omega
     . exact h8
   . rcases h6.2.2 with h8|h8
     . omega
     . exact h8
abbrev QI:=Nat×Ins×SV
def unl (listed:Array Bool) (q:QI):Bool := !listed.getD q.1 false
def Qew (Qs:List QI) (e:Env):Env:=(Qs.filterMap λq=>q.2.1.d.map λd=>(d,SV.any))++e
theorem QhU {e:Env} {t:Nat}:∀ {Qs:List QI},(∃ q∈Qs,q.2.1.d=some t)->(Qew Qs e).get t=.any
 |[],h=>by obtain⟨q,hq,_⟩:=h; simp at hq
 |q::r,h=>by
  simp only[Qew,Zf]
  cases hd:q.2.1.d with
  |none =>
   simp only[Option.map_none];refine QhU ?_;obtain⟨q',hq',ht⟩:=h;simp only[Ve]at hq';rcases hq' with rfl|hq'
   . rw[hd]at ht; cases ht
   . exact⟨q',hq',ht⟩
  |some d =>
   simp only[VF,Vv,Env.get];by_cases h2:d=t
   . rw[Zn h2]
   . rw[Zm h2];refine QhU ?_;obtain⟨q',hq',ht⟩:=h;simp only[Ve]at hq';rcases hq' with rfl|hq'
     . rw[hd]at ht; cases ht; exact absurd rfl h2
     . exact⟨q',hq',ht⟩
theorem QeI {e:Env} {t:Nat}:∀ {Qs:List QI},(∀ q∈Qs,q.2.1.d≠some t)->(Qew Qs e).get t=e.get t
 |[],_=>rfl
 |q::r,h=>by
  simp only[Qew,Zf]
  cases hd:q.2.1.d with
  |none=>simp only[Option.map_none]; exact QeI λq' hq'=>h q' (by simp[hq'])
  |some d =>
   simp only[VF,Vv,Env.get];rw[Zm (λe=>h q (by simp) (by rw[hd,e]))];exact QeI λq' hq'=>h q' (by simp[hq'])
section
variable {P:ZL}
theorem Qym {o:Ins} {env env':Env} {H:ZG} {K:ZF} (hq:o.j.quiet=false) (hs:∀ t∈o.slots,env'.get t=env.get t) (h:xo P o env H K) :
 xo P o env' H λx e2 H'=>match x with
  |.normal=>∃ v,e2=env'.put o.d v/\K .normal (env.put o.d v) H'
  |x=>K x env H':=by
 cases hoj:o.j with
 |p i=>rw[hoj]at hq; simp[J.quiet]at hq
 |q f args=>rw[hoj]at hq; simp[J.quiet]at hq
 |e i =>
  have hods:∀ x∈i.ods,env.ev x=env'.ev x:=by
   intro x hx;refine(Qjx λt ht=>hs t ?_).symm;simp only[Ins.slots,hoj,J.slots,Vq,YX];exact .inr ⟨x,hx,ht⟩
  have hj:xj P o env H K->xj P o env' H λx e2 H'=>match x with
   |.normal=>∃ v,e2=env'.put o.d v/\K .normal (env.put o.d v) H'
   |x=>K x env H':=by
   intro hx;by_cases hc:i.isCall=true
   . cases i<;>simp[E.isCall]at hc
     case call f args =>
      simp only[E.ods,Ve,ZA]at hods;have h1:args.map env.ev=args.map env'.ev:=Ya hods.2;unfold xj at hx ⊢;rw[hoj]at hx ⊢;simp only at hx ⊢;obtain⟨Pt,h2,h3⟩:=hx;refine⟨Pt,by rw[<-hods.1,<- h1]; exact h2,λout H' hp => ?_⟩;have h3:=h3 out H' hp
      cases out with
      |ret r=>exact⟨r,rfl,h3⟩
      |pan x=>exact h3
     case pan x =>
      have h1:=hods x (by simp[E.ods]);unfold xj at hx ⊢;rw[hoj]at hx ⊢;simp only at hx ⊢;rw[<-h1];exact hx
   . have hc':i.isCall=false:=by simpa using hc
     unfold xj at hx ⊢;rw[hoj]at hx ⊢;have h1:xe i env.ev H λv H'=>K .normal (env.put o.d v) H':=by
      cases i<;>first|exact hx|simp[E.isCall]at hc'
     have h2:=Qyf (K':=λv H'=>∃ v',env'.put o.d v=env'.put o.d v'/\K .normal (env.put o.d v') H') hods (λv H' hk=>⟨v,rfl,hk⟩) h1
     cases i<;>first|exact h2|simp[E.isCall]at hc'
  unfold xo at h ⊢
  cases hog:o.g with
  |none=>rw[hog]at h; exact hj h
  |some sw =>
   obtain⟨s,want⟩:=sw;rw[hog]at h;have hgs:env'.get s=env.get s:=hs s (by simp[Ins.slots,hog]);rw[hoj]at h ⊢;simp only at h ⊢;rw[hgs];exact⟨h.1,λhon=>hj (h.2.1 hon),λhoff=>⟨_,rfl,h.2.2 hoff⟩⟩
theorem pv_H {i:I} (h:J.dep (.p i)=false) (g:Od->SV) (H H':ZG):pv i g H=pv i g H':=by
 cases i<;>first|rfl|(simp[J.dep]at h)
theorem Qwx {o:Ins} {env:Env} {H H':ZG} {v:SV} (hd:o.j.dep=false) (h:QbI P o env H v):QbI P o env H' v:=by
 unfold QbI at *
 cases hoj:o.j with
 |p i =>
  rw[hoj]at h hd;simp only[pv_H hd env.ev H H']at h;exact h
 |q f args=>rw[hoj]at hd; simp[J.dep]at hd
 |e i=>rw[hoj]at h; exact h
theorem Ql8 {H:ZG} {K:ZF}:∀ (rest:List CI) (pend:List (Ins×SV)) (env:Env),xd P pend (rest.map (·.2)) env H K ->
 ∃ (F:List QI) (rest':List CI) (pend':List (Ins×SV)),rest=(F.map λq=>(q.1,q.2.1))++rest'/\(rest'=[]\/∃ c r,rest'=c::r/\c.2.j.quiet=false) /\
  (∀ q∈F,q.2.1.j.quiet=true)/\(∀ p∈pend,p∈pend')/\(∀ q∈F,(q.2.1,q.2.2)∈pend')/\(∀ p∈pend',p∈pend\/∃ q∈F,p.1=q.2.1) /\
  (∀ (k:Nat) (q:QI),F[k]? = some q->QbI P q.2.1 (QbQ env ((F.take k).map (·.2.1)) ((F.take k).map (·.2.2))) H q.2.2) /\
  xd P pend' (rest'.map (·.2)) (QbQ env (F.map (·.2.1)) (F.map (·.2.2))) H K
 |[],pend,env,h=>⟨[],[],pend,rfl,.inl rfl,λq hq=>by simp at hq,λp hp=>hp,λq hq=>by simp at hq,λp hp=>.inl hp,λk q hk=>by simp at hk,h⟩
 |c::r,pend,env,h=>by
  by_cases hq:c.2.j.quiet=true
  . have key:∃ v,QbI P c.2 env H v/\xd P ((c.2,v)::pend) (r.map (·.2)) (env.put c.2.d v) H K:=by
     simp only[Vn,xd]at h;rw[Zn hq]at h;unfold QbI
     cases hog:c.2.g with
     |none =>
      rw[hog]at h
      cases hoj:c.2.j with
      |p i =>
       rw[hoj]at h;simp only at h ⊢;exact⟨_,⟨h.1,rfl⟩,h.2⟩
      |q f args =>
       rw[hoj]at h;simp only at h ⊢;obtain⟨v,h1,h2⟩:=h;exact⟨v,h1,h2⟩
      |e i=>rw[hoj]at hq; simp[J.quiet]at hq
     |some sw =>
      obtain⟨s,want⟩:=sw;rw[hog]at h
      cases hoj:c.2.j with
      |p i =>
       rw[hoj]at h;simp only at h ⊢;exact⟨_,⟨h.1,h.2.1,rfl⟩,h.2.2⟩
      |q f args =>
       rw[hoj]at h;simp only at h ⊢;obtain⟨h0,v,h1,h2⟩:=h;exact⟨_,⟨h0,v,h1,rfl⟩,h2⟩
      |e i=>rw[hoj]at hq; simp[J.quiet]at hq
    obtain⟨v,h1,h4⟩:=key;obtain⟨F,rest',pend',g1,g2,g3,g4,g5,g8,g6,g7⟩:=Ql8 r _ _ h4;refine⟨(c.1,c.2,v)::F,rest',pend',by simp[g1],g2,?_,λp hp=>g4 p (by simp[hp]),?_,?_,?_,by simpa[QbQ]using g7⟩
    . intro q hqm;simp only[Ve]at hqm;rcases hqm with rfl|hqm
      . exact hq
      . exact g3 q hqm
    . intro q hqm;simp only[Ve]at hqm;rcases hqm with rfl|hqm
      . exact g4 _ (by simp)
      . exact g5 q hqm
    . intro p hp;rcases g8 p hp with h|⟨q,hqm,h⟩
      . simp only[Ve]at h;rcases h with rfl|h
        . exact .inr ⟨(c.1,c.2,v),by simp,rfl⟩
        . exact .inl h
      . exact .inr ⟨q,by simp[hqm],h⟩
    . intro k q hk
      cases k with
      |zero=>simp at hk; subst hk; simpa[QbQ]using h1
      |succ k=>simpa[QbQ]using g6 k q (by simpa using hk)
  . exact⟨[],c::r,pend,rfl,.inr ⟨c,r,rfl,by simpa using hq⟩,λq hq=>by simp at hq,λp hp=>hp,λq hq=>by simp at hq,λp hp=>.inl hp,λk q hk=>by simp at hk,h⟩
theorem QeD {listed:Array Bool} {i k:Nat} (hi:i<listed.size):(listed.setIfInBounds i true).getD k false=true↔(k=i\/listed.getD k false=true):=by
 by_cases h:i=k
 . subst h; simp[hi]
 . rw[getD_set_ne false h];constructor
   . exact λh'=>.inr h'
   . rintro(h'|h')
     . exact absurd h'.symm h
     . exact h'
theorem QmS {listed:Array Bool} {i:Nat} (h:i<listed.size):listed.getD i true=listed.getD i false:=by
 simp[VM,VT h]
theorem QrG {ops:Array Oper} {Q:Exit->Act->ZM->Prop} {i:Nat} {o:Oper} {a:Act} {w:ZM} {next:Act->ZM->Prop} (ho:ops[i]? = some o) (h:Qf8 P ops o a w next Q):Qb7 P ops Q i next a w:=by
 unfold Qb7;rw[ho];simp only;unfold Qf8 at h;split
 . rename_i hw; rw[Zn hw]at h; exact h
 . rename_i hw; rw[Zm hw]at h; exact h
theorem Qwo {ops:Array Oper} (hedge:∀ i o,ops[i]? = some o->∀ e∈o.after.toList,Region.binds .any e=true->e.on<i) {listed:Array Bool} (hsz:listed.size=ops.size) (hr:Region.ready .any ops listed=[]) :
 ∀ i,i<ops.size->listed.getD i false=true:=by
 intro i
 induction i using Nat.strongRecOn with
 |_ i ih =>
  intro hi
  cases h:listed.getD i false with
  |true=>rfl
  |false =>
   have:i∈Region.ready .any ops listed:=by
    rw[mem_ready];refine⟨by rw[QmS (by omega)]; exact h,ops[i],VT hi,λe he hb => ?_⟩;have:=hedge i ops[i] (VT hi) e (by simpa using he) hb;exact ih e.on this (by omega)
   rw[hr]at this; simp at this
theorem Qrr {ops:Array Oper} {listed:Array Bool} {j:Nat} {o:Oper} (ho:ops[j]? = some o) (hcl:Qg4 ops λt=>listed.getD t false=true)
 (hdeps:∀ e∈o.after,Region.binds .any e=true->listed.getD e.on false=true) {i:Nat} (hb:Qdq (Qbi ops.toList []) i j=true):listed.getD i false=true:=by
 have hlt:j<ops.size:=(V5.1 ho).1;have h4:j<(Qbi ops.toList []).length:=by rw[QmW]; simpa using hlt
 unfold Qdq at hb;rw[VB,Vd h4]at hb;exact QzC hcl j (λo' ho' e hem hb=>by rw[ho]at ho'; cases ho'; exact hdeps e (by simpa using hem) hb) i _ (Vd h4) hb
theorem QwN {ops:Array Oper} {listed:Array Bool} {i j:Nat} {o:Oper} (ho:ops[j]? = some o) (hcl:Qg4 ops λt=>listed.getD t false=true) (hj:listed.getD j false=true)
 (hb:Qdq (Qbi ops.toList []) i j=true):listed.getD i false=true :=
 Qrr ho hcl (λe he hb=>hcl j o hj ho e (by simpa using he) hb) hb
theorem Qmb {N:Nat} {ops:Array Oper} {C:List CI} (hd:DC ops C) (hchk:∀ x∈C,∃ o,ops[x.1]? = some o/\Qdy P N ops o x.2=true) {listed:Array Bool} (hcl:Qg4 ops λt=>listed.getD t false=true) :
 ∀ (pend:List (Ins×SV)) (ts:List Nat),(∀ p∈pend,∃ i,(i,p.1)∈C)->(∀ t∈ts,∀ y∈C,y.2.d=some t->listed.getD y.1 false=true) ->
  ∀ s∈QfS ts pend,∀ y∈C,y.2.d=some s->listed.getD y.1 false=true
 |[],ts,_,h=>h
 | (p,v)::r,ts,hp,h=>by
  unfold QfS;by_cases hm:QfZ ts p.d=true
  . rw[Zn hm];refine Qmb hd hchk hcl r _ (λq hq=>hp q (by simp[hq])) ?_;intro t ht y hy hyd;rcases Vq.1 ht with ht|ht
    . obtain⟨i,hi⟩:=hp (p,v) (by simp);obtain⟨o,ho,_⟩:=hchk _ hi
      cases hpd:p.d with
      |none=>rw[hpd]at hm; simp[QfZ]at hm
      |some d =>
       rw[hpd]at hm;simp only[QfZ]at hm;have h1:=h d (by simpa using hm) (i,p) hi hpd;exact QwN ho hcl h1 (hd.dep y hy (i,p) hi t hyd ht)
    . exact h t ht y hy hyd
  . rw[Zm hm];exact Qmb hd hchk hcl r ts (λq hq=>hp q (by simp[hq])) h
theorem QBh {N:Nat} {ops:Array Oper} {C:List CI} {S:St} {db:DB} {K:ZF} (hd:DC ops C) (hchk:∀ x∈C,∃ o,ops[x.1]? = some o/\Qdy P N ops o x.2=true) :
 ∀ (fuel:Nat) (listed:Array Bool) (S':St) (a:Act) (Qs:List QI) (Ef:Env) (pend:List (Ins×SV)) (rest:List CI),
 rest.length+(Qs.filter (unl listed)).length<=fuel->listed.size=ops.size->(Qg4 ops λt=>listed.getD t false=true) ->
 (∀ q∈Qs,(q.1,q.2.1)∈C)->(∀ r∈rest,r∈C) ->
 (∀ i,i<ops.size->listed.getD i false=false->(∃ q∈Qs,q.1=i)\/∃ r∈rest,r.1=i) ->
 (∀ r∈rest,listed.getD r.1 false=false) ->
 (rest.Pairwise λx y=>(∀ d,y.2.d=some d->d∉x.2.slots)/\(x.2.j.quiet=false->Qdq (Qbi ops.toList []) x.1 y.1=true)/\x.1≠y.1) ->
 (rest=[]\/∃ c r,rest=c::r/\c.2.j.quiet=false) ->
 (∀ q∈Qs,∀ r∈rest,(∀ d,r.2.d=some d->d∉q.2.1.slots)/\q.1≠r.1) ->
 (∀ q∈Qs,∀ q'∈Qs,q.1=q'.1->q=q')->(∀ q∈Qs,q.2.1.j.quiet=true) ->
 (∀ q∈Qs,∀ d,q.2.1.d=some d->Ef.get d=q.2.2) ->
 (∀ q∈Qs,listed.getD q.1 false=false->QbI P q.2.1 Ef S'.H q.2.2) ->
 (∀ q∈Qs,(q.2.1,q.2.2)∈pend)->(∀ p∈pend,∃ i,(i,p.1)∈C) ->
 Ext S.H.length S S'->Sim S'->QD S' (Qew (Qs.filter (unl listed)) Ef) a.tmps->a.tmps.size=N->db.Ok S'.w a.defers ->
 xd P pend (rest.map (·.2)) Ef S'.H K->Qcb P .any ops (Qav S N db K) fuel listed a S'.w:=by
 intro fuel
 induction fuel with
 |zero =>
  intro listed S' a Qs Ef pend rest hf hsz hcl hQC hrC hcov hrl hpw hhead hqr hqn hqq hval hqv hpend hpC he hS henv hN hdf hx;obtain rfl:rest=[]:=VJ (by omega);have hun:Qs.filter (unl listed)=[]:=VJ (by omega);have hall:∀ i,i<ops.size->listed.getD i false=true:=by
   intro i hi
   cases h:listed.getD i false with
   |true=>rfl
   |false =>
    rcases hcov i hi h with ⟨q,hq,rfl⟩|⟨r,hr,_⟩
    . have:q∈Qs.filter (unl listed):=by rw[V6]; exact⟨hq,by simp[unl]; simpa using h⟩
      rw[hun]at this; simp at this
    . simp at hr
  rw[hun]at henv;refine⟨?_,⟨.normal,Ef,S'.ρ,S'.H,Zo,he,hS,henv,hN,hdf,hx⟩⟩;rw[List.eq_nil_iff_forall_not_mem];intro i hi;rw[mem_ready]at hi;obtain⟨h1,o,ho,_⟩:=hi;have hlt:i<ops.size:=(V5.1 ho).1;rw[QmS (by omega),hall i hlt]at h1; cases h1
 |succ fuel ih =>
  intro listed S' a Qs Ef pend rest hf hsz hcl hQC hrC hcov hrl hpw hhead hqr hqn hqq hval hqv hpend hpC he hS henv hN hdf hx;refine⟨λhr => ?_,λj hj => ?_⟩
  . have hall:=Qwo hd.edge hsz hr;have hrest:rest=[]:=by
     cases rest with
     |nil=>rfl
     |cons c r =>
      obtain⟨o,ho,_⟩:=hchk c (hrC c (by simp));have h1:=hrl c (by simp);rw[hall c.1 (V5.1 ho).1]at h1; cases h1
    subst hrest;have hun:Qs.filter (unl listed)=[]:=by
     rw[List.filter_eq_nil_iff];intro q hq hu;obtain⟨o,ho,_⟩:=hchk _ (hQC q hq);have:=hall q.1 (V5.1 ho).1;have e:unl listed q=false:=by unfold unl; rw[this]; rfl
     rw[e]at hu; cases hu
    rw[hun]at henv;exact⟨.normal,Ef,S'.ρ,S'.H,Zo,he,hS,henv,hN,hdf,hx⟩
  . rw[mem_ready]at hj;obtain⟨g1,o,ho,hdeps⟩:=hj;have hlt:j<ops.size:=(V5.1 ho).1;rw[QmS (by omega)]at g1;have before:=λ(i:Nat)=>Qrr (i:=i) ho hcl hdeps;have hjs:j<listed.size:=by omega
    have hset:∀ k,(listed.setIfInBounds j true).getD k false=false->listed.getD k false=false:=by
     intro k hk
     cases h:listed.getD k false with
     |false=>rfl
     |true=>rw[(QeD (k:=k) hjs).2 (.inr h)]at hk; cases hk
    have hclosed':Qg4 ops λt=>(listed.setIfInBounds j true).getD t false=true:=by
     intro i p hi hp e hem hb;rw[QeD hjs]at hi ⊢;rcases hi with rfl|hi
     . rw[ho]at hp; cases hp; exact .inr (hdeps e (by simpa using hem) hb)
     . exact .inr (hcl i p hi hp e hem hb)
    rcases hcov j hlt g1 with ⟨q,hq,rfl⟩|⟨c,hc,rfl⟩
    . -- a quiet operation
      obtain⟨o',ho',hci⟩:=hchk _ (hQC q hq);rw[ho]at ho'; cases ho'
      have hm:∀ t∈q.2.1.slots,(Qew (Qs.filter (unl listed)) Ef).get t=Ef.get t:=by
       intro t ht;refine QeI λq' hq' hd' => ?_;rw[V6]at hq';have h1:=before q'.1 (hd.dep _ (hQC q' hq'.1) _ (hQC q hq) t hd' ht);have h2:=hq'.2;simp only[unl,VI]at h2;rw[h1]at h2; cases h2
      have hq1:=Qhy (hqv q hq g1) hm;have hxo:xo P q.2.1 (Qew (Qs.filter (unl listed)) Ef) S'.H (λx env' H'=>x=.normal/\env'=(Qew (Qs.filter (unl listed)) Ef).put q.2.1.d q.2.2/\H'=S'.H):=QyU hq1 ⟨rfl,rfl,rfl⟩;refine QrG ho (QiB hS henv hN hdf hci hxo ?_ ?_)
      . rintro a' w' ⟨x,env',ρ',H',hx',hext,hsim,henv',hN',hdf',hxn,rfl,rfl⟩;refine ih _ ⟨ρ',S'.H,w'⟩ a' Qs Ef pend rest ?_ (by simpa using hsz) hclosed' hQC hrC (λi hi h=>hcov i hi (hset i h)) ?_ hpw hhead hqr hqn hqq hval
         (λq' hq' h=>hqv q' hq' (hset _ h)) hpend hpC (he.trans (hext.mono (he.len (Vb _)))) hsim ?_ hN' hdf' hx
        . have:=Qr9 (p:=unl listed) (q:=unl (listed.setIfInBounds q.1 true)) Qs (by
           intro q' _ h;simp only[unl,VI]at h ⊢;exact hset _ h) q hq (by simp only[unl,g1]; rfl) (by
           simp only[unl,Bool.not_eq_false'];exact(QeD hjs).2 (.inl rfl))
          omega
        . intro r hr;have h1:=hrl r hr
          cases h:(listed.setIfInBounds q.1 true).getD r.1 false with
          |false=>rfl
          |true =>
           rw[QeD hjs]at h;rcases h with h|h
           . exact absurd h.symm (hqr q hq r hr).2
           . rw[h1]at h; cases h
        . refine henv'.congr λt => ?_;by_cases hun:∃ q'∈Qs.filter (unl (listed.setIfInBounds q.1 true)),q'.2.1.d=some t
          . exact .inl (QhU hun)
          . right;rw[QeI (λq' hq' h=>hun ⟨q',hq',h⟩)];by_cases h2:q.2.1.d=some t
            . rw[h2,Qku]; exact hval q hq t h2
            . rw[Qgy h2,QeI];intro q' hq' h3;apply hun;refine⟨q',?_,h3⟩;rw[V6]at hq' ⊢;refine⟨hq'.1,?_⟩;have h4:=hq'.2;simp only[unl,VI]at h4 ⊢
              cases h5:(listed.setIfInBounds q.1 true).getD q'.1 false with
              |false=>rfl
              |true =>
               rw[QeD hjs]at h5;rcases h5 with h5|h5
               . have:=hqn q' hq'.1 q hq h5;subst this; exact absurd h3 h2
               . rw[h4]at h5; cases h5
      . rintro ch a' w' ⟨x,env',ρ',H',hx',hext,hsim,henv',hN',hdf',hxn,_⟩;subst hxn;simp only[ER]at hx'
    . -- the next write
      have hhd:∃ r,rest=c::r:=by
       rcases hhead with rfl|⟨c',r,rfl,hq'⟩
       . simp at hc
       . simp only[Ve]at hc;rcases hc with rfl|hc
         . exact⟨r,rfl⟩
         . rw[List.pairwise_cons]at hpw;have h1:=before c'.1 ((hpw.1 c hc).2.1 hq');rw[hrl c' (by simp)]at h1; cases h1
      obtain⟨r,rfl⟩:=hhd;have hcq:c.2.j.quiet=false:=by
       rcases hhead with h|⟨c',r',h,hq'⟩
       . cases h
       . cases h; exact hq'
      obtain⟨o',ho',hci⟩:=hchk c (hrC c (by simp));rw[ho]at ho'; cases ho'
      rw[List.pairwise_cons]at hpw;have hm:∀ t∈c.2.slots,(Qew (Qs.filter (unl listed)) Ef).get t=Ef.get t:=by
       intro t ht;refine QeI λq' hq' hd' => ?_;rw[V6]at hq';have h1:=before q'.1 (hd.dep _ (hQC q' hq'.1) _ (hrC c (by simp)) t hd' ht);have h2:=hq'.2;simp only[unl,VI]at h2;rw[h1]at h2; cases h2
      simp only[Vn,xd]at hx;rw[Zm (by simp[hcq])]at hx;have hxo:=Qym hcq hm hx;refine QrG ho (QiB hS henv hN hdf hci hxo ?_ ?_)
      . rintro a' w' ⟨x,env',ρ',H',hx',hext,hsim,henv',hN',hdf',hk⟩
        cases x<;>simp only[ER]at hx'
        obtain⟨v,rfl,hpv,hxd⟩:=hk;obtain⟨F,rest',pend',f1,f2,f3,f4,f5,f8,f6,f7⟩:=Ql8 r pend _ hxd;subst f1;have hFC:∀ q∈F,(q.1,q.2.1)∈C:=λq hq=>hrC _ (by simp; exact .inr (.inl ⟨q.2.2,hq⟩));have hr'C:∀ y∈rest',y∈C:=λy hy=>hrC _ (by simp[hy]);have hFr:∀ q∈F,(q.1,q.2.1)∈(F.map λq=>(q.1,q.2.1))++rest':=λq hq=>Yq _ (Vy.2 ⟨q,hq,rfl⟩);rw[List.pairwise_append]at hpw;obtain⟨hpc,hpF,hpr,hpFr⟩:=hpw;have hFidx:∀ (i k:Nat) (x y:QI),F[i]? = some x->F[k]? = some y->i<k->(∀ d,y.2.1.d=some d->d∉x.2.1.slots)/\x.1≠y.1:=by
         intro i k x y hx hy hik;rw[List.pairwise_map,Ze]at hpF;have h1:=Qj hx;have h2:=Qj hy;have h3:=hpF i k h1 h2 hik;rw[Vd h1]at hx; cases hx
         rw[Vd h2]at hy; cases hy
         exact⟨h3.1,h3.2.2⟩
        generalize hE1:Ef.put c.2.d v=E1 at *;have getF:∀ (t:Nat),(∀ q∈F,q.2.1.d≠some t)->(QbQ E1 (F.map (·.2.1)) (F.map (·.2.2))).get t=E1.get t:=by
         intro t h;refine Qg1 _ _ _ _ λp hp => ?_;obtain⟨q,hq,rfl⟩:=Vy.1 hp;exact h q hq
        have getF1:∀ q∈F,∀ d,q.2.1.d=some d->(QbQ E1 (F.map (·.2.1)) (F.map (·.2.2))).get d=q.2.2:=by
         intro q hq d hqd;obtain⟨k,hk⟩:=Vw hq;refine Qih _ _ _ d k q.2.1 q.2.2 (by simp[hk]) (by simp[hk]) hqd ?_;intro i p hik hp hpd;simp only[Vp,VZ]at hp;obtain⟨y,hy,rfl⟩:=hp;exact hd.uniq _ (hFC q hq) _ (hFC y (Vs hy)) (hFidx k i q y hk hy hik).2 d hqd hpd
        have hcF:∀ q∈F,c.1≠q.1:=λq hq=>(hpc _ (hFr q hq)).2.2;have hcr':∀ y∈rest',c.1≠y.1:=λy hy=>(hpc _ (Yr _ hy)).2.2;have hlF:∀ q∈F,(listed.setIfInBounds c.1 true).getD q.1 false=false:=by
         intro q hq
         cases h:(listed.setIfInBounds c.1 true).getD q.1 false with
         |false=>rfl
         |true =>
          rw[QeD hjs]at h;rcases h with h|h
          . exact absurd h.symm (hcF q hq)
          . have:=hrl (q.1,q.2.1) (VQ _ (hFr q hq)); rw[this]at h; cases h
        have hQF:∀ q∈Qs,∀ q'∈F,(∀ d,q'.2.1.d=some d->d∉q.2.1.slots)/\q.1≠q'.1:=λq hq q' hq'=>hqr q hq (q'.1,q'.2.1) (VQ _ (hFr q' hq'));have hQc:∀ q∈Qs,(∀ d,c.2.d=some d->d∉q.2.1.slots)/\q.1≠c.1:=λq hq=>hqr q hq c (by simp);refine ih _ ⟨ρ',H',w'⟩ a' (Qs++F) (QbQ E1 (F.map (·.2.1)) (F.map (·.2.2))) pend' rest' ?_ (by simpa using hsz) hclosed' ?_ hr'C ?_ ?_ hpr f2 ?_ ?_ ?_ ?_ ?_ ?_ ?_
         (he.trans (hext.mono (he.len (Vb _)))) hsim ?_ hN' hdf' f7
        . -- fuel
          have h1:((Qs++F).filter (unl (listed.setIfInBounds c.1 true))).length<=(Qs.filter (unl listed)).length+F.length:=by
           rw[List.filter_append,Vj];have h2:=Zg (unl (listed.setIfInBounds c.1 true)) F;have h3:(Qs.filter (unl (listed.setIfInBounds c.1 true))).length<=(Qs.filter (unl listed)).length:=by
            have:Qs.filter (unl (listed.setIfInBounds c.1 true))=(Qs.filter (unl listed)).filter (unl (listed.setIfInBounds c.1 true)):=by
             rw[List.filter_filter];refine List.filter_congr λq _ => ?_;simp only[unl]
             cases h:(listed.setIfInBounds c.1 true).getD q.1 false with
             |true=>rfl
             |false=>rw[hset _ h]; rfl
            rw[this]; exact Zg _ _
           omega
          simp only[Vh,Vj,Yf]at hf;omega
        . intro q hq;rcases Vq.1 hq with hq|hq
          . exact hQC q hq
          . exact hFC q hq
        . intro i hi h;have h0:=hset i h;rcases hcov i hi h0 with ⟨q,hq,rfl⟩|⟨y,hy,rfl⟩
          . exact .inl ⟨q,Yq _ hq,rfl⟩
          . simp only[Ve,Vq,Vy]at hy;rcases hy with rfl|⟨q,hq,rfl⟩|hy
            . rw[(QeD (k:=y.1) hjs).2 (.inl rfl)]at h; cases h
            . exact .inl ⟨q,Yr _ hq,rfl⟩
            . exact .inr ⟨y,hy,rfl⟩
        . intro y hy
          cases h:(listed.setIfInBounds c.1 true).getD y.1 false with
          |false=>rfl
          |true =>
           rw[QeD hjs]at h;rcases h with h|h
           . exact absurd h.symm (hcr' y hy)
           . have:=hrl y (VQ _ (Yr _ hy)); rw[this]at h; cases h
        . intro q hq y hy;rcases Vq.1 hq with hq|hq
          . exact hqr q hq y (VQ _ (Yr _ hy))
          . have:=hpFr (q.1,q.2.1) (Vy.2 ⟨q,hq,rfl⟩) y hy;exact⟨this.1,this.2.2⟩
        . intro q hq q' hq' heq;rcases Vq.1 hq with hq|hq<;>rcases Vq.1 hq' with hq'|hq'
          . exact hqn q hq q' hq' heq
          . exact absurd heq (hQF q hq q' hq').2
          . exact absurd heq.symm (hQF q' hq' q hq).2
          . obtain⟨i,hi⟩:=Vw hq;obtain⟨k,hk⟩:=Vw hq';rcases Ys i k with h|h|h
            . exact absurd heq (hFidx i k q q' hi hk h).2
            . subst h; rw[hi]at hk; cases hk; rfl
            . exact absurd heq.symm (hFidx k i q' q hk hi h).2
        . intro q hq;rcases Vq.1 hq with hq|hq
          . exact hqq q hq
          . exact f3 q hq
        . intro q hq d hqd;rcases Vq.1 hq with hq|hq
          . rw[getF d (λq' hq' h=>hd.uniq _ (hQC q hq) _ (hFC q' hq') (hQF q hq q' hq').2 d hqd h),<- hE1,Qgy (λh=>hd.uniq _ (hQC q hq) _ (hrC c (by simp)) (hQc q hq).2 d hqd h)];exact hval q hq d hqd
          . exact getF1 q hq d hqd
        . intro q hq hun;rcases Vq.1 hq with hq|hq
          . have hcg:∀ t∈q.2.1.slots,(QbQ E1 (F.map (·.2.1)) (F.map (·.2.2))).get t=E1.get t:=λt ht=>getF t λq' hq' h=>(hQF q hq q' hq').1 t h ht;refine Qhy ?_ hcg;by_cases hdep:q.2.1.j.dep=true
            . refine hpv _ (hpend q hq) ?_;simp only[QjN,hdep,Bool.true_and,VI];unfold QfZ
              cases hqd:q.2.1.d with
              |none=>rfl
              |some d =>
               simp only
               cases hcn:(QfS c.2.slots pend).contains d with
               |false=>rfl
               |true =>
                have h1:=Qmb hd hchk hcl pend c.2.slots hpC (λt ht y hy hyd=>before y.1 (hd.dep y hy c (hrC c (by simp)) t hyd ht)) d (by simpa using hcn) _ (hQC q hq) hqd;rw[hset _ hun]at h1; cases h1
            . refine Qwx (by simpa using hdep) (Qhy (hqv q hq (hset _ hun)) λt ht => ?_);rw[<-hE1,Qgy (λh=>(hQc q hq).1 t h ht)]
          . obtain⟨k,hk⟩:=Vw hq;refine Qhy (f6 k q hk) λt ht => ?_;by_cases hw:∃ y∈F,y.2.1.d=some t
            . obtain⟨y,hy,hyd⟩:=hw;obtain⟨i,hi⟩:=Vw hy;have hik:i<k:=by
               rcases Ys i k with h|h|h
               . exact h
               . subst h; rw[hi]at hk; cases hk
                 exact absurd ht (hd.self _ (hFC q hq) t hyd)
               . exact absurd ht ((hFidx k i q y hk hi h).1 t hyd)
              rw[getF1 y hy t hyd];refine(Qih _ _ _ t i y.2.1 y.2.2 ?_ ?_ hyd ?_).symm
              . simp only[Vp,VH,Zn hik,hi,VF]
              . simp only[Vp,VH,Zn hik,hi,VF]
              . intro m p him hp hpd;simp only[Vp,VH,VZ]at hp;obtain⟨z,hz,rfl⟩:=hp;split at hz
                . exact hd.uniq _ (hFC y hy) _ (hFC z (Vs hz)) (hFidx i m y z hi hz him).2 t hyd hpd
                . cases hz
            . have hw':∀ y∈F,y.2.1.d≠some t:=λy hy h=>hw ⟨y,hy,h⟩;rw[getF t hw'];refine(Qg1 _ _ _ _ λp hp => ?_).symm;obtain⟨z,hz,rfl⟩:=Vy.1 hp;exact hw' z (Ye hz)
        . intro q hq;rcases Vq.1 hq with hq|hq
          . exact f4 _ (hpend q hq)
          . exact f5 q hq
        . intro p hp;rcases f8 p hp with h|⟨q,hq,h⟩
          . exact hpC p h
          . exact⟨q.1,by rw[h]; exact hFC q hq⟩
        . refine henv'.congr λt => ?_;by_cases hun:∃ q'∈(Qs++F).filter (unl (listed.setIfInBounds c.1 true)),q'.2.1.d=some t
          . exact .inl (QhU hun)
          . right;rw[QeI (λq' hq' h=>hun ⟨q',hq',h⟩)];have hnF:∀ q∈F,q.2.1.d≠some t:=by
             intro q hq h;exact hun ⟨q,by rw[V6]; exact⟨Yr _ hq,by simp only[unl,hlF q hq]; rfl⟩,h⟩
            rw[getF t hnF,<- hE1];by_cases h2:c.2.d=some t
            . rw[h2,Qku,Qku]
            . rw[Qgy h2,Qgy h2,QeI];intro q' hq' h3;apply hun;refine⟨q',?_,h3⟩;rw[V6]at hq' ⊢;refine⟨Yq _ hq'.1,?_⟩;have h4:=hq'.2;simp only[unl,VI]at h4 ⊢
              cases h5:(listed.setIfInBounds c.1 true).getD q'.1 false with
              |false=>rfl
              |true =>
               rw[QeD hjs]at h5;rcases h5 with h5|h5
               . exact absurd h5 (hQc q' hq'.1).2
               . rw[h4]at h5; cases h5
      . rintro ch a' w' ⟨x,env',ρ',H',hx',hext,hsim,henv',hN',hdf',hk⟩
        cases x<;>simp only[ER]at hx'
        exact⟨.panic _,[],ρ',H',hx',he.trans (hext.mono (he.len (Vb _))),hsim,⟨λt=>.any _⟩,hN',hdf',hk⟩
theorem Quk {P:ZL}:DOk0 P QgI:=by
 intro N ops ns l env H K hc hdr hx db S a hH hS he hN hdf;subst hH;obtain⟨hd,hpw⟩:=QyB hdr;have hlen:ns.length=l.length/\l.length=ops.size:=by
  unfold QgI at hdr;simp only[Va,Zr]at hdr;exact⟨hdr.1.1.1.2,hdr.1.1.1.1⟩
 have hsnd:(ns.zip l).map (·.2)=l:=by rw[List.map_snd_zip]; omega
 have hchk:∀ x∈ns.zip l,∃ o,ops[x.1]? = some o/\Qdy P N ops o x.2=true:=by
  intro x hx;unfold QeL at hc;rw[Vm]at hc;have:=hc x hx;split at this
  . rename_i o ho; exact⟨o,ho,this⟩
  . cases this
 have hnone:∀ i,(Array.replicate ops.size false).getD i false=false:=by
  intro i;rw[VM,Zd];split<;>rfl
 have hE:=Qjr (S:=S) (w':=S.w.drew) rfl rfl rfl rfl;have hS':=Ql3 hS (w':=S.w.drew) rfl rfl rfl rfl;obtain⟨F,rest',pend',f1,f2,f3,f4,f5,f8,f6,f7⟩:=Ql8 (ns.zip l) [] env (by rw[hsnd]; exact hx);have hFC:∀ q∈F,(q.1,q.2.1)∈ns.zip l:=λq hq=>by rw[f1]; exact Yq _ (Vy.2 ⟨q,hq,rfl⟩)
 have hr'C:∀ y∈rest',y∈ns.zip l:=λy hy=>by rw[f1]; exact Yr _ hy
 rw[f1,List.pairwise_append]at hpw;obtain⟨hpF,hpr,hpFr⟩:=hpw;have hFidx:∀ (i k:Nat) (x y:QI),F[i]? = some x->F[k]? = some y->i<k->(∀ d,y.2.1.d=some d->d∉x.2.1.slots)/\x.1≠y.1:=by
  intro i k x y hx hy hik;rw[List.pairwise_map,Ze]at hpF;have h1:=Qj hx;have h2:=Qj hy;have h3:=hpF i k h1 h2 hik;rw[Vd h1]at hx; cases hx
  rw[Vd h2]at hy; cases hy
  exact⟨h3.1,h3.2.2⟩
 have getF:∀ (t:Nat),(∀ q∈F,q.2.1.d≠some t)->(QbQ env (F.map (·.2.1)) (F.map (·.2.2))).get t=env.get t:=by
  intro t h;refine Qg1 _ _ _ _ λp hp => ?_;obtain⟨q,hq,rfl⟩:=Vy.1 hp;exact h q hq
 have getF1:∀ q∈F,∀ d,q.2.1.d=some d->(QbQ env (F.map (·.2.1)) (F.map (·.2.2))).get d=q.2.2:=by
  intro q hq d hqd;obtain⟨k,hk⟩:=Vw hq;refine Qih _ _ _ d k q.2.1 q.2.2 (by simp[hk]) (by simp[hk]) hqd ?_;intro i p hik hp hpd;simp only[Vp,VZ]at hp;obtain⟨y,hy,rfl⟩:=hp;exact hd.uniq _ (hFC q hq) _ (hFC y (Vs hy)) (hFidx k i q y hk hy hik).2 d hqd hpd
 refine QBh hd hchk ops.size (Array.replicate ops.size false) ⟨S.ρ,S.H,S.w.drew⟩ a F (QbQ env (F.map (·.2.1)) (F.map (·.2.2))) pend' rest' ?_ (by simp) ?_ hFC hr'C ?_ (λr _=>hnone _) hpr f2 ?_ ?_ f3 getF1 ?_ f5 (λp hp=>by
  rcases f8 p hp with h|⟨q,hq,h⟩
  . simp at h
  . exact⟨q.1,by rw[h]; exact hFC q hq⟩)
  hE hS' ?_ hN hdf.drew f7
 . have h1:=Zg (unl (Array.replicate ops.size false)) F;have h2:(ns.zip l).length=ops.size:=by rw[List.length_zip]; omega
   rw[f1]at h2;simp at h2; omega
 . intro j o hj;simp only[hnone]at hj; cases hj
 . intro i hi _;obtain⟨x,hx,rfl⟩:=hd.cov i hi;rw[f1,Vq,Vy]at hx;rcases hx with ⟨q,hq,rfl⟩|hx
   . exact .inl ⟨q,hq,rfl⟩
   . exact .inr ⟨x,hx,rfl⟩
 . intro q hq y hy;have:=hpFr (q.1,q.2.1) (Vy.2 ⟨q,hq,rfl⟩) y hy;exact⟨this.1,this.2.2⟩
 . intro q hq q' hq' heq;obtain⟨i,hi⟩:=Vw hq;obtain⟨k,hk⟩:=Vw hq';rcases Ys i k with h|h|h
   . exact absurd heq (hFidx i k q q' hi hk h).2
   . subst h; rw[hi]at hk; cases hk; rfl
   . exact absurd heq.symm (hFidx k i q' q hk hi h).2
 . intro q hq _;obtain⟨k,hk⟩:=Vw hq;refine Qhy (f6 k q hk) λt ht => ?_;by_cases hw:∃ y∈F,y.2.1.d=some t
   . obtain⟨y,hy,hyd⟩:=hw;obtain⟨i,hi⟩:=Vw hy;have hik:i<k:=by
      rcases Ys i k with h|h|h
      . exact h
      . subst h; rw[hi]at hk; cases hk
        exact absurd ht (hd.self _ (hFC q hq) t hyd)
      . exact absurd ht ((hFidx k i q y hk hi h).1 t hyd)
     rw[getF1 y hy t hyd];refine(Qih _ _ _ t i y.2.1 y.2.2 ?_ ?_ hyd ?_).symm
     . simp only[Vp,VH,Zn hik,hi,VF]
     . simp only[Vp,VH,Zn hik,hi,VF]
     . intro m p him hp hpd;simp only[Vp,VH,VZ]at hp;obtain⟨z,hz,rfl⟩:=hp;split at hz
       . exact hd.uniq _ (hFC y hy) _ (hFC z (Vs hz)) (hFidx i m y z hi hz him).2 t hyd hpd
       . cases hz
   . have hw':∀ y∈F,y.2.1.d≠some t:=λy hy h=>hw ⟨y,hy,h⟩;rw[getF t hw'];refine(Qg1 _ _ _ _ λp hp => ?_).symm;obtain⟨z,hz,rfl⟩:=Vy.1 hp;exact hw' z (Ye hz)
 . refine(he.ext hE).congr λt => ?_;by_cases hw:∃ y∈F,y.2.1.d=some t
   . left;obtain⟨y,hy,hyd⟩:=hw;exact QhU ⟨y,by rw[V6]; exact⟨hy,by simp only[unl,hnone]; rfl⟩,hyd⟩
   . right;have hw':∀ y∈F,y.2.1.d≠some t:=λy hy h=>hw ⟨y,hy,h⟩;rw[QeI (λq hq=>hw' q (V6.1 hq).1),getF t hw']
end
end
section
variable [QN] [QG] [Qr]
theorem QxO (n:Nat) (o:Ins):(o.rs n).slots=o.slots:=by
 obtain⟨d,g,j⟩:=o
 cases j with
 |e i=>cases i<;>rfl
 |_=>rfl
theorem QwS (n:Nat) (o:Ins):(o.rs n).j.quiet=o.j.quiet:=by
 obtain⟨d,g,j⟩:=o
 cases j<;>rfl
theorem d_rs (n:Nat) (o:Ins):(o.rs n).d=o.d:=rfl
def Qha (free:Ins->Bool) (ops:Array Oper) (ns:List Nat) (l:List Ins):Bool :=
 let B:=Qbi ops.toList []
 let n:=l.length
 let L:=ns.zip l
 (n==ops.size)&&(ns.length==n)&&((List.range n).all λi=>ns.contains i) &&
 ((List.range n).all λi=>((ops.getD i default).after.toList.all λe => !Region.binds .any e||decide (e.on<i))) &&
 (L.zipIdx.all λx=>L.zipIdx.all λy =>
  (match x.1.2.d with
   |none=>true
   |some d=>(x.2==y.2||y.1.2.d != some d)&&(!y.1.2.slots.contains d||(Qdq B x.1.1 y.1.1&&decide (x.2<y.2)))) &&
  (free x.1.2||decide (y.2<=x.2)||Qdq B x.1.1 y.1.1)&&(x.2==y.2||x.1.1 != y.1.1))
theorem Qyn {free:Ins->Bool} (n:Nat) (hf:∀ o,free (Ins.rs n o)=free o) {ops:Array Oper} {ns:List Nat} {l:List Ins} (h:Qha free ops ns l=true):Qha free ops ns (l.map (Ins.rs n))=true:=by
 have e:Qha free ops ns (l.map (Ins.rs n))=Qha free ops ns l:=by
  unfold Qha;simp only[Yf,List.zip_map_right,List.zipIdx_map,List.all_map,Function.comp_def,Prod.map_fst,Prod.map_snd,id_eq,d_rs,QxO,hf]
 rw[e]; exact h
theorem Qwg (ops:Array Oper) (ns:List Nat) (l:List Ins):QgI ops ns l=Qha (λo=>o.j.quiet) ops ns l:=rfl
def Qf (ops:Array Oper) (ns:List Nat) (l:List Ins):Bool:=QgI ops ns l
theorem QbW {P:ZL} (hm:P.follows .mixedOrders=true):DOk P Qf where
 rs:=by
  intro n ops m l h;unfold Qf at h ⊢;rw[Qwg]at h ⊢; exact Qyn n (λo=>QwS n o) h
 mixed:=hm
 ok:=λN ops m l env H K hc h hx=>Quk N ops m l env H K hc h hx
end
section
variable [QN] [QG] [Qr]
def Qdv (P:ZL) (D:Array Oper->List Nat->List Ins->Bool) (fn:Func) (i:IC) (rs:List RS):Bool :=
 (match fn.body with | some c => QW P fn.ntmps D c i | none => false) && !(fn.name == "runtime.NumGoroutine") && Qcx P fn.results.toList rs && decide (fn.params.size + fn.nfree <= fn.ntmps)
theorem Qz {P:ZL} (hm:P.follows .mixedOrders=true) {f:ZN} {fn:Func} {i:IC} {rs:List RS} (hf:P.funcs[f]? = some fn) (hc:Qdv P Qf fn i rs=true)
 {args:ZH} {H:ZG} {out:Out} {H':ZG} (hn:args.length=fn.params.size+fn.nfree)
 (hx:closed H->X P fn.ntmps Qf i (Qce args) H (Fin H.length rs out H')):Ok P f args H out H':=by
 unfold Qdv at hc;rw[Va,Va,Va]at hc;obtain⟨⟨⟨h1,h2⟩,h3⟩,h4⟩:=hc;split at h1
 . rename_i c hb;exact QwW (QbW hm) hf hb (by simpa using h2) (by rw[hn]; simpa using h4) h1 h3 hx
 . cases h1
theorem Qa8 {P:ZL} (hm:P.follows .mixedOrders=true) {f:ZN} {fn:Func} {i:IC} {rs:List RS} (hf:P.funcs[f]? = some fn) (hc:Qdv P Qf fn i rs=true)
 {args:ZH} {H:ZG} {Pt:Out->ZG->Prop} (hn:args.length=fn.params.size+fn.nfree)
 (hx:closed H->X P fn.ntmps Qf i (Qce args) H (FinP H.length rs Pt)):OkP P f args H Pt:=by
 unfold Qdv at hc;rw[Va,Va,Va]at hc;obtain⟨⟨⟨h1,h2⟩,h3⟩,h4⟩:=hc;split at h1
 . rename_i c hb;exact QA9 (QbW hm) hf hb (by simpa using h2) (by rw[hn]; simpa using h4) h1 h3 hx
 . cases h1
theorem QvV {P:ZL} (hm:P.follows .mixedOrders=true) {N:Nat} {i:IC} {env:Env} {H:ZG} {K:ZF}
 (h:X P N Qf i env H λx env H=>match x with|.normal=>LI P N Qf i env H K|x=>K x env H):LI P N Qf i env H K:=LI.round (QbW hm) h
theorem Qtr (n:Int):(i64 n).isI .i64=true:=rfl
theorem Qyx (n:Int):(i64 n).int=n:=rfl
theorem Qt5 (n:Int):(i64 n).isN=true:=rfl
theorem Qzh (b:Bool):(bl b).isB=true:=rfl
theorem Quy (b:Bool):(bl b).bool=b:=rfl
theorem QzT (n:Int):(i64 n).ug=i64 n:=rfl
theorem QyV (n:Int):(i64 n).vd=true:=rfl
theorem QvD (b:Bool):(bl b).ug=bl b:=rfl
theorem QAo (b:Bool):(bl b).vd=true:=rfl
theorem Qae {n:Int} (h1 : -9223372036854775808<=n) (h2:n<=9223372036854775807):IntKind.i64.wrap n=n:=by rw[IntKind.wrap_i64]; omega
theorem Qyo (n:Int):SV.val (.int .i64 n)=i64 n:=rfl
theorem QfN (H L:ZG) (k ver:Nat):Qn (H++L) (H.length+k) ver=Qn L k ver:=by
 unfold Qn; rw[Vk (by omega)]; simp
theorem QtU (H L:ZG) (ver:Nat):Qn (H++L) H.length ver=Qn L 0 ver:=QfN H L 0 ver
theorem QkC (H L:ZG) (k:Nat) (f:AO->AO):setObj (H++L) (H.length+k) f=H++setObj L k f:=by
 unfold setObj;rw[Vk (by omega)];have:H.length+k-H.length=k:=by omega
 rw[this]
 cases L[k]? with
 |none=>rfl
 |some o=>simp
theorem QA8 (H L:ZG) (f:AO->AO):setObj (H++L) H.length f=H++setObj L 0 f:=QkC H L 0 f
end
section
variable [QN] [QG] [Qr]
theorem QBq {n0:Nat} {H1 H0 L:ZG} {r:SV} (d:Nat) (ks:List Nat) (h:H1=H0++L) (hn:n0<=H0.length) (hcl:closed H0) (hk:Qcn H0.length ks L d ks) :
 Cv n0 r H1 (r.fz H0.length ks L d) (H0++Qeo H0.length ks L d):=by
 intro S v hS hsim hv;subst h;exact⟨_,(QfI hS hk).mono hn,QtN hsim hS hcl hk,Qmy hsim hS hk d (Vb _) r v hv⟩
theorem QuA {n0:Nat} {H1 H0 L:ZG} {r:SV} (d:Nat) (h:H1=H0++L) (hn:n0<=H0.length) (hcl:closed H0):Cv n0 r H1 (r.fz H0.length [] L d) H0:=by
 have:=QBq (r:=r) d [] h hn hcl Zo;simpa[Qeo]using this
end
section
variable [QN] [QG] [Qr]
section
variable {P:ZL} {N:Nat}
def Env.puts (e:Env):List Nat->ZH->Env
 |p::ps,v::vs=>Env.puts ((p,v)::e) ps vs
 |_,_=>e
theorem Env.puts_rel {S:St}:∀ (ps:List Nat) (l:ZH) (vs:ZI) (e:Env) (tmps:Array Value),QD S e tmps->VRs S l vs->(∀ p∈ps,p<tmps.size) ->
 QD S (e.puts ps l) ((ps.zip vs).foldl (λt (x:Nat×Value)=>t.setIfInBounds x.1 x.2) tmps)
 |[],_,_,e,tmps,h,_,_=>by simpa[Env.puts]using h
 |p::ps,[],vs,e,tmps,h,hv,_=>by
  have:vs=[]:=VJ (by simpa using hv.1);subst this; simpa[Env.puts]using h
 |p::ps,v::l,[],e,tmps,h,hv,_=>by have:=hv.1; simp at this
 |p::ps,v::l,u::vs,e,tmps,h,hv,hp=>by
  simp only[Env.puts,List.zip_cons_cons,Yz];have h1:VR S v u:=hv.2 0 v u rfl rfl;have h2:VRs S l vs:=⟨by simpa using hv.1,λj s w h3 h4=>hv.2 (j+1) s w (by simpa using h3) (by simpa using h4)⟩;refine Env.puts_rel ps l vs _ _ ?_ h2 (λq hq=>by simpa using hp q (by simp[hq]));have h3:=QD.put (a:=⟨tmps,[]⟩) (d:=some p) (v:=u) (s:=v) h (λt ht=>by cases ht; exact hp p (by simp)) h1;simpa[Env.put,Act.put]using h3
theorem Env.of_vals {S:St} {e:Env} {N:Nat} {tmps:Array Value} (h:VRs S (e.vals N) tmps.toList) (he:(e.all λp=>decide (p.1<N))=true):QD S e tmps:=by
 refine⟨λt => ?_⟩;have hN:tmps.size=N:=by have:=h.1; simpa[Env.vals]using this
 by_cases ht:t<N
 . have h1:(e.vals N)[t]? = some (e.get t):=by simp[Env.vals,Yy ht]
   obtain⟨u,h2,h3⟩:=h.get h1;rw[VM];have:tmps[t]? = some u:=by simpa using h2
   rw[this]; exact h3
 . have:e.get t=.any:=by
    clear h
    induction e with
    |nil=>rfl
    |cons p r ih =>
     simp only[YO,Va,Zq]at he;simp only[Env.get];rw[Zm (by omega)];exact ih he.2
   rw[this]; exact .any _
def Qlv (P:ZL) (N kk:Nat) (ps:List Nat) (ia ib:IC) (i n0:Nat) (Pt:Out->ZG->Prop) (x:XE) (_:Env) (H:ZG):Prop :=
 ∃ cs,H[i]? = some (lpo P N Qf kk ps ia ib cs .busy)/\∃ (st:LSt) (b:Bool) (H':ZG),
  (match x with
   |.normal=>st=.ready/\b=true
   |.exit id=>st=.exit id/\b=false
   |.goto l=>st=.goto l/\b=false
   |.ret=>st=.ret/\b=false
   |.panic _=>False)/\Pt (.ret (bl b)) H'/\Cv n0 (bl b) (H.set i (lpo P N Qf kk ps ia ib cs st)) (bl b) H'
theorem Qoi {l l':Nat} {S S':St} {i:Nat} {o o':AO} (he:Ext S.H.length S S') (ho:S.H[i]? = some o) (ho':S'.H[i]? = some o') (hv:o.ver=o'.ver) (h:S.ρ i=some l) (h':S'.ρ i=some l'):l'=l:=by
 obtain⟨o1,g1,g2,g3⟩:=he.obj i o (Qj ho) ho;rw[ho']at g1; cases g1
 have:=g3 hv;rw[h,h']at this;exact Option.some.inj this
theorem Qxw (hm:P.follows .mixedOrders=true) {i kk:Nat} {ps:List Nat} {ia ib:IC} {env:Env} {args:ZH} {H:ZG} {Pt:Out->ZG->Prop}
 {cs0:ZH} (ho:H[i]? = some (lpo P N Qf kk ps ia ib cs0 .ready)) (he:∀ (S:St) (tmps:Array Value),VRs S cs0 tmps.toList->QD S env tmps) (hp:(ps.all λp=>decide (p<N))=true) (hl:args.length=ps.length)
 (hx:closed H->X P N Qf ia (env.puts ps args) H λx env1 H1=>x=.normal/\∃ cs,H1[i]? = some (lpo P N Qf kk ps ia ib cs .ready)/\X P N Qf ib env1 (H1.set i (lpo P N Qf kk ps ia ib cs .busy)) (Qlv P N kk ps ia ib i H.length Pt)) :
 YlP P i args H Pt:=by
 refine⟨⟨_,ho,rfl⟩,?_⟩;intro S vs l hH hS hvs hρ;subst hH;obtain⟨l',r,h1,h2,⟨k1,k2,k3,k4⟩,h4,h5⟩:=hS.loop ho;rw[hρ]at h1; cases h1
 have hps:r.params.size=ps.length:=by rw[<-k1]; simp
 have hlen:vs.length=args.length:=hvs.1;refine⟨r,h2,by omega,?_⟩;have htm:(r.params.zip vs.toArray).foldl (λtmps (x:Nat×Value)=>tmps.setIfInBounds x.1 x.2) r.tmps=(ps.zip vs).foldl (λt (x:Nat×Value)=>t.setIfInBounds x.1 x.2) r.tmps:=by
  rw[<-Array.foldl_toList,Array.toList_zip,k1]
 have hall:∀ p∈ps,p<r.tmps.size:=λp hpp=>by rw[Vm]at hp; rw[k2]; simpa using hp p hpp
 have henv:=Env.puts_rel ps args vs env r.tmps (he S r.tmps h5) hvs hall;have hsz:∀ (l:List (Nat×Value)) (t:Array Value),(l.foldl (λt (x:Nat×Value)=>t.setIfInBounds x.1 x.2) t).size=t.size:=by
  intro l
  induction l with
  |nil=>intro t; rfl
  |cons x l ih=>intro t; simp only[Yz]; rw[ih]; simp
 have hdb:(⟨S.w.heap.size,[],some l⟩:DB).Ok S.w []:=⟨Vb _,⟨[],rfl,YF,λD hD=>by simp at hD⟩,λl' hl'=>by cases hl'; exact⟨r,h2⟩⟩;have hW:=Qed (QbW hm) ia k3 (hx hS.closed) ⟨S.w.heap.size,[],some l⟩ S ⟨(ps.zip vs).foldl (λt (x:Nat×Value)=>t.setIfInBounds x.1 x.2) r.tmps,[]⟩ rfl hS henv (by simp only; rw[hsz]; exact k2) hdb;refine roundIn_of_wpIn (F:=Fr none) Zo ?_;rw[show(λtmps (x:Nat×Value)=>tmps.setIfInBounds x.1 x.2)=(λ(t:Array Value) (x:Nat×Value)=>t.setIfInBounds x.1 x.2)from rfl]at htm;rw[show((r.params.zip vs.toArray).foldl (λtmps (t,a)=>tmps.setIfInBounds t a) r.tmps)=(ps.zip vs).foldl (λt (x:Nat×Value)=>t.setIfInBounds x.1 x.2) r.tmps from htm];refine wpIn_mono hW ?_;rintro e a1 w1 ⟨x1,env1,ρ1,H1,g1,g2,g3,g4,g5,g6,rfl,cs,g7,g8⟩
 cases e<;>simp only[ER]at g1
 obtain⟨l1,r1,j1,j2,j3,j4,j5⟩:=g3.loop g7;have hl1:l1=l:=Qoi g2 ho g7 rfl hρ j1;subst hl1;have hbr:=run_beginRound (P:=P) j2 j4.1;obtain⟨e2,s2⟩:=QnR g3 (o':=lpo P N Qf kk ps ia ib cs .busy) (r':={ r1 with state:=.busy }) g7 rfl (by simp[lpo]) j1 j2 rfl (Vb _) (.inr ⟨kk,_,.busy,cs,rfl,j3,rfl,j5⟩);simp only at hbr e2 s2 j2;refine⟨_,hbr,?_⟩;have hW2:=Qed (QbW hm) ib k4 g8 ⟨S.w.heap.size,[],some l1⟩ ⟨ρ1,H1.set i (lpo P N Qf kk ps ia ib cs .busy),w1.putObj l1 (.loop { r1 with state:=.busy })⟩ a1 rfl s2 (g4.ext e2) g5 (g6.ext g3 e2);refine wpIn_mono hW2 ?_;rintro e a3 w3 ⟨x3,env3,ρ3,H3,m1,m2,m3,m4,m5,m6,cs3,m7,st,b,H',m8,m9,m10⟩;obtain⟨l3,r3,q1,q2,q3,q4,q5⟩:=m3.loop m7;have hat2:(⟨ρ1,H1.set i (lpo P N Qf kk ps ia ib cs .busy),w1.putObj l1 (.loop { r1 with state:=.busy })⟩:St).H[i]? = some (lpo P N Qf kk ps ia ib cs .busy):=Vo (Qj g7);have hl3:l3=l1:=Qoi m2 hat2 m7 rfl (show ρ1 i=some l1 from j1) q1;subst hl3;have fin:∀ (jump:Option Code) (x:LoopState) (hx:x=(if jump.isNone then .ready else .done)),jump.isNone=b->Qg2 { r3 with state:=x,pending:=jump } st ->
  ∃ v w',(Instr.endRound l3 jump).run P w3=.ok v w'/\∃ (out:Out) (H':ZG) (v':Value) (ρ':Nat->Option Nat),Pt out H'/\Ext S.H.length S ⟨ρ',H',w'⟩/\Sim ⟨ρ',H',w'⟩ /\
   match out with
   |.ret r=>Ending.returned v=.returned v'/\VR ⟨ρ',H',w'⟩ r v'
   |.pan x=>Ending.returned v=.panicked [{ v:=v',recovered:=false }]/\VR ⟨ρ',H',w'⟩ x v':=by
  intro jump x hx hj hst;have hend:=run_endRound (P:=P) jump q2;rw[<-hx,hj]at hend;obtain⟨e4,s4⟩:=QnR m3 (o':=lpo P N Qf kk ps ia ib cs3 st) (r':={ r3 with state:=x,pending:=jump }) m7 rfl (by simp[lpo]) q1 q2 rfl (Vb _) (.inr ⟨kk,_,st,cs3,rfl,q3,hst,q5⟩);obtain⟨ρ',c1,c2,c3⟩:=m10 _ (.bool b) rfl s4 (.val _);refine⟨_,_,hend,.ret (bl b),H',.bool b,ρ',m9,?_,c2,rfl,c3⟩;exact(g2.trans ((e2.trans ((m2.trans (e4.mono (m2.len (Vb _)))).mono (e2.len (Vb _)))).mono (g2.len (Vb _)))).trans c1
 cases x3<;>cases e<;>simp only[ER]at m1
 . obtain⟨rfl,rfl⟩:=m8; exact fin none .ready rfl rfl ⟨rfl,rfl⟩
 . subst m1; obtain⟨rfl,rfl⟩:=m8; exact fin (some (.exit _)) .done rfl rfl ⟨rfl,rfl⟩
 . subst m1; obtain⟨rfl,rfl⟩:=m8; exact fin (some (.goto _)) .done rfl rfl ⟨rfl,rfl⟩
 . obtain⟨rfl,rfl⟩:=m8; exact fin (some .ret) .done rfl rfl ⟨rfl,rfl⟩
 . exact m8.elim
theorem QzD (hm:P.follows .mixedOrders=true) {i kk:Nat} {ps:List Nat} {ia ib:IC} {env:Env} {args:ZH} {H:ZG} {Pt:Out->ZG->Prop}
 (ho:H[i]? = some (lpo P N Qf kk ps ia ib (env.vals N) .ready)) (he:(env.all λp=>decide (p.1<N))=true) (hp:(ps.all λp=>decide (p<N))=true) (hl:args.length=ps.length)
 (hx:closed H->X P N Qf ia (env.puts ps args) H λx env1 H1=>x=.normal/\∃ cs,H1[i]? = some (lpo P N Qf kk ps ia ib cs .ready)/\X P N Qf ib env1 (H1.set i (lpo P N Qf kk ps ia ib cs .busy)) (Qlv P N kk ps ia ib i H.length Pt)) :
 YlP P i args H Pt:=Qxw hm ho (λS tmps h=>Env.of_vals h he) hp hl hx
end
end
section
variable [QN] [QG] [Qr]
def Ev {α:Type} (v:α):α:=v
@[simp] theorem Ev_eq {α:Type} (v:α):Ev v=v:=Eq.trans rfl rfl
theorem QR {α:Type} {v w:α} (h:Ev v=w):v=w:=h
def Kn (K:ZF) (x:XE) (env:Env) (d:Option Nat) (v:SV) (H:ZG):Prop:=K x (env.put d v) H
@[congr] theorem QEx {K:ZF} {x:XE} {env:Env} {d:Option Nat} {v v':SV} {H H':ZG} (h1:Ev v=v') (h2:Ev H=H'):Kn K x env d v H=Kn K x env d v' H':=by rw[QR h1,QR h2]
@[simp] theorem QCs (K:ZF) (x:XE) (env:Env) (d:Nat) (v:SV) (H:ZG):Kn K x env (some d) v H=K x ((d,v)::env) H:=rfl
@[simp] theorem QD8 (K:ZF) (x:XE) (env:Env) (v:SV) (H:ZG):Kn K x env none v H=K x env H:=rfl
def Ke (K:SV->ZG->Prop) (v:SV) (H:ZG):Prop:=K v H
@[congr] theorem QF6 {K:SV->ZG->Prop} {v v':SV} {H H':ZG} (h1:Ev v=v') (h2:Ev H=H'):Ke K v H=Ke K v' H':=by rw[QR h1,QR h2]
@[simp] theorem Ke_go (K:SV->ZG->Prop) (v:SV) (H:ZG):Ke K v H=K v H:=rfl
section
variable {P:ZL} {N:Nat} {D:Array Oper->List Nat->List Ins->Bool}
@[simp ↓] theorem X_skip (env:Env) (H:ZG) (K:ZF):X P N D .skip env H K=K .normal env H:=rfl
@[simp ↓] theorem X_reg (l:List Ins) (env:Env) (H:ZG) (K:ZF):X P N D (.reg l) env H K=QbF P l env H K:=rfl
@[simp ↓] theorem X_drw (m:List Nat) (l:List Ins) (env:Env) (H:ZG) (K:ZF):X P N D (.drw m l) env H K=xd P [] l env H λx e H' =>
 match x with
 |.normal=>K .normal e H'
 |x=>K x (Qc8 l env) H':=rfl
@[simp] theorem QD3 (e:Env):Qc8 [] e=e:=rfl
@[simp] theorem QBW (i:Ins) (r:List Ins) (e:Env):Qc8 (i::r) e=(Qc8 r e).put i.d .any:=rfl
@[simp ↓] theorem QCh (n0:Nat) (l:List Ins) (env:Env) (H:ZG) (K:ZF):xrt P n0 l [] env H K=True:=rfl
@[simp ↓] theorem QDD (n0:Nat) (l:List Ins) (o:List Nat) (os:List (List Nat)) (env:Env) (H:ZG) (K:ZF):xrt P n0 l (o::os) env H K=(QbF P (QcL n0 l o) env H K/\xrt P n0 l os env H K):=rfl
@[simp ↓] theorem QB4 (n0:Nat) (l:List Ins):QcL n0 l []=[]:=rfl
@[simp ↓] theorem QDB (n0:Nat) (l:List Ins) (i:Nat) (o:List Nat):QcL n0 l (i::o)=(match l[i-n0]? with|some x=>x::QcL n0 l o|none=>QcL n0 l o):=by
 unfold QcL; rw[Zf]; cases l[i-n0]? <;> rfl
@[simp ↓] theorem QBG (l:List Ins) (env:Env) (H:ZG) (K:ZF):xre P l [] env H K=True:=rfl
@[simp ↓] theorem QBA (l:List Ins) (o:List Nat) (os:List (List Nat)) (env:Env) (H:ZG) (K:ZF):xre P l (o::os) env H K=(QbF P (Qm3 l o) env H K/\xre P l os env H K):=rfl
@[simp ↓] theorem QCD (l:List Ins):Qm3 l []=[]:=rfl
@[simp ↓] theorem Qv4 (a b:IC) (env:Env) (H:ZG) (K:ZF):X P N D (.seq a b) env H K=X P N D a env H λx env H =>
 match x with
 |.normal=>X P N D b env H K
 |x=>K x env H:=rfl
@[simp ↓] theorem Qsf (id:Nat) (a:IC) (env:Env) (H:ZG) (K:ZF):X P N D (.blk id a) env H K=X P N D a env H λx env H =>
 match x with
 |.exit i=>if i=id then K .normal env H else K (.exit i) env H
 |x=>K x env H:=rfl
@[simp ↓] theorem X_scp (a:IC) (env:Env) (H:ZG) (K:ZF):X P N D (.scp a) env H K=X P N D a env H λx env H =>
 match x with
 |.goto _=>False
 |x=>K x env H:=rfl
@[simp ↓] theorem X_lab (env:Env) (H:ZG) (K:ZF):X P N D .lab env H K=K .normal env H:=rfl
@[simp ↓] theorem X_exit (id:Nat) (env:Env) (H:ZG) (K:ZF):X P N D (.exit id) env H K=K (.exit id) env H:=rfl
@[simp ↓] theorem X_ret (env:Env) (H:ZG) (K:ZF):X P N D .ret env H K=K .ret env H:=rfl
@[simp ↓] theorem X_keep (ks:List Nat) (a:IC) (env:Env) (H:ZG) (K:ZF):X P N D (.keep ks a) env H K=X P N D a (env.keep ks) H K:=rfl
def Qij (c:SV) (a b:Prop):Prop:=c.isB=true/\if c.bool=true then a else b
@[congr] theorem QGd {c c':SV} {a b:Prop} (h:Ev c=c'):Qij c a b=Qij c' a b:=by rw[QR h]
@[simp] theorem QEh (c:SV) (a b:Prop):Qij c a b=(c.isB=true/\if c.bool=true then a else b):=rfl
@[simp ↓] theorem X_cond (c:Od) (a b:IC) (env:Env) (H:ZG) (K:ZF):X P N D (.cond c a b) env H K=Qij (env.ev c) (X P N D a env H K) (X P N D b env H K):=by
 apply propext;simp only[X,Qij]
 cases (env.ev c).bool<;>simp
def Lp (P:ZL) (N:Nat) (D:Array Oper->List Nat->List Ins->Bool) (i:IC) (env:Env) (H:ZG) (K:ZF):Prop:=LI P N D i env H K
@[congr] theorem QBX {i:IC} {env env':Env} {H H':ZG} {K:ZF} (h:Ev env=env') (h2:Ev H=H'):Lp P N D i env H K=Lp P N D i env' H' K:=by rw[QR h,QR h2]
@[simp ↓] theorem X_loop (i:IC) (env:Env) (H:ZG) (K:ZF):X P N D (.loop i) env H K=Lp P N D i env H K:=rfl
@[simp ↓] theorem QEL (env:Env) (H:ZG) (K:ZF):QbF P [] env H K=K .normal env H:=rfl
@[simp ↓] theorem QEW (o:Ins) (r:List Ins) (env:Env) (H:ZG) (K:ZF):QbF P (o::r) env H K=xo P o env H λx env H =>
 match x with
 |.normal=>QbF P r env H K
 |x=>K x env H:=rfl
def QdS (P:ZL) (f:SV) (args:ZH) (H:ZG) (K:Out->ZG->Prop):Prop:=∃ Pt:Out->ZG->Prop,Qfj P f args H Pt/\∀ out H',Pt out H'->K out H'
@[congr] theorem QDj {f f':SV} {args args':ZH} {H H':ZG} {K:Out->ZG->Prop} (h1:Ev f=f') (h2:Ev args=args') (h3:Ev H=H'):QdS P f args H K=QdS P f' args' H' K:=by rw[QR h1,QR h2,QR h3]
theorem Qqt {k:ZN} {a b args:ZH} {H H':ZG} {out:Out} {K:Out->ZG->Prop} (h:Ok P k (a++args++b) H out H') (hk:K out H'):QdS P (.fn (.func k) a b) args H K :=
 ⟨_,⟨rfl,h.toP⟩,λo h' hp=>by obtain⟨rfl,rfl⟩:=hp; exact hk⟩
theorem QsD {k:ZN} {a b args:ZH} {H:ZG} {Pt:Out->ZG->Prop} {K:Out->ZG->Prop} (h:OkP P k (a++args++b) H Pt) (hk:∀ out H',Pt out H'->K out H'):QdS P (.fn (.func k) a b) args H K :=
 ⟨_,⟨rfl,h⟩,hk⟩
theorem Q4 {k:ZN} {args:ZH} {H:ZG} {Pt:Out->ZG->Prop} {K:Out->ZG->Prop} (h:OkP P k args H Pt) (hk:∀ out H',Pt out H'->K out H'):QdS P (.fn (.func k) [] []) args H K :=
 QsD (by simpa using h) hk
theorem Qpp {f:SV} {args:ZH} {H:ZG} {Pt:Out->ZG->Prop} {K:Out->ZG->Prop} (h:Qfj P f args H Pt) (hk:∀ out H',Pt out H'->K out H'):QdS P f args H K:=⟨_,h,hk⟩
theorem Qmr {k:ZN} {a b args:ZH} {H:ZG} {Pt:Out->ZG->Prop} (h:OkP P k (a++args++b) H Pt):Qfj P (.fn (.func k) a b) args H Pt:=⟨rfl,h⟩
theorem Qc {k:ZN} {args:ZH} {H H':ZG} {out:Out} {K:Out->ZG->Prop} (h:Ok P k args H out H') (hk:K out H'):QdS P (.fn (.func k) [] []) args H K :=
 Qqt (by simpa using h) hk
def Qem (P:ZL) (on:Bool) (f:SV) (args:ZH) (H:ZG) (K:SV->Prop):Prop:=∃ r,(on=true->OkC P f args H (.ret r) H)/\K r
@[congr] theorem QFH {on on':Bool} {f f':SV} {args args':ZH} {H H':ZG} {K:SV->Prop} (h0:Ev on=on') (h1:Ev f=f') (h2:Ev args=args') (h3:Ev H=H'):Qem P on f args H K=Qem P on' f' args' H' K:=by rw[QR h0,QR h1,QR h2,QR h3]
theorem Qy0 {on:Bool} {k:ZN} {a b args:ZH} {H:ZG} {r:SV} {K:SV->Prop} (h:on=true->Ok P k (a++args++b) H (.ret r) H) (hk:K r):Qem P on (.fn (.func k) a b) args H K :=
 ⟨r,λho=>⟨rfl,h ho⟩,hk⟩
theorem QeW {on:Bool} {k:ZN} {args:ZH} {H:ZG} {r:SV} {K:SV->Prop} (h:on=true->Ok P k args H (.ret r) H) (hk:K r):Qem P on (.fn (.func k) [] []) args H K :=
 Qy0 (by simpa using h) hk
theorem Qcg (f:SV) (args:ZH) (H:ZG) (K:SV->Prop) (h:K .any):Qem P false f args H K:=⟨.any,λh=>by simp at h,h⟩
theorem Qnm {k:ZN} {args:ZH} {H H':ZG} {out:Out} (h:Ok P k args H out H'):OkC P (.fn (.func k) [] []) args H out H':=⟨rfl,by show Ok P k ([]++args++[]) H out H'; simpa using h⟩
@[simp ↓] theorem xo_p (d:Option Nat) (i:I) (env:Env) (H:ZG) (K:ZF):xo P ⟨d,none,.p i⟩ env H K=((pv i env.ev H).1/\Kn K .normal env d (pv i env.ev H).2 H):=rfl
@[simp ↓] theorem QEB (d:Option Nat) (f:Od) (args:List Od) (env:Env) (H:ZG) (K:ZF):xo P ⟨d,none,.e (.call f args)⟩ env H K=QdS P (env.ev f) (args.map env.ev) H λout H' =>
     match out with
     |.ret r=>K .normal (env.put d r) H'
     |.pan x=>K (.panic x) env H':=rfl
def sOn (c:SV) (want:Bool) (F:Bool->Prop):Prop:=c.bish=true/\F (c.on want)
@[congr] theorem QDC {c c':SV} {want:Bool} {F:Bool->Prop} (h:Ev c=c'):sOn c want F=sOn c' want F:=by rw[QR h]
def sGo (b:Bool) (F:Bool->Prop):Prop:=F b
@[congr] theorem QDl {b b':Bool} {F:Bool->Prop} (h:Ev b=b'):sGo b F=sGo b' F:=by rw[QR h]
@[simp] theorem sGo_go (b:Bool) (F:Bool->Prop):sGo b F=F b:=rfl
@[simp] theorem sOn_go (c:SV) (want:Bool) (F:Bool->Prop):sOn c want F=(c.bish=true/\sGo (c.on want) F):=rfl
@[simp ↓] theorem xo_gp (d:Option Nat) (s:Nat) (want:Bool) (i:I) (env:Env) (H:ZG) (K:ZF):xo P ⟨d,some (s,want),.p i⟩ env H K=sOn (env.get s) want λb=>(b=true->(pv i env.ev H).1)/\Kn K .normal env d (.gd b (pv i env.ev H).2) H:=rfl
@[simp ↓] theorem xo_gq (d:Option Nat) (s:Nat) (want:Bool) (f:Od) (args:List Od) (env:Env) (H:ZG) (K:ZF):xo P ⟨d,some (s,want),.q f args⟩ env H K=sOn (env.get s) want λb=>Qem P b (env.ev f) (args.map env.ev) H λr=>K .normal (env.put d (.gd b r)) H:=rfl
@[simp ↓] theorem xo_ge (d:Option Nat) (s:Nat) (want:Bool) (i:E) (env:Env) (H:ZG) (K:ZF):xo P ⟨d,some (s,want),.e i⟩ env H K=sOn (env.get s) want λb=>if b=true then xo P ⟨d,none,.e i⟩ env H K else K .normal (env.put d (.val undef)) H:=by
 apply propext;simp only[xo,sOn,xj]
 cases (env.get s).on want<;>simp
def xdn (P:ZL) (pend:List (Ins×SV)) (o:Ins) (v:SV) (r:List Ins) (env:Env) (H:ZG) (K:ZF):Prop:=xd P ((o,v)::pend) r (env.put o.d v) H K
@[congr] theorem QFE {pend:List (Ins×SV)} {o:Ins} {v v':SV} {r:List Ins} {env:Env} {H:ZG} {K:ZF} (h:Ev v=v'):xdn P pend o v r env H K=xdn P pend o v' r env H K:=by rw[QR h]
@[simp ↓] theorem xd_nil (pend:List (Ins×SV)) (env:Env) (H:ZG) (K:ZF):xd P pend [] env H K=K .normal env H:=rfl
@[simp ↓] theorem xd_p (pend:List (Ins×SV)) (d:Option Nat) (i:I) (r:List Ins) (env:Env) (H:ZG) (K:ZF):xd P pend (⟨d,none,.p i⟩::r) env H K=((pv i env.ev H).1/\xdn P pend ⟨d,none,.p i⟩ (pv i env.ev H).2 r env H K):=rfl
@[simp ↓] theorem xd_q (pend:List (Ins×SV)) (d:Option Nat) (f:Od) (args:List Od) (r:List Ins) (env:Env) (H:ZG) (K:ZF):xd P pend (⟨d,none,.q f args⟩::r) env H K=Qem P true (env.ev f) (args.map env.ev) H λv=>xd P ((⟨d,none,.q f args⟩,v)::pend) r (env.put d v) H K:=by
 simp only[Qem,true_implies]; rfl
@[simp ↓] theorem xd_gp (pend:List (Ins×SV)) (d:Option Nat) (s:Nat) (want:Bool) (i:I) (r:List Ins) (env:Env) (H:ZG) (K:ZF):xd P pend (⟨d,some (s,want),.p i⟩::r) env H K=sOn (env.get s) want λb=>(b=true->(pv i env.ev H).1)/\xdn P pend ⟨d,some (s,want),.p i⟩ (.gd b (pv i env.ev H).2) r env H K:=rfl
@[simp ↓] theorem xd_gq (pend:List (Ins×SV)) (d:Option Nat) (s:Nat) (want:Bool) (f:Od) (args:List Od) (r:List Ins) (env:Env) (H:ZG) (K:ZF):xd P pend (⟨d,some (s,want),.q f args⟩::r) env H K=sOn (env.get s) want λb=>Qem P b (env.ev f) (args.map env.ev) H λv=>xd P ((⟨d,some (s,want),.q f args⟩,.gd b v)::pend) r (env.put d (.gd b v)) H K:=rfl
def Qfk (P:ZL) (env:Env) (H:ZG):List (Ins×SV)->Prop
 |[]=>True
 |p::r=>QbI P p.1 env H p.2/\Qfk P env H r
theorem Qq6 (env:Env) (H:ZG):∀ l,Qfk P env H l=∀ p∈l,QbI P p.1 env H p.2
 |[]=>by simp[Qfk]
 |p::r=>by simp only[Qfk,Qq6 env H r,List.forall_mem_cons]
attribute [simp] QjN QfS QfZ Ins.slots J.slots I.ods E.ods Od.slots
@[simp] theorem QF4 (env:Env) (H:ZG):Qfk P env H []=True:=rfl
@[simp] theorem QFv (env:Env) (H:ZG) (o:Ins) (v:SV) (r:List (Ins×SV)):Qfk P env H ((o,v)::r)=(QbI P o env H v/\Qfk P env H r):=rfl
@[simp ↓] theorem xd_e (pend:List (Ins×SV)) (d:Option Nat) (g:Option (Nat×Bool)) (i:E) (r:List Ins) (env:Env) (H:ZG) (K:ZF):xd P pend (⟨d,g,.e i⟩::r) env H K=xo P ⟨d,g,.e i⟩ env H λx env' H' =>
     match x with
     |.normal=>Qfk P env' H' (pend.filter λp=>QjN ⟨d,g,.e i⟩ pend p.1)/\xd P pend r env' H' K
     |x=>K x [] H':=by
 rw[xd,Zm (by simp[J.quiet])];congr 1;funext x env' H'
 cases x<;>try rfl
 simp only[Qq6,V6,and_imp]
@[simp ↓] theorem QBO (d:Option Nat) (i:I) (env:Env) (H:ZG) (v:SV):QbI P ⟨d,none,.p i⟩ env H v=((pv i env.ev H).1/\v=(pv i env.ev H).2):=rfl
@[simp ↓] theorem QCv (d:Option Nat) (f:Od) (args:List Od) (env:Env) (H:ZG) (v:SV):QbI P ⟨d,none,.q f args⟩ env H v=OkC P (env.ev f) (args.map env.ev) H (.ret v) H:=rfl
@[simp ↓] theorem QDw (d:Option Nat) (s:Nat) (want:Bool) (i:I) (env:Env) (H:ZG) (v:SV):QbI P ⟨d,some (s,want),.p i⟩ env H v=sOn (env.get s) want λb=>(b=true->(pv i env.ev H).1)/\v=.gd b (pv i env.ev H).2:=rfl
@[simp] theorem dep_p (i:I):J.dep (.p i)=(match i with|.ld1 _|.ldn _ _|.lkp _ _ _ _ _|.bys _=>true|_=>false):=by cases i<;>rfl
@[simp] theorem xdn_go (pend:List (Ins×SV)) (o:Ins) (v:SV) (r:List Ins) (env:Env) (H:ZG) (K:ZF):xdn P pend o v r env H K=xd P ((o,v)::pend) r (env.put o.d v) H K:=rfl
def QiX (T:ZK) (z:ZH) (H:ZG) (K:SV->ZG->Prop):Prop:=K (.ptr (.own H.length 0 0 0 0) 0) (H++[⟨z,T,0,true⟩])
@[congr] theorem QBU {T:ZK} {z:ZH} {H H':ZG} {K:SV->ZG->Prop} (h9:Ev H=H'):QiX T z H K=QiX T z H' K:=by rw[QR h9]
@[simp ↓] theorem xo_alc (d:Option Nat) (T:ZK) (z:ZH) (env:Env) (H:ZG) (K:ZF):xo P ⟨d,none,.e (.alc T z)⟩ env H K=QiX T z H λv H'=>K .normal (env.put d v) H':=rfl
@[simp] theorem QEH (T:ZK) (z:ZH) (H:ZG) (K:SV->ZG->Prop):QiX T z H K=(Ke K (.ptr (.own H.length 0 0 0 0) 0) (H++[⟨z,T,0,true⟩])):=rfl
def Qi3 (T:ZK) (x:SV) (H:ZG) (K:SV->ZG->Prop):Prop:=x.vd=true/\QC x.ug.flat/\K (.ptr (.own H.length 0 0 0 0) 0) (H++[⟨x.ug.flat,T,0,true⟩])
@[congr] theorem QCN {T:ZK} {x x':SV} {H H':ZG} {K:SV->ZG->Prop} (h0:Ev x=x') (h9:Ev H=H'):Qi3 T x H K=Qi3 T x' H' K:=by rw[QR h0,QR h9]
@[simp ↓] theorem xo_box (d:Option Nat) (T:ZK) (x:Od) (env:Env) (H:ZG) (K:ZF):xo P ⟨d,none,.e (.box T x)⟩ env H K=Qi3 T (env.ev x) H λv H'=>K .normal (env.put d v) H':=rfl
@[simp] theorem QFB (T:ZK) (x:SV) (H:ZG) (K:SV->ZG->Prop):Qi3 T x H K=(x.vd=true/\QC x.ug.flat/\Ke K (.ptr (.own H.length 0 0 0 0) 0) (H++[⟨x.ug.flat,T,0,true⟩])):=rfl
def QAU (T:ZK) (sz:Nat) (bytes:Nat) (z:ZH) (len:SV) (cap:SV) (H:ZG) (K:SV->ZG->Prop):Prop:=len.isN=true/\cap.isN=true/\0<=len.int/\len.int<=cap.int/\bytes*cap.int<=140737488355328/\cap.int<=140737488355328/\K (.own H.length 0 len.int.toNat sz 0) (H++[⟨(List.replicate len.int.toNat z).flatten,T,0,true⟩])
@[simp] theorem QGc (T:ZK) (sz:Nat) (bytes:Nat) (z:ZH) (len:SV) (cap:SV) (H:ZG) (K:SV->ZG->Prop):QAU T sz bytes z len cap H K=(len.isN=true/\cap.isN=true/\0<=len.int/\len.int<=cap.int/\bytes*cap.int<=140737488355328/\cap.int<=140737488355328/\Ke K (.own H.length 0 len.int.toNat sz 0) (H++[⟨(List.replicate len.int.toNat z).flatten,T,0,true⟩])):=rfl
def Qf5 (T:ZK) (sz:Nat) (bytes:Nat) (s:SV) (x:SV) (H:ZG) (K:SV->ZG->Prop):Prop:=s.vd=true/\x.vd=true/\x.ug.isSl=true/\x.ug.slen*sz<=(x.ug.row H).length/\QC (x.ug.els H sz) /\
     (s.ug.slen+x.ug.slen)*bytes<=140737488355328/\s.ug.slen+x.ug.slen<=140737488355328 /\
     match s.ug with
     |.own i 0 n sz' ver =>
       sz'=sz/\(∃ o,H[i]? = some o/\o.live=true/\o.ver=ver/\o.ty=T/\o.cells.length=n*sz)/\K (.own i 0 (n+x.ug.slen) sz (ver+1)) (setObj H i λo=>o.grow (x.ug.els H sz))
     |v=>v.isNil=true/\K (.own H.length 0 x.ug.slen sz 1) (H++[⟨x.ug.els H sz,T,1,true⟩])
@[congr] theorem QDK {T:ZK} {sz:Nat} {bytes:Nat} {s s':SV} {x x':SV} {H H':ZG} {K:SV->ZG->Prop} (h0:Ev s=s') (h1:Ev x=x') (h9:Ev H=H'):Qf5 T sz bytes s x H K=Qf5 T sz bytes s' x' H' K:=by rw[QR h0,QR h1,QR h9]
@[simp ↓] theorem xo_app (d:Option Nat) (T:ZK) (sz:Nat) (bytes:Nat) (s:Od) (x:Od) (env:Env) (H:ZG) (K:ZF):xo P ⟨d,none,.e (.app T sz bytes s x)⟩ env H K=Qf5 T sz bytes (env.ev s) (env.ev x) H λv H'=>K .normal (env.put d v) H':=rfl
def QbB (H:ZG) (i ver:Nat) (T:ZK) (m:Nat):Prop:=∃ o,H[i]? = some o/\o.live=true/\o.ver=ver/\o.ty=T/\o.cells.length=m
@[simp] theorem QCS (T:ZK) (sz bytes i n sz' ver:Nat) (x:SV) (H:ZG) (K:SV->ZG->Prop):Qf5 T sz bytes (.own i 0 n sz' ver) x H K=(x.vd=true/\x.ug.isSl=true/\x.ug.slen*sz<=(x.ug.row H).length/\QC (x.ug.els H sz) /\
     (n+x.ug.slen)*bytes<=140737488355328/\n+x.ug.slen<=140737488355328/\sz'=sz/\QbB H i ver T (n*sz)/\Ke K (.own i 0 (n+x.ug.slen) sz (ver+1)) (setObj H i λo=>o.grow (x.ug.els H sz))):=by
 simp[Qf5,SV.vd,SV.ug,SV.slen,QbB,Ke]
def QgH (n:Nat) (p:SV) (x:SV) (H:ZG) (K:SV->ZG->Prop):Prop:=p.vd=true/\x.vd=true/\QC x.ug.flat/\x.ug.flat.length=n/\0<n /\
     match p.ug with
     |.ptr (.own i off _ _ ver) k=>off+k+n<=(Qn H i ver).length/\K (.val undef) (setObj H i λo=>o.put (off+k) x.ug.flat)
     |_=>False
@[congr] theorem QEQ {n:Nat} {p p':SV} {x x':SV} {H H':ZG} {K:SV->ZG->Prop} (h0:Ev p=p') (h1:Ev x=x') (h9:Ev H=H'):QgH n p x H K=QgH n p' x' H' K:=by rw[QR h0,QR h1,QR h9]
@[simp ↓] theorem xo_st (d:Option Nat) (n:Nat) (p:Od) (x:Od) (env:Env) (H:ZG) (K:ZF):xo P ⟨d,none,.e (.st n p x)⟩ env H K=QgH n (env.ev p) (env.ev x) H λv H'=>K .normal (env.put d v) H':=rfl
@[simp] theorem QBQ (n i off len sz ver k:Nat) (x:SV) (H:ZG) (K:SV->ZG->Prop):QgH n (.ptr (.own i off len sz ver) k) x H K=(x.vd=true/\QC x.ug.flat/\x.ug.flat.length=n/\0<n /\
     off+k+n<=(Qn H i ver).length/\Ke K (.val undef) (setObj H i λo=>o.put (off+k) x.ug.flat)):=by
 simp[QgH,SV.vd,SV.ug,Ke]
def Qhm (x:SV) (K:SV->Prop):Prop:=x.vd=true/\match x.ug with
 |.ifc t y=>K (.ifc t y)
 |_=>False
@[congr] theorem QB8 {x x':SV} {K:SV->Prop} (h:Ev x=x'):Qhm x K=Qhm x' K:=by rw[QR h]
@[simp] theorem QDc (t:ZK) (y:SV) (K:SV->Prop):Qhm (.ifc t y) K=K (.ifc t y):=by simp[Qhm,SV.vd,SV.ug]
@[simp ↓] theorem xo_pan (d:Option Nat) (x:Od) (env:Env) (H:ZG) (K:ZF):xo P ⟨d,none,.e (.pan x)⟩ env H K=Qhm (env.ev x) λy=>K (.panic y) env H:=rfl
@[simp ↓] theorem xo_stw (d:Option Nat) (ws:List Nat) (n:Nat) (p x:Od) (env:Env) (H:ZG) (K:ZF):xo P ⟨d,none,.e (.stw ws n p x)⟩ env H K=QgH n (env.ev p) (env.ev x) H λv H'=>K .normal (env.put d v) H':=rfl
def Qsc (T:ZK) (sz:Nat) (x:SV) (H:ZG) (K:SV->ZG->Prop):Prop:=x.vd=true/\x.ug.isNil=true/\K (.own H.length 0 0 sz 0) (H++[⟨[],T,0,true⟩])
@[simp ↓] theorem xo_nil (d:Option Nat) (T:ZK) (sz:Nat) (x:Od) (env:Env) (H:ZG) (K:ZF):xo P ⟨d,none,.e (.nil T sz x)⟩ env H K=Qsc T sz (env.ev x) H λv H'=>K .normal (env.put d v) H':=rfl
@[simp] theorem QBI (T:ZK) (sz:Nat) (x:SV) (H:ZG) (K:SV->ZG->Prop):Qsc T sz x H K=(x.vd=true/\x.ug.isNil=true/\Ke K (.own H.length 0 0 sz 0) (H++[⟨[],T,0,true⟩])):=rfl
def QBm (T:ZK) (sz:Nat) (x:SV) (H:ZG) (K:SV->ZG->Prop):Prop:=x.vd=true/\x.ug.isSl=true/\K (.own H.length 0 0 sz 0) (H++[⟨[],T,0,true⟩])
@[simp] theorem QDb (T:ZK) (sz:Nat) (x:SV) (H:ZG) (K:SV->ZG->Prop):QBm T sz x H K=(x.vd=true/\x.ug.isSl=true/\Ke K (.own H.length 0 0 sz 0) (H++[⟨[],T,0,true⟩])):=rfl
def QiE (T:ZK) (s:SV) (x:SV) (H:ZG) (K:SV->ZG->Prop):Prop:=s.vd=true/\x.isS=true/\s.ug.slen+x.str.size<=140737488355328 /\
     match s.ug with
     |.own i 0 n sz' ver =>
       sz'=1/\(∃ o,H[i]? = some o/\o.live=true/\o.ver=ver/\o.ty=T/\o.cells.length=n*1)/\K (.own i 0 (n+x.str.size) 1 (ver+1)) (setObj H i λo=>o.grow (Qac x.str))
     |v=>v.isNil=true/\K (.own H.length 0 x.str.size 1 1) (H++[⟨Qac x.str,T,1,true⟩])
@[congr] theorem QF0 {T:ZK} {s s':SV} {x x':SV} {H H':ZG} {K:SV->ZG->Prop} (h0:Ev s=s') (h1:Ev x=x') (h9:Ev H=H'):QiE T s x H K=QiE T s' x' H' K:=by rw[QR h0,QR h1,QR h9]
@[simp ↓] theorem xo_aps (d:Option Nat) (T:ZK) (s:Od) (x:Od) (env:Env) (H:ZG) (K:ZF):xo P ⟨d,none,.e (.aps T s x)⟩ env H K=QiE T (env.ev s) (env.ev x) H λv H'=>K .normal (env.put d v) H':=rfl
@[simp] theorem QCk (T:ZK) (i n sz' ver:Nat) (x:SV) (H:ZG) (K:SV->ZG->Prop):QiE T (.own i 0 n sz' ver) x H K=(x.isS=true /\
     n+x.str.size<=140737488355328/\sz'=1/\QbB H i ver T (n*1)/\Ke K (.own i 0 (n+x.str.size) 1 (ver+1)) (setObj H i λo=>o.grow (Qac x.str))):=by
 simp[QiE,SV.vd,SV.ug,SV.slen,QbB,Ke]
def Qjg (x:SV) (H:ZG) (K:SV->ZG->Prop):Prop:=x.isS=true/\K (.slc (Qac x.str) x.str.size) H
@[congr] theorem QEs {x x':SV} {H H':ZG} {K:SV->ZG->Prop} (h0:Ev x=x') (h9:Ev H=H'):Qjg x H K=Qjg x' H' K:=by rw[QR h0,QR h9]
@[simp ↓] theorem xo_sby (d:Option Nat) (x:Od) (env:Env) (H:ZG) (K:ZF):xo P ⟨d,none,.e (.sby x)⟩ env H K=Qjg (env.ev x) H λv H'=>K .normal (env.put d v) H':=rfl
@[simp] theorem QDn (x:SV) (H:ZG) (K:SV->ZG->Prop):Qjg x H K=(x.isS=true/\Ke K (.slc (Qac x.str) x.str.size) H):=rfl
def QiW (T:ZK) (H:ZG) (K:SV->ZG->Prop):Prop:=K (.mp H.length 0) (H++[⟨[.mk []],T,0,false⟩])
@[congr] theorem QCj {T:ZK} {H H':ZG} {K:SV->ZG->Prop} (h9:Ev H=H'):QiW T H K=QiW T H' K:=by rw[QR h9]
@[simp ↓] theorem xo_mkm (d:Option Nat) (T:ZK) (env:Env) (H:ZG) (K:ZF):xo P ⟨d,none,.e (.mkm T)⟩ env H K=QiW T H λv H'=>K .normal (env.put d v) H':=rfl
@[simp] theorem QCe (T:ZK) (H:ZG) (K:SV->ZG->Prop):QiW T H K=Ke K (.mp H.length 0) (H++[⟨[.mk []],T,0,false⟩]):=rfl
def Qkq (kk:KK) (m k v:SV) (H:ZG) (K:SV->ZG->Prop):Prop:=m.vd=true/\k.isK kk=true/\v.vd=true /\
     match m.ug,m.ug.mapOf H with
     |.mp i _,some x=>x.1.all kk.is=true/\(∀ v∈k.key kk::x.1,kk.knows v)/\K (.val undef) (setObj H i λo=>{ o with cells:=.mk (Q8 (k.key kk) x.1)::Q5 (k.key kk) v.ug x.1 x.2 })
     |_,_=>False
@[congr] theorem QBN {kk:KK} {m m' k k' v v':SV} {H H':ZG} {K:SV->ZG->Prop} (h0:Ev m=m') (h1:Ev k=k') (h2:Ev v=v') (h9:Ev H=H'):Qkq kk m k v H K=Qkq kk m' k' v' H' K:=by rw[QR h0,QR h1,QR h2,QR h9]
@[simp ↓] theorem xo_mup (d:Option Nat) (kk:KK) (m k v:Od) (env:Env) (H:ZG) (K:ZF):xo P ⟨d,none,.e (.mup kk m k v)⟩ env H K=Qkq kk (env.ev m) (env.ev k) (env.ev v) H λw H'=>K .normal (env.put d w) H':=rfl
theorem QbT {kk:KK} {i ver:Nat} {k v:SV} {H:ZG} {K:SV->ZG->Prop} {x:ZI×ZH} (hm:(SV.mp i ver).mapOf H=some x) (hk:k.isK kk=true) (hv:v.vd=true) (ha:x.1.all kk.is=true)
 (h:K (.val undef) (setObj H i λo=>{ o with cells:=.mk (Q8 (k.key kk) x.1)::Q5 (k.key kk) v.ug x.1 x.2 })) (hkn:∀ v∈k.key kk::x.1,kk.knows v:=by simp):Qkq kk (.mp i ver) k v H K:=by
 refine⟨rfl,hk,hv,?_⟩;simp only[SV.ug];rw[hm];exact⟨ha,hkn,h⟩
def Qu1 (neg:Bool) (right:Bool) (x:SV) (H:ZG) (K:SV->ZG->Prop):Prop:=x.vd=true/\x.ug.isSl=true/\(x.ug.slen≠0->K (bl neg) H)/\(x.ug.slen=0->K (bl neg) H/\K (bl (!neg)) H)
@[simp] theorem QEr (neg:Bool) (right:Bool) (x:SV) (H:ZG) (K:SV->ZG->Prop):Qu1 neg right x H K=(x.vd=true/\x.ug.isSl=true/\(x.ug.slen≠0->Ke K (bl neg) H)/\(x.ug.slen=0->Ke K (bl neg) H/\Ke K (bl (!neg)) H)):=rfl
def QhO (T:ZK) (sz len:Nat) (z:ZH) (parts:List (Nat×SV)) (H:ZG) (K:SV->ZG->Prop):Prop :=
 (∀ p∈parts,QaY sz p.2/\p.1*sz+sz<=len*sz)/\QC (Qba (List.replicate len z).flatten (parts.map λp=>(p.1*sz,p.2))) /\
  K (.own H.length 0 len sz 0) (H++[⟨Qba (List.replicate len z).flatten (parts.map λp=>(p.1*sz,p.2)),T,0,true⟩])
@[congr] theorem QFI {T:ZK} {sz len:Nat} {z:ZH} {parts parts':List (Nat×SV)} {H H':ZG} {K:SV->ZG->Prop} (h:Ev parts=parts') (h2:Ev H=H'):QhO T sz len z parts H K=QhO T sz len z parts' H' K:=by rw[QR h,QR h2]
@[simp ↓] theorem xo_bsl (d:Option Nat) (T:ZK) (sz len:Nat) (z:ZH) (parts:List (Nat×Od)) (env:Env) (H:ZG) (K:ZF) :
 xo P ⟨d,none,.e (.bsl T sz len z parts)⟩ env H K=QhO T sz len z (parts.map λp=>(p.1,env.ev p.2)) H λv H'=>K .normal (env.put d v) H':=by
 simp only[xo,xj,xe,QhO,YB,Function.comp_def,Zh]
@[simp] theorem QFt (T:ZK) (sz len:Nat) (z:ZH) (parts:List (Nat×SV)) (H:ZG) (K:SV->ZG->Prop):QhO T sz len z parts H K=(
 (∀ p∈parts,QaY sz p.2/\p.1*sz+sz<=len*sz)/\QC (Qba (List.replicate len z).flatten (parts.map λp=>(p.1*sz,p.2))) /\
  Ke K (.own H.length 0 len sz 0) (H++[⟨Qba (List.replicate len z).flatten (parts.map λp=>(p.1*sz,p.2)),T,0,true⟩])):=rfl
def ldv (H:ZG) (p:SV):SV:=(p.at H).headD .any
def Qnj (H:ZG) (p:SV) (n:Nat):ZH:=(p.at H).take n
def Qe4 (H:ZG) (p:SV) (n:Nat):Prop:=n<=(p.at H).length
@[simp] theorem QFg (H:ZG) (i off len sz ver k:Nat):ldv H (.ptr (.own i off len sz ver) k)=(((Qn H i ver).drop off).drop k).headD .any:=rfl
@[simp] theorem QCa (H:ZG) (c:ZH) (n k:Nat):ldv H (.ptr (.slc c n) k)=(c.drop k).headD .any:=rfl
@[simp] theorem QD1 (H:ZG) (i off len sz ver k n:Nat):Qnj H (.ptr (.own i off len sz ver) k) n=(((Qn H i ver).drop off).drop k).take n:=rfl
@[simp] theorem QEM (H:ZG) (c:ZH) (m k n:Nat):Qnj H (.ptr (.slc c m) k) n=(c.drop k).take n:=rfl
@[simp] theorem QBs (H:ZG) (i off len sz ver k n:Nat):Qe4 H (.ptr (.own i off len sz ver) k) n=(n<=(((Qn H i ver).drop off).drop k).length):=rfl
@[simp] theorem QGq (H:ZG) (c:ZH) (m k n:Nat):Qe4 H (.ptr (.slc c m) k) n=(n<=(c.drop k).length):=rfl
variable (g:Od->SV) (H:ZG)
@[simp ↓] theorem QGs (x:Od):(pv (.mov x) g H).1=(True):=rfl
@[simp ↓] theorem QC3 (x:Od):(pv (.mov x) g H).2=g x:=rfl
@[simp ↓] theorem QDf (c:Od) (a:Od) (b:Od):(pv (.pick c a b) g H).1=((g c).isB=true/\(if(g c).bool=true then(g a).isB=true else(g b).isB=true)):=by
 first
 |rfl
 | (apply propext; simp only[pv]; cases (g c).bool<;>simp)
@[simp ↓] theorem QCy (c:Od) (a:Od) (b:Od):(pv (.pick c a b) g H).2=bl (cond (g c).bool (g a).bool (g b).bool):=by
 first
 |rfl
 | (apply propext; simp only[pv]; cases (g c).bool<;>simp)
@[simp ↓] theorem QEl (k:IntKind) (x:Od):(pv (.neg k x) g H).1=((g x).isI k=true):=rfl
@[simp ↓] theorem QFF (k:IntKind) (x:Od):(pv (.neg k x) g H).2=.val (.int k (k.wrap (0-(g x).int))):=rfl
@[simp ↓] theorem QDv (x:Od):(pv (.not x) g H).1=((g x).isB=true):=rfl
@[simp ↓] theorem QEc (x:Od):(pv (.not x) g H).2=bl (!(g x).bool):=rfl
@[simp ↓] theorem QCc (k:IntKind) (x:Od):(pv (.cvi k x) g H).1=((g x).isN=true):=rfl
@[simp ↓] theorem QCQ (k:IntKind) (x:Od):(pv (.cvi k x) g H).2=.val (.int k (k.wrap (g x).int)):=rfl
@[simp ↓] theorem QGp (p:Od):(pv (.ld1 p) g H).1=((g p).vd=true/\Qe4 H (g p).ug 1):=rfl
@[simp ↓] theorem QFw (p:Od):(pv (.ld1 p) g H).2=ldv H (g p).ug:=rfl
@[simp ↓] theorem QEN (n:Nat) (p:Od):(pv (.ldn n p) g H).1=((g p).vd=true/\Qe4 H (g p).ug n/\0<n):=rfl
@[simp ↓] theorem QFO (n:Nat) (p:Od):(pv (.ldn n p) g H).2=.agg (Qnj H (g p).ug n):=rfl
@[simp ↓] theorem pv1_ia (sz:Nat) (s:Od) (j:Od):(pv (.ia sz s j) g H).1=((g s).vd=true/\(g s).ug.isSl=true/\(g j).isN=true/\0<=(g j).int/\(g j).int<(g s).ug.slen):=rfl
@[simp ↓] theorem pv2_ia (sz:Nat) (s:Od) (j:Od):(pv (.ia sz s j) g H).2=.ptr (g s).ug ((g j).int.toNat*sz):=rfl
@[simp ↓] theorem QGm (s:Od) (j:Od):(pv (.ixs s j) g H).1=((g s).isS=true/\(g j).isN=true/\0<=(g j).int/\(g j).int<(g s).str.size):=rfl
@[simp ↓] theorem QCi (s:Od) (j:Od):(pv (.ixs s j) g H).2=.val (.int .u8 ((g s).str.data.toList.getD (g j).int.toNat 0).toNat):=rfl
@[simp ↓] theorem pv1_sl (sz:Nat) (x:Od) (lo:Option Od) (hi:Option Od):(pv (.sl sz x lo hi) g H).1=((g x).vd=true/\(g x).ug.isSl=true/\(g x).ug.szIs sz=true/\QcJ (lo.map g)/\QcJ (hi.map g)/\Qbn (lo.map g)<=Qbl (g x).ug.slen (hi.map g)/\Qbl (g x).ug.slen (hi.map g)<=(g x).ug.slen):=rfl
@[simp ↓] theorem pv2_sl (sz:Nat) (x:Od) (lo:Option Od) (hi:Option Od):(pv (.sl sz x lo hi) g H).2=(g x).ug.cut sz (Qbn (lo.map g)) (Qbl (g x).ug.slen (hi.map g)):=rfl
@[simp ↓] theorem QCz (x:Od) (lo:Option Od) (hi:Option Od):(pv (.sls x lo hi) g H).1=((g x).isS=true/\QcJ (lo.map g)/\QcJ (hi.map g)/\Qbn (lo.map g)<=Qbl (g x).str.size (hi.map g)/\Qbl (g x).str.size (hi.map g)<=(g x).str.size):=rfl
@[simp ↓] theorem QCp (x:Od) (lo:Option Od) (hi:Option Od):(pv (.sls x lo hi) g H).2=st ((g x).str.extract (Qbn (lo.map g)) (Qbl (g x).str.size (hi.map g))):=rfl
@[simp ↓] theorem QFR (x:Od):(pv (.len x) g H).1=((g x).vd=true/\(g x).ug.isSl=true):=rfl
@[simp ↓] theorem QGa (x:Od):(pv (.len x) g H).2=i64 (g x).ug.slen:=rfl
@[simp ↓] theorem QEq (x:Od):(pv (.lens x) g H).1=((g x).isS=true):=rfl
@[simp ↓] theorem QFA (x:Od):(pv (.lens x) g H).2=i64 (g x).str.size:=rfl
@[simp ↓] theorem pv1_mm (mx:Bool) (k:IntKind) (x:Od) (y:Od):(pv (.mm mx k x y) g H).1=((g x).isI k=true/\(g y).isI k=true):=rfl
@[simp ↓] theorem pv2_mm (mx:Bool) (k:IntKind) (x:Od) (y:Od):(pv (.mm mx k x y) g H).2=.val (.int k (if mx=true then max (g x).int (g y).int else min (g x).int (g y).int)):=rfl
@[simp ↓] theorem QFd (f:Fn) (first:List Od) (cap:List Od):(pv (.mkf f first cap) g H).1=(True):=rfl
@[simp ↓] theorem QER (f:Fn) (first:List Od) (cap:List Od):(pv (.mkf f first cap) g H).2=.fn f (first.map g) (cap.map g):=rfl
@[simp ↓] theorem QGt (t:ZK) (x:Od):(pv (.mki t x) g H).1=(True):=rfl
@[simp ↓] theorem QB1 (t:ZK) (x:Od):(pv (.mki t x) g H).2=.ifc t (g x):=rfl
@[simp ↓] theorem QD2 (T:ZK) (sz len:Nat) (z:ZH) (parts:List (Nat×SV)):(pv (.kro T sz len z parts) g H).1=True:=rfl
@[simp ↓] theorem QDZ (T:ZK) (sz len:Nat) (z:ZH) (parts:List (Nat×SV)):(pv (.kro T sz len z parts) g H).2=.slc (Qba (List.replicate len z).flatten (parts.map λp=>(p.1*sz,p.2))) len:=rfl
@[simp ↓] theorem QE7 (z:ZH) (parts:List (Nat×Nat×Od)):(pv (.bld z parts) g H).1=(∀ p∈parts.map (λp=>(p.1,p.2.1,g p.2.2)),QaY p.2.1 p.2.2/\p.1+p.2.1<=z.length):=by
 first
 |rfl
 | (apply propext; simp only[pv,Zh])
@[simp ↓] theorem QGk (z:ZH) (parts:List (Nat×Nat×Od)):(pv (.bld z parts) g H).2=.agg (Qba z (parts.map λp=>(p.1,g p.2.2))):=by
 first
 |rfl
 | (apply propext; simp only[pv,Zh])
def SV.isPt:SV->Bool
 |.ptr _ _=>true
 |_=>false
def SV.isAg:SV->Bool
 |.agg _=>true
 |_=>false
def SV.isTu:SV->Bool
 |.tup _=>true
 |_=>false
def SV.isNc:SV->Bool
 |.ptr _ _=>true
 |.fn (.func _) _ _=>true
 |_=>false
def SV.els':SV->ZH
 |.agg l=>l
 |.tup l=>l
 |_=>[]
def SV.mv (off:Nat):SV->SV
 |.ptr s k=>.ptr s (k+off)
 |_=>.any
@[simp ↓] theorem pv1_fa (off:Nat) (p:Od):(pv (.fa off p) g H).1=((g p).ug.isPt=true/\(g p).vd=true):=by
 cases hu:(g p).ug<;>simp[pv,hu,SV.isPt]
@[simp ↓] theorem pv2_fa (off:Nat) (p:Od) (h:(g p).ug.isPt=true):(pv (.fa off p) g H).2=(g p).ug.mv off:=by
 cases hu:(g p).ug<;>simp[pv,hu,SV.isPt,SV.mv]at h ⊢
@[simp ↓] theorem QEz (off:Nat) (x:Od):(pv (.fld1 off x) g H).1=((g x).ug.isAg=true/\(g x).vd=true/\off<(g x).ug.els'.length):=by
 cases hu:(g x).ug<;>simp[pv,hu,SV.isAg,SV.els']
@[simp ↓] theorem QFp (off:Nat) (x:Od) (h:(g x).ug.isAg=true):(pv (.fld1 off x) g H).2=(g x).ug.els'.getD off .any:=by
 cases hu:(g x).ug<;>simp[pv,hu,SV.isAg,SV.els']at h ⊢
@[simp ↓] theorem QFQ (len:Nat) (sz:Nat) (p:Od) (j:Od):(pv (.iap len sz p j) g H).1=((g p).ug.isPt=true/\(g p).vd=true/\(g j).isN=true/\0<=(g j).int/\(g j).int<len):=by
 cases hu:(g p).ug<;>simp[pv,hu,SV.isPt]
@[simp ↓] theorem QFy (len:Nat) (sz:Nat) (p:Od) (j:Od) (h:(g p).ug.isPt=true):(pv (.iap len sz p j) g H).2=(g p).ug.mv ((g j).int.toNat*sz):=by
 cases hu:(g p).ug<;>simp[pv,hu,SV.isPt,SV.mv]at h ⊢
@[simp ↓] theorem QBH (len:Nat) (sz:Nat) (one:Bool) (x:Od) (j:Od):(pv (.ixa len sz one x j) g H).1=((g x).ug.isAg=true/\(g x).vd=true/\(g j).isN=true/\0<=(g j).int/\(g j).int<len/\(g x).ug.els'.length=len*sz/\(one=true->sz=1)):=by
 cases hu:(g x).ug<;>simp[pv,hu,SV.isAg,SV.els']
@[simp ↓] theorem QFh (len:Nat) (sz:Nat) (one:Bool) (x:Od) (j:Od) (h:(g x).ug.isAg=true):(pv (.ixa len sz one x j) g H).2=if one=true then(g x).ug.els'.getD (g j).int.toNat .any else .agg (((g x).ug.els'.drop ((g j).int.toNat*sz)).take sz):=by
 cases hu:(g x).ug<;>simp[pv,hu,SV.isAg,SV.els']at h ⊢
@[simp ↓] theorem QBP (x:Od) (j:Nat):(pv (.ext x j) g H).1=((g x).ug.isTu=true/\(g x).vd=true/\j<(g x).ug.els'.length):=by
 cases hu:(g x).ug<;>simp[pv,hu,SV.isTu,SV.els']
@[simp ↓] theorem QD9 (x:Od) (j:Nat) (h:(g x).ug.isTu=true):(pv (.ext x j) g H).2=(g x).ug.els'.getD j .any:=by
 cases hu:(g x).ug<;>simp[pv,hu,SV.isTu,SV.els']at h ⊢
@[simp ↓] theorem QDJ (x:Od):(pv (.nck x) g H).1=((g x).ug.isNc=true/\(g x).vd=true):=by
 cases hu:(g x).ug with
 |fn f a b=>cases f<;>simp[pv,hu,SV.isNc]
 |_=>simp[pv,hu,SV.isNc]
@[simp ↓] theorem QGw (x:Od) (h:(g x).ug.isNc=true):(pv (.nck x) g H).2=(g x).ug:=by
 cases hu:(g x).ug with
 |fn f a b=>rw[hu]at h; cases f<;>simp[pv,hu,SV.isNc]at h ⊢
 |_=>simp[hu,SV.isNc]at h ⊢ <;> simp[pv,hu]
@[simp ↓] theorem QDh (neg:Bool) (ks:List CK) (x y:Od):(pv (.eqf neg ks x y) g H).1=((g x).ug.isAg=true/\(g y).ug.isAg=true/\(g x).vd=true/\(g y).vd=true/\Qbz ks (g x).ug.els' (g y).ug.els'):=by
 cases hu:(g x).ug<;>cases hv:(g y).ug<;>simp[pv,hu,hv,SV.isAg,SV.els']
@[simp ↓] theorem QE3 (neg:Bool) (ks:List CK) (x y:Od) (h:((g x).ug.isAg&&(g y).ug.isAg)=true):(pv (.eqf neg ks x y) g H).2=bl (if neg=true then !Qbp ks (g x).ug.els' (g y).ug.els' else Qbp ks (g x).ug.els' (g y).ug.els'):=by
 cases hu:(g x).ug<;>cases hv:(g y).ug<;>simp[pv,hu,hv,SV.isAg,SV.els']at h ⊢
@[simp ↓] theorem QGy (k:IntKind) (x y:Od):(pv (.bin .add (.i k) x y) g H).1=((g x).isI k=true/\(g y).isI k=true):=rfl
@[simp ↓] theorem QEe (k:IntKind) (x y:Od):(pv (.bin .add (.i k) x y) g H).2=.val (.int k (k.wrap ((g x).int+(g y).int))):=rfl
@[simp ↓] theorem QFP (k:IntKind) (x y:Od):(pv (.bin .sub (.i k) x y) g H).1=((g x).isI k=true/\(g y).isI k=true):=rfl
@[simp ↓] theorem QDP (k:IntKind) (x y:Od):(pv (.bin .sub (.i k) x y) g H).2=.val (.int k (k.wrap ((g x).int-(g y).int))):=rfl
@[simp ↓] theorem QDQ (k:IntKind) (x y:Od):(pv (.bin .mul (.i k) x y) g H).1=((g x).isI k=true/\(g y).isI k=true):=rfl
@[simp ↓] theorem QCu (k:IntKind) (x y:Od):(pv (.bin .mul (.i k) x y) g H).2=.val (.int k (k.wrap ((g x).int*(g y).int))):=rfl
@[simp ↓] theorem QCd (k:IntKind) (x y:Od):(pv (.bin .quo (.i k) x y) g H).1=((g x).isI k=true/\(g y).isI k=true/\(g y).int≠0):=rfl
@[simp ↓] theorem QEY (k:IntKind) (x y:Od):(pv (.bin .quo (.i k) x y) g H).2=.val (.int k (k.wrap ((g x).int.tdiv (g y).int))):=rfl
@[simp ↓] theorem QCR (k:IntKind) (x y:Od):(pv (.bin .rem (.i k) x y) g H).1=((g x).isI k=true/\(g y).isI k=true/\(g y).int≠0):=rfl
@[simp ↓] theorem QDE (k:IntKind) (x y:Od):(pv (.bin .rem (.i k) x y) g H).2=.val (.int k ((g x).int.tmod (g y).int)):=rfl
@[simp ↓] theorem QEJ (k:IntKind) (x y:Od):(pv (.bin .and (.i k) x y) g H).1=((g x).isI k=true/\(g y).isI k=true):=rfl
@[simp ↓] theorem QDo (k:IntKind) (x y:Od):(pv (.bin .and (.i k) x y) g H).2=.val (.int k (QeH .and k (g x).int (g y).int)):=rfl
@[simp ↓] theorem QFC (k:IntKind) (x y:Od):(pv (.bin .or (.i k) x y) g H).1=((g x).isI k=true/\(g y).isI k=true):=rfl
@[simp ↓] theorem QCT (k:IntKind) (x y:Od):(pv (.bin .or (.i k) x y) g H).2=.val (.int k (QeH .or k (g x).int (g y).int)):=rfl
@[simp ↓] theorem QCC (k:IntKind) (x y:Od):(pv (.bin .xor (.i k) x y) g H).1=((g x).isI k=true/\(g y).isI k=true):=rfl
@[simp ↓] theorem QCO (k:IntKind) (x y:Od):(pv (.bin .xor (.i k) x y) g H).2=.val (.int k (QeH .xor k (g x).int (g y).int)):=rfl
@[simp ↓] theorem QCP (k:IntKind) (x y:Od):(pv (.bin .andNot (.i k) x y) g H).1=((g x).isI k=true/\(g y).isI k=true):=rfl
@[simp ↓] theorem QGx (k:IntKind) (x y:Od):(pv (.bin .andNot (.i k) x y) g H).2=.val (.int k (QeH .andNot k (g x).int (g y).int)):=rfl
@[simp ↓] theorem QFf (k:IntKind) (x y:Od):(pv (.bin .eql (.i k) x y) g H).1=((g x).isI k=true/\(g y).isI k=true):=rfl
@[simp ↓] theorem QEt (k:IntKind) (x y:Od):(pv (.bin .eql (.i k) x y) g H).2=bl (decide ((g x).int=(g y).int)):=rfl
@[simp ↓] theorem QE6 (k:IntKind) (x y:Od):(pv (.bin .neq (.i k) x y) g H).1=((g x).isI k=true/\(g y).isI k=true):=rfl
@[simp ↓] theorem QGr (k:IntKind) (x y:Od):(pv (.bin .neq (.i k) x y) g H).2=bl (!decide ((g x).int=(g y).int)):=rfl
@[simp ↓] theorem QC9 (k:IntKind) (x y:Od):(pv (.bin .lss (.i k) x y) g H).1=((g x).isI k=true/\(g y).isI k=true):=rfl
@[simp ↓] theorem QDs (k:IntKind) (x y:Od):(pv (.bin .lss (.i k) x y) g H).2=bl (decide ((g x).int<(g y).int)):=rfl
@[simp ↓] theorem QCm (k:IntKind) (x y:Od):(pv (.bin .leq (.i k) x y) g H).1=((g x).isI k=true/\(g y).isI k=true):=rfl
@[simp ↓] theorem QCg (k:IntKind) (x y:Od):(pv (.bin .leq (.i k) x y) g H).2=bl (decide ((g x).int<=(g y).int)):=rfl
@[simp ↓] theorem QBD (k:IntKind) (x y:Od):(pv (.bin .gtr (.i k) x y) g H).1=((g x).isI k=true/\(g y).isI k=true):=rfl
@[simp ↓] theorem QEZ (k:IntKind) (x y:Od):(pv (.bin .gtr (.i k) x y) g H).2=bl (decide ((g y).int<(g x).int)):=rfl
@[simp ↓] theorem QF9 (k:IntKind) (x y:Od):(pv (.bin .geq (.i k) x y) g H).1=((g x).isI k=true/\(g y).isI k=true):=rfl
@[simp ↓] theorem QBJ (k:IntKind) (x y:Od):(pv (.bin .geq (.i k) x y) g H).2=bl (decide ((g y).int<=(g x).int)):=rfl
@[simp ↓] theorem QCG (x y:Od):(pv (.bin .eql .s x y) g H).1=((g x).isS=true/\(g y).isS=true):=rfl
@[simp ↓] theorem QDz (x y:Od):(pv (.bin .eql .s x y) g H).2=bl (decide ((g x).str.data.toList=(g y).str.data.toList)):=rfl
@[simp ↓] theorem QCq (x y:Od):(pv (.bin .neq .s x y) g H).1=((g x).isS=true/\(g y).isS=true):=rfl
@[simp ↓] theorem QCl (x y:Od):(pv (.bin .neq .s x y) g H).2=bl (!decide ((g x).str.data.toList=(g y).str.data.toList)):=rfl
@[simp ↓] theorem QDk (x y:Od):(pv (.bin .add .s x y) g H).1=((g x).isS=true/\(g y).isS=true/\(g x).str.size+(g y).str.size<=9223372036854775807):=rfl
@[simp ↓] theorem QFM (x y:Od):(pv (.bin .add .s x y) g H).2=st ((g x).str++(g y).str):=rfl
@[simp ↓] theorem QDd (x y:Od):(pv (.bin .eql .b x y) g H).1=((g x).isB=true/\(g y).isB=true):=rfl
@[simp ↓] theorem QEb (x y:Od):(pv (.bin .eql .b x y) g H).2=bl ((g x).bool==(g y).bool):=rfl
@[simp ↓] theorem QEK (x y:Od):(pv (.bin .neq .b x y) g H).1=((g x).isB=true/\(g y).isB=true):=rfl
@[simp ↓] theorem QBK (x y:Od):(pv (.bin .neq .b x y) g H).2=bl ((g x).bool != (g y).bool):=rfl
@[simp ↓] theorem QBE (k len sz:Nat) (cs:ZH) (j:Od):(pv (.gix k len sz cs j) g H).1=((g j).isN=true/\0<=(g j).int/\(g j).int<len):=rfl
@[simp ↓] theorem QDu (k len sz:Nat) (cs:ZH) (j:Od):(pv (.gix k len sz cs j) g H).2=.ptr (.slc cs cs.length) ((g j).int.toNat*sz):=rfl
@[simp ↓] theorem QFZ (neg right:Bool) (x:Od):(pv (.ifn neg right x) g H).1=((g x).vd=true/\(g x).ug.isIf=true):=rfl
@[simp ↓] theorem QEk (neg right:Bool) (x:Od):(pv (.ifn neg right x) g H).2=bl (if(g x).ug.ifNil=true then !neg else neg):=rfl
@[simp ↓] theorem QF2 (x:Od):(pv (.rst x) g H).1=((g x).isN=true):=rfl
@[simp ↓] theorem QFk (x:Od):(pv (.rst x) g H).2=.val (.string (Utf8.encode (g x).int)):=rfl
@[simp ↓] theorem QEA (t:ZK) (ok:Bool) (z:SV) (x:Od):(pv (.tas t ok z x) g H).1=((g x).vd=true/\(g x).ug.isIf=true/\(ok=true\/(g x).ug.ifIs t=true)):=rfl
@[simp ↓] theorem QEm (t:ZK) (ok:Bool) (z:SV) (x:Od):(pv (.tas t ok z x) g H).2=if ok=true then(if(g x).ug.ifIs t=true then .tup [(g x).ug.ifVal,bl true]else .tup [z,bl false])else(g x).ug.ifVal:=rfl
@[simp ↓] theorem pv_lkp (kk:KK) (ok:Bool) (z:SV) (m k:Od):pv (.lkp kk ok z m k) g H=(match (g m).ug.mapOf H with
 |some x=>((g m).vd=true/\(g k).isK kk=true/\x.1.all kk.is=true/\(∀ v∈(g k).key kk::x.1,kk.knows v),
  if ok=true then .tup [(lkm ((g k).key kk) x.1 x.2).getD z,bl (lkm ((g k).key kk) x.1 x.2).isSome]else(lkm ((g k).key kk) x.1 x.2).getD z)
 |none=>(False,.any)):=rfl
@[simp ↓] theorem pv_iav (sz:Nat) (s j:Od):pv (.iav sz s j) g H=(match (g s).ug with
 |.val (.slice (some a) len _)=>((g s).vd=true/\(g j).isN=true/\0<=(g j).int/\(g j).int<len,.val (.pointer (some (a.add ((g j).int.toNat*sz)))))
 |_=>(False,.any)):=rfl
@[simp ↓] theorem pv_lnv (x:Od):pv (.lnv x) g H=(match (g x).ug with
 |.val (.slice _ len _)=>((g x).vd=true,i64 len)
 |_=>(False,.any)):=rfl
@[simp ↓] theorem QBM (x:Od):(pv (.bys x) g H).1=((g x).vd=true/\(g x).ug.isSl=true/\QgV ((g x).ug.row H) (g x).ug.slen=true):=rfl
@[simp ↓] theorem QBF (x:Od):(pv (.bys x) g H).2=.val (.string (Qgg (((g x).ug.row H).take (g x).ug.slen))):=rfl
@[simp ↓] theorem pv1_no:(pv .no g H).1=False:=rfl
@[simp ↓] theorem pv2_no:(pv .no g H).2=.any:=rfl
@[simp ↓] theorem QCV (op:BinOp) (k yk:IntKind) (x y:Od):pv (.bin op (.sh k yk) x y) g H=Qdd op (.sh k yk) (g x) (g y):=rfl
@[simp ↓] theorem QEd (op:BinOp) (r:Bool) (x y:Od):pv (.bin op (.pnil r) x y) g H=Qdd op (.pnil r) (g x) (g y):=rfl
@[simp] theorem QFj (k yk:IntKind) (x y:SV):Qdd .shl (.sh k yk) x y=(x.isI k=true/\y.isI yk=true/\0<=y.int,.val (.int k (k.wrap (x.int*2 ^ (min y.int.toNat k.bits))))):=rfl
@[simp] theorem QGv (k yk:IntKind) (x y:SV):Qdd .shr (.sh k yk) x y=(x.isI k=true/\y.isI yk=true/\0<=y.int,.val (.int k (x.int.fdiv (2 ^ (min y.int.toNat k.bits))))):=rfl
@[simp] theorem QDU (op:BinOp) (r:Bool) (x y:SV):Qdd op (.pnil r) x y=(match op,(if r=true then x else y).ug with
 |.eql,.ptr _ _=>((if r=true then x else y).vd=true,bl false)
 |.neq,.ptr _ _=>((if r=true then x else y).vd=true,bl true)
 |.eql,.val (.pointer none)=>((if r=true then x else y).vd=true,bl true)
 |.neq,.val (.pointer none)=>((if r=true then x else y).vd=true,bl false)
 |_,_=>(False,.any)):=rfl
end
@[simp] theorem QEy (e:Env) (k t:Nat) (v:SV):Env.get ((k,v)::e) t=if k=t then v else Env.get e t:=rfl
@[simp] theorem QFm (t:Nat):Env.get [] t=.any:=rfl
@[simp] theorem QEa (e:Env) (n:Nat):Env.ev e (.t n)=e.get n:=rfl
@[simp] theorem QDt (e:Env) (s:SV):Env.ev e (.c s)=s:=rfl
@[simp] theorem QFr (e:Env) (d:Nat) (v:SV):Env.put e (some d) v=(d,v)::e:=rfl
@[simp] theorem QE1 (e:Env) (v:SV):Env.put e none v=e:=rfl
@[simp] theorem QGe (e:Env):Env.keep e []=[]:=rfl
@[simp] theorem QCZ (e:Env) (k:Nat) (r:List Nat):Env.keep e (k::r)=(k,e.get k)::Env.keep e r:=rfl
@[simp] theorem QCU (l:ZH):Qce l=(List.range l.length).zip l:=rfl
attribute [simp] List.range_succ Qyo Qtr Qyx Qt5 Qzh Quy QzT QyV QvD QAo
@[simp] theorem vd_any  : SV.vd .any=true:=rfl
@[simp] theorem ug_any  : SV.ug .any=.any:=rfl
@[simp] theorem QDW  : SV.isCell .any=false:=rfl
@[simp] theorem QEC  : SV.flat .any=[.any]:=rfl
@[simp] theorem QDO  : SV.isPt .any=false:=rfl
@[simp] theorem QEV  : SV.isAg .any=false:=rfl
@[simp] theorem QBB  : SV.isTu .any=false:=rfl
@[simp] theorem vd_val (v:Value):SV.vd (.val v)=true:=rfl
@[simp] theorem ug_val (v:Value):SV.ug (.val v)=(.val v):=rfl
@[simp] theorem QB6 (v:Value):SV.flat (.val v)=[(.val v)]:=rfl
@[simp] theorem QET (v:Value):SV.isPt (.val v)=false:=rfl
@[simp] theorem QDM (v:Value):SV.isAg (.val v)=false:=rfl
@[simp] theorem QBC (v:Value):SV.isTu (.val v)=false:=rfl
@[simp] theorem QC8 (n:Int):SV.isCell (i64 n)=true:=rfl
@[simp] theorem QDa (n:Int):SV.flat (i64 n)=[(i64 n)]:=rfl
@[simp] theorem QFT (n:Int):SV.isPt (i64 n)=false:=rfl
@[simp] theorem QDG (n:Int):SV.isAg (i64 n)=false:=rfl
@[simp] theorem QFs (n:Int):SV.isTu (i64 n)=false:=rfl
@[simp] theorem QCE (b:Bool):SV.isCell (bl b)=true:=rfl
@[simp] theorem QGA (b:Bool):SV.flat (bl b)=[(bl b)]:=rfl
@[simp] theorem QCF (b:Bool):SV.isPt (bl b)=false:=rfl
@[simp] theorem QBv (b:Bool):SV.isAg (bl b)=false:=rfl
@[simp] theorem QDN (b:Bool):SV.isTu (bl b)=false:=rfl
@[simp] theorem vd_st (s:ByteArray):SV.vd (st s)=true:=rfl
@[simp] theorem ug_st (s:ByteArray):SV.ug (st s)=(st s):=rfl
@[simp] theorem QEu (s:ByteArray):SV.isCell (st s)=true:=rfl
@[simp] theorem QC7 (s:ByteArray):SV.flat (st s)=[(st s)]:=rfl
@[simp] theorem QGC (s:ByteArray):SV.isPt (st s)=false:=rfl
@[simp] theorem QEP (s:ByteArray):SV.isAg (st s)=false:=rfl
@[simp] theorem QF1 (s:ByteArray):SV.isTu (st s)=false:=rfl
@[simp] theorem vd_slc (c:ZH) (n:Nat):SV.vd (.slc c n)=true:=rfl
@[simp] theorem ug_slc (c:ZH) (n:Nat):SV.ug (.slc c n)=(.slc c n):=rfl
@[simp] theorem QEv (c:ZH) (n:Nat):SV.isCell (.slc c n)=true:=rfl
@[simp] theorem QEG (c:ZH) (n:Nat):SV.flat (.slc c n)=[(.slc c n)]:=rfl
@[simp] theorem QCJ (c:ZH) (n:Nat):SV.isPt (.slc c n)=false:=rfl
@[simp] theorem QCY (c:ZH) (n:Nat):SV.isAg (.slc c n)=false:=rfl
@[simp] theorem QCf (c:ZH) (n:Nat):SV.isTu (.slc c n)=false:=rfl
@[simp] theorem vd_own (i off len sz ver:Nat):SV.vd (.own i off len sz ver)=true:=rfl
@[simp] theorem ug_own (i off len sz ver:Nat):SV.ug (.own i off len sz ver)=(.own i off len sz ver):=rfl
@[simp] theorem QB5 (i off len sz ver:Nat):SV.isCell (.own i off len sz ver)=true:=rfl
@[simp] theorem QB0 (i off len sz ver:Nat):SV.flat (.own i off len sz ver)=[(.own i off len sz ver)]:=rfl
@[simp] theorem QD5 (i off len sz ver:Nat):SV.isPt (.own i off len sz ver)=false:=rfl
@[simp] theorem QB3 (i off len sz ver:Nat):SV.isAg (.own i off len sz ver)=false:=rfl
@[simp] theorem QDy (i off len sz ver:Nat):SV.isTu (.own i off len sz ver)=false:=rfl
@[simp] theorem vd_ptr (s:SV) (k:Nat):SV.vd (.ptr s k)=true:=rfl
@[simp] theorem ug_ptr (s:SV) (k:Nat):SV.ug (.ptr s k)=(.ptr s k):=rfl
@[simp] theorem QFK (s:SV) (k:Nat):SV.isCell (.ptr s k)=true:=rfl
@[simp] theorem QFi (s:SV) (k:Nat):SV.flat (.ptr s k)=[(.ptr s k)]:=rfl
@[simp] theorem QBu (s:SV) (k:Nat):SV.isPt (.ptr s k)=true:=rfl
@[simp] theorem QDq (s:SV) (k:Nat):SV.isAg (.ptr s k)=false:=rfl
@[simp] theorem QDI (s:SV) (k:Nat):SV.isTu (.ptr s k)=false:=rfl
@[simp] theorem vd_agg (l:ZH):SV.vd (.agg l)=true:=rfl
@[simp] theorem ug_agg (l:ZH):SV.ug (.agg l)=(.agg l):=rfl
@[simp] theorem QGg (l:ZH):SV.isCell (.agg l)=false:=rfl
@[simp] theorem QEX (l:ZH):SV.isPt (.agg l)=false:=rfl
@[simp] theorem QBY (l:ZH):SV.isAg (.agg l)=true:=rfl
@[simp] theorem QFJ (l:ZH):SV.isTu (.agg l)=false:=rfl
@[simp] theorem vd_tup (l:ZH):SV.vd (.tup l)=true:=rfl
@[simp] theorem ug_tup (l:ZH):SV.ug (.tup l)=(.tup l):=rfl
@[simp] theorem QB7 (l:ZH):SV.isCell (.tup l)=false:=rfl
@[simp] theorem QDF (l:ZH):SV.flat (.tup l)=[(.tup l)]:=rfl
@[simp] theorem QCt (l:ZH):SV.isPt (.tup l)=false:=rfl
@[simp] theorem QDx (l:ZH):SV.isAg (.tup l)=false:=rfl
@[simp] theorem QE2 (l:ZH):SV.isTu (.tup l)=true:=rfl
@[simp] theorem vd_fn (f:Fn) (a b:ZH):SV.vd (.fn f a b)=true:=rfl
@[simp] theorem ug_fn (f:Fn) (a b:ZH):SV.ug (.fn f a b)=(.fn f a b):=rfl
@[simp] theorem QEI (f:Fn) (a b:ZH):SV.isCell (.fn f a b)=true:=rfl
@[simp] theorem QBL (f:Fn) (a b:ZH):SV.flat (.fn f a b)=[(.fn f a b)]:=rfl
@[simp] theorem QCw (f:Fn) (a b:ZH):SV.isPt (.fn f a b)=false:=rfl
@[simp] theorem QFW (f:Fn) (a b:ZH):SV.isAg (.fn f a b)=false:=rfl
@[simp] theorem QDg (f:Fn) (a b:ZH):SV.isTu (.fn f a b)=false:=rfl
@[simp] theorem vd_ifc (t:ZK) (x:SV):SV.vd (.ifc t x)=true:=rfl
@[simp] theorem ug_ifc (t:ZK) (x:SV):SV.ug (.ifc t x)=(.ifc t x):=rfl
@[simp] theorem QDH (t:ZK) (x:SV):SV.isCell (.ifc t x)=true:=rfl
@[simp] theorem QEU (t:ZK) (x:SV):SV.flat (.ifc t x)=[(.ifc t x)]:=rfl
@[simp] theorem QFn (t:ZK) (x:SV):SV.isPt (.ifc t x)=false:=rfl
@[simp] theorem QDA (t:ZK) (x:SV):SV.isAg (.ifc t x)=false:=rfl
@[simp] theorem QDS (t:ZK) (x:SV):SV.isTu (.ifc t x)=false:=rfl
@[simp] theorem QEF (v:Value):SV.isCell (.val v)=v.oneCell':=rfl
@[simp] theorem QCn (l:ZH):SV.flat (.agg l)=l:=rfl
@[simp] theorem vd_gd (b:Bool) (x:SV):SV.vd (.gd b x)=(b&&x.vd):=rfl
@[simp] theorem ug_gd (b:Bool) (x:SV):SV.ug (.gd b x)=x.ug:=rfl
@[simp] theorem isI_gd (k:IntKind) (b:Bool) (x:SV):SV.isI k (.gd b x)=(b&&x.isI k):=rfl
@[simp] theorem isN_gd (b:Bool) (x:SV):SV.isN (.gd b x)=(b&&x.isN):=rfl
@[simp] theorem isB_gd (b:Bool) (x:SV):SV.isB (.gd b x)=(b&&x.isB):=rfl
@[simp] theorem isS_gd (b:Bool) (x:SV):SV.isS (.gd b x)=(b&&x.isS):=rfl
@[simp] theorem int_gd (b:Bool) (x:SV):SV.int (.gd b x)=x.int:=rfl
@[simp] theorem QFD (b:Bool) (x:SV):SV.bool (.gd b x)=x.bool:=rfl
@[simp] theorem str_gd (b:Bool) (x:SV):SV.str (.gd b x)=x.str:=rfl
@[simp] theorem QFl (k k':IntKind) (n:Int):SV.isI k (.val (.int k' n))=decide (k'=k):=rfl
@[simp] theorem QD6 (k':IntKind) (n:Int):SV.isN (.val (.int k' n))=true:=rfl
@[simp] theorem QF5 (k':IntKind) (n:Int):SV.int (.val (.int k' n))=n:=rfl
@[simp] theorem QCo (b:Bool):SV.isB (.val (.bool b))=true:=rfl
@[simp] theorem QFe (b:Bool):SV.bool (.val (.bool b))=b:=rfl
@[simp] theorem isS_st (s:ByteArray):SV.isS (st s)=true:=rfl
@[simp] theorem str_st (s:ByteArray):SV.str (st s)=s:=rfl
@[simp] theorem on_bl (want b:Bool):SV.on want (bl b)=(b==want):=rfl
@[simp] theorem on_gd (want b:Bool) (x:SV):SV.on want (.gd b x)=(b&&x.on want):=rfl
@[simp] theorem QD7 (b:Bool):SV.bish (bl b)=true:=rfl
@[simp] theorem QDR (b:Bool) (x:SV):SV.bish (.gd b x)=x.bish:=rfl
@[simp] theorem mv_ptr (off:Nat) (s:SV) (k:Nat):SV.mv off (.ptr s k)=.ptr s (k+off):=rfl
@[simp] theorem QDp (l:ZH):SV.els' (.agg l)=l:=rfl
@[simp] theorem QB2 (l:ZH):SV.els' (.tup l)=l:=rfl
@[simp] theorem QCH (s:SV) (k:Nat):SV.isNc (.ptr s k)=true:=rfl
@[simp] theorem QBw (f:ZN) (a b:ZH):SV.isNc (.fn (.func f) a b)=true:=rfl
@[simp] theorem QC1 (c:ZH) (n:Nat):SV.slen (.slc c n)=n:=rfl
@[simp] theorem QFa (i off len sz ver:Nat):SV.slen (.own i off len sz ver)=len:=rfl
@[simp] theorem QEf (c:ZH) (n:Nat):SV.isSl (.slc c n)=true:=rfl
@[simp] theorem QBS (i off len sz ver:Nat):SV.isSl (.own i off len sz ver)=true:=rfl
@[simp] theorem QEE (H:ZG) (c:ZH) (n:Nat):SV.row H (.slc c n)=c:=rfl
@[simp] theorem QEn (H:ZG) (i off len sz ver:Nat):SV.row H (.own i off len sz ver)=(Qn H i ver).drop off:=rfl
@[simp] theorem Qlh (H:ZG) (s:SV) (k:Nat):SV.at H (.ptr s k)=(s.row H).drop k:=rfl
@[simp] theorem els_eq (H:ZG) (sz:Nat) (s:SV):SV.els H sz s=(s.row H).take (s.slen*sz):=rfl
@[simp] theorem QE0:SV.isNil (.val (.slice none 0 0))=true:=rfl
@[simp] theorem QCL (sz i off len s ver:Nat):SV.szIs sz (.own i off len s ver)=(s==sz):=rfl
@[simp] theorem QFS (sz:Nat) (c:ZH) (n:Nat):SV.szIs sz (.slc c n)=true:=rfl
@[simp] theorem QCK (sz l h:Nat) (cs:ZH) (n:Nat):SV.cut sz l h (.slc cs n)=.slc ((cs.drop (l*sz)).take ((h-l)*sz)) (h-l):=rfl
@[simp] theorem QGi (sz l h i off n s ver:Nat):SV.cut sz l h (.own i off n s ver)=.own i (off+l*sz) (h-l) s ver:=rfl
@[simp] theorem QCX (x:SV):Qbn (some x)=x.int.toNat:=rfl
@[simp] theorem QE4:Qbn none=0:=rfl
@[simp] theorem QFx (n:Nat) (x:SV):Qbl n (some x)=x.int.toNat:=rfl
@[simp] theorem QC4 (n:Nat):Qbl n none=n:=rfl
@[simp] theorem QDX (x:SV):QcJ (some x)=(x.isN=true/\0<=x.int):=rfl
@[simp] theorem QE5:QcJ none=True:=rfl
@[simp] theorem QGj (n:Nat) (l:ZH):QaY n (.agg l)=(l.length=n):=by simp[QaY]
@[simp] theorem QBt (n:Nat) (k:Int):QaY n (i64 k)=(n=1):=by
 show(n=1/\(i64 k).isCell=true/\true=true)=_;simp
@[simp] theorem QCI (n:Nat) (k:ByteArray):QaY n (st k)=(n=1):=by
 show(n=1/\(st k).isCell=true/\true=true)=_;simp
@[simp] theorem QDr (n:Nat) (c:ZH) (k:Nat):QaY n (.slc c k)=(n=1):=by simp[QaY,SV.ug,SV.vd,SV.isCell]
@[simp] theorem QFo (n i off len sz ver:Nat):QaY n (.own i off len sz ver)=(n=1):=by simp[QaY,SV.ug,SV.vd,SV.isCell]
@[simp] theorem QES (n:Nat) (x:SV):QaY n (.gd true x)=QaY n x:=by simp[QaY,SV.ug,SV.vd]
@[simp] theorem QEi (z:ZH):Qba z []=z:=rfl
@[simp] theorem QDL (z:ZH) (off:Nat) (v:SV) (r:List (Nat×SV)):Qba z ((off,v)::r)=Qba (z.take off++v.ug.flat++z.drop (off+v.ug.flat.length)) r:=rfl
@[simp] theorem QFV:QC []=True:=by simp[QC]
@[simp] theorem QBV (s:SV) (l:ZH):QC (s::l)=(s.isCell=true/\QC l):=by simp[QC]
@[simp] theorem QGB (a b:ZH):QC (a++b)=(QC a/\QC b):=by
 apply propext; constructor
 . intro h; exact⟨λs hs=>h s (by simp[hs]),λs hs=>h s (by simp[hs])⟩
 . rintro⟨h1,h2⟩ s hs; rcases Vq.1 hs with h|h
   . exact h1 s h
   . exact h2 s h
def QE (l:List Int):ZH:=l.map i64
@[simp] theorem QCb (l:List Int):QC (QE l)=True:=by
 simp only[QC,QE,Vy,eq_iff_iff,iff_true]; rintro s ⟨n,_,rfl⟩; rfl
@[simp] theorem QC0 (l:List Int):(QE l).length=l.length:=by simp[QE]
attribute [simp] QfN QtU QkC QA8
@[simp] theorem QGl (o:AO) (r:ZG) (ver:Nat):Qn (o::r) 0 ver=if(o.live&&o.ver==ver)=true then o.cells else []:=by simp[Qn]
@[simp] theorem QBi (o:AO) (r:ZG) (k ver:Nat):Qn (o::r) (k+1) ver=Qn r k ver:=by simp[Qn]
@[simp] theorem QEp (o:AO) (r:ZG) (f:AO->AO):setObj (o::r) 0 f=f o::r:=by simp[setObj]
@[simp] theorem QBz (o:AO) (r:ZG) (k:Nat) (f:AO->AO):setObj (o::r) (k+1) f=o::setObj r k f:=by
 simp only[setObj,YG]; cases r[k]? <;> simp
@[simp] theorem QoA (H L:ZG) (k ver:Nat) (T:ZK) (m:Nat):QbB (H++L) (H.length+k) ver T m=QbB L k ver T m:=by
 unfold QbB; rw[Vk (by omega)]; simp
@[simp] theorem QFc (H L:ZG) (ver:Nat) (T:ZK) (m:Nat):QbB (H++L) H.length ver T m=QbB L 0 ver T m:=QoA H L 0 ver T m
@[simp] theorem QDm (o:AO) (r:ZG) (ver:Nat) (T:ZK) (m:Nat):QbB (o::r) 0 ver T m=(o.live=true/\o.ver=ver/\o.ty=T/\o.cells.length=m):=by simp[QbB]
@[simp] theorem QCB (o:AO) (r:ZG) (k ver:Nat) (T:ZK) (m:Nat):QbB (o::r) (k+1) ver T m=QbB r k ver T m:=by simp[QbB]
attribute [simp] AO.put AO.grow Qbz Qbp SV.under SV.underL Qeo Qcn Qbf
@[simp] theorem QFz (n:Nat) (k:Int):SV.under n (i64 k)=true:=rfl
@[simp] theorem QCr (n:Nat) (b:Bool):SV.under n (bl b)=true:=rfl
@[simp] theorem QDV (n:Nat) (s:ByteArray):SV.under n (st s)=true:=rfl
@[simp] theorem QFY (n:Nat) (l:List Int):SV.underL n (QE l)=true:=by
 rw[SV.underL_iff]; simp only[QE,Vy]; rintro s ⟨k,_,rfl⟩; rfl
@[simp] theorem QEO (n0:Nat) (rs:List RS) (r:SV) (H':ZG) (env:Env) (H1:ZG):Ab.Fin n0 rs (.ret r) H' .normal env H1=((∀ s∈rs,s.side env H1)/\Cv n0 (Qa2 env H1 rs) H1 r H'):=rfl
@[simp] theorem Qe1 (n0:Nat) (rs:List RS) (r:SV) (H':ZG) (env:Env) (H1:ZG):Ab.Fin n0 rs (.ret r) H' .ret env H1=((∀ s∈rs,s.side env H1)/\Cv n0 (Qa2 env H1 rs) H1 r H'):=rfl
@[simp] theorem QE8 (n0:Nat) (rs:List RS) (Pt:Out->ZG->Prop) (env:Env) (H1:ZG):Ab.FinP n0 rs Pt .normal env H1=((∀ s∈rs,s.side env H1)/\Qc4 n0 Pt (Qa2 env H1 rs) H1):=rfl
@[simp] theorem QFX (n0:Nat) (rs:List RS) (Pt:Out->ZG->Prop) (env:Env) (H1:ZG):Ab.FinP n0 rs Pt .ret env H1=((∀ s∈rs,s.side env H1)/\Qc4 n0 Pt (Qa2 env H1 rs) H1):=rfl
@[congr] theorem QC6 {n0:Nat} {Pt:Out->ZG->Prop} {v v':SV} {H H':ZG} (h:Ev v=v') (h1:Ev H=H'):Qc4 n0 Pt v H=Qc4 n0 Pt v' H':=by rw[QR h,QR h1]
@[simp] theorem QcR (n0:Nat) (rs:List RS) (x y:SV) (H':ZG) (env:Env) (H1:ZG):Ab.Fin n0 rs (.pan y) H' (.panic x) env H1=Cv n0 x H1 y H':=rfl
attribute [simp] RS.side RS.ev Qa2
theorem Qp {n0:Nat} {H L:ZG} {r r1:SV} (d:Nat) (hcl:closed H) (hn:n0=H.length) (h:r1.fz H.length [] L d=r):Cv n0 r1 (H++L) r H:=by
 subst h; exact QuA d rfl (by omega) hcl
theorem Qi {n0:Nat} {H:ZG} {r:SV}:Cv n0 r H r H:=λS v hS hsim hv=>⟨S.ρ,by subst hS; exact Ext.refl _ _,by subst hS; exact hsim,by subst hS; exact hv⟩
theorem Qc3 {n:Nat} {ks:List Nat} {L:ZG} {d:Nat} {s:SV} (h:s.under n=true):SV.fz n ks L (d+1) s=s:=by unfold SV.fz; rw[Zn h]
@[simp] theorem fz_i64 (n:Nat) (ks:List Nat) (L:ZG) (d:Nat) (k:Int):SV.fz n ks L (d+1) (i64 k)=i64 k:=Qc3 rfl
@[simp] theorem fz_bl (n:Nat) (ks:List Nat) (L:ZG) (d:Nat) (k:Bool):SV.fz n ks L (d+1) (bl k)=bl k:=Qc3 rfl
end
end Go.Ab
