/- Steps of the proof. -/
import Derived.Test.YtmkdpmfhlfhjkaaGreatDoorCore2
set_option linter.all false
namespace Go.Ab
section
variable [QO] [QK] [Qv]
inductive IC where
 |skip
 |reg (l:List Ins)
 |drw (ns:List Nat) (l:List Ins)
 |drq (Ts:List ZM) (n0:Nat) (ns:List Nat) (l:List Ins) (os:List (List Nat)) (tl:List Ins)
 |seq (a b:IC)
 |cond (c:Od) (a b:IC)
 |blk (id:Nat) (a:IC)
 |loop (a:IC)
 |exit (id:Nat)
 |ret
 |keep (ks:List Nat) (a:IC)
 |rng (k:Nat) (g:Od) (ps:List Nat) (ia ib:IC)
 |scp (a:IC)
 |lab
 |no
def Env.keep (e:Env) (ks:List Nat):Env:=ks.map λk=>(k,e.get k)
theorem Env.get_keep (e:Env) (ks:List Nat) (t:Nat):(e.keep ks).get t=e.get t\/(e.keep ks).get t=.any:=by
 induction ks with
 |nil=>right; rfl
 |cons k r ih =>
  simp only[Env.keep,Vl,Env.get];by_cases h:k=t
  . rw[Zr h,h]; left; rfl
  . rw[Zq h]; exact ih
theorem QH.keep {S:St} {e:Env} {tmps:Array Value} (h:QH S e tmps) (ks:List Nat):QH S (e.keep ks) tmps:=by
 refine⟨λt => ?_⟩;rcases e.get_keep ks t with h1|h1<;>rw[h1]
 . exact h.get t
 . exact .any _
def Qiu (l:List Ins) (U:Env):List Nat:=l.filterMap (·.d)++U.map Prod.fst
def W (P:ZN) (N:Nat) (c:Code) (U:Env) (H:ZI) (K:ZH):Prop :=
 ∀ (db:DB) (S:St) (a:Act),S.H=H->Sim S->QH S U a.tmps->a.tmps.size=N->db.Ok S.w a.defers->c.wq db.ro P (Qar S N db K) a S.w
def St.newRes (S:St) (T:ZM):St:=⟨upd S.ρ S.H.length none,S.H++[⟨[],T,0,false⟩],S.w⟩
theorem Qp1 (S:St) (T:ZM):Ext S.H.length S (S.newRes T) where
 obj:=by
  intro i o hi ho;refine⟨o,?_,Vb _,λ_=>QbD _ _ (by omega)⟩;show(S.H++_)[i]? = _;rw[Vc hi]; exact ho
 imm:=by
  intro k hk hn;refine⟨rfl,?_⟩;rintro⟨i,o,ho,hl,hρ⟩;simp only[St.newRes]at ho hρ;by_cases hi:i=S.H.length
  . subst hi; rw[Qa0]at hρ; cases hρ
  . rw[QbD _ _ hi]at hρ;have hi':i<S.H.length:=by have:=Qk ho; simp at this; omega
    rw[Vc hi']at ho;exact hn ⟨i,o,ho,hl,hρ⟩
 size:=Vb _
 shape:=λ_ _ _ h=>h
 loops:=λ_ r h=>⟨r,h⟩
 os:=rfl
 tape:=rfl
 output:=rfl
theorem QDb {S:St} (h:Sim S) (T:ZM):Sim (S.newRes T):=by
 refine h.step (Qp1 S T) (by simp[St.newRes]) ?_ ?_
 . intro i o ho;by_cases hi:i=S.H.length
   . subst hi;have:o=⟨[],T,0,false⟩:=by simpa[St.newRes]using ho.symm
     subst this;refine .inr ⟨λ_ => ?_,λs hs=>by simp at hs,λ_ hc=>absurd rfl hc⟩;simp only[St.newRes,Qa0]
   . have hi':i<S.H.length:=by have:=Qk ho; simp[St.newRes]at this; omega
     refine .inl ⟨?_,QbD _ _ hi,λb hb hl=>rfl⟩;simp only[St.newRes]at ho; rw[Vc hi']at ho; exact ho
 . intro i j o o' b hi hj hl hl' hρ hρ';have key:∀ (i:Nat) (o:AO),(S.newRes T).H[i]? = some o->(S.newRes T).ρ i=some b->S.H[i]? = some o/\S.ρ i=some b:=by
    intro i o ho hρ;by_cases hi:i=S.H.length
    . subst hi; simp only[St.newRes,Qa0]at hρ; cases hρ
    . have hi':i<S.H.length:=by have:=Qk ho; simp[St.newRes]at this; omega
      simp only[St.newRes]at ho hρ;rw[Vc hi']at ho;rw[QbD _ _ hi]at hρ;exact⟨ho,hρ⟩
   obtain⟨h1,h2⟩:=key i o hi hρ;obtain⟨h3,h4⟩:=key j o' hj hρ';exact h.inj i j o o' b h1 h3 hl hl' h2 h4
def QcU (Ts:List ZM):ZI:=Ts.map λT=>⟨[],T,0,false⟩
theorem Qti:∀ (Ts:List ZM) {S:St},Sim S->∃ ρ,Ext S.H.length S ⟨ρ,S.H++QcU Ts,S.w⟩/\Sim ⟨ρ,S.H++QcU Ts,S.w⟩
 |[],S,h=>⟨S.ρ,by simpa[QcU]using Ext.refl _ S,by simpa[QcU]using h⟩
 |T::r,S,h=>by
  have h1:=Qp1 S T;have h2:=QDb h T;obtain⟨ρ,h3,h4⟩:=Qti r h2;have e:(S.newRes T).H++QcU r=S.H++QcU (T::r):=by simp[St.newRes,QcU]
  rw[e]at h3 h4;exact⟨ρ,h1.trans (h3.mono (h1.len (Vb _))),h4⟩
def E.rs (n:Nat):E->E
 |e=>e
def J.rs (n:Nat):J->J
 |.e i=>.e (i.rs n)
 |j=>j
def Ins.rs (n:Nat) (o:Ins):Ins:=⟨o.d,o.g,o.j.rs n⟩
def Qe8 (P:ZN) (N:Nat) (aa:Array Oper) (ns:List Nat) (l:List Ins):Bool :=
 (ns.zip l).all λx=>match aa[x.1]? with|some o=>Qd2 P N aa o x.2|none=>false
def J.dep:J->Bool
 |.p (.ld1 _)|.p (.ldn _ _)|.p (.lkp _ _ _ _ _)|.p (.bys _)|.q _ _=>true
 |_=>false
def J.quiet:J->Bool
 |.e _=>false
 |_=>true
def QbR (P:ZN) (o:Ins) (U:Env) (H:ZI) (v:SV):Prop :=
 match o.g with
 |none =>
  match o.j with
  |.p i=>(pv i U.ev H).1/\v=(pv i U.ev H).2
  |.q f args=>OkC P (U.ev f) (args.map U.ev) H (.ret v) H
  |.e _=>False
 |some (s,want) =>
  (U.get s).bish=true /\
  match o.j with
  |.p i=>((U.get s).on want=true->(pv i U.ev H).1)/\v=.gd ((U.get s).on want) (pv i U.ev H).2
  |.q f args=>∃ r,((U.get s).on want=true->OkC P (U.ev f) (args.map U.ev) H (.ret r) H)/\v=.gd ((U.get s).on want) r
  |.e _=>False
def Od.slots:Od->List Nat
 |.t n=>[n]
 |.c _=>[]
def I.ods:I->List Od
 |.eqf _ _ x y=>[x,y]
 |.mov x=>[x]
 |.pick c a b=>[c,a,b]
 |.bin _ _ x y=>[x,y]
 |.neg _ x=>[x]
 |.not x=>[x]
 |.cvi _ x=>[x]
 |.ld1 p=>[p]
 |.ldn _ p=>[p]
 |.fa _ p=>[p]
 |.fld1 _ x=>[x]
 |.ia _ s i=>[s,i]
 |.iap _ _ p i=>[p,i]
 |.ixs s i=>[s,i]
 |.ixa _ _ _ x i=>[x,i]
 |.sl _ x lo hi=>x::(lo.toList++hi.toList)
 |.sls x lo hi=>x::(lo.toList++hi.toList)
 |.ext x _=>[x]
 |.len x=>[x]
 |.lens x=>[x]
 |.mm _ _ x y=>[x,y]
 |.mkf _ a b=>a++b
 |.mki _ x=>[x]
 |.nck x=>[x]
 |.bld _ ps=>ps.map λp=>p.2.2
 |.kro _ _ _ _ _=>[]
 |.ifn _ _ x=>[x]
 |.rst x=>[x]
 |.tas _ _ _ x=>[x]
 |.gix _ _ _ _ j=>[j]
 |.lkp _ _ _ m k=>[m,k]
 |.iav _ s j=>[s,j]
 |.lnv x=>[x]
 |.bys x=>[x]
 |.no=>[]
def E.ods:E->List Od
 |.alc _ _=>[]
 |.box _ x=>[x]
 |.bsl _ _ _ _ ps=>ps.map λp=>p.2
 |.mks _ _ _ _ l c=>[l,c]
 |.app _ _ _ s x=>[s,x]
 |.st _ p x=>[p,x]
 |.stw ws _ p x=>p::x::ws.map Od.t
 |.call f as=>f::as
 |.nil _ _ x=>[x]
 |.sby x=>[x]
 |.aps _ s x=>[s,x]
 |.pan x=>[x]
 |.mkm _=>[]
 |.mup _ m k v=>[m,k,v]
def J.slots:J->List Nat
 |.p i=>i.ods.flatMap Od.slots
 |.q f args=>(f::args).flatMap Od.slots
 |.e i=>i.ods.flatMap Od.slots
def Ins.slots (o:Ins):List Nat:=(match o.g with|some (s,_)=>[s]|none=>[])++o.j.slots
def Qgu (ts:List Nat):Option Nat->Bool
 |some d=>ts.contains d
 |none=>false
def Qgp (ts:List Nat):List (Ins×SV)->List Nat
 |[]=>ts
 | (p,_)::r=>if Qgu ts p.d=true then Qgp (p.slots++ts) r else Qgp ts r
def QkN (o:Ins) (pend:List (Ins×SV)) (p:Ins):Bool:=p.j.dep && !Qgu (Qgp o.slots pend) p.d
def xd (P:ZN) (pend:List (Ins×SV)):List Ins->Env->ZI->(ZH)->Prop
 |[],U,H,K=>K .normal U H
 |o::r,U,H,K =>
  if o.j.quiet=true then
   match o.g,o.j with
   |none,.p i=>(pv i U.ev H).1/\xd P ((o,(pv i U.ev H).2)::pend) r (U.put o.d (pv i U.ev H).2) H K
   |none,.q f args=>∃ v,OkC P (U.ev f) (args.map U.ev) H (.ret v) H/\xd P ((o,v)::pend) r (U.put o.d v) H K
   |some (s,want),.p i=>(U.get s).bish=true/\((U.get s).on want=true->(pv i U.ev H).1) /\
    xd P ((o,.gd ((U.get s).on want) (pv i U.ev H).2)::pend) r (U.put o.d (.gd ((U.get s).on want) (pv i U.ev H).2)) H K
   |some (s,want),.q f args=>(U.get s).bish=true/\∃ v,((U.get s).on want=true->OkC P (U.ev f) (args.map U.ev) H (.ret v) H) /\
    xd P ((o,.gd ((U.get s).on want) v)::pend) r (U.put o.d (.gd ((U.get s).on want) v)) H K
   |_,_=>False
  else xo P o U H λx aw H' =>
   match x with
   |.normal=>(∀ p∈pend,QkN o pend p.1=true->QbR P p.1 aw H' p.2)/\xd P pend r aw H' K
   |x=>K x [] H'
def QY (P:ZN) (N:Nat) (D:Array Oper->List Nat->List Ins->Bool):Code->IC->Bool
 |c,.keep _ a=>QY P N D c a
 |_,.no=>true
 |.skip,.skip=>true
 |.region _ aa false,.reg l=>ndB aa&&chkL P N aa aa.toList l
 |.region _ aa true,.drw m l=>ndB aa&&(Qe8 P N aa m l&&(D aa m l&&QkC aa l))
 |.region _ aa true,.drq _ n0 m l os tl=>ndB aa&&((Qkr aa n0&&Qc5 aa os (aa.size-n0) [] (Array.replicate n0 true++Array.replicate (aa.size-n0) false))&&((chkL P N aa (aa.toList.drop n0) tl&&tl.all Qhr)&&(Qe8 P N (aa.extract 0 n0) m l&&D (aa.extract 0 n0) m l)))
 |.seq x y,.seq a b=>QY P N D x a&&QY P N D y b
 |.cond c x y,.cond c' a b=>Qx c c'&&QY P N D x a&&QY P N D y b
 |.block id x,.blk id' a=>id==id'&&QY P N D x a
 |.loop x,.loop a=>QY P N D x a
 |.exit id,.exit id'=>id==id'
 |.ret,.ret=>true
 |.scope x,.scp a=>QY P N D x a
 |.label _,.lab=>true
 |.rangeFunc g ps a b,.rng _ g' ps' ia ib=>(Qx g g'&&ps.toList==ps')&&(QY P N D a ia&&QY P N D b ib)
 |_,_=>false
def DOk0 (P:ZN) (D:Array Oper->List Nat->List Ins->Bool):Prop :=
 ∀ (N:Nat) (aa:Array Oper) (m:List Nat) (l:List Ins) (U:Env) (H:ZI) (K:ZH),Qe8 P N aa m l=true->D aa m l=true->xd P [] l U H K ->
  ∀ (db:DB) (S:St) (a:Act),S.H=H->Sim S->QH S U a.tmps->a.tmps.size=N->db.Ok S.w a.defers->Qcx P .any aa (Qar S N db K) aa.size (Array.replicate aa.size false) a S.w.drew
structure DOk (P:ZN) (D:Array Oper->List Nat->List Ins->Bool):Prop where
 rs:∀ (n:Nat) (aa:Array Oper) (m:List Nat) (l:List Ins),D aa m l=true->D aa m (l.map (Ins.rs n))=true
 ok:DOk0 P D
 mixed:P.follows .mixedOrders=true
theorem Qxn {P:ZN} {N:Nat} {aa:Array Oper} {op:Oper} {o:Ins} (n:Nat) (h:Qd2 P N aa op o=true):Qd2 P N aa op (o.rs n)=true:=by
 obtain⟨d,g,j⟩:=o
 cases j with
 |p i=>exact h
 |q f as=>exact h
 |e i=>cases i<;>exact h
theorem Qy1 {P:ZN} {N:Nat} {aa:Array Oper} {ns:List Nat} {l:List Ins} (n:Nat) (h:Qe8 P N aa ns l=true):Qe8 P N aa ns (l.map (Ins.rs n))=true:=by
 unfold Qe8 at h ⊢;rw[Vi]at h ⊢;intro x hx;rw[List.zip_map_right,VC]at hx;obtain⟨y,hy,rfl⟩:=hx;have:=h y hy;simp only[Prod.map_fst,id_eq,Prod.map_snd];split at this
 . exact Qxn n this
 . cases this
def Qhc (ro:Option Nat) (P:ZN) (c:Code) (Q:Exit->Act->ZO->Prop) (a:Act) (w:ZO):Prop :=
 ∀ (b:Frame) (k:List Item) (cs:List Frame),b.roundOf=ro->∃ e a' w',Q e a' w'/\ArrivesIn (Machine.fenced P (Fr ro)) P (lone (b.atR a (.code c::.inLoop c::k)) cs w) b k cs e a' w'
section
variable {ro:Option Nat} {P:ZN} {c:Code} {Q:Exit->Act->ZO->Prop} {a:Act} {w:ZO}
theorem Qi9 {fr:Frame} {cs:List Frame} {w:ZO} (h:fr.about P w=none):(lone fr cs w).fenced P (Fr ro):=fenced_calm (n:=0) trivial (QhX _ _) h
theorem QBb (h:Qhc ro P c Q a w):(Code.loop c).wq ro P Q a w:=by
 intro b k cs hro _ _;obtain⟨e,a',w',hq,harr⟩:=h b k cs hro;exact⟨e,a',w',hq,.of_steps (.one (Qi9 rfl) stepR_loop) harr⟩
theorem QAv (h:c.wq ro P (Exit.then (Qhc ro P c Q) Q) a w):Qhc ro P c Q a w:=by
 intro b k cs hro;obtain⟨e,a₁,w₁,hq,harr⟩:=h b (.inLoop c::k) cs hro trivial (QhX _ _)
 cases e with
 |normal =>
  obtain⟨e₂,a₂,w₂,hq₂,harr₂⟩:=hq b k cs hro;exact⟨e₂,a₂,w₂,hq₂,.of_steps (StepsIn.trans harr (.one (Qi9 rfl) stepR_inLoop)) harr₂⟩
 |exit id=>exact⟨_,a₁,w₁,hq,.pass (x:=.inLoop c) rfl (λ_ _=>.inl (by simp)) harr⟩
 |goto l=>exact⟨_,a₁,w₁,hq,.pass (x:=.inLoop c) rfl (λ_ _=>.inl (by simp)) harr⟩
 |ret=>exact⟨_,a₁,w₁,hq,.pass (x:=.inLoop c) rfl (λ_ _=>.inl (by simp)) harr⟩
 |panic ch=>exact⟨_,a₁,w₁,hq,.pass (x:=.inLoop c) rfl (λ_ _=>.inl (by simp)) harr⟩
 |outgrown=>exact⟨_,a₁,w₁,hq,.pass (x:=.inLoop c) rfl (λ_ _=>.inl (by simp)) harr⟩
theorem Qlk {Q':Exit->Act->ZO->Prop} (h:Qhc ro P c Q a w) (hq:∀ e a w,Q e a w->Q' e a w):Qhc ro P c Q' a w :=
 λb k cs hro=>let ⟨e,a',w',q,r⟩:=h b k cs hro; ⟨e,a',w',hq _ _ _ q,r⟩
end
def okL (P:ZN) (N:Nat) (D:Array Oper->List Nat->List Ins->Bool) (ps:List Nat) (ia ib:IC) (r:Loop):Prop :=
 r.params.toList=ps/\r.tmps.size=N/\QY P N D r.assign ia=true/\QY P N D r.body ib=true
def Env.vals (e:Env) (N:Nat):ZJ:=(List.range N).map e.get
def lpo (P:ZN) (N:Nat) (D:Array Oper->List Nat->List Ins->Bool) (k:Nat) (ps:List Nat) (ia ib:IC) (cs:ZJ) (st:LSt):AO:=⟨.lp k (okL P N D ps ia ib) st::cs,0,0,false⟩
def Qf6:AO:=⟨[],0,1,false⟩
def LSt.out (K:ZH) (U:Env) (H:ZI):LSt->Prop
 |.ready=>K .normal U H
 |.busy=>False
 |.ret=>K .ret U H
 |.exit id=>K (.exit id) U H
 |.goto l=>K (.goto l) U H
def LI (P:ZN) (N:Nat) (D:Array Oper->List Nat->List Ins->Bool) (i:IC) (U:Env) (H:ZI) (K:ZH):Prop :=
 ∀ c,QY P N D c i=true->∀ (db:DB) (S:St) (a:Act),S.H=H->Sim S->QH S U a.tmps->a.tmps.size=N->db.Ok S.w a.defers->Qhc db.ro P c (Qar S N db K) a S.w
def WI (P:ZN) (N:Nat) (D:Array Oper->List Nat->List Ins->Bool) (i:IC) (U:Env) (H:ZI) (K:ZH):Prop :=
 ∀ c,QY P N D c i=true->W P N c U H K
def X (P:ZN) (N:Nat) (D:Array Oper->List Nat->List Ins->Bool):IC->Env->ZI->(ZH)->Prop
 |.skip,U,H,K=>K .normal U H
 |.reg l,U,H,K=>QbP P l U H K
 |.drw _ l,U,H,K=>xd P [] l U H λx e H =>
  match x with
  |.normal=>K .normal e H
  |x=>K x (QdC l U) H
 |.drq Ts n0 _ l os tl,U,H,K=>xd P [] (l.map (Ins.rs H.length)) U (H++QcU Ts) λx U H =>
  match x with
  |.normal=>xrt P n0 tl os U H λx e H=>K x (e.keep (Qiu tl U)) H
  |x=>K x U H
 |.seq a b,U,H,K=>X P N D a U H λx U H =>
  match x with
  |.normal=>X P N D b U H K
  |x=>K x U H
 |.cond c a b,U,H,K=>(U.ev c).isB=true/\((U.ev c).bool=true->X P N D a U H K)/\((U.ev c).bool=false->X P N D b U H K)
 |.blk id a,U,H,K=>X P N D a U H λx U H =>
  match x with
  |.exit i=>if i=id then K .normal U H else K (.exit i) U H
  |x=>K x U H
 |.loop a,U,H,K=>LI P N D a U H K
 |.exit id,U,H,K=>K (.exit id) U H
 |.ret,U,H,K=>K .ret U H
 |.keep ks a,U,H,K=>X P N D a (U.keep ks) H K
 |.rng kk g ps ia ib,U,H,K=>(U.ev g).vd=true/\match (U.ev g).ug with
  |.fn (.func k) first cap=>∃ Pt:Out->ZI->Prop,OkP P k (first++[.yl H.length]++cap) (H++[lpo P N D kk ps ia ib (U.vals N) .ready]) Pt /\
   ∀ out H',Pt out H'->match out with
    |.ret _=>∃ k' ok st cs,H'[H.length]? = some ⟨.lp k' ok st::cs,0,0,false⟩/\st.out K U (H'.set H.length Qf6)
    |.pan x=>K (.panic x) U H'
  |_=>False
 |.scp a,U,H,K=>X P N D a U H λx U H =>
  match x with
  |.goto _=>False
  |x=>K x U H
 |.lab,U,H,K=>K .normal U H
 |.no,_,_,_=>False
section
variable {P:ZN} {N:Nat} {D:Array Oper->List Nat->List Ins->Bool}
theorem W.mono {c:Code} {U:Env} {H:ZI} {K K':ZH} (h:W P N c U H K) (hk:∀ x U H,K x U H->K' x U H):W P N c U H K':=by
 intro db S a h1 h2 h3 h4 h5;refine wq_mono (h db S a h1 h2 h3 h4 h5) ?_;rintro e a w ⟨x,aw,ρ,H',g1,g2,g3,g4,g5,g6,g7⟩;exact⟨x,aw,ρ,H',g1,g2,g3,g4,g5,g6,hk _ _ _ g7⟩
theorem W.keep {c:Code} {U:Env} {H:ZI} {K:ZH} (ks:List Nat) (h:W P N c (U.keep ks) H K):W P N c U H K :=
 λdb S a h1 h2 h3 h4 h5=>h db S a h1 h2 (h3.keep ks) h4 h5
theorem WI.keep {i:IC} {U:Env} {H:ZI} {K:ZH} (ks:List Nat) (h:WI P N D i (U.keep ks) H K):WI P N D i U H K :=
 λc hc=>(h c hc).keep ks
theorem W.seq {x y:Code} {U:Env} {H:ZI} {K:ZH}
 (h:W P N x U H λe U H=>match e with|.normal=>W P N y U H K|e=>K e U H):W P N (.seq x y) U H K:=by
 intro db S a h1 h2 h3 h4 h5;refine wpIn_seq (wq_mono (h db S a h1 h2 h3 h4 h5) ?_);rintro e a' w ⟨xe,aw,ρ,H',g1,g2,g3,g4,g5,g6,g7⟩
 cases xe<;>cases e<;>simp only[ER]at g1
 . exact wq_mono (g7 db ⟨ρ,H',w⟩ a' rfl g3 g4 g5 g6) λe a w h=>Qar.trans g2 h
 . exact⟨.exit _,aw,ρ,H',g1,g2,g3,g4,g5,g6,g7⟩
 . exact⟨.goto _,aw,ρ,H',g1,g2,g3,g4,g5,g6,g7⟩
 . exact⟨.ret,aw,ρ,H',g1,g2,g3,g4,g5,g6,g7⟩
 . exact⟨.panic _,aw,ρ,H',g1,g2,g3,g4,g5,g6,g7⟩
theorem W.cond {c:Operand} {c':Od} {x y:Code} {U:Env} {H:ZI} {K:ZH} (hc:Qx c c'=true) (hb:(U.ev c').isB=true)
 (ht:(U.ev c').bool=true->W P N x U H K) (hf:(U.ev c').bool=false->W P N y U H K):W P N (.cond c x y) U H K:=by
 intro db S a h1 h2 h3 h4 h5;have e1:=(QD hc h3).isB hb;exact wpIn_cond_split e1 (λh=>ht h db S a h1 h2 h3 h4 h5) (λh=>hf h db S a h1 h2 h3 h4 h5)
theorem W.block {id:Nat} {x:Code} {U:Env} {H:ZI} {K:ZH}
 (h:W P N x U H λe U H=>match e with|.exit i=>if i=id then K .normal U H else K (.exit i) U H|e=>K e U H):W P N (.block id x) U H K:=by
 intro db S a h1 h2 h3 h4 h5;refine wpIn_block (wq_mono (h db S a h1 h2 h3 h4 h5) ?_);rintro e a' w ⟨xe,aw,ρ,H',g1,g2,g3,g4,g5,g6,g7⟩
 cases xe<;>cases e<;>simp only[ER]at g1
 case exit.exit i j =>
  subst g1;simp only[Exit.inBlock];simp only at g7;by_cases hij:i=id
  . rw[Zr hij]at g7 ⊢;exact⟨.normal,aw,ρ,H',trivial,g2,g3,g4,g5,g6,g7⟩
  . rw[Zq hij]at g7 ⊢;exact⟨.exit i,aw,ρ,H',rfl,g2,g3,g4,g5,g6,g7⟩
 . exact⟨.normal,aw,ρ,H',g1,g2,g3,g4,g5,g6,g7⟩
 . exact⟨.goto _,aw,ρ,H',g1,g2,g3,g4,g5,g6,g7⟩
 . exact⟨.ret,aw,ρ,H',g1,g2,g3,g4,g5,g6,g7⟩
 . exact⟨.panic _,aw,ρ,H',g1,g2,g3,g4,g5,g6,g7⟩
theorem W.scope {x:Code} {U:Env} {H:ZI} {K:ZH}
 (h:W P N x U H λe U H=>match e with|.goto _=>False|e=>K e U H):W P N (.scope x) U H K:=by
 intro db S a h1 h2 h3 h4 h5;refine QwK (wq_mono (h db S a h1 h2 h3 h4 h5) ?_);rintro e a' w ⟨xe,aw,ρ,H',g1,g2,g3,g4,g5,g6,g7⟩
 cases xe<;>cases e<;>simp only[ER]at g1
 . exact⟨trivial,.normal,aw,ρ,H',trivial,g2,g3,g4,g5,g6,g7⟩
 . exact⟨trivial,.exit _,aw,ρ,H',g1,g2,g3,g4,g5,g6,g7⟩
 . exact g7.elim
 . exact⟨trivial,.ret,aw,ρ,H',trivial,g2,g3,g4,g5,g6,g7⟩
 . exact⟨trivial,.panic _,aw,ρ,H',g1,g2,g3,g4,g5,g6,g7⟩
theorem Env.vals_rel {S:St} {U:Env} {tmps:Array Value} (h:QH S U tmps) (hN:tmps.size=N):VRs S (U.vals N) tmps.toList:=by
 refine⟨by simp[Env.vals,hN],λj s u h1 h2 => ?_⟩;have hj:j<N:=by have:=Qk h2; simp at this; omega
 simp only[Env.vals,Vs,YG hj,VK,Option.some.injEq]at h1;subst h1;have h3:=h.get j;have h4:tmps[j]? = some u:=by simpa using h2
 rwa [VV,h4]at h3
theorem QEJ {S:St} {db:DB} {ds:List Deferred} (hS:Sim S) (hdb:db.Ok S.w ds) (fn:ZP) {tmps:Array Value} {ps:Array Tmp} {a b:Code} {cs:ZJ} {kk:Nat} {ok:Loop->Prop} (hv:VRs S cs tmps.toList)
 (hok:∀ st pe l,ok { state:=st,pending:=pe,fn,tmps,params:=ps,assign:=a,body:=b,defers:=l }) :
 ∃ (l:Nat) (mk:List Deferred) (w1:ZO) (ρ1:Nat->Option Nat),(Instr.enterLoop fn tmps ps a b db.ro).run P S.w=.ok (l,mk) w1/\ρ1 S.H.length=some l /\
  Ext S.H.length S ⟨ρ1,S.H++[⟨.lp kk ok .ready::cs,0,0,false⟩],w1⟩/\Sim ⟨ρ1,S.H++[⟨.lp kk ok .ready::cs,0,0,false⟩],w1⟩/\db.Ok w1 (mk++ds):=by
 cases hro:db.ro with
 |none =>
  have h1:=Qir hS (.deferred (some []));have e1:=QjG (S:=S) (.deferred (some []));have hsz:(S.w.alloc (.deferred (some []))).heap.size=S.w.heap.size+1:=by simp
  obtain⟨r,hr⟩:∃ r:Loop,r={ state:=.ready,pending:=none,fn,tmps,params:=ps,assign:=a,body:=b,defers:=S.w.heap.size }:=⟨_,rfl⟩;have h2:=QpA (r:=r) (kk:=kk) (ok:=ok) (cs:=cs) (T:=0) h1 (by rw[hr]; exact hok _ _ _) (by rw[hr]; exact⟨rfl,rfl⟩) (by rw[hr]; exact hv.ext e1);have e2:=Qu4 (S:=⟨S.ρ,S.H,S.w.alloc (.deferred (some []))⟩) r ⟨.lp kk ok .ready::cs,0,0,false⟩;have hd2:=(hdb.ext hS e1).ext h1 e2;refine⟨S.w.heap.size+1,[QcK S.w.heap.size],_,_,?_,?_,e1.trans e2,h2,?_⟩
  . rw[run_enterLoop_outer,hr]; rfl
  . simp only[Qa0,hsz]
  . obtain⟨ms,k1,k2,k3⟩:=hdb.ms;refine⟨hd2.le,⟨S.w.heap.size::ms,by simp[k1],?_,?_⟩,hd2.ro⟩
    . rw[Y0];refine⟨λhm => ?_,k2⟩;have:=Qdr (k3 _ hm).2;omega
    . obtain⟨ms',g1,_,g3⟩:=hd2.ms;have hmm:ms'=ms:=by
       have:ms'.map QcK=ms.map QcK:=by
        have:=g1.symm.trans k1;exact List.append_cancel_right this
       exact List.map_inj_right (λx y h=>by simpa[QcK]using h) |>.1 this
      subst hmm;intro D hD;rw[Vd]at hD;rcases hD with rfl|hD
      . refine⟨hdb.le,?_⟩;refine((Qbx _ _ ?_).trans (Qf7 S.w _));rw[hsz]; omega
      . exact g3 D hD
 |some l0 =>
  obtain⟨r0,hr0⟩:=hdb.ro l0 hro;obtain⟨r,hr⟩:∃ r:Loop,r={ state:=.ready,pending:=none,fn,tmps,params:=ps,assign:=a,body:=b,defers:=r0.defers }:=⟨_,rfl⟩;have h2:=QpA (r:=r) (kk:=kk) (ok:=ok) (cs:=cs) (T:=0) hS (by rw[hr]; exact hok _ _ _) (by rw[hr]; exact⟨rfl,rfl⟩) (by rw[hr]; exact hv);have e2:=Qu4 (S:=S) r ⟨.lp kk ok .ready::cs,0,0,false⟩;refine⟨S.w.heap.size,[],_,_,?_,?_,e2,h2,hdb.ext hS e2⟩
  . rw[QDB hr0,hr]
  . simp only[Qa0]
theorem W.rng {kk:Nat} {g:Operand} {g':Od} {ps:Array Tmp} {a b:Code} {ia ib:IC} {U:Env} {H:ZI} {K:ZH} (hg:Qx g g'=true) (ha:QY P N D a ia=true) (hb:QY P N D b ib=true)
 (hvd:(U.ev g').vd=true) {k:ZP} {first cap:ZJ} (hf:(U.ev g').ug=.fn (.func k) first cap) {Pt:Out->ZI->Prop}
 (hok:OkP P k (first++[.yl H.length]++cap) (H++[lpo P N D kk ps.toList ia ib (U.vals N) .ready]) Pt)
 (hK:∀ out H',Pt out H'->match out with
  |.ret _=>∃ k' ok st cs,H'[H.length]? = some ⟨.lp k' ok st::cs,0,0,false⟩/\st.out K U (H'.set H.length Qf6)
  |.pan x=>K (.panic x) U H'):W P N (.rangeFunc g ps a b) U H K:=by
 intro db S act h1 h2 h3 h4 h5;subst h1;have hgv:=(QD hg h3).ug hvd;rw[hf]at hgv;obtain⟨us,vs,hv,hus,hvs⟩:=hgv.fn_inv;refine wpIn_rangeFunc λfn _ => ?_;obtain⟨l,mk,w1,ρ1,he,hl,am,aj,hdb⟩:=QEJ (P:=P) (a:=a) (b:=b) (ps:=ps) h2 h5 fn (cs:=U.vals N) (kk:=kk) (ok:=okL P N D ps.toList ia ib) (Env.vals_rel h3 h4) (λst pe l=>⟨rfl,h4,ha,hb⟩);change Ext S.H.length S ⟨ρ1,S.H++[lpo P N D kk ps.toList ia ib (U.vals N) .ready],w1⟩at am;change Sim ⟨ρ1,S.H++[lpo P N D kk ps.toList ia ib (U.vals N) .ready],w1⟩at aj;obtain⟨o1,ho1⟩:∃ o1,o1=lpo P N D kk ps.toList ia ib (U.vals N) .ready:=⟨_,rfl⟩;rw[<-ho1]at am aj hok;have hat:(S.H++[o1])[S.H.length]? = some o1:=by simp
 obtain⟨y,hyv⟩:∃ y:Value,y=.func (.yield l) #[] #[]:=⟨_,rfl⟩;have hy:VRs (⟨ρ1,S.H++[o1],w1⟩:St) [.yl S.H.length] [y]:=by
  rw[hyv];exact VRs.cons (VR.yl (S:=⟨ρ1,S.H++[o1],w1⟩) S.H.length l o1 hat λ_=>hl) (VRs.nil _)
 have hcalls:=hok.2 ⟨ρ1,S.H++[o1],w1⟩ (us++[y]++vs) rfl aj (((hus.ext am).append hy).append (hvs.ext am));refine⟨l,mk,w1,{ target:=.fn (.func k) vs.toArray,args:=us.toArray ++ #[y] },w1,k,(us++[y]++vs).toArray,w1,he,?_,λ_ _=>trivial,?_,Qkl,callsIn_wide.2 (hcalls.mono ?_)⟩
 . simp only[resolve,hv,Deferred.ofValue,VJ,hyv,List.map_toArray,Vl,VM,Qp0]
 . have e1:us.toArray ++ #[y]++vs.toArray=(us++[y]++vs).toArray:=by apply Yy; simp
   simp only[invoke];rw[e1,hok.1]
 rintro e w3 ⟨out,H',v,ρ3,hpt,hext3,hsim3,hout⟩;have hE:=am.trans (hext3.mono (am.len (Vb _)));have hd3:=hdb.ext aj hext3
 cases out with
 |pan x =>
  obtain⟨rfl,hx⟩:=hout;exact⟨.panic x,U,ρ3,H',⟨v,rfl,hx⟩,hE,hsim3,h3.ext hE,h4,hd3,hK _ _ hpt⟩
 |ret r =>
  obtain⟨rfl,hx⟩:=hout;obtain⟨k',ok',st,cs,hH,hst⟩:=hK _ _ hpt;obtain⟨l',r,k1,k2,k3,k4,k5⟩:=hsim3.loop hH;have hll:l'=l:=by
   obtain⟨o',g1,g2,g3⟩:=hext3.obj S.H.length o1 (by simp) hat;have g4:o'=⟨.lp k' ok' st::cs,0,0,false⟩:=by rw[show(⟨ρ3,H',w3⟩:St).H=H' from rfl,hH]at g1; cases g1; rfl
   have:=g3 (by rw[g4,ho1]; rfl);simp only at this k1;rw[k1,hl]at this;exact(Option.some.inj this)
  subst hll;have hnb:r.state≠.busy:=by
   intro hbz
   cases st<;>simp only[Qhf,hbz]at k4<;>first|exact hst|(obtain⟨k4,_⟩:=k4; cases k4)
  have hend:=run_endLoop (P:=P) k2 hnb;obtain⟨ext4,sim4⟩:=QoE hsim3 (o':=Qf6) (r':={ r with state:=.exhausted }) hH rfl (by simp) k1 k2 rfl (by simp[Qf6]) (.inl rfl);obtain⟨w4,hw4⟩:∃ w4,w4=w3.putObj l' (.loop { r with state:=.exhausted }):=⟨_,rfl⟩;simp only at hend ext4 sim4;rw[<-hw4]at hend ext4 sim4;have hE4:=hE.trans (ext4.mono (hE.len (Vb _)));have hd4:=hd3.ext hsim3 ext4;have fin:∀ x e,ER ⟨ρ3,H'.set S.H.length Qf6,w4⟩ x e->K x U (H'.set S.H.length Qf6)->Qar S N db K e { act with defers:=mk++act.defers } w4 :=
   λx e hx hk=>⟨x,U,ρ3,_,hx,hE4,sim4,h3.ext hE4,h4,hd4,hk⟩
  refine⟨r.pending,_,hend,?_⟩
  cases st with
  |ready=>rw[k4.2]; exact fin .normal .normal trivial hst
  |busy=>exact hst.elim
  |ret=>rw[k4.2]; exact wpIn_ret (fin .ret .ret trivial hst)
  |exit id=>rw[k4.2]; exact wpIn_exit (fin (.exit id) (.exit id) rfl hst)
  |goto j=>rw[k4.2]; exact wpIn_goto (fin (.goto j) (.goto j) rfl hst)
theorem Qeu (hD:DOk P D) (i:IC):∀ {U:Env} {H:ZI} {K:ZH} {c:Code},QY P N D c i=true->X P N D i U H K->W P N c U H K:=by
 induction i with
 |skip =>
  intro U H K c hc h
  cases c<;>simp only[QY,Vz]at hc
  intro db S a h1 h2 h3 h4 h5;subst h1;exact wpIn_skip ⟨.normal,U,S.ρ,S.H,trivial,Ext.refl _ S,h2,h3,h4,h5,h⟩
 |reg l =>
  intro U H K c hc h;obtain⟨id,aa,rfl,hnd,hc⟩:∃ id aa,c=.region id aa false/\ndB aa=true/\chkL P N aa aa.toList l=true:=by
   cases c with
   |region id aa dr=>cases dr<;>simp[QY]at hc; exact⟨id,aa,rfl,hc⟩
   |_=>simp[QY]at hc
  intro db S a h1 h2 h3 h4 h5;subst h1;exact QxU hnd (Qm4 _ _ h2 h3 h4 h5 hc h)
 |drw m l =>
  intro U H K c hc h;obtain⟨id,aa,rfl,hnd,hcc⟩:∃ id aa,c=.region id aa true/\ndB aa=true/\(Qe8 P N aa m l=true/\D aa m l=true/\QkC aa l=true):=by
   cases c with
   |region id aa dr=>cases dr<;>simp[QY]at hc; exact⟨id,aa,rfl,hc⟩
   |_=>simp[QY]at hc
  intro db S a h1 h2 h3 h4 h5;exact wq_mono (Qpb hnd hD.mixed (QtA _ _ _ _ (hD.ok N aa m l U H _ hcc.1 hcc.2.1 h db S a h1 h2 h3 h4 h5) λt _=>rfl)) λe a' w' hq=>Qar.off h3 hcc.2.2 hq
 |drq Ts n0 m l os tl =>
  intro U H K c hc h;obtain⟨id,aa,rfl,hnd,⟨h1,h2⟩,⟨h3,h3p⟩,h4,h5⟩:∃ id aa,c=.region id aa true/\ndB aa=true/\(Qkr aa n0=true/\Qc5 aa os (aa.size-n0) [] (Array.replicate n0 true++Array.replicate (aa.size-n0) false)=true)/\(chkL P N aa (aa.toList.drop n0) tl=true/\tl.all Qhr=true)/\Qe8 P N (aa.extract 0 n0) m l=true/\D (aa.extract 0 n0) m l=true:=by
   cases c with
   |region id aa dr =>
    cases dr
    . simp[QY]at hc
    . simp only[QY,Va]at hc;exact⟨id,aa,rfl,hc.1,hc.2.1,hc.2.2.1,hc.2.2.2⟩
   |_=>simp[QY]at hc
  intro db S a g1 g2 g3 g4 g5;subst g1;obtain⟨ρ0,he0,hs0⟩:=Qti Ts g2;have ht:=Qzk h1;have hle:=ht.le;have hxs:(aa.extract 0 n0).size=n0:=by simp; omega
  have h6:=hD.ok N (aa.extract 0 n0) m _ U _ _ (Qy1 _ h4) (hD.rs _ _ m l h5) h db ⟨ρ0,S.H++QcU Ts,S.w⟩ a rfl hs0 (g3.ext he0) g4 g5;rw[hxs]at h6;have hnone:∀ n i,(Array.replicate n false).getD i false=false:=by
   intro n i;rw[VV,Zj];split<;>rfl
  have h7:=QvX ht (Q:=Qar ⟨ρ0,S.H++QcU Ts,S.w⟩ N db K) ?_ ?_ n0 (Array.replicate n0 false) (Array.replicate aa.size false) a S.w.drew (by simp) (by simp) (λi _=>by rw[hnone,hnone]) (λi _=>hnone _ _) (λj o hj=>by rw[hnone]at hj; cases hj) h6
  . rw[show n0+(aa.size-n0)=aa.size by omega]at h7;exact wq_mono (Qpb hnd hD.mixed h7) λe a' w hq=>Qar.trans he0 hq
  . rintro e a w hne ⟨x,aw,ρ,H',k1,k2,k3,k4,k5,k6,k7⟩
    cases x<;>cases e<;>simp only[ER]at k1
    . exact absurd rfl hne
    . exact⟨.exit _,aw,ρ,H',k1,k2,k3,k4,k5,k6,k7⟩
    . exact⟨.goto _,aw,ρ,H',k1,k2,k3,k4,k5,k6,k7⟩
    . exact⟨.ret,aw,ρ,H',k1,k2,k3,k4,k5,k6,k7⟩
    . exact⟨.panic _,aw,ρ,H',k1,k2,k3,k4,k5,k6,k7⟩
  . rintro fuel listed a w j1 j2 j3 j4 ⟨x,aw,ρ,H',k1,k2,k3,k4,k5,k6,k7⟩
    cases x<;>simp only[ER]at k1
    have hls:listed=Array.replicate n0 true++Array.replicate (aa.size-n0) false:=by
     refine Ze λi => ?_;by_cases hi:i<aa.size
     . have e1:listed[i]? = some (decide (i<n0)):=by
        have hi':i<listed.size:=by omega
        rw[V2 hi'];by_cases h:i<n0
        . have:=j3 i h;rw[VV,V2 hi']at this;simpa[h]using this
        . have:=j4 i (by omega);rw[VV,V2 hi']at this;simpa[h]using this
       rw[e1,Array.getElem?_append];simp only[Array.size_replicate,Zj];by_cases h:i<n0
       . simp[h]
       . simp[h]; omega
     . rw[V4 (by omega),V4 (by simp; omega)]
    obtain⟨d,hd⟩:∃ d,fuel=(aa.size-n0)+d:=⟨fuel-(aa.size-n0),by omega⟩;have h8:Qcx P .any aa (Qar ⟨ρ0,S.H++QcU Ts,S.w⟩ N db λx e H=>K x (e.keep (Qiu tl aw)) H) fuel listed a w :=
     QzF h3 h3p fuel [] listed ⟨ρ,H',w⟩ aw a (by rw[hls,hd]; exact Qs2 h2 d) j2 j3 (λrest hm=>Qtm k7 rest (by simpa using hm)) k2 k3 k4 k5 k6
    refine QlS (λe a w hh => ?_) _ _ _ _ h8;obtain⟨x,env2,ρ2,H2,q1,q2,q3,q4,q5,q6,q7⟩:=hh;exact⟨x,env2.keep (Qiu tl aw),ρ2,H2,q1,q2,q3,q4.keep _,q5,q6,q7⟩
 |seq a b iha ihb =>
  intro U H K c hc h
  cases c<;>simp only[QY,Vz,Va]at hc
  refine W.seq ((iha hc.1 h).mono ?_);intro x U H hk
  cases x<;>first|exact hk|exact ihb hc.2 hk
 |cond c' a b iha ihb =>
  intro U H K c hc h
  cases c<;>simp only[QY,Vz,Va]at hc
  exact W.cond hc.1.1 h.1 (λhb=>iha hc.1.2 (h.2.1 hb)) (λhb=>ihb hc.2 (h.2.2 hb))
 |blk id a iha =>
  intro U H K c hc h
  cases c<;>simp only[QY,Vz,Va,Zu]at hc
  obtain⟨rfl,hc⟩:=hc;exact W.block (iha hc h)
 |loop a iha =>
  intro U H K c hc h
  cases c<;>simp only[QY,Vz]at hc
  intro db S a h1 h2 h3 h4 h5;exact QBb (h _ hc db S a h1 h2 h3 h4 h5)
 |exit id =>
  intro U H K c hc h
  cases c<;>simp only[QY,Vz,Zu]at hc
  subst hc;intro db S a h1 h2 h3 h4 h5;subst h1;exact wpIn_exit ⟨.exit _,U,S.ρ,S.H,rfl,Ext.refl _ S,h2,h3,h4,h5,h⟩
 |ret =>
  intro U H K c hc h
  cases c<;>simp only[QY,Vz]at hc
  intro db S a h1 h2 h3 h4 h5;subst h1;exact wpIn_ret ⟨.ret,U,S.ρ,S.H,trivial,Ext.refl _ S,h2,h3,h4,h5,h⟩
 |scp a iha =>
  intro U H K c hc h
  cases c<;>simp only[QY,Vz]at hc
  exact W.scope (iha hc h)
 |lab =>
  intro U H K c hc h
  cases c<;>simp only[QY,Vz]at hc
  intro db S a h1 h2 h3 h4 h5;subst h1;exact wpIn_label ⟨.normal,U,S.ρ,S.H,trivial,Ext.refl _ S,h2,h3,h4,h5,h⟩
 |keep ks a iha =>
  intro U H K c hc h;exact(iha (by simpa only[QY]using hc) h).keep ks
 |rng kk g' ps' ia ib _ _ =>
  intro U H K c hc h
  cases c<;>simp only[QY,Vz,Va,Zu]at hc
  rename_i g ps a b;obtain⟨⟨hg,rfl⟩,ha,hb⟩:=hc;obtain⟨hvd,h⟩:=h;split at h
  . rename_i k first cap hf
    obtain⟨Pt,hok,hK⟩:=h;exact W.rng hg ha hb hvd hf hok hK
  . exact h.elim
 |no=>intro U H K c hc h; exact h.elim
theorem LI.round (hD:DOk P D) {i:IC} {U:Env} {H:ZI} {K:ZH}
 (h:X P N D i U H λx U H=>match x with|.normal=>LI P N D i U H K|x=>K x U H):LI P N D i U H K:=by
 intro c hc db S a h1 h2 h3 h4 h5;refine QAv (wq_mono (Qeu hD i hc h db S a h1 h2 h3 h4 h5) ?_);rintro e a' w ⟨xe,aw,ρ,H',g1,g2,g3,g4,g5,g6,g7⟩
 cases xe<;>cases e<;>simp only[ER]at g1
 . exact Qlk (g7 c hc db ⟨ρ,H',w⟩ a' rfl g3 g4 g5 g6) λe a w h=>Qar.trans g2 h
 . exact⟨.exit _,aw,ρ,H',g1,g2,g3,g4,g5,g6,g7⟩
 . exact⟨.goto _,aw,ρ,H',g1,g2,g3,g4,g5,g6,g7⟩
 . exact⟨.ret,aw,ρ,H',g1,g2,g3,g4,g5,g6,g7⟩
 . exact⟨.panic _,aw,ρ,H',g1,g2,g3,g4,g5,g6,g7⟩
end
end
section
variable [QO] [QK] [Qv]
inductive RS where
 |t (n:Nat)
 |c1 (slot:Nat)
 |cn (slot n:Nat)
def RS.side (e:Env) (H:ZI):RS->Prop
 |.t _=>True
 |.c1 s=>(e.get s).vd=true/\0<((e.get s).ug.at H).length
 |.cn s n=>(e.get s).vd=true/\n<=((e.get s).ug.at H).length/\0<n
def RS.ev (e:Env) (H:ZI):RS->SV
 |.t n=>e.get n
 |.c1 s=>((e.get s).ug.at H).headD .any
 |.cn s n=>.agg (((e.get s).ug.at H).take n)
def Qa2 (e:Env) (H:ZI) (rs:List RS):SV :=
 match rs.map (RS.ev e H)with
 |[x]=>x
 |l=>.tup l
def Qqf (P:ZN):ResultVar->RS->Bool
 |.tmp t,.t n=>t==n
 |.cell t T,.c1 s=>t==s&&Qdb P T
 |.cell t T,.cn s n=>t==s&&Qes P T&&QaD P T n
 |_,_=>false
def QcT (P:ZN):List ResultVar->List RS->Bool
 |[],[]=>true
 |x::r,y::s=>Qqf P x y&&QcT P r s
 |_,_=>false
def Cv (n0:Nat) (r1:SV) (H1:ZI) (r:SV) (H':ZI):Prop :=
 ∀ (S:St) (v:Value),S.H=H1->Sim S->VR S r1 v->∃ ρ',Ext n0 S ⟨ρ',H',S.w⟩/\Sim ⟨ρ',H',S.w⟩/\VR ⟨ρ',H',S.w⟩ r v
def Fin (n0:Nat) (rs:List RS) (out:Out) (H':ZI):ZH:=λx U H1 =>
 match x,out with
 |.normal,.ret r=>(∀ s∈rs,s.side U H1)/\Cv n0 (Qa2 U H1 rs) H1 r H'
 |.ret,.ret r=>(∀ s∈rs,s.side U H1)/\Cv n0 (Qa2 U H1 rs) H1 r H'
 |.panic x,.pan y=>Cv n0 x H1 y H'
 |_,_=>False
def Qcq (l:ZJ):Env:=(List.range l.length).zip l
section
variable {P:ZN} {S:St} {N:Nat} {D:Array Oper->List Nat->List Ins->Bool}
theorem QAk (l:ZJ) (k t:Nat):Env.get ((List.range' k l.length).zip l) t=if k<=t/\t<k+l.length then l.getD (t-k) .any else .any:=by
 induction l generalizing k with
 |nil=>simp[Env.get]
 |cons x r ih =>
  simp only[Vh,YT,List.zip_cons_cons,Env.get];rw[ih];by_cases h:k=t
  . subst h; simp
  . rw[Zq h];by_cases h1:k+1<=t/\t<k+1+r.length
    . rw[Zr h1,Zr (by omega)];have:t-k=(t-(k+1))+1:=by omega
      rw[this]; simp
    . rw[Zq h1,Zq (by omega)]
theorem QnU {args:ZJ} {vs:ZK} (h:VRs S args vs) (m:Nat):QH S (Qcq args) (vs.toArray++Array.replicate m undef):=by
 refine⟨λt => ?_⟩;unfold Qcq;rw[YU,QAk];by_cases ht:0<=t/\t<0+args.length
 . rw[Zr ht];obtain⟨u,h1,h2⟩:=h.getD (j:=t) (by omega);have hlt:t<vs.length:=Qk h1;rw[VV,Array.getElem?_append];rw[Zr (by simpa using hlt)];simp only[List.getElem?_toArray,h1,V8,Nat.sub_zero]; exact h2
 . rw[Zq ht]; exact .any _
def QiA (tmps:Array Value):ResultVar->Sem Value
 |.tmp t=>pure (tmps.getD t undef)
 |.cell a t=>do loadVar t (<- asAddr (tmps.getD a undef))
theorem Qx5 (fn:Func) (tmps:Array Value):results fn tmps=(do
 let vs <- fn.results.mapM (QiA tmps)
 pure (if h:vs.size=1 then vs[0]else .tuple vs)):=by
 unfold results;congr 1
theorem Qtc {e:Env} {tmps:Array Value} (hS:Sim S) (he:QH S e tmps):∀ {rvs:List ResultVar} {rs:List RS},QcT P rvs rs=true->(∀ s∈rs,s.side e S.H) ->
 ∃ vs,(rvs.mapM (QiA tmps)).run P S.w=.ok vs S.w/\VRs S (rs.map (RS.ev e S.H)) vs
 |[],[],_,_=>⟨[],rfl,VRs.nil S⟩
 |[],_::_,h,_=>by simp[QcT]at h
 |_::_,[],h,_=>by simp[QcT]at h
 |x::rvs,y::rs,h,hs=>by
  simp only[QcT,Va]at h;obtain⟨vs,h1,h2⟩:=Qtc hS he h.2 (λs hm=>hs s (by simp[hm]));have h3:=hs y (by simp);have h4:=h.1;unfold Qqf at h4;split at h4
  . rename_i t n;simp at h4; subst h4;refine⟨tmps.getD t undef::vs,?_,VRs.cons (he.get _) h2⟩;simp[YS,h1,QiA]
  . rename_i t T s;simp only[Va,Zu]at h4;obtain⟨rfl,h4⟩:=h4;obtain⟨g1,g2⟩:=h3;have h5:=(he.get t).ug g1;obtain⟨u,h6,h7⟩:=QrZ (P:=P) hS h5 h4 g2;have h0:((e.get t).ug.at S.H)[0]? = some ((e.get t).ug.at S.H)[0]:=Ve g2;obtain⟨ad,_,h8,_,_⟩:=h5.at hS h0;refine⟨u::vs,?_,VRs.cons h7 h2⟩;rw[h8]at h6;simp only[Instr.loadAt,Instr.sureAddr,Vo,VJ,VA]at h6;rw[YS,QiA,Vo,Vo,h8];simp only[asAddr,VJ,VA,h6,Vo,h1]
  . rename_i t T s n;simp only[Va,Zu]at h4;obtain⟨⟨rfl,h4⟩,h4'⟩:=h4;obtain⟨g1,g2,g3⟩:=h3;have h5:=(he.get t).ug g1;obtain⟨u,h6,h7⟩:=Qo9 (P:=P) hS h5 h4 h4' g2 g3;have h0:((e.get t).ug.at S.H)[0]? = some (((e.get t).ug.at S.H)[0]'(by omega)):=Ve (by omega);obtain⟨ad,_,h8,_,_⟩:=h5.at hS h0;refine⟨u::vs,?_,VRs.cons h7 h2⟩;rw[h8]at h6;simp only[Instr.loadAt,Instr.sureAddr,Vo,VJ,VA]at h6;rw[YS,QiA,Vo,Vo,h8];simp only[asAddr,VJ,VA,h6,Vo,h1]
  . cases h4
theorem Qlt {fn:Func} {e:Env} {tmps:Array Value} (hS:Sim S) (he:QH S e tmps) {rs:List RS} (hc:QcT P fn.results.toList rs=true) (hs:∀ s∈rs,s.side e S.H) :
 ∃ v,(results fn tmps).run P S.w=.ok v S.w/\VR S (Qa2 e S.H rs) v:=by
 obtain⟨vs,h1,h2⟩:=Qtc hS he hc hs;have h3:∃ arr:Array Value,arr=vs.toArray/\(results fn tmps).run P S.w=.ok (if h:arr.size=1 then arr[0]else .tuple arr) S.w:=by
  refine⟨vs.toArray,rfl,?_⟩;rw[Qx5,Array.mapM_eq_mapM_toList];simp only[Vo,Sem.run_map,h1,VA,VJ]
 obtain⟨arr,rfl,h3⟩:=h3;refine⟨_,h3,?_⟩;unfold Qa2
 revert h2
 generalize rs.map (RS.ev e S.H)=l;intro h2
 match l,vs,h2 with
 |[],[],h2=>exact VR.of_tup h2
 |[x],[v],h2=>exact h2.2 0 x v rfl rfl
 |x::y::r,v::u::s,h2 =>
  rw[dif_neg (by simp)];exact VR.of_tup h2
 |[],_::_,h2=>simp[VRs]at h2
 |[_],[],h2=>simp[VRs]at h2
 |[_],_::_::_,h2=>simp[VRs]at h2
 |_::_::_,[],h2=>simp[VRs]at h2
 |_::_::_,[_],h2=>simp[VRs]at h2
structure Qez (n0:Nat) (w w':ZO):Prop where
 size:w'.heap.size=w.heap.size
 at_:∀ k,w'.heap[k]? = w.heap[k]? \/ (n0<=k/\w.heap[k]? = some (Obj.deferred (some []))/\w'.heap[k]? = some (Obj.deferred none))
 os:w'.os=w.os
 tape:w'.tape=w.tape
 output:w'.output=w.output
theorem QeO {n0:Nat} {ρ:Nat->Option Nat} {H:ZI} {w w':ZO} (h:Qez n0 w w'):QgO H.length ⟨ρ,H,w⟩ ⟨ρ,H,w'⟩:=by
 refine⟨λi o _ ho=>⟨o,ho,Vb _,λ_=>rfl⟩,λk c T f hk hn=>⟨?_,hn⟩,λk T m hs => ?_,λk es cl hk hn=>⟨?_,hn⟩⟩
 . rcases h.at_ k with h1|⟨_,h1,_⟩
   . exact h1
   . rw[show(⟨ρ,H,w⟩:St).w.heap[k]? = w.heap[k]? from rfl,h1]at hk; cases hk
 . unfold World.shape? at *;rcases h.at_ k with h1|⟨_,h1,_⟩
   . simp only at hs ⊢; rw[h1]; exact hs
   . simp only at hs; rw[h1]at hs; cases hs
 . rcases h.at_ k with h1|⟨_,h1,_⟩
   . exact h1
   . rw[show(⟨ρ,H,w⟩:St).w.heap[k]? = w.heap[k]? from rfl,h1]at hk; cases hk
theorem Qfb {n0:Nat} {ρ:Nat->Option Nat} {H:ZI} {w w':ZO} (h:Qez n0 w w') (hS:Sim ⟨ρ,H,w⟩):Sim ⟨ρ,H,w'⟩:=by
 have hv:=QeO (ρ:=ρ) (H:=H) h;have hvs:∀ {l:ZJ} {us:ZK},VRs ⟨ρ,H,w⟩ l us->VRs ⟨ρ,H,w'⟩ l us:=λh=>⟨h.1,λj s u h1 h2=>(h.2 j s u h1 h2).extV hv (.inl rfl)⟩;refine⟨λi o ho hl => ?_,hS.bel,hS.inj,λi o ho hl hc => ?_,hS.gl.extV hv,hS.kf.extV hv⟩
 . have h1:=hS.live i o ho hl;simp only at h1 ⊢
   cases hρ:ρ i with
   |none=>rw[hρ]at h1; exact h1
   |some b =>
    rw[hρ]at h1;obtain⟨us,rest,h2,h3⟩:=h1;refine⟨us,rest,?_,hvs h3⟩;rcases h.at_ b with h4|⟨_,h4,_⟩
    . rw[h4]; exact h2
    . rw[h4]at h2; cases h2
 . obtain⟨l,x,m,us,U,k1,k2,k3,k4,k6⟩:=hS.lp i o ho hl hc;refine⟨l,x,m,us,U,k1,k2,?_,k4,hvs k6⟩;simp only at k3 ⊢;rcases h.at_ l with h4|⟨_,h4,_⟩
   . rw[h4]; exact k3
   . rw[h4]at k3; cases k3; rcases k4.kind with ⟨r,e⟩|⟨es,cl,e⟩<;>cases e
theorem QhT {n n0:Nat} {S0:St} {ρ:Nat->Option Nat} {H:ZI} {w w':ZO} (h:Qez n0 w w') (he:Ext n S0 ⟨ρ,H,w⟩) (hn:S0.w.heap.size<=n0):Ext n S0 ⟨ρ,H,w'⟩:=by
 refine⟨he.obj,λk hk hnr => ?_,by have:=he.size; simp only[h.size]; exact this,λk T m hs => ?_,λk r hr => ?_,h.os.trans he.os,h.tape.trans he.tape,h.output.trans he.output⟩
 . obtain⟨h1,h2⟩:=he.imm k hk hnr;refine⟨?_,h2⟩;rcases h.at_ k with h3|⟨h3,_,_⟩
   . exact h3.trans h1
   . omega
 . exact(QeO (ρ:=ρ) (H:=H) h).shape k T m (he.shape k T m hs)
 . obtain⟨r',h1⟩:=he.loops k r hr;rcases h.at_ k with h3|⟨_,h3,_⟩
   . exact⟨r',h3.trans h1⟩
   . simp only at h1; rw[h3]at h1; cases h1
theorem Qie {fn:Func} {tmps:Array Value} {R:Ending->ZO->Prop} {n0:Nat} {u:FrameMode} (hu:u≠.run):∀ (ms:List Nat) (w:ZO),ms.Nodup->(∀ D∈ms,n0<=D/\w.heap[D]? = some (Obj.deferred (some []))) ->
 (∀ w',Qez n0 w w'->LeavesIn (Fr none) 0 P fn tmps R [] u w')->LeavesInM (Fr none) 0 P fn tmps R (ms.map QcK) u w
 |[],w,_,_,h=>h w ⟨rfl,λ_=>.inl rfl,rfl,rfl,rfl⟩
 |D::ms,w,hnd,hms,h=>by
  rw[Y0]at hnd;obtain⟨h1,h2⟩:=hms D (by simp);refine⟨hu,.inl ⟨D,_,rfl,run_takeDeferred h2,?_⟩⟩;refine Qie hu ms _ hnd.2 (λD' hD'=>⟨(hms D' (by simp[hD'])).1,?_⟩) λw' ht=>h w' ?_
  . have hne:D'≠D:=λe=>hnd.1 (e ▸ hD');exact(World.putObj_heap_other hne).trans (hms D' (by simp[hD'])).2
  . refine⟨by rw[ht.size]; simp,λk => ?_,ht.os,ht.tape,ht.output⟩;by_cases hk:k=D
    . subst hk;right;refine⟨h1,h2,?_⟩;rcases ht.at_ k with h3|⟨_,h3,h4⟩
      . exact h3.trans (World.putObj_heap_same (Qdr h2))
      . exact h4
    . rcases ht.at_ k with h3|⟨h3,h4,h5⟩
      . exact .inl (h3.trans (World.putObj_heap_other hk))
      . exact .inr ⟨h3,(World.putObj_heap_other hk).symm.trans h4,h5⟩
def Qdw (n0:Nat) (Pt:Out->ZI->Prop) (v:SV) (H1:ZI):Prop:=∃ r H',Pt (.ret r) H'/\Cv n0 v H1 r H'
def FinP (n0:Nat) (rs:List RS) (Pt:Out->ZI->Prop) (x:XE) (U:Env) (H1:ZI):Prop :=
 match x with
 |.normal=>(∀ s∈rs,s.side U H1)/\Qdw n0 Pt (Qa2 U H1 rs) H1
 |.ret=>(∀ s∈rs,s.side U H1)/\Qdw n0 Pt (Qa2 U H1 rs) H1
 |.panic x=>∃ y H',Pt (.pan y) H'/\Cv n0 x H1 y H'
 |_=>False
theorem Qko {f:ZP} {fn:Func} {c:Code} {rs:List RS} {args:ZJ} {H:ZI} {Pt:Out->ZI->Prop} (hf:P.funcs[f]? = some fn) (hb:fn.body=some c)
 (hname : (fn.name == "runtime.NumGoroutine") = false) (hn : args.length <= fn.ntmps) (hr : QcT P fn.results.toList rs = true)
 (hx:closed H->W P fn.ntmps c (Qcq args) H (FinP H.length rs Pt)):OkP P f args H Pt:=by
 refine⟨λvs w=>Go.MuLone.run_callFunc_enter hf hname hb vs w,?_⟩;intro S vs hH hS hvs;subst hH;refine callsIn_wide.1 (callsIn_of_wp_marks (F:=Fr none) (n:=0) hf hb trivial ?_);have hl:vs.length=args.length:=hvs.1;have hw:=hx hS.closed ⟨S.w.heap.size,[],none⟩ S ⟨vs.toArray++Array.replicate (fn.ntmps-vs.toArray.size) undef,[]⟩ rfl hS (QnU hvs _) (by simp; omega) ⟨Vb _,⟨[],rfl,YL,λD hD=>by simp at hD⟩,λl h=>by cases h⟩;refine wq_mono hw ?_;rintro e a w ⟨x,U,ρ,H1,g1,g2,g3,g4,g5,g6,g7⟩;obtain⟨ms,m1,m2,m3⟩:=g6.ms;simp only[VE]at m1;have aw:∀ w',Qez S.w.heap.size w w'->QH ⟨ρ,H1,w'⟩ U a.tmps:=λw' ht=>⟨λt=>(g4.get t).extV (QeO ht) (.inl rfl)⟩;have ret:((∀ s∈rs,s.side U H1)/\Qdw S.H.length Pt (Qa2 U H1 rs) H1) ->
  LeavesInM (Fr none) 0 P fn a.tmps (λe w'=>∃ (out:Out) (H':ZI) (v:Value) (ρ':Nat->Option Nat),Pt out H'/\Ext S.H.length S ⟨ρ',H',w'⟩/\Sim ⟨ρ',H',w'⟩ /\
  match out with
  |.ret r=>e=.returned v/\VR ⟨ρ',H',w'⟩ r v
  |.pan x=>e=.panicked [{ v:=v,recovered:=false }]/\VR ⟨ρ',H',w'⟩ x v) a.defers .returning w:=by
  rintro⟨h1,r,H',hp,h2⟩;rw[m1];refine Qie (by simp) ms w m2 m3 λw' ht => ?_;obtain⟨v,h3,h4⟩:=Qlt (P:=P) (S:=⟨ρ,H1,w'⟩) (Qfb ht g3) (aw w' ht) hr h1;obtain⟨ρ',h5,h6,h7⟩:=h2 ⟨ρ,H1,w'⟩ v rfl (Qfb ht g3) h4;exact⟨v,h3,.ret r,H',v,ρ',hp,(QhT ht g2 (Vb _)).trans h5,h6,rfl,h7⟩
 cases x<;>cases e<;>simp only[ER]at g1
 . exact ret g7
 . exact g7.elim
 . exact g7.elim
 . exact ret g7
 . obtain⟨y,H',hp,hcv⟩:=g7;obtain⟨v,rfl,hv⟩:=g1;show LeavesInM _ _ _ _ _ _ _ _ _;rw[m1];refine Qie (by simp) ms w m2 m3 λw' ht => ?_;obtain⟨ρ',h5,h6,h7⟩:=hcv ⟨ρ,H1,w'⟩ v rfl (Qfb ht g3) (hv.extV (QeO ht) (.inl rfl));exact⟨.pan y,H',v,ρ',hp,(QhT ht g2 (Vb _)).trans h5,h6,rfl,h7⟩
theorem Qyh (hD:DOk P D) {f:ZP} {fn:Func} {c:Code} {i:IC} {rs:List RS} {args:ZJ} {H:ZI} {Pt:Out->ZI->Prop} (hf:P.funcs[f]? = some fn) (hb:fn.body=some c)
 (hname : (fn.name == "runtime.NumGoroutine") = false) (hn : args.length <= fn.ntmps) (hc : QY P fn.ntmps D c i = true) (hr : QcT P fn.results.toList rs = true)
 (hx:closed H->X P fn.ntmps D i (Qcq args) H (FinP H.length rs Pt)):OkP P f args H Pt :=
 Qko hf hb hname hn hr λZ=>Qeu hD i hc (hx Z)
theorem OkP.toOk {f:ZP} {args:ZJ} {H:ZI} {out:Out} {H':ZI} (h:OkP P f args H λo h=>o=out/\h=H'):Ok P f args H out H':=by
 refine⟨h.1,λS vs h1 h2 h3=>(h.2 S vs h1 h2 h3).mono ?_⟩;rintro e w ⟨o,h',v,ρ',⟨rfl,rfl⟩,h4⟩;exact⟨v,ρ',h4⟩
theorem QsV {n0:Nat} {rs:List RS} {out:Out} {H':ZI} {x:XE} {U:Env} {H1:ZI} (h:Fin n0 rs out H' x U H1):FinP n0 rs (λo h=>o=out/\h=H') x U H1:=by
 cases x<;>cases out<;>first|exact h.elim|exact⟨h.1,_,_,⟨rfl,rfl⟩,h.2⟩|exact⟨_,_,⟨rfl,rfl⟩,h⟩
theorem QCX (hD:DOk P D) {f:ZP} {fn:Func} {c:Code} {i:IC} {rs:List RS} {args:ZJ} {H:ZI} {out:Out} {H':ZI} (hf:P.funcs[f]? = some fn) (hb:fn.body=some c)
 (hname : (fn.name == "runtime.NumGoroutine") = false) (hn : args.length <= fn.ntmps) (hc : QY P fn.ntmps D c i = true) (hr : QcT P fn.results.toList rs = true)
 (hx:closed H->X P fn.ntmps D i (Qcq args) H (Fin H.length rs out H')):Ok P f args H out H' :=
 (Qko hf hb hname hn hr λZ=>(Qeu hD i hc (hx Z)).mono λx U H1 h=>QsV h).toOk
end
end
section
variable [QO] [QK] [Qv]
theorem Qmr {lo:Option Od} {g g':Od->SV} (h:∀ x∈lo.toList,g x=g' x):lo.map g=lo.map g':=by
 cases lo with
 |none=>rfl
 |some x=>simp[h x (by simp)]
theorem QCV (i:I) (g g':Od->SV) (H:ZI) (h:∀ x∈i.ods,g x=g' x):pv i g H=pv i g' H:=by
 cases i with
 |sl sz x lo hi =>
  simp only[I.ods,Vd,Vt]at h;have h1:=h x (.inl rfl);have h2:=Qmr (lo:=lo) λy hy=>h y (.inr (.inl hy));have h3:=Qmr (lo:=hi) λy hy=>h y (.inr (.inr hy));simp only[pv,h1,h2,h3]
 |sls x lo hi =>
  simp only[I.ods,Vd,Vt]at h;have h1:=h x (.inl rfl);have h2:=Qmr (lo:=lo) λy hy=>h y (.inr (.inl hy));have h3:=Qmr (lo:=hi) λy hy=>h y (.inr (.inr hy));simp only[pv,h1,h2,h3]
 |mkf f a b =>
  simp only[I.ods,Vt]at h;have h1:a.map g=a.map g':=Yg λx hx=>h x (.inl hx);have h2:b.map g=b.map g':=Yg λx hx=>h x (.inr hx);simp only[pv,h1,h2]
 |bld z ps =>
  simp only[I.ods,VC]at h;have h1:∀ p∈ps,g p.2.2=g' p.2.2:=λp hp=>h _ ⟨p,hp,rfl⟩;have h2:(ps.map λp=>(p.1,g p.2.2))=ps.map λp=>(p.1,g' p.2.2):=Yg λp hp=>by rw[h1 p hp]
  have h3:(∀ p∈ps,QaW p.2.1 (g p.2.2)/\p.1+p.2.1<=z.length)=∀ p∈ps,QaW p.2.1 (g' p.2.2)/\p.1+p.2.1<=z.length:=by
   apply propext;constructor
   . intro hh p hp; rw[<-h1 p hp]; exact hh p hp
   . intro hh p hp; rw[h1 p hp]; exact hh p hp
  simp only[pv,h2,h3]
 |_=>simp only[I.ods,Vd,Vu,Zw,ZC,ZA]at h; simp only[pv,h]
theorem QDF {i:E} {g g':Od->SV} {H:ZI} {K K':SV->ZI->Prop} (h:∀ x∈i.ods,g x=g' x) (hk:∀ v H,K v H->K' v H) (hx:xe i g H K):xe i g' H K':=by
 cases i with
 |alc T z=>exact hk _ _ hx
 |box T x =>
  simp only[E.ods,Vd,Vu,Zw,ZA]at h;simp only[xe,<- h]at *;exact⟨hx.1,hx.2.1,hk _ _ hx.2.2⟩
 |bsl T sz len z ps =>
  simp only[E.ods,VC]at h;have h1:∀ p∈ps,g p.2=g' p.2:=λp hp=>h _ ⟨p,hp,rfl⟩;have h2:(ps.map λp=>(p.1*sz,g p.2))=ps.map λp=>(p.1*sz,g' p.2):=Yg λp hp=>by rw[h1 p hp]
  simp only[xe,<- h2]at *;exact⟨λp hp=>by rw[<-h1 p hp]; exact hx.1 p hp,hx.2.1,hk _ _ hx.2.2⟩
 |mks T sz by_ z l c =>
  simp only[E.ods,Vd,Vu,Zw,ZC,ZA]at h;simp only[xe,<- h.1,<- h.2]at *;obtain⟨a1,a2,a3,a4,a5,a6,a7⟩:=hx;exact⟨a1,a2,a3,a4,a5,a6,hk _ _ a7⟩
 |app T sz by_ s x =>
  simp only[E.ods,Vd,Vu,Zw,ZC,ZA]at h;simp only[xe,<- h.1,<- h.2]at *;obtain⟨a1,a2,a3,a4,a5,a6,a7,a8⟩:=hx;refine⟨a1,a2,a3,a4,a5,a6,a7,?_⟩;split
  . rename_i hs;rw[hs]at a8;exact⟨a8.1,a8.2.1,hk _ _ a8.2.2⟩
  . rename_i hs;split at a8
    . rename_i hs'; exact absurd hs' (hs _ _ _ _)
    . exact⟨a8.1,hk _ _ a8.2⟩
 |st n p x =>
  simp only[E.ods,Vd,Vu,Zw,ZC,ZA]at h;simp only[xe,<- h.1,<- h.2]at *;obtain⟨a1,a2,a3,a4,a5,a6⟩:=hx;refine⟨a1,a2,a3,a4,a5,?_⟩;split
  . rename_i hs;rw[hs]at a6;exact⟨a6.1,hk _ _ a6.2⟩
  . rename_i hs;split at a6
    . rename_i hs'; exact absurd hs' (hs _ _ _ _ _ _)
    . exact a6
 |stw ws n p x =>
  simp only[E.ods,Vd,ZC]at h;simp only[xe,<- h.1,<- h.2.1]at *;obtain⟨a1,a2,a3,a4,a5,a6⟩:=hx;refine⟨a1,a2,a3,a4,a5,?_⟩;split
  . rename_i hs;rw[hs]at a6;exact⟨a6.1,hk _ _ a6.2⟩
  . rename_i hs;split at a6
    . rename_i hs'; exact absurd hs' (hs _ _ _ _ _ _)
    . exact a6
 |call f as=>exact hx.elim
 |pan x=>exact hx.elim
 |mkm T=>exact hk _ _ hx
 |mup kk m k v =>
  simp only[E.ods,Vd,Vu,Zw,ZC,ZA]at h;simp only[xe,<- h.1,<- h.2.1,<- h.2.2]at *;obtain⟨a1,a2,a3,a4⟩:=hx;refine⟨a1,a2,a3,?_⟩;split at a4
  . exact⟨a4.1,a4.2.1,hk _ _ a4.2.2⟩
  . exact a4.elim
 |nil T sz x =>
  simp only[E.ods,Vd,Vu,Zw,ZA]at h;simp only[xe,<- h]at *;exact⟨hx.1,hx.2.1,hk _ _ hx.2.2⟩
 |aps T s x =>
  simp only[E.ods,Vd,Vu,Zw,ZC,ZA]at h;simp only[xe,<- h.1,<- h.2]at *;obtain⟨a1,a2,a3,a8⟩:=hx;refine⟨a1,a2,a3,?_⟩;split
  . rename_i hs;rw[hs]at a8;exact⟨a8.1,a8.2.1,hk _ _ a8.2.2⟩
  . rename_i hs;split at a8
    . rename_i hs'; exact absurd hs' (hs _ _ _ _)
    . exact⟨a8.1,hk _ _ a8.2⟩
 |sby x =>
  simp only[E.ods,Vd,Vu,Zw,ZA]at h;simp only[xe,<- h]at *;exact⟨hx.1,hk _ _ hx.2⟩
theorem Qj4 {e e':Env} {x:Od} (h:∀ t∈x.slots,e'.get t=e.get t):e'.ev x=e.ev x:=by
 cases x with
 |t n=>exact h n (by simp[Od.slots])
 |c s=>rfl
theorem QiH {P:ZN} {o:Ins} {U aw:Env} {H:ZI} {v:SV} (h:QbR P o U H v) (hk:∀ t∈o.slots,aw.get t=U.get t):QbR P o aw H v:=by
 have hg:∀ s w,o.g=some (s,w)->aw.get s=U.get s:=by
  intro s w hs;exact hk s (by simp[Ins.slots,hs])
 have hp:∀ i,o.j=.p i->pv i aw.ev H=pv i U.ev H:=by
  intro i hi;refine QCV i _ _ H λx hx=>Qj4 λt ht=>hk t ?_;simp only[Ins.slots,hi,J.slots,Vt,Y1];exact .inr ⟨x,hx,ht⟩
 have hq:∀ f args,o.j=.q f args->aw.ev f=U.ev f/\args.map aw.ev=args.map U.ev:=by
  intro f args hq;constructor
  . refine Qj4 λt ht=>hk t ?_;simp only[Ins.slots,hq,J.slots,Vt,Y1];exact .inr ⟨f,by simp,ht⟩
  . refine Yg λx hx=>Qj4 λt ht=>hk t ?_;simp only[Ins.slots,hq,J.slots,Vt,Y1];exact .inr ⟨x,by simp[hx],ht⟩
 unfold QbR at *
 cases hog:o.g with
 |none =>
  rw[hog]at h
  cases hoj:o.j with
  |p i=>rw[hoj]at h; simp only at h ⊢; rw[hp i hoj]; exact h
  |q f args=>rw[hoj]at h; simp only at h ⊢; rw[(hq f args hoj).1,(hq f args hoj).2]; exact h
  |e i=>rw[hoj]at h; exact h.elim
 |some sw =>
  obtain⟨s,want⟩:=sw;rw[hog]at h;simp only at h ⊢;rw[hg s want hog];refine⟨h.1,?_⟩;have h2:=h.2
  cases hoj:o.j with
  |p i=>rw[hoj]at h2; simp only at h2 ⊢; rw[hp i hoj]; exact h2
  |q f args=>rw[hoj]at h2; simp only at h2 ⊢; rw[(hq f args hoj).1,(hq f args hoj).2]; exact h2
  |e i=>rw[hoj]at h2; exact h2.elim
theorem QBC {P:ZN} {o:Ins} {U:Env} {H:ZI} {v:SV} {K:ZH} (h:QbR P o U H v) (hk:K .normal (U.put o.d v) H):xo P o U H K:=by
 unfold QbR at h;unfold xo
 cases hog:o.g with
 |none =>
  rw[hog]at h;simp only;unfold xj
  cases hoj:o.j with
  |p i=>rw[hoj]at h; obtain⟨h1,rfl⟩:=h; exact⟨h1,hk⟩
  |q f args=>rw[hoj]at h; exact⟨v,h,hk⟩
  |e i=>rw[hoj]at h; exact h.elim
 |some sw =>
  obtain⟨s,want⟩:=sw;rw[hog]at h;simp only at h ⊢;refine⟨h.1,?_⟩;have h2:=h.2
  cases hoj:o.j with
  |p i=>rw[hoj]at h2; obtain⟨h3,rfl⟩:=h2; exact⟨h3,hk⟩
  |q f args=>rw[hoj]at h2; obtain⟨r,h3,rfl⟩:=h2; exact⟨r,h3,hk⟩
  |e i=>rw[hoj]at h2; exact h2.elim
def Qk2 (acc:List Nat) (o:Oper):Nat:=o.after.toList.foldl (λs e=>if Region.binds .any e then s ||| (2 ^ e.on ||| acc.getD e.on 0)else s) 0
def Qbe:List Oper->List Nat->List Nat
 |[],acc=>acc
 |o::r,acc=>Qbe r (acc++[Qk2 acc o])
theorem Qoh:∀ (l:List Oper) (acc:List Nat),(Qbe l acc).length=acc.length+l.length
 |[],acc=>by simp[Qbe]
 |o::r,acc=>by simp[Qbe,Qoh r]; omega
theorem QoJ:∀ (l:List Oper) (acc:List Nat) (j:Nat),j<acc.length->(Qbe l acc)[j]? = acc[j]?
 |[],acc,j,_=>rfl
 |o::r,acc,j,h=>by
  rw[Qbe,QoJ r _ j (by simp; omega),Vc h]
theorem Quy:∀ (l:List Oper) (acc:List Nat) (j:Nat) (o:Oper),l[j]? = some o ->
 ∃ pre:List Nat,pre.length=acc.length+j/\(Qbe l acc)[acc.length+j]? = some (Qk2 pre o)/\∀ k,k<acc.length+j->pre[k]? = (Qbe l acc)[k]?
 |[],acc,j,o,h=>by simp at h
 |o'::r,acc,0,o,h=>by
  simp at h; subst h;refine⟨acc,rfl,?_,λk hk => ?_⟩
  . rw[Qbe,QoJ r _ _ (by simp)]; simp
  . rw[QoJ _ _ _ (by omega)]
 |o'::r,acc,j+1,o,h=>by
  obtain⟨pre,h1,h2,h3⟩:=Quy r (acc++[Qk2 acc o']) j o (by simpa using h);refine⟨pre,by rw[h1]; simp; omega,?_,λk hk => ?_⟩
  . rw[Qbe]; rw[<-h2]; congr 1; simp; omega
  . rw[Qbe]; exact h3 k (by simp; omega)
theorem Qrn (acc:List Nat) (i:Nat):∀ (l:List Edge) (s:Nat),(l.foldl (λs e=>if Region.binds .any e then s ||| (2 ^ e.on ||| acc.getD e.on 0)else s) s).testBit i=true ->
 s.testBit i=true\/∃ e∈l,Region.binds .any e=true/\(i=e.on\/(acc.getD e.on 0).testBit i=true)
 |[],s,h=>.inl h
 |e::r,s,h=>by
  simp only[YH]at h;rcases Qrn acc i r _ h with h1|⟨e',h1,h2⟩
  . by_cases hb:Region.binds .any e=true
    . rw[Zr hb]at h1;simp only[Nat.testBit_or,V6]at h1;rcases h1 with h1|h1|h1
      . exact .inl h1
      . refine .inr ⟨e,by simp,hb,.inl ?_⟩;rw[Nat.testBit_two_pow]at h1;simpa using (Zy h1).symm
      . exact .inr ⟨e,by simp,hb,.inr h1⟩
    . rw[Zq hb]at h1; exact .inl h1
  . exact .inr ⟨e',by simp[h1],h2⟩
def Qhe (aa:Array Oper) (L:Nat->Prop):Prop:=∀ (j:Nat) (o:Oper),L j->aa[j]? = some o->∀ e∈o.after.toList,Region.binds .any e=true->L e.on
def Qxw (aa:Array Oper) (L:Nat->Prop) (j:Nat):Prop:=∀ (o:Oper),aa[j]? = some o->∀ e∈o.after.toList,Region.binds .any e=true->L e.on
theorem QBB {aa:Array Oper} {L:Nat->Prop} (hL:Qhe aa L):∀ (j:Nat),Qxw aa L j->∀ i b,(Qbe aa.toList [])[j]? = some b->b.testBit i=true->L i:=by
 intro j
 induction j using Nat.strongRecOn with
 |_ j ih =>
  intro hw i b hb hi;have hj:j<aa.toList.length:=by have:=Qk hb; rw[Qoh]at this; simpa using this
  obtain⟨pre,h1,h2,h3⟩:=Quy aa.toList [] j aa.toList[j] (Ve hj);simp only[VH,Ye]at h1 h2 h3;rw[hb]at h2
  cases h2
  unfold Qk2 at hi;rcases Qrn pre i _ 0 hi with h|⟨e,he,hbd,h⟩
  . simp at h
  . have ho:aa[j]? = some aa.toList[j]:=by simp[V2 (by simpa using hj)]
    have hon:=hw _ ho e he hbd;rcases h with h|h
    . rw[h]; exact hon
    . have hlt:e.on<pre.length:=by
       rcases Vx e.on pre.length with h4|h4
       . exact h4
       . rw[Vy,VT h4]at h; simp at h
      rw[Vy,Ve hlt]at h;have h5:=h3 e.on (by omega);rw[Ve hlt]at h5;exact ih e.on (by omega) (λo ho' e' he' hb'=>hL e.on o hon ho' e' he' hb') i _ h5.symm h
def QdN (B:List Nat) (i j:Nat):Bool:=(B.getD j 0).testBit i
def Qhk (aa:Array Oper) (ns:List Nat) (l:List Ins):Bool :=
 let B:=Qbe aa.toList []
 let n:=l.length
 let L:=ns.zip l
 (n==aa.size)&&(ns.length==n)&&((List.range n).all λi=>ns.contains i) &&
 ((List.range n).all λi=>((aa.getD i default).after.toList.all λe => !Region.binds .any e||decide (e.on<i))) &&
 (L.zipIdx.all λx=>L.zipIdx.all λy =>
  (match x.1.2.d with
   |none=>true
   |some d=>(x.2==y.2||y.1.2.d != some d)&&(!y.1.2.slots.contains d||(QdN B x.1.1 y.1.1&&decide (x.2<y.2)))) &&
  (x.1.2.j.quiet||decide (y.2<=x.2)||QdN B x.1.1 y.1.1)&&(x.2==y.2||x.1.1 != y.1.1))
end
section
variable [QO] [QK] [Qv]
def Qb5:Env->List Ins->ZJ->Env
 |e,o::r,v::vs=>Qb5 (e.put o.d v) r vs
 |e,_,_=>e
theorem Qhq {e:Env} {d:Option Nat} {v:SV} {t:Nat} (h:d≠some t):(e.put d v).get t=e.get t:=by
 cases d with
 |none=>rfl
 |some d=>simp only[Env.put,Env.get]; rw[Zq (λe=>h (by rw[e]))]
theorem Qkg {e:Env} {v:SV} {t:Nat}:(e.put (some t) v).get t=v:=by simp[Env.put,Env.get]
theorem QhK:∀ (os:List Ins) (vs:ZJ) (e:Env) (t:Nat),(∀ o∈os,o.d≠some t)->(Qb5 e os vs).get t=e.get t
 |[],vs,e,t,_=>rfl
 |o::r,[],e,t,_=>rfl
 |o::r,v::vs,e,t,h=>by
  rw[Qb5,QhK r vs _ t (λo' ho'=>h o' (by simp[ho'])),Qhq (h o (by simp))]
theorem Qh7:∀ (os:List Ins) (vs:ZJ) (e:Env) (t i:Nat) (o:Ins) (v:SV),os[i]? = some o->vs[i]? = some v->o.d=some t->(∀ j p,i<j->os[j]? = some p->p.d≠some t) ->
 (Qb5 e os vs).get t=v
 |[],vs,e,t,i,o,v,h,_,_,_=>by simp at h
 |o'::r,[],e,t,i,o,v,_,h,_,_=>by simp at h
 |o'::r,v'::vs,e,t,0,o,v,h1,h2,h3,h4=>by
  simp at h1 h2; subst h1 h2;rw[Qb5,QhK r vs _ t,h3,Qkg];intro p hp;obtain⟨j,hj⟩:=VB hp;exact h4 (j+1) p (by omega) (by simpa using hj)
 |o'::r,v'::vs,e,t,i+1,o,v,h1,h2,h3,h4=>by
  rw[Qb5];exact Qh7 r vs _ t i o v (by simpa using h1) (by simpa using h2) h3 λj p hj hp=>h4 (j+1) p (by omega) (by simpa using hp)
theorem QH.congr {S:St} {e e':Env} {tmps:Array Value} (h:QH S e tmps) (hk:∀ t,e'.get t=.any\/e'.get t=e.get t):QH S e' tmps:=by
 refine⟨λt => ?_⟩;rcases hk t with h1|h1<;>rw[h1]
 . exact .any _
 . exact h.get t
theorem Qrl {α:Type} {p q:α->Bool}:∀ (l:List α),(∀ x∈l,q x=true->p x=true)->∀ i∈l,p i=true->q i=false->(l.filter q).length<(l.filter p).length
 |[],_,i,hi,_,_=>by simp at hi
 |x::r,h,i,hi,hp,hq=>by
  have hle:∀ (l:List α),(∀ x∈l,q x=true->p x=true)->(l.filter q).length<=(l.filter p).length:=by
   intro l
   induction l with
   |nil=>intro _; simp
   |cons y s ih =>
    intro hh;have:=ih (λz hz=>hh z (by simp[hz]));simp only[List.filter_cons];by_cases hqy:q y=true
    . rw[Zr hqy,Zr (hh y (by simp) hqy)]; simp; omega
    . rw[Zq hqy]; split<;>simp<;>omega
  simp only[Vd]at hi;simp only[List.filter_cons];rcases hi with rfl|hi
  . rw[Zr hp,Zq (by simp[hq])];have:=hle r (λz hz=>h z (by simp[hz]));simp; omega
  . have ih:=Qrl r (λz hz=>h z (by simp[hz])) i hi hp hq;by_cases hqx:q x=true
    . rw[Zr hqx,Zr (h x (by simp) hqx)]; simp; omega
    . rw[Zq hqx]; split<;>simp<;>omega
abbrev CI:=Nat×Ins
structure DC (aa:Array Oper) (C:List CI):Prop where
 cov:∀ i,i<aa.size->∃ x∈C,x.1=i
 edge:∀ i o,aa[i]? = some o->∀ e∈o.after.toList,Region.binds .any e=true->e.on<i
 uniq:∀ x∈C,∀ y∈C,x.1≠y.1->∀ d,x.2.d=some d->y.2.d≠some d
 dep:∀ x∈C,∀ y∈C,∀ d,x.2.d=some d->d∈y.2.slots->QdN (Qbe aa.toList []) x.1 y.1=true
 self:∀ x∈C,∀ d,x.2.d=some d->d∉x.2.slots
theorem Qzf {ns:List Nat} {l:List Ins} (h:ns.length=l.length) {i:Nat} (hi:i∈ns):∃ x∈ns.zip l,x.1=i:=by
 obtain⟨k,hk⟩:=VB hi;have hlt:k<l.length:=by rw[<-h]; exact Qk hk
 exact⟨(i,l[k]),Vw (i:=k) (by rw[YQ]; exact⟨hk,Ve hlt⟩),rfl⟩
theorem Qzv {aa:Array Oper} {ns:List Nat} {l:List Ins} (h:Qhk aa ns l=true):DC aa (ns.zip l) /\
 (ns.zip l).Pairwise λx y=>(∀ d,y.2.d=some d->d∉x.2.slots)/\(x.2.j.quiet=false->QdN (Qbe aa.toList []) x.1 y.1=true)/\x.1≠y.1:=by
 unfold Qhk at h;simp only[Va,Zu,Vi,V3,V6,VL,Zs,List.contains_eq_mem]at h;obtain⟨⟨⟨⟨h1,h2⟩,h3⟩,h4⟩,h5⟩:=h;generalize hC:ns.zip l=C at h5 ⊢;have hp:∀ (a b:Nat) (x y:CI),C[a]? = some x->C[b]? = some y ->
  (∀ d,x.2.d=some d->(a=b\/y.2.d≠some d)/\(d∈y.2.slots->QdN (Qbe aa.toList []) x.1 y.1=true/\a<b)) /\
  ((x.2.j.quiet=true\/b<=a)\/QdN (Qbe aa.toList []) x.1 y.1=true)/\(a=b\/x.1≠y.1):=by
  intro a b x y hx hy;have hxm:(x,a)∈C.zipIdx:=Vw (i:=a) (by rw[List.getElem?_zipIdx]; simp[hx]);have hym:(y,b)∈C.zipIdx:=Vw (i:=b) (by rw[List.getElem?_zipIdx]; simp[hy]);have h6:=h5 (x,a) hxm (y,b) hym;simp only[bne_iff_ne,ne_eq]at h6;obtain⟨⟨h6,h7⟩,h8⟩:=h6;refine⟨λd hd => ?_,h7,h8⟩;rw[hd]at h6;simp only[Va,V6,Zu,bne_iff_ne,ne_eq,VL,Zs,ZB]at h6;refine⟨h6.1,λhm => ?_⟩;rcases h6.2 with h9|h9
  . exact absurd hm h9
  . exact h9
 refine⟨⟨λi hi => ?_,?_,?_,?_,?_⟩,?_⟩
 . rw[<-hC]; exact Qzf h2 (h3 i (by omega))
 . intro i o ho e he hb;have hi:i<aa.size:=(Yc.1 ho).1;rcases h4 i (by omega) e (by rw[VV,ho]; simpa using he)with h6|h6
   . rw[hb]at h6; cases h6
   . exact h6
 . intro x hx y hy hne d hd hd';obtain⟨a,ha⟩:=VB hx;obtain⟨b,hb⟩:=VB hy;rcases((hp a b x y ha hb).1 d hd).1 with h6|h6
   . subst h6; rw[ha]at hb; cases hb; exact hne rfl
   . exact h6 hd'
 . intro x hx y hy d hd hs;obtain⟨a,ha⟩:=VB hx;obtain⟨b,hb⟩:=VB hy;exact(((hp a b x y ha hb).1 d hd).2 hs).1
 . intro x hx d hd hs;obtain⟨a,ha⟩:=VB hx;have:=(((hp a a x x ha ha).1 d hd).2 hs).2; omega
 . rw[Zk];intro a b ha hb hab;have h6:=hp a b C[a] C[b] (Ve ha) (Ve hb);have h7:=hp b a C[b] C[a] (Ve hb) (Ve ha);refine⟨λd hd hs => ?_,λhq => ?_,?_⟩
   . have:=((h7.1 d hd).2 hs).2; omega
   . rcases h6.2.1 with (h8|h8)|h8
     . rw[hq]at h8; cases h8
     . omega
     . exact h8
   . rcases h6.2.2 with h8|h8
     . omega
     . exact h8
abbrev QI:=Nat×Ins×SV
def unl (listed:Array Bool) (q:QI):Bool := !listed.getD q.1 false
def Qfm (Qs:List QI) (e:Env):Env:=(Qs.filterMap λq=>q.2.1.d.map λd=>(d,SV.any))++e
theorem Qif {e:Env} {t:Nat}:∀ {Qs:List QI},(∃ q∈Qs,q.2.1.d=some t)->(Qfm Qs e).get t=.any
 |[],h=>by obtain⟨q,hq,_⟩:=h; simp at hq
 |q::r,h=>by
  simp only[Qfm,Zl]
  cases hd:q.2.1.d with
  |none =>
   simp only[Option.map_none];refine Qif ?_;obtain⟨q',hq',ht⟩:=h;simp only[Vd]at hq';rcases hq' with rfl|hq'
   . rw[hd]at ht; cases ht
   . exact⟨q',hq',ht⟩
  |some d =>
   simp only[VK,Vv,Env.get];by_cases h2:d=t
   . rw[Zr h2]
   . rw[Zq h2];refine Qif ?_;obtain⟨q',hq',ht⟩:=h;simp only[Vd]at hq';rcases hq' with rfl|hq'
     . rw[hd]at ht; cases ht; exact absurd rfl h2
     . exact⟨q',hq',ht⟩
theorem QeV {e:Env} {t:Nat}:∀ {Qs:List QI},(∀ q∈Qs,q.2.1.d≠some t)->(Qfm Qs e).get t=e.get t
 |[],_=>rfl
 |q::r,h=>by
  simp only[Qfm,Zl]
  cases hd:q.2.1.d with
  |none=>simp only[Option.map_none]; exact QeV λq' hq'=>h q' (by simp[hq'])
  |some d =>
   simp only[VK,Vv,Env.get];rw[Zq (λe=>h q (by simp) (by rw[hd,e]))];exact QeV λq' hq'=>h q' (by simp[hq'])
section
variable {P:ZN}
theorem QAh {o:Ins} {U aw:Env} {H:ZI} {K:ZH} (hq:o.j.quiet=false) (hs:∀ t∈o.slots,aw.get t=U.get t) (h:xo P o U H K) :
 xo P o aw H λx e2 H'=>match x with
  |.normal=>∃ v,e2=aw.put o.d v/\K .normal (U.put o.d v) H'
  |x=>K x U H':=by
 cases hoj:o.j with
 |p i=>rw[hoj]at hq; simp[J.quiet]at hq
 |q f args=>rw[hoj]at hq; simp[J.quiet]at hq
 |e i =>
  have hods:∀ x∈i.ods,U.ev x=aw.ev x:=by
   intro x hx;refine(Qj4 λt ht=>hs t ?_).symm;simp only[Ins.slots,hoj,J.slots,Vt,Y1];exact .inr ⟨x,hx,ht⟩
  have hj:xj P o U H K->xj P o aw H λx e2 H'=>match x with
   |.normal=>∃ v,e2=aw.put o.d v/\K .normal (U.put o.d v) H'
   |x=>K x U H':=by
   intro hx;by_cases hc:i.isCall=true
   . cases i<;>simp[E.isCall]at hc
     case call f args =>
      simp only[E.ods,Vd,ZC]at hods;have h1:args.map U.ev=args.map aw.ev:=Yg hods.2;unfold xj at hx ⊢;rw[hoj]at hx ⊢;simp only at hx ⊢;obtain⟨Pt,h2,h3⟩:=hx;refine⟨Pt,by rw[<-hods.1,<- h1]; exact h2,λout H' hp => ?_⟩;have h3:=h3 out H' hp
      cases out with
      |ret r=>exact⟨r,rfl,h3⟩
      |pan x=>exact h3
     case pan x =>
      have h1:=hods x (by simp[E.ods]);unfold xj at hx ⊢;rw[hoj]at hx ⊢;simp only at hx ⊢;rw[<-h1];exact hx
   . have hc':i.isCall=false:=by simpa using hc
     unfold xj at hx ⊢;rw[hoj]at hx ⊢;have h1:xe i U.ev H λv H'=>K .normal (U.put o.d v) H':=by
      cases i<;>first|exact hx|simp[E.isCall]at hc'
     have h2:=QDF (K':=λv H'=>∃ v',aw.put o.d v=aw.put o.d v'/\K .normal (U.put o.d v') H') hods (λv H' hk=>⟨v,rfl,hk⟩) h1
     cases i<;>first|exact h2|simp[E.isCall]at hc'
  unfold xo at h ⊢
  cases hog:o.g with
  |none=>rw[hog]at h; exact hj h
  |some sw =>
   obtain⟨s,want⟩:=sw;rw[hog]at h;have hgs:aw.get s=U.get s:=hs s (by simp[Ins.slots,hog]);rw[hoj]at h ⊢;simp only at h ⊢;rw[hgs];exact⟨h.1,λhon=>hj (h.2.1 hon),λhoff=>⟨_,rfl,h.2.2 hoff⟩⟩
theorem pv_H {i:I} (h:J.dep (.p i)=false) (g:Od->SV) (H H':ZI):pv i g H=pv i g H':=by
 cases i<;>first|rfl|(simp[J.dep]at h)
theorem QAC {o:Ins} {U:Env} {H H':ZI} {v:SV} (hd:o.j.dep=false) (h:QbR P o U H v):QbR P o U H' v:=by
 unfold QbR at *
 cases hoj:o.j with
 |p i =>
  rw[hoj]at h hd;simp only[pv_H hd U.ev H H']at h;exact h
 |q f args=>rw[hoj]at hd; simp[J.dep]at hd
 |e i=>rw[hoj]at h; exact h
theorem Qoe {H:ZI} {K:ZH}:∀ (rest:List CI) (pend:List (Ins×SV)) (U:Env),xd P pend (rest.map (·.2)) U H K ->
 ∃ (F:List QI) (rest':List CI) (pend':List (Ins×SV)),rest=(F.map λq=>(q.1,q.2.1))++rest'/\(rest'=[]\/∃ c r,rest'=c::r/\c.2.j.quiet=false) /\
  (∀ q∈F,q.2.1.j.quiet=true)/\(∀ p∈pend,p∈pend')/\(∀ q∈F,(q.2.1,q.2.2)∈pend')/\(∀ p∈pend',p∈pend\/∃ q∈F,p.1=q.2.1) /\
  (∀ (k:Nat) (q:QI),F[k]? = some q->QbR P q.2.1 (Qb5 U ((F.take k).map (·.2.1)) ((F.take k).map (·.2.2))) H q.2.2) /\
  xd P pend' (rest'.map (·.2)) (Qb5 U (F.map (·.2.1)) (F.map (·.2.2))) H K
 |[],pend,U,h=>⟨[],[],pend,rfl,.inl rfl,λq hq=>by simp at hq,λp hp=>hp,λq hq=>by simp at hq,λp hp=>.inl hp,λk q hk=>by simp at hk,h⟩
 |c::r,pend,U,h=>by
  by_cases hq:c.2.j.quiet=true
  . have key:∃ v,QbR P c.2 U H v/\xd P ((c.2,v)::pend) (r.map (·.2)) (U.put c.2.d v) H K:=by
     simp only[Vl,xd]at h;rw[Zr hq]at h;unfold QbR
     cases hog:c.2.g with
     |none =>
      rw[hog]at h
      cases hoj:c.2.j with
      |p i =>
       rw[hoj]at h;simp only at h ⊢;exact⟨_,⟨h.1,rfl⟩,h.2⟩
      |q f args =>
       rw[hoj]at h;simp only at h ⊢;obtain⟨v,h1,h2⟩:=h;exact⟨v,h1,h2⟩
      |e i=>rw[hoj]at hq; simp[J.quiet]at hq
     |some sw =>
      obtain⟨s,want⟩:=sw;rw[hog]at h
      cases hoj:c.2.j with
      |p i =>
       rw[hoj]at h;simp only at h ⊢;exact⟨_,⟨h.1,h.2.1,rfl⟩,h.2.2⟩
      |q f args =>
       rw[hoj]at h;simp only at h ⊢;obtain⟨h0,v,h1,h2⟩:=h;exact⟨_,⟨h0,v,h1,rfl⟩,h2⟩
      |e i=>rw[hoj]at hq; simp[J.quiet]at hq
    obtain⟨v,h1,h4⟩:=key;obtain⟨F,rest',pend',g1,g2,g3,g4,g5,g8,g6,g7⟩:=Qoe r _ _ h4;refine⟨(c.1,c.2,v)::F,rest',pend',by simp[g1],g2,?_,λp hp=>g4 p (by simp[hp]),?_,?_,?_,by simpa[Qb5]using g7⟩
    . intro q hqm;simp only[Vd]at hqm;rcases hqm with rfl|hqm
      . exact hq
      . exact g3 q hqm
    . intro q hqm;simp only[Vd]at hqm;rcases hqm with rfl|hqm
      . exact g4 _ (by simp)
      . exact g5 q hqm
    . intro p hp;rcases g8 p hp with h|⟨q,hqm,h⟩
      . simp only[Vd]at h;rcases h with rfl|h
        . exact .inr ⟨(c.1,c.2,v),by simp,rfl⟩
        . exact .inl h
      . exact .inr ⟨q,by simp[hqm],h⟩
    . intro k q hk
      cases k with
      |zero=>simp at hk; subst hk; simpa[Qb5]using h1
      |succ k=>simpa[Qb5]using g6 k q (by simpa using hk)
  . exact⟨[],c::r,pend,rfl,.inr ⟨c,r,rfl,by simpa using hq⟩,λq hq=>by simp at hq,λp hp=>hp,λq hq=>by simp at hq,λp hp=>.inl hp,λk q hk=>by simp at hk,h⟩
theorem Qfq {listed:Array Bool} {i k:Nat} (hi:i<listed.size):(listed.setIfInBounds i true).getD k false=true↔(k=i\/listed.getD k false=true):=by
 by_cases h:i=k
 . subst h; simp[hi]
 . rw[getD_set_ne false h];constructor
   . exact λh'=>.inr h'
   . rintro(h'|h')
     . exact absurd h'.symm h
     . exact h'
theorem Qns {listed:Array Bool} {i:Nat} (h:i<listed.size):listed.getD i true=listed.getD i false:=by
 simp[VV,V2 h]
theorem Qqc {aa:Array Oper} {Q:Exit->Act->ZO->Prop} {i:Nat} {o:Oper} {a:Act} {w:ZO} {next:Act->ZO->Prop} (ho:aa[i]? = some o) (h:Qgs P aa o a w next Q):Qb6 P aa Q i next a w:=by
 unfold Qb6;rw[ho];simp only;unfold Qgs at h;split
 . rename_i hw; rw[Zr hw]at h; exact h
 . rename_i hw; rw[Zq hw]at h; exact h
theorem QAL {aa:Array Oper} (hedge:∀ i o,aa[i]? = some o->∀ e∈o.after.toList,Region.binds .any e=true->e.on<i) {listed:Array Bool} (hsz:listed.size=aa.size) (hr:Region.ready .any aa listed=[]) :
 ∀ i,i<aa.size->listed.getD i false=true:=by
 intro i
 induction i using Nat.strongRecOn with
 |_ i ih =>
  intro hi
  cases h:listed.getD i false with
  |true=>rfl
  |false =>
   have:i∈Region.ready .any aa listed:=by
    rw[mem_ready];refine⟨by rw[Qns (by omega)]; exact h,aa[i],V2 hi,λe he hb => ?_⟩;have:=hedge i aa[i] (V2 hi) e (by simpa using he) hb;exact ih e.on this (by omega)
   rw[hr]at this; simp at this
theorem Qtv {aa:Array Oper} {listed:Array Bool} {j:Nat} {o:Oper} (ho:aa[j]? = some o) (Z:Qhe aa λt=>listed.getD t false=true)
 (hdeps:∀ e∈o.after,Region.binds .any e=true->listed.getD e.on false=true) {i:Nat} (hb:QdN (Qbe aa.toList []) i j=true):listed.getD i false=true:=by
 have hlt:j<aa.size:=(Yc.1 ho).1;have h4:j<(Qbe aa.toList []).length:=by rw[Qoh]; simpa using hlt
 unfold QdN at hb;rw[Vy,Ve h4]at hb;exact QBB Z j (λo' ho' e hem hb=>by rw[ho]at ho'; cases ho'; exact hdeps e (by simpa using hem) hb) i _ (Ve h4) hb
theorem Qx9 {aa:Array Oper} {listed:Array Bool} {i j:Nat} {o:Oper} (ho:aa[j]? = some o) (Z:Qhe aa λt=>listed.getD t false=true) (hj:listed.getD j false=true)
 (hb:QdN (Qbe aa.toList []) i j=true):listed.getD i false=true :=
 Qtv ho Z (λe he hb=>Z j o hj ho e (by simpa using he) hb) hb
theorem Qoz {N:Nat} {aa:Array Oper} {C:List CI} (hd:DC aa C) (hchk:∀ x∈C,∃ o,aa[x.1]? = some o/\Qd2 P N aa o x.2=true) {listed:Array Bool} (Z:Qhe aa λt=>listed.getD t false=true) :
 ∀ (pend:List (Ins×SV)) (ts:List Nat),(∀ p∈pend,∃ i,(i,p.1)∈C)->(∀ t∈ts,∀ y∈C,y.2.d=some t->listed.getD y.1 false=true) ->
  ∀ s∈Qgp ts pend,∀ y∈C,y.2.d=some s->listed.getD y.1 false=true
 |[],ts,_,h=>h
 | (p,v)::r,ts,hp,h=>by
  unfold Qgp;by_cases hm:Qgu ts p.d=true
  . rw[Zr hm];refine Qoz hd hchk Z r _ (λq hq=>hp q (by simp[hq])) ?_;intro t ht y hy hyd;rcases Vt.1 ht with ht|ht
    . obtain⟨i,hi⟩:=hp (p,v) (by simp);obtain⟨o,ho,_⟩:=hchk _ hi
      cases hpd:p.d with
      |none=>rw[hpd]at hm; simp[Qgu]at hm
      |some d =>
       rw[hpd]at hm;simp only[Qgu]at hm;have h1:=h d (by simpa using hm) (i,p) hi hpd;exact Qx9 ho Z h1 (hd.dep y hy (i,p) hi t hyd ht)
    . exact h t ht y hy hyd
  . rw[Zq hm];exact Qoz hd hchk Z r ts (λq hq=>hp q (by simp[hq])) h
theorem QAq {N:Nat} {aa:Array Oper} {C:List CI} {S:St} {db:DB} {K:ZH} (hd:DC aa C) (hchk:∀ x∈C,∃ o,aa[x.1]? = some o/\Qd2 P N aa o x.2=true) :
 ∀ (fuel:Nat) (listed:Array Bool) (S':St) (a:Act) (Qs:List QI) (Ef:Env) (pend:List (Ins×SV)) (rest:List CI),
 rest.length+(Qs.filter (unl listed)).length<=fuel->listed.size=aa.size->(Qhe aa λt=>listed.getD t false=true) ->
 (∀ q∈Qs,(q.1,q.2.1)∈C)->(∀ r∈rest,r∈C) ->
 (∀ i,i<aa.size->listed.getD i false=false->(∃ q∈Qs,q.1=i)\/∃ r∈rest,r.1=i) ->
 (∀ r∈rest,listed.getD r.1 false=false) ->
 (rest.Pairwise λx y=>(∀ d,y.2.d=some d->d∉x.2.slots)/\(x.2.j.quiet=false->QdN (Qbe aa.toList []) x.1 y.1=true)/\x.1≠y.1) ->
 (rest=[]\/∃ c r,rest=c::r/\c.2.j.quiet=false) ->
 (∀ q∈Qs,∀ r∈rest,(∀ d,r.2.d=some d->d∉q.2.1.slots)/\q.1≠r.1) ->
 (∀ q∈Qs,∀ q'∈Qs,q.1=q'.1->q=q')->(∀ q∈Qs,q.2.1.j.quiet=true) ->
 (∀ q∈Qs,∀ d,q.2.1.d=some d->Ef.get d=q.2.2) ->
 (∀ q∈Qs,listed.getD q.1 false=false->QbR P q.2.1 Ef S'.H q.2.2) ->
 (∀ q∈Qs,(q.2.1,q.2.2)∈pend)->(∀ p∈pend,∃ i,(i,p.1)∈C) ->
 Ext S.H.length S S'->Sim S'->QH S' (Qfm (Qs.filter (unl listed)) Ef) a.tmps->a.tmps.size=N->db.Ok S'.w a.defers ->
 xd P pend (rest.map (·.2)) Ef S'.H K->Qcx P .any aa (Qar S N db K) fuel listed a S'.w:=by
 intro fuel
 induction fuel with
 |zero =>
  intro listed S' a Qs Ef pend rest hf hsz Z hQC hrC hcov hrl hpw hhead hqr hqn hqq hval hqv hpend hpC he hS henv hN hdf hx;obtain rfl:rest=[]:=VS (by omega);have hun:Qs.filter (unl listed)=[]:=VS (by omega);have hall:∀ i,i<aa.size->listed.getD i false=true:=by
   intro i hi
   cases h:listed.getD i false with
   |true=>rfl
   |false =>
    rcases hcov i hi h with ⟨q,hq,rfl⟩|⟨r,hr,_⟩
    . have:q∈Qs.filter (unl listed):=by rw[Yd]; exact⟨hq,by simp[unl]; simpa using h⟩
      rw[hun]at this; simp at this
    . simp at hr
  rw[hun]at henv;refine⟨?_,⟨.normal,Ef,S'.ρ,S'.H,trivial,he,hS,henv,hN,hdf,hx⟩⟩;rw[List.eq_nil_iff_forall_not_mem];intro i hi;rw[mem_ready]at hi;obtain⟨h1,o,ho,_⟩:=hi;have hlt:i<aa.size:=(Yc.1 ho).1;rw[Qns (by omega),hall i hlt]at h1; cases h1
 |succ fuel ih =>
  intro listed S' a Qs Ef pend rest hf hsz Z hQC hrC hcov hrl hpw hhead hqr hqn hqq hval hqv hpend hpC he hS henv hN hdf hx;refine⟨λhr => ?_,λj hj => ?_⟩
  . have hall:=QAL hd.edge hsz hr;have hrest:rest=[]:=by
     cases rest with
     |nil=>rfl
     |cons c r =>
      obtain⟨o,ho,_⟩:=hchk c (hrC c (by simp));have h1:=hrl c (by simp);rw[hall c.1 (Yc.1 ho).1]at h1; cases h1
    subst hrest;have hun:Qs.filter (unl listed)=[]:=by
     rw[List.filter_eq_nil_iff];intro q hq hu;obtain⟨o,ho,_⟩:=hchk _ (hQC q hq);have:=hall q.1 (Yc.1 ho).1;have e:unl listed q=false:=by unfold unl; rw[this]; rfl
     rw[e]at hu; cases hu
    rw[hun]at henv;exact⟨.normal,Ef,S'.ρ,S'.H,trivial,he,hS,henv,hN,hdf,hx⟩
  . rw[mem_ready]at hj;obtain⟨g1,o,ho,hdeps⟩:=hj;have hlt:j<aa.size:=(Yc.1 ho).1;rw[Qns (by omega)]at g1;have before:=λ(i:Nat)=>Qtv (i:=i) ho Z hdeps;have hjs:j<listed.size:=by omega
    have hset:∀ k,(listed.setIfInBounds j true).getD k false=false->listed.getD k false=false:=by
     intro k hk
     cases h:listed.getD k false with
     |false=>rfl
     |true=>rw[(Qfq (k:=k) hjs).2 (.inr h)]at hk; cases hk
    have hclosed':Qhe aa λt=>(listed.setIfInBounds j true).getD t false=true:=by
     intro i p hi hp e hem hb;rw[Qfq hjs]at hi ⊢;rcases hi with rfl|hi
     . rw[ho]at hp; cases hp; exact .inr (hdeps e (by simpa using hem) hb)
     . exact .inr (Z i p hi hp e hem hb)
    rcases hcov j hlt g1 with ⟨q,hq,rfl⟩|⟨c,hc,rfl⟩
    . -- a quiet operation
      obtain⟨o',ho',hci⟩:=hchk _ (hQC q hq);rw[ho]at ho'; cases ho'
      have hm:∀ t∈q.2.1.slots,(Qfm (Qs.filter (unl listed)) Ef).get t=Ef.get t:=by
       intro t ht;refine QeV λq' hq' hd' => ?_;rw[Yd]at hq';have h1:=before q'.1 (hd.dep _ (hQC q' hq'.1) _ (hQC q hq) t hd' ht);have h2:=hq'.2;simp only[unl,VL]at h2;rw[h1]at h2; cases h2
      have hq1:=QiH (hqv q hq g1) hm;have hxo:xo P q.2.1 (Qfm (Qs.filter (unl listed)) Ef) S'.H (λx aw H'=>x=.normal/\aw=(Qfm (Qs.filter (unl listed)) Ef).put q.2.1.d q.2.2/\H'=S'.H):=QBC hq1 ⟨rfl,rfl,rfl⟩;refine Qqc ho (QjA hS henv hN hdf hci hxo ?_ ?_)
      . rintro a' w' ⟨x,aw,ρ',H',hx',am,aj,henv',hN',hdf',hxn,rfl,rfl⟩;refine ih _ ⟨ρ',S'.H,w'⟩ a' Qs Ef pend rest ?_ (by simpa using hsz) hclosed' hQC hrC (λi hi h=>hcov i hi (hset i h)) ?_ hpw hhead hqr hqn hqq hval
         (λq' hq' h=>hqv q' hq' (hset _ h)) hpend hpC (he.trans (am.mono (he.len (Vb _)))) aj ?_ hN' hdf' hx
        . have:=Qrl (p:=unl listed) (q:=unl (listed.setIfInBounds q.1 true)) Qs (by
           intro q' _ h;simp only[unl,VL]at h ⊢;exact hset _ h) q hq (by simp only[unl,g1]; rfl) (by
           simp only[unl,Bool.not_eq_false'];exact(Qfq hjs).2 (.inl rfl))
          omega
        . intro r hr;have h1:=hrl r hr
          cases h:(listed.setIfInBounds q.1 true).getD r.1 false with
          |false=>rfl
          |true =>
           rw[Qfq hjs]at h;rcases h with h|h
           . exact absurd h.symm (hqr q hq r hr).2
           . rw[h1]at h; cases h
        . refine henv'.congr λt => ?_;by_cases hun:∃ q'∈Qs.filter (unl (listed.setIfInBounds q.1 true)),q'.2.1.d=some t
          . exact .inl (Qif hun)
          . right;rw[QeV (λq' hq' h=>hun ⟨q',hq',h⟩)];by_cases h2:q.2.1.d=some t
            . rw[h2,Qkg]; exact hval q hq t h2
            . rw[Qhq h2,QeV];intro q' hq' h3;apply hun;refine⟨q',?_,h3⟩;rw[Yd]at hq' ⊢;refine⟨hq'.1,?_⟩;have h4:=hq'.2;simp only[unl,VL]at h4 ⊢
              cases h5:(listed.setIfInBounds q.1 true).getD q'.1 false with
              |false=>rfl
              |true =>
               rw[Qfq hjs]at h5;rcases h5 with h5|h5
               . have:=hqn q' hq'.1 q hq h5;subst this; exact absurd h3 h2
               . rw[h4]at h5; cases h5
      . rintro ch a' w' ⟨x,aw,ρ',H',hx',am,aj,henv',hN',hdf',hxn,_⟩;subst hxn;simp only[ER]at hx'
    . -- the next write
      have hhd:∃ r,rest=c::r:=by
       rcases hhead with rfl|⟨c',r,rfl,hq'⟩
       . simp at hc
       . simp only[Vd]at hc;rcases hc with rfl|hc
         . exact⟨r,rfl⟩
         . rw[List.pairwise_cons]at hpw;have h1:=before c'.1 ((hpw.1 c hc).2.1 hq');rw[hrl c' (by simp)]at h1; cases h1
      obtain⟨r,rfl⟩:=hhd;have hcq:c.2.j.quiet=false:=by
       rcases hhead with h|⟨c',r',h,hq'⟩
       . cases h
       . cases h; exact hq'
      obtain⟨o',ho',hci⟩:=hchk c (hrC c (by simp));rw[ho]at ho'; cases ho'
      rw[List.pairwise_cons]at hpw;have hm:∀ t∈c.2.slots,(Qfm (Qs.filter (unl listed)) Ef).get t=Ef.get t:=by
       intro t ht;refine QeV λq' hq' hd' => ?_;rw[Yd]at hq';have h1:=before q'.1 (hd.dep _ (hQC q' hq'.1) _ (hrC c (by simp)) t hd' ht);have h2:=hq'.2;simp only[unl,VL]at h2;rw[h1]at h2; cases h2
      simp only[Vl,xd]at hx;rw[Zq (by simp[hcq])]at hx;have hxo:=QAh hcq hm hx;refine Qqc ho (QjA hS henv hN hdf hci hxo ?_ ?_)
      . rintro a' w' ⟨x,aw,ρ',H',hx',am,aj,henv',hN',hdf',hk⟩
        cases x<;>simp only[ER]at hx'
        obtain⟨v,rfl,hpv,hxd⟩:=hk;obtain⟨F,rest',pend',f1,f2,f3,f4,f5,f8,f6,f7⟩:=Qoe r pend _ hxd;subst f1;have hFC:∀ q∈F,(q.1,q.2.1)∈C:=λq hq=>hrC _ (by simp; exact .inr (.inl ⟨q.2.2,hq⟩));have hr'C:∀ y∈rest',y∈C:=λy hy=>hrC _ (by simp[hy]);have hFr:∀ q∈F,(q.1,q.2.1)∈(F.map λq=>(q.1,q.2.1))++rest':=λq hq=>YA _ (VC.2 ⟨q,hq,rfl⟩);rw[List.pairwise_append]at hpw;obtain⟨hpc,hpF,hpr,hpFr⟩:=hpw;have hFidx:∀ (i k:Nat) (x y:QI),F[i]? = some x->F[k]? = some y->i<k->(∀ d,y.2.1.d=some d->d∉x.2.1.slots)/\x.1≠y.1:=by
         intro i k x y hx hy hik;rw[List.pairwise_map,Zk]at hpF;have h1:=Qk hx;have h2:=Qk hy;have h3:=hpF i k h1 h2 hik;rw[Ve h1]at hx; cases hx
         rw[Ve h2]at hy; cases hy
         exact⟨h3.1,h3.2.2⟩
        generalize hE1:Ef.put c.2.d v=E1 at *;have getF:∀ (t:Nat),(∀ q∈F,q.2.1.d≠some t)->(Qb5 E1 (F.map (·.2.1)) (F.map (·.2.2))).get t=E1.get t:=by
         intro t h;refine QhK _ _ _ _ λp hp => ?_;obtain⟨q,hq,rfl⟩:=VC.1 hp;exact h q hq
        have getF1:∀ q∈F,∀ d,q.2.1.d=some d->(Qb5 E1 (F.map (·.2.1)) (F.map (·.2.2))).get d=q.2.2:=by
         intro q hq d hqd;obtain⟨k,hk⟩:=VB hq;refine Qh7 _ _ _ d k q.2.1 q.2.2 (by simp[hk]) (by simp[hk]) hqd ?_;intro i p hik hp hpd;simp only[Vs,V1]at hp;obtain⟨y,hy,rfl⟩:=hp;exact hd.uniq _ (hFC q hq) _ (hFC y (Vw hy)) (hFidx k i q y hk hy hik).2 d hqd hpd
        have hcF:∀ q∈F,c.1≠q.1:=λq hq=>(hpc _ (hFr q hq)).2.2;have hcr':∀ y∈rest',c.1≠y.1:=λy hy=>(hpc _ (YB _ hy)).2.2;have hlF:∀ q∈F,(listed.setIfInBounds c.1 true).getD q.1 false=false:=by
         intro q hq
         cases h:(listed.setIfInBounds c.1 true).getD q.1 false with
         |false=>rfl
         |true =>
          rw[Qfq hjs]at h;rcases h with h|h
          . exact absurd h.symm (hcF q hq)
          . have:=hrl (q.1,q.2.1) (VW _ (hFr q hq)); rw[this]at h; cases h
        have hQF:∀ q∈Qs,∀ q'∈F,(∀ d,q'.2.1.d=some d->d∉q.2.1.slots)/\q.1≠q'.1:=λq hq q' hq'=>hqr q hq (q'.1,q'.2.1) (VW _ (hFr q' hq'));have hQc:∀ q∈Qs,(∀ d,c.2.d=some d->d∉q.2.1.slots)/\q.1≠c.1:=λq hq=>hqr q hq c (by simp);refine ih _ ⟨ρ',H',w'⟩ a' (Qs++F) (Qb5 E1 (F.map (·.2.1)) (F.map (·.2.2))) pend' rest' ?_ (by simpa using hsz) hclosed' ?_ hr'C ?_ ?_ hpr f2 ?_ ?_ ?_ ?_ ?_ ?_ ?_
         (he.trans (am.mono (he.len (Vb _)))) aj ?_ hN' hdf' f7
        . -- fuel
          have h1:((Qs++F).filter (unl (listed.setIfInBounds c.1 true))).length<=(Qs.filter (unl listed)).length+F.length:=by
           rw[List.filter_append,Vj];have h2:=Zm (unl (listed.setIfInBounds c.1 true)) F;have h3:(Qs.filter (unl (listed.setIfInBounds c.1 true))).length<=(Qs.filter (unl listed)).length:=by
            have:Qs.filter (unl (listed.setIfInBounds c.1 true))=(Qs.filter (unl listed)).filter (unl (listed.setIfInBounds c.1 true)):=by
             rw[List.filter_filter];refine List.filter_congr λq _ => ?_;simp only[unl]
             cases h:(listed.setIfInBounds c.1 true).getD q.1 false with
             |true=>rfl
             |false=>rw[hset _ h]; rfl
            rw[this]; exact Zm _ _
           omega
          simp only[Vh,Vj,Yj]at hf;omega
        . intro q hq;rcases Vt.1 hq with hq|hq
          . exact hQC q hq
          . exact hFC q hq
        . intro i hi h;have h0:=hset i h;rcases hcov i hi h0 with ⟨q,hq,rfl⟩|⟨y,hy,rfl⟩
          . exact .inl ⟨q,YA _ hq,rfl⟩
          . simp only[Vd,Vt,VC]at hy;rcases hy with rfl|⟨q,hq,rfl⟩|hy
            . rw[(Qfq (k:=y.1) hjs).2 (.inl rfl)]at h; cases h
            . exact .inl ⟨q,YB _ hq,rfl⟩
            . exact .inr ⟨y,hy,rfl⟩
        . intro y hy
          cases h:(listed.setIfInBounds c.1 true).getD y.1 false with
          |false=>rfl
          |true =>
           rw[Qfq hjs]at h;rcases h with h|h
           . exact absurd h.symm (hcr' y hy)
           . have:=hrl y (VW _ (YB _ hy)); rw[this]at h; cases h
        . intro q hq y hy;rcases Vt.1 hq with hq|hq
          . exact hqr q hq y (VW _ (YB _ hy))
          . have:=hpFr (q.1,q.2.1) (VC.2 ⟨q,hq,rfl⟩) y hy;exact⟨this.1,this.2.2⟩
        . intro q hq q' hq' heq;rcases Vt.1 hq with hq|hq<;>rcases Vt.1 hq' with hq'|hq'
          . exact hqn q hq q' hq' heq
          . exact absurd heq (hQF q hq q' hq').2
          . exact absurd heq.symm (hQF q' hq' q hq).2
          . obtain⟨i,hi⟩:=VB hq;obtain⟨k,hk⟩:=VB hq';rcases YC i k with h|h|h
            . exact absurd heq (hFidx i k q q' hi hk h).2
            . subst h; rw[hi]at hk; cases hk; rfl
            . exact absurd heq.symm (hFidx k i q' q hk hi h).2
        . intro q hq;rcases Vt.1 hq with hq|hq
          . exact hqq q hq
          . exact f3 q hq
        . intro q hq d hqd;rcases Vt.1 hq with hq|hq
          . rw[getF d (λq' hq' h=>hd.uniq _ (hQC q hq) _ (hFC q' hq') (hQF q hq q' hq').2 d hqd h),<- hE1,Qhq (λh=>hd.uniq _ (hQC q hq) _ (hrC c (by simp)) (hQc q hq).2 d hqd h)];exact hval q hq d hqd
          . exact getF1 q hq d hqd
        . intro q hq hun;rcases Vt.1 hq with hq|hq
          . have hcg:∀ t∈q.2.1.slots,(Qb5 E1 (F.map (·.2.1)) (F.map (·.2.2))).get t=E1.get t:=λt ht=>getF t λq' hq' h=>(hQF q hq q' hq').1 t h ht;refine QiH ?_ hcg;by_cases hdep:q.2.1.j.dep=true
            . refine hpv _ (hpend q hq) ?_;simp only[QkN,hdep,Bool.true_and,VL];unfold Qgu
              cases hqd:q.2.1.d with
              |none=>rfl
              |some d =>
               simp only
               cases hcn:(Qgp c.2.slots pend).contains d with
               |false=>rfl
               |true =>
                have h1:=Qoz hd hchk Z pend c.2.slots hpC (λt ht y hy hyd=>before y.1 (hd.dep y hy c (hrC c (by simp)) t hyd ht)) d (by simpa using hcn) _ (hQC q hq) hqd;rw[hset _ hun]at h1; cases h1
            . refine QAC (by simpa using hdep) (QiH (hqv q hq (hset _ hun)) λt ht => ?_);rw[<-hE1,Qhq (λh=>(hQc q hq).1 t h ht)]
          . obtain⟨k,hk⟩:=VB hq;refine QiH (f6 k q hk) λt ht => ?_;by_cases hw:∃ y∈F,y.2.1.d=some t
            . obtain⟨y,hy,hyd⟩:=hw;obtain⟨i,hi⟩:=VB hy;have hik:i<k:=by
               rcases YC i k with h|h|h
               . exact h
               . subst h; rw[hi]at hk; cases hk
                 exact absurd ht (hd.self _ (hFC q hq) t hyd)
               . exact absurd ht ((hFidx k i q y hk hi h).1 t hyd)
              rw[getF1 y hy t hyd];refine(Qh7 _ _ _ t i y.2.1 y.2.2 ?_ ?_ hyd ?_).symm
              . simp only[Vs,VQ,Zr hik,hi,VK]
              . simp only[Vs,VQ,Zr hik,hi,VK]
              . intro m p him hp hpd;simp only[Vs,VQ,V1]at hp;obtain⟨z,hz,rfl⟩:=hp;split at hz
                . exact hd.uniq _ (hFC y hy) _ (hFC z (Vw hz)) (hFidx i m y z hi hz him).2 t hyd hpd
                . cases hz
            . have hw':∀ y∈F,y.2.1.d≠some t:=λy hy h=>hw ⟨y,hy,h⟩;rw[getF t hw'];refine(QhK _ _ _ _ λp hp => ?_).symm;obtain⟨z,hz,rfl⟩:=VC.1 hp;exact hw' z (Yo hz)
        . intro q hq;rcases Vt.1 hq with hq|hq
          . exact f4 _ (hpend q hq)
          . exact f5 q hq
        . intro p hp;rcases f8 p hp with h|⟨q,hq,h⟩
          . exact hpC p h
          . exact⟨q.1,by rw[h]; exact hFC q hq⟩
        . refine henv'.congr λt => ?_;by_cases hun:∃ q'∈(Qs++F).filter (unl (listed.setIfInBounds c.1 true)),q'.2.1.d=some t
          . exact .inl (Qif hun)
          . right;rw[QeV (λq' hq' h=>hun ⟨q',hq',h⟩)];have hnF:∀ q∈F,q.2.1.d≠some t:=by
             intro q hq h;exact hun ⟨q,by rw[Yd]; exact⟨YB _ hq,by simp only[unl,hlF q hq]; rfl⟩,h⟩
            rw[getF t hnF,<- hE1];by_cases h2:c.2.d=some t
            . rw[h2,Qkg,Qkg]
            . rw[Qhq h2,Qhq h2,QeV];intro q' hq' h3;apply hun;refine⟨q',?_,h3⟩;rw[Yd]at hq' ⊢;refine⟨YA _ hq'.1,?_⟩;have h4:=hq'.2;simp only[unl,VL]at h4 ⊢
              cases h5:(listed.setIfInBounds c.1 true).getD q'.1 false with
              |false=>rfl
              |true =>
               rw[Qfq hjs]at h5;rcases h5 with h5|h5
               . exact absurd h5 (hQc q' hq'.1).2
               . rw[h4]at h5; cases h5
      . rintro ch a' w' ⟨x,aw,ρ',H',hx',am,aj,henv',hN',hdf',hk⟩
        cases x<;>simp only[ER]at hx'
        exact⟨.panic _,[],ρ',H',hx',he.trans (am.mono (he.len (Vb _))),aj,⟨λt=>.any _⟩,hN',hdf',hk⟩
theorem Qzt {P:ZN}:DOk0 P Qhk:=by
 intro N aa ns l U H K hc hdr hx db S a hH hS he hN hdf;subst hH;obtain⟨hd,hpw⟩:=Qzv hdr;have hlen:ns.length=l.length/\l.length=aa.size:=by
  unfold Qhk at hdr;simp only[Va,Zu]at hdr;exact⟨hdr.1.1.1.2,hdr.1.1.1.1⟩
 have hsnd:(ns.zip l).map (·.2)=l:=by rw[List.map_snd_zip]; omega
 have hchk:∀ x∈ns.zip l,∃ o,aa[x.1]? = some o/\Qd2 P N aa o x.2=true:=by
  intro x hx;unfold Qe8 at hc;rw[Vi]at hc;have:=hc x hx;split at this
  . rename_i o ho; exact⟨o,ho,this⟩
  . cases this
 have hnone:∀ i,(Array.replicate aa.size false).getD i false=false:=by
  intro i;rw[VV,Zj];split<;>rfl
 have hE:=QkK (S:=S) (w':=S.w.drew) rfl rfl rfl rfl;have hS':=Qm2 hS (w':=S.w.drew) rfl rfl rfl rfl;obtain⟨F,rest',pend',f1,f2,f3,f4,f5,f8,f6,f7⟩:=Qoe (ns.zip l) [] U (by rw[hsnd]; exact hx);have hFC:∀ q∈F,(q.1,q.2.1)∈ns.zip l:=λq hq=>by rw[f1]; exact YA _ (VC.2 ⟨q,hq,rfl⟩)
 have hr'C:∀ y∈rest',y∈ns.zip l:=λy hy=>by rw[f1]; exact YB _ hy
 rw[f1,List.pairwise_append]at hpw;obtain⟨hpF,hpr,hpFr⟩:=hpw;have hFidx:∀ (i k:Nat) (x y:QI),F[i]? = some x->F[k]? = some y->i<k->(∀ d,y.2.1.d=some d->d∉x.2.1.slots)/\x.1≠y.1:=by
  intro i k x y hx hy hik;rw[List.pairwise_map,Zk]at hpF;have h1:=Qk hx;have h2:=Qk hy;have h3:=hpF i k h1 h2 hik;rw[Ve h1]at hx; cases hx
  rw[Ve h2]at hy; cases hy
  exact⟨h3.1,h3.2.2⟩
 have getF:∀ (t:Nat),(∀ q∈F,q.2.1.d≠some t)->(Qb5 U (F.map (·.2.1)) (F.map (·.2.2))).get t=U.get t:=by
  intro t h;refine QhK _ _ _ _ λp hp => ?_;obtain⟨q,hq,rfl⟩:=VC.1 hp;exact h q hq
 have getF1:∀ q∈F,∀ d,q.2.1.d=some d->(Qb5 U (F.map (·.2.1)) (F.map (·.2.2))).get d=q.2.2:=by
  intro q hq d hqd;obtain⟨k,hk⟩:=VB hq;refine Qh7 _ _ _ d k q.2.1 q.2.2 (by simp[hk]) (by simp[hk]) hqd ?_;intro i p hik hp hpd;simp only[Vs,V1]at hp;obtain⟨y,hy,rfl⟩:=hp;exact hd.uniq _ (hFC q hq) _ (hFC y (Vw hy)) (hFidx k i q y hk hy hik).2 d hqd hpd
 refine QAq hd hchk aa.size (Array.replicate aa.size false) ⟨S.ρ,S.H,S.w.drew⟩ a F (Qb5 U (F.map (·.2.1)) (F.map (·.2.2))) pend' rest' ?_ (by simp) ?_ hFC hr'C ?_ (λr _=>hnone _) hpr f2 ?_ ?_ f3 getF1 ?_ f5 (λp hp=>by
  rcases f8 p hp with h|⟨q,hq,h⟩
  . simp at h
  . exact⟨q.1,by rw[h]; exact hFC q hq⟩)
  hE hS' ?_ hN hdf.drew f7
 . have h1:=Zm (unl (Array.replicate aa.size false)) F;have h2:(ns.zip l).length=aa.size:=by rw[List.length_zip]; omega
   rw[f1]at h2;simp at h2; omega
 . intro j o hj;simp only[hnone]at hj; cases hj
 . intro i hi _;obtain⟨x,hx,rfl⟩:=hd.cov i hi;rw[f1,Vt,VC]at hx;rcases hx with ⟨q,hq,rfl⟩|hx
   . exact .inl ⟨q,hq,rfl⟩
   . exact .inr ⟨x,hx,rfl⟩
 . intro q hq y hy;have:=hpFr (q.1,q.2.1) (VC.2 ⟨q,hq,rfl⟩) y hy;exact⟨this.1,this.2.2⟩
 . intro q hq q' hq' heq;obtain⟨i,hi⟩:=VB hq;obtain⟨k,hk⟩:=VB hq';rcases YC i k with h|h|h
   . exact absurd heq (hFidx i k q q' hi hk h).2
   . subst h; rw[hi]at hk; cases hk; rfl
   . exact absurd heq.symm (hFidx k i q' q hk hi h).2
 . intro q hq _;obtain⟨k,hk⟩:=VB hq;refine QiH (f6 k q hk) λt ht => ?_;by_cases hw:∃ y∈F,y.2.1.d=some t
   . obtain⟨y,hy,hyd⟩:=hw;obtain⟨i,hi⟩:=VB hy;have hik:i<k:=by
      rcases YC i k with h|h|h
      . exact h
      . subst h; rw[hi]at hk; cases hk
        exact absurd ht (hd.self _ (hFC q hq) t hyd)
      . exact absurd ht ((hFidx k i q y hk hi h).1 t hyd)
     rw[getF1 y hy t hyd];refine(Qh7 _ _ _ t i y.2.1 y.2.2 ?_ ?_ hyd ?_).symm
     . simp only[Vs,VQ,Zr hik,hi,VK]
     . simp only[Vs,VQ,Zr hik,hi,VK]
     . intro m p him hp hpd;simp only[Vs,VQ,V1]at hp;obtain⟨z,hz,rfl⟩:=hp;split at hz
       . exact hd.uniq _ (hFC y hy) _ (hFC z (Vw hz)) (hFidx i m y z hi hz him).2 t hyd hpd
       . cases hz
   . have hw':∀ y∈F,y.2.1.d≠some t:=λy hy h=>hw ⟨y,hy,h⟩;rw[getF t hw'];refine(QhK _ _ _ _ λp hp => ?_).symm;obtain⟨z,hz,rfl⟩:=VC.1 hp;exact hw' z (Yo hz)
 . refine(he.ext hE).congr λt => ?_;by_cases hw:∃ y∈F,y.2.1.d=some t
   . left;obtain⟨y,hy,hyd⟩:=hw;exact Qif ⟨y,by rw[Yd]; exact⟨hy,by simp only[unl,hnone]; rfl⟩,hyd⟩
   . right;have hw':∀ y∈F,y.2.1.d≠some t:=λy hy h=>hw ⟨y,hy,h⟩;rw[QeV (λq hq=>hw' q (Yd.1 hq).1),getF t hw']
end
end
section
variable [QO] [QK] [Qv]
theorem QCa (n:Nat) (o:Ins):(o.rs n).slots=o.slots:=by
 obtain⟨d,g,j⟩:=o
 cases j with
 |e i=>cases i<;>rfl
 |_=>rfl
theorem Qye (n:Nat) (o:Ins):(o.rs n).j.quiet=o.j.quiet:=by
 obtain⟨d,g,j⟩:=o
 cases j<;>rfl
theorem d_rs (n:Nat) (o:Ins):(o.rs n).d=o.d:=rfl
def Qhd (free:Ins->Bool) (aa:Array Oper) (ns:List Nat) (l:List Ins):Bool :=
 let B:=Qbe aa.toList []
 let n:=l.length
 let L:=ns.zip l
 (n==aa.size)&&(ns.length==n)&&((List.range n).all λi=>ns.contains i) &&
 ((List.range n).all λi=>((aa.getD i default).after.toList.all λe => !Region.binds .any e||decide (e.on<i))) &&
 (L.zipIdx.all λx=>L.zipIdx.all λy =>
  (match x.1.2.d with
   |none=>true
   |some d=>(x.2==y.2||y.1.2.d != some d)&&(!y.1.2.slots.contains d||(QdN B x.1.1 y.1.1&&decide (x.2<y.2)))) &&
  (free x.1.2||decide (y.2<=x.2)||QdN B x.1.1 y.1.1)&&(x.2==y.2||x.1.1 != y.1.1))
theorem Qw4 {free:Ins->Bool} (n:Nat) (hf:∀ o,free (Ins.rs n o)=free o) {aa:Array Oper} {ns:List Nat} {l:List Ins} (h:Qhd free aa ns l=true):Qhd free aa ns (l.map (Ins.rs n))=true:=by
 have e:Qhd free aa ns (l.map (Ins.rs n))=Qhd free aa ns l:=by
  unfold Qhd;simp only[Yj,List.zip_map_right,List.zipIdx_map,List.all_map,Function.comp_def,Prod.map_fst,Prod.map_snd,id_eq,d_rs,QCa,hf]
 rw[e]; exact h
theorem QyN (aa:Array Oper) (ns:List Nat) (l:List Ins):Qhk aa ns l=Qhd (λo=>o.j.quiet) aa ns l:=rfl
def Qf (aa:Array Oper) (ns:List Nat) (l:List Ins):Bool:=Qhk aa ns l
theorem Qb1 {P:ZN} (hm:P.follows .mixedOrders=true):DOk P Qf where
 rs:=by
  intro n aa m l h;unfold Qf at h ⊢;rw[QyN]at h ⊢; exact Qw4 n (λo=>Qye n o) h
 mixed:=hm
 ok:=λN aa m l U H K hc h hx=>Qzt N aa m l U H K hc h hx
end
section
variable [QO] [QK] [Qv]
def Qdn (P:ZN) (D:Array Oper->List Nat->List Ins->Bool) (fn:Func) (i:IC) (rs:List RS):Bool :=
 (match fn.body with | some c => QY P fn.ntmps D c i | none => false) && !(fn.name == "runtime.NumGoroutine") && QcT P fn.results.toList rs && decide (fn.params.size + fn.nfree <= fn.ntmps)
theorem Qt {P:ZN} (hm:P.follows .mixedOrders=true) {f:ZP} {fn:Func} {i:IC} {rs:List RS} (hf:P.funcs[f]? = some fn) (hc:Qdn P Qf fn i rs=true)
 {args:ZJ} {H:ZI} {out:Out} {H':ZI} (hn:args.length=fn.params.size+fn.nfree)
 (hx:closed H->X P fn.ntmps Qf i (Qcq args) H (Fin H.length rs out H')):Ok P f args H out H':=by
 unfold Qdn at hc;rw[Va,Va,Va]at hc;obtain⟨⟨⟨h1,h2⟩,h3⟩,h4⟩:=hc;split at h1
 . rename_i c hb;exact QCX (Qb1 hm) hf hb (by simpa using h2) (by rw[hn]; simpa using h4) h1 h3 hx
 . cases h1
theorem QaY {P:ZN} (hm:P.follows .mixedOrders=true) {f:ZP} {fn:Func} {i:IC} {rs:List RS} (hf:P.funcs[f]? = some fn) (hc:Qdn P Qf fn i rs=true)
 {args:ZJ} {H:ZI} {Pt:Out->ZI->Prop} (hn:args.length=fn.params.size+fn.nfree)
 (hx:closed H->X P fn.ntmps Qf i (Qcq args) H (FinP H.length rs Pt)):OkP P f args H Pt:=by
 unfold Qdn at hc;rw[Va,Va,Va]at hc;obtain⟨⟨⟨h1,h2⟩,h3⟩,h4⟩:=hc;split at h1
 . rename_i c hb;exact Qyh (Qb1 hm) hf hb (by simpa using h2) (by rw[hn]; simpa using h4) h1 h3 hx
 . cases h1
theorem QyE {P:ZN} (hm:P.follows .mixedOrders=true) {N:Nat} {i:IC} {U:Env} {H:ZI} {K:ZH}
 (h:X P N Qf i U H λx U H=>match x with|.normal=>LI P N Qf i U H K|x=>K x U H):LI P N Qf i U H K:=LI.round (Qb1 hm) h
theorem Qvz (n:Int):(V n).isI .i64=true:=rfl
theorem QvO (n:Int):(V n).int=n:=rfl
theorem QzV (n:Int):(V n).isN=true:=rfl
theorem QBu (b:Bool):(bl b).isB=true:=rfl
theorem QEb (b:Bool):(bl b).bool=b:=rfl
theorem QDJ (n:Int):(V n).ug=V n:=rfl
theorem QED (n:Int):(V n).vd=true:=rfl
theorem QEk (b:Bool):(bl b).ug=bl b:=rfl
theorem Qzx (b:Bool):(bl b).vd=true:=rfl
theorem Qam {n:Int} (h1 : -9223372036854775808<=n) (h2:n<=9223372036854775807):IntKind.i64.wrap n=n:=by rw[IntKind.wrap_i64]; omega
theorem QDf (n:Int):SV.val (.int .i64 n)=V n:=rfl
theorem QgN (H L:ZI) (k ver:Nat):Qo (H++L) (H.length+k) ver=Qo L k ver:=by
 unfold Qo; rw[Vk (by omega)]; simp
theorem QDo (H L:ZI) (ver:Nat):Qo (H++L) H.length ver=Qo L 0 ver:=QgN H L 0 ver
theorem QkD (H L:ZI) (k:Nat) (f:AO->AO):setObj (H++L) (H.length+k) f=H++setObj L k f:=by
 unfold setObj;rw[Vk (by omega)];have:H.length+k-H.length=k:=by omega
 rw[this]
 cases L[k]? with
 |none=>rfl
 |some o=>simp
theorem QzE (H L:ZI) (f:AO->AO):setObj (H++L) H.length f=H++setObj L 0 f:=QkD H L 0 f
end
section
variable [QO] [QK] [Qv]
theorem Qxx {n0:Nat} {H1 H0 L:ZI} {r:SV} (d:Nat) (ks:List Nat) (h:H1=H0++L) (hn:n0<=H0.length) (Z:closed H0) (hk:QcM H0.length ks L d ks) :
 Cv n0 r H1 (r.fz H0.length ks L d) (H0++Qel H0.length ks L d):=by
 intro S v hS aj hv;subst h;exact⟨_,(Qfv hS hk).mono hn,QxW aj hS Z hk,Qo6 aj hS hk d (Vb _) r v hv⟩
theorem QzQ {n0:Nat} {H1 H0 L:ZI} {r:SV} (d:Nat) (h:H1=H0++L) (hn:n0<=H0.length) (Z:closed H0):Cv n0 r H1 (r.fz H0.length [] L d) H0:=by
 have:=Qxx (r:=r) d [] h hn Z trivial;simpa[Qel]using this
end
section
variable [QO] [QK] [Qv]
section
variable {P:ZN} {N:Nat}
def Env.puts (e:Env):List Nat->ZJ->Env
 |p::ps,v::vs=>Env.puts ((p,v)::e) ps vs
 |_,_=>e
theorem Env.puts_rel {S:St}:∀ (ps:List Nat) (l:ZJ) (vs:ZK) (e:Env) (tmps:Array Value),QH S e tmps->VRs S l vs->(∀ p∈ps,p<tmps.size) ->
 QH S (e.puts ps l) ((ps.zip vs).foldl (λt (x:Nat×Value)=>t.setIfInBounds x.1 x.2) tmps)
 |[],_,_,e,tmps,h,_,_=>by simpa[Env.puts]using h
 |p::ps,[],vs,e,tmps,h,hv,_=>by
  have:vs=[]:=VS (by simpa using hv.1);subst this; simpa[Env.puts]using h
 |p::ps,v::l,[],e,tmps,h,hv,_=>by have:=hv.1; simp at this
 |p::ps,v::l,u::vs,e,tmps,h,hv,hp=>by
  simp only[Env.puts,List.zip_cons_cons,YH];have h1:VR S v u:=hv.2 0 v u rfl rfl;have h2:VRs S l vs:=⟨by simpa using hv.1,λj s w h3 h4=>hv.2 (j+1) s w (by simpa using h3) (by simpa using h4)⟩;refine Env.puts_rel ps l vs _ _ ?_ h2 (λq hq=>by simpa using hp q (by simp[hq]));have h3:=QH.put (a:=⟨tmps,[]⟩) (d:=some p) (v:=u) (s:=v) h (λt ht=>by cases ht; exact hp p (by simp)) h1;simpa[Env.put,Act.put]using h3
theorem Env.of_vals {S:St} {e:Env} {N:Nat} {tmps:Array Value} (h:VRs S (e.vals N) tmps.toList) (he:(e.all λp=>decide (p.1<N))=true):QH S e tmps:=by
 refine⟨λt => ?_⟩;have hN:tmps.size=N:=by have:=h.1; simpa[Env.vals]using this
 by_cases ht:t<N
 . have h1:(e.vals N)[t]? = some (e.get t):=by simp[Env.vals,YG ht]
   obtain⟨u,h2,h3⟩:=h.get h1;rw[VV];have:tmps[t]? = some u:=by simpa using h2
   rw[this]; exact h3
 . have:e.get t=.any:=by
    clear h
    induction e with
    |nil=>rfl
    |cons p r ih =>
     simp only[Yw,Va,Zs]at he;simp only[Env.get];rw[Zq (by omega)];exact ih he.2
   rw[this]; exact .any _
def QmK (P:ZN) (N kk:Nat) (ps:List Nat) (ia ib:IC) (i n0:Nat) (Pt:Out->ZI->Prop) (x:XE) (_:Env) (H:ZI):Prop :=
 ∃ cs,H[i]? = some (lpo P N Qf kk ps ia ib cs .busy)/\∃ (st:LSt) (b:Bool) (H':ZI),
  (match x with
   |.normal=>st=.ready/\b=true
   |.exit id=>st=.exit id/\b=false
   |.goto l=>st=.goto l/\b=false
   |.ret=>st=.ret/\b=false
   |.panic _=>False)/\Pt (.ret (bl b)) H'/\Cv n0 (bl b) (H.set i (lpo P N Qf kk ps ia ib cs st)) (bl b) H'
theorem Quz {l l':Nat} {S S':St} {i:Nat} {o o':AO} (he:Ext S.H.length S S') (ho:S.H[i]? = some o) (ho':S'.H[i]? = some o') (hv:o.ver=o'.ver) (h:S.ρ i=some l) (h':S'.ρ i=some l'):l'=l:=by
 obtain⟨o1,g1,g2,g3⟩:=he.obj i o (Qk ho) ho;rw[ho']at g1; cases g1
 have:=g3 hv;rw[h,h']at this;exact Option.some.inj this
theorem QwL (hm:P.follows .mixedOrders=true) {i kk:Nat} {ps:List Nat} {ia ib:IC} {U:Env} {args:ZJ} {H:ZI} {Pt:Out->ZI->Prop}
 {cs0:ZJ} (ho:H[i]? = some (lpo P N Qf kk ps ia ib cs0 .ready)) (he:∀ (S:St) (tmps:Array Value),VRs S cs0 tmps.toList->QH S U tmps) (hp:(ps.all λp=>decide (p<N))=true) (hl:args.length=ps.length)
 (hx:closed H->X P N Qf ia (U.puts ps args) H λx env1 H1=>x=.normal/\∃ cs,H1[i]? = some (lpo P N Qf kk ps ia ib cs .ready)/\X P N Qf ib env1 (H1.set i (lpo P N Qf kk ps ia ib cs .busy)) (QmK P N kk ps ia ib i H.length Pt)) :
 YlP P i args H Pt:=by
 refine⟨⟨_,ho,rfl⟩,?_⟩;intro S vs l hH hS hvs hρ;subst hH;obtain⟨l',r,h1,h2,⟨k1,k2,k3,k4⟩,h4,h5⟩:=hS.loop ho;rw[hρ]at h1; cases h1
 have hps:r.params.size=ps.length:=by rw[<-k1]; simp
 have hlen:vs.length=args.length:=hvs.1;refine⟨r,h2,by omega,?_⟩;have htm:(r.params.zip vs.toArray).foldl (λtmps (x:Nat×Value)=>tmps.setIfInBounds x.1 x.2) r.tmps=(ps.zip vs).foldl (λt (x:Nat×Value)=>t.setIfInBounds x.1 x.2) r.tmps:=by
  rw[<-Array.foldl_toList,Array.toList_zip,k1]
 have hall:∀ p∈ps,p<r.tmps.size:=λp hpp=>by rw[Vi]at hp; rw[k2]; simpa using hp p hpp
 have henv:=Env.puts_rel ps args vs U r.tmps (he S r.tmps h5) hvs hall;have hsz:∀ (l:List (Nat×Value)) (t:Array Value),(l.foldl (λt (x:Nat×Value)=>t.setIfInBounds x.1 x.2) t).size=t.size:=by
  intro l
  induction l with
  |nil=>intro t; rfl
  |cons x l ih=>intro t; simp only[YH]; rw[ih]; simp
 have hdb:(⟨S.w.heap.size,[],some l⟩:DB).Ok S.w []:=⟨Vb _,⟨[],rfl,YL,λD hD=>by simp at hD⟩,λl' hl'=>by cases hl'; exact⟨r,h2⟩⟩;have hW:=Qeu (Qb1 hm) ia k3 (hx hS.closed) ⟨S.w.heap.size,[],some l⟩ S ⟨(ps.zip vs).foldl (λt (x:Nat×Value)=>t.setIfInBounds x.1 x.2) r.tmps,[]⟩ rfl hS henv (by simp only; rw[hsz]; exact k2) hdb;refine roundIn_of_wpIn (F:=Fr none) trivial ?_;rw[show(λtmps (x:Nat×Value)=>tmps.setIfInBounds x.1 x.2)=(λ(t:Array Value) (x:Nat×Value)=>t.setIfInBounds x.1 x.2)from rfl]at htm;rw[show((r.params.zip vs.toArray).foldl (λtmps (t,a)=>tmps.setIfInBounds t a) r.tmps)=(ps.zip vs).foldl (λt (x:Nat×Value)=>t.setIfInBounds x.1 x.2) r.tmps from htm];refine wpIn_mono hW ?_;rintro e a1 w1 ⟨x1,env1,ρ1,H1,g1,g2,g3,g4,g5,g6,rfl,cs,g7,g8⟩
 cases e<;>simp only[ER]at g1
 obtain⟨l1,r1,j1,j2,j3,j4,j5⟩:=g3.loop g7;have hl1:l1=l:=Quz g2 ho g7 rfl hρ j1;subst hl1;have hbr:=run_beginRound (P:=P) j2 j4.1;obtain⟨e2,s2⟩:=QoE g3 (o':=lpo P N Qf kk ps ia ib cs .busy) (r':={ r1 with state:=.busy }) g7 rfl (by simp[lpo]) j1 j2 rfl (Vb _) (.inr ⟨kk,_,.busy,cs,rfl,j3,rfl,j5⟩);simp only at hbr e2 s2 j2;refine⟨_,hbr,?_⟩;have hW2:=Qeu (Qb1 hm) ib k4 g8 ⟨S.w.heap.size,[],some l1⟩ ⟨ρ1,H1.set i (lpo P N Qf kk ps ia ib cs .busy),w1.putObj l1 (.loop { r1 with state:=.busy })⟩ a1 rfl s2 (g4.ext e2) g5 (g6.ext g3 e2);refine wpIn_mono hW2 ?_;rintro e a3 w3 ⟨x3,env3,ρ3,H3,m1,m2,m3,m4,m5,m6,cs3,m7,st,b,H',m8,m9,m10⟩;obtain⟨l3,r3,q1,q2,q3,q4,q5⟩:=m3.loop m7;have hat2:(⟨ρ1,H1.set i (lpo P N Qf kk ps ia ib cs .busy),w1.putObj l1 (.loop { r1 with state:=.busy })⟩:St).H[i]? = some (lpo P N Qf kk ps ia ib cs .busy):=Vq (Qk g7);have hl3:l3=l1:=Quz m2 hat2 m7 rfl (show ρ1 i=some l1 from j1) q1;subst hl3;have fin:∀ (jump:Option Code) (x:LoopState) (hx:x=(if jump.isNone then .ready else .done)),jump.isNone=b->Qhf { r3 with state:=x,pending:=jump } st ->
  ∃ v w',(Instr.endRound l3 jump).run P w3=.ok v w'/\∃ (out:Out) (H':ZI) (v':Value) (ρ':Nat->Option Nat),Pt out H'/\Ext S.H.length S ⟨ρ',H',w'⟩/\Sim ⟨ρ',H',w'⟩ /\
   match out with
   |.ret r=>Ending.returned v=.returned v'/\VR ⟨ρ',H',w'⟩ r v'
   |.pan x=>Ending.returned v=.panicked [{ v:=v',recovered:=false }]/\VR ⟨ρ',H',w'⟩ x v':=by
  intro jump x hx hj hst;have hend:=run_endRound (P:=P) jump q2;rw[<-hx,hj]at hend;obtain⟨e4,s4⟩:=QoE m3 (o':=lpo P N Qf kk ps ia ib cs3 st) (r':={ r3 with state:=x,pending:=jump }) m7 rfl (by simp[lpo]) q1 q2 rfl (Vb _) (.inr ⟨kk,_,st,cs3,rfl,q3,hst,q5⟩);obtain⟨ρ',c1,c2,c3⟩:=m10 _ (.bool b) rfl s4 (.val _);refine⟨_,_,hend,.ret (bl b),H',.bool b,ρ',m9,?_,c2,rfl,c3⟩;exact(g2.trans ((e2.trans ((m2.trans (e4.mono (m2.len (Vb _)))).mono (e2.len (Vb _)))).mono (g2.len (Vb _)))).trans c1
 cases x3<;>cases e<;>simp only[ER]at m1
 . obtain⟨rfl,rfl⟩:=m8; exact fin none .ready rfl rfl ⟨rfl,rfl⟩
 . subst m1; obtain⟨rfl,rfl⟩:=m8; exact fin (some (.exit _)) .done rfl rfl ⟨rfl,rfl⟩
 . subst m1; obtain⟨rfl,rfl⟩:=m8; exact fin (some (.goto _)) .done rfl rfl ⟨rfl,rfl⟩
 . obtain⟨rfl,rfl⟩:=m8; exact fin (some .ret) .done rfl rfl ⟨rfl,rfl⟩
 . exact m8.elim
theorem Qw8 (hm:P.follows .mixedOrders=true) {i kk:Nat} {ps:List Nat} {ia ib:IC} {U:Env} {args:ZJ} {H:ZI} {Pt:Out->ZI->Prop}
 (ho:H[i]? = some (lpo P N Qf kk ps ia ib (U.vals N) .ready)) (he:(U.all λp=>decide (p.1<N))=true) (hp:(ps.all λp=>decide (p<N))=true) (hl:args.length=ps.length)
 (hx:closed H->X P N Qf ia (U.puts ps args) H λx env1 H1=>x=.normal/\∃ cs,H1[i]? = some (lpo P N Qf kk ps ia ib cs .ready)/\X P N Qf ib env1 (H1.set i (lpo P N Qf kk ps ia ib cs .busy)) (QmK P N kk ps ia ib i H.length Pt)) :
 YlP P i args H Pt:=QwL hm ho (λS tmps h=>Env.of_vals h he) hp hl hx
end
end
end Go.Ab
