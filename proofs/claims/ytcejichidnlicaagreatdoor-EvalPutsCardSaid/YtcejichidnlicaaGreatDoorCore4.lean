/-
  Steps of the proof: contracts of functions and plain facts that the statement rests on.
-/
import Derived.Test.YtcejichidnlicaaGreatDoorCore3
import Derived.Below
import Derived.ChangeArms
import Derived.DataReads
import Derived.WideShapes
import Derived.RowKit
import Derived.WalkKit
import Derived.ProofKit
import Derived.OpenShut
import Derived.ShutString
import Derived.ChangeOld
import Derived.Carry
import Derived.KernelRfl
set_option linter.all false
namespace Go.Ab
variable [GlobEnv] [FrEnv] [KnEnv]
def Ins.fl (o:Ins):Option (Nat×TypeId) :=
 match o.g,o.j with
 | none,.e (.flo i T _ _ _ _ _)=>some (i,T)
 | none,.e (.fle i T _)=>some (i,T)
 | none,.e (.fla i T _)=>some (i,T)
 | none,.e (.flb i T _ _ _ _)=>some (i,T)
 | _,_=>none
def E.plain:E->Bool
 | .st _ _ _=>true
 | .stw _ _ _ _=>true
 | .app _ _ _ _ _=>true
 | .calln _ _=>true
 | .box _ _=>true
 | _=>false
def Od.mild:Od->Bool
 | .t _=>true
 | .c (.val _)=>true
 | .c (.slc _ _)=>true
 | .c (.fn _ _ _)=>true
 | _=>false
def I.noMap:I->Bool
 | .lkp _ _ _ _ _=>false
 | .bys _=>false
 | _=>true
def Ins.mild (o:Ins):Bool :=
 match o.g,o.j with
 | none,.p i=>i.noMap&&i.ods.all Od.mild
 | none,.e i=>(i.plain&&i.ods.all Od.mild)||(match i with | .flo _ _ _ _ _ _ _=>true | .fle _ _ _=>true | .fla _ _ _=>true | .flb _ _ _ _ _ _=>true | _=>false)
 | _,_=>false
theorem mild_noMap {o:Ins} {i:I} (h:o.mild=true) (hj:o.j=.p i):i.noMap=true:=by
 unfold Ins.mild at h
 split at h
 · rename_i i' hg hj'
   rw[hj]at hj'; cases hj'
   rw[Bool.and_eq_true]at h; exact h.1
 · rename_i i' hg hj'; rw[hj]at hj'; cases hj'
 · cases h
theorem mild_cases {o:Ins} (h:o.mild=true):o.g=none∧((∃ i,o.j=.p i∧∀ x∈i.ods,x.mild=true)∨(∃ i,o.j=.e i∧i.plain=true∧∀ x∈i.ods,x.mild=true)∨∃ i T,o.fl=some (i,T)):=by
 unfold Ins.mild at h
 split at h
 · rename_i i hg hj; exact⟨hg,.inl ⟨i,hj,by rw[Bool.and_eq_true]at h; simpa using h.2⟩⟩
 · rename_i i hg hj
   refine⟨hg,.inr ?_⟩
   rw[Bool.or_eq_true]at h
   rcases h with h | h
   · rw[Bool.and_eq_true]at h; exact .inl ⟨i,hj,h.1,by simpa using h.2⟩
   · right
     unfold Ins.fl
     rw[hg,hj]
     split at h
     · exact⟨_,_,rfl⟩
     · exact⟨_,_,rfl⟩
     · exact⟨_,_,rfl⟩
     · exact⟨_,_,rfl⟩
     · cases h
 · cases h
theorem fl_quiet {o:Ins} {x:Nat×TypeId} (h:o.fl=some x):o.j.quiet=false∧o.g=none:=by
 unfold Ins.fl at h
 split at h
 · rename_i hg hj; rw[hj]; exact⟨rfl,hg⟩
 · rename_i hg hj; rw[hj]; exact⟨rfl,hg⟩
 · rename_i hg hj; rw[hj]; exact⟨rfl,hg⟩
 · rename_i hg hj; rw[hj]; exact⟨rfl,hg⟩
 · cases h
def flV (o:Ins) (env:Env) (H:List AO) (v:SV):Prop :=
 match o.j with
 | .e (.flo i T sz bytes z len cap)=>(env.ev len).isN=true∧(env.ev cap).isN=true∧0≤(env.ev len).int∧(env.ev len).int≤(env.ev cap).int∧bytes*(env.ev cap).int≤140737488355328∧(env.ev cap).int≤140737488355328 ∧
  v=.own i 0 (env.ev len).int.toNat sz 1∧H[i]? = some ⟨(List.replicate (env.ev len).int.toNat z).flatten,T,1,true⟩
 | .e (.fle i T sz)=>v=.own i 0 0 sz 1∧H[i]? = some ⟨[],T,1,true⟩
 | .e (.fla i T z)=>v=.ptr (.own i 0 0 0 1) 0∧H[i]? = some ⟨z,T,1,true⟩
 | .e (.flb i T sz len z parts)=>(∀ p∈parts,partOk sz (env.ev p.2)∧p.1*sz+sz≤len*sz)∧cellsOk (fillS (List.replicate len z).flatten (parts.map fun p=>(p.1*sz,env.ev p.2))) ∧
  v=.own i 0 len sz 1∧H[i]? = some ⟨fillS (List.replicate len z).flatten (parts.map fun p=>(p.1*sz,env.ev p.2)),T,1,true⟩
 | _=>False
theorem ev_slots {env env':Env} {x:Od} (h:∀ t∈x.slots,env'.get t=env.get t):env'.ev x=env.ev x:=by
 cases x with
 | t n=>exact h n (by simp[Od.slots])
 | c s=>rfl
theorem flV_congr {o:Ins} {env env':Env} {H H':List AO} {v:SV} (h:flV o env H v) (hk:∀ t∈o.slots,env'.get t=env.get t) (hH:∀ i T,o.fl=some (i,T)->H'[i]? = H[i]?) (hf:o.fl.isSome=true):flV o env' H' v:=by
 unfold Ins.fl at hH hf
 unfold flV at h ⊢
 split at hf
 · rename_i i T sz bytes z len cap hg hj
   rw[hg]at hH
   rw[hj]at h hH ⊢
   simp only at h hH ⊢
   have e1:env'.ev len=env.ev len:=ev_slots fun t ht=>hk t (by simp[Ins.slots,hj,J.slots,E.ods,ht])
   have e2:env'.ev cap=env.ev cap:=ev_slots fun t ht=>hk t (by simp[Ins.slots,hj,J.slots,E.ods,ht])
   rw[e1,e2,hH i T rfl]; exact h
 · rename_i i T sz hg hj
   rw[hg]at hH
   rw[hj]at h hH ⊢
   simp only at h hH ⊢
   rw[hH i T rfl]; exact h
 · rename_i i T z hg hj
   rw[hg]at hH
   rw[hj]at h hH ⊢
   simp only at h hH ⊢
   rw[hH i T rfl]; exact h
 · rename_i i T sz len z ps hg hj
   rw[hg]at hH
   rw[hj]at h hH ⊢
   simp only at h hH ⊢
   have h1:∀ p∈ps,env'.ev p.2=env.ev p.2:=fun p hp=>ev_slots fun t ht=>hk t (by
    simp only[Ins.slots,hj,J.slots,E.ods,List.mem_append,List.mem_flatMap,List.mem_map]
    exact .inr ⟨p.2,⟨p,hp,rfl⟩,ht⟩)
   have h2:(ps.map fun p=>(p.1*sz,env'.ev p.2))=ps.map fun p=>(p.1*sz,env.ev p.2):=List.map_congr_left fun p hp=>by rw[h1 p hp]
   rw[h2,hH i T rfl]
   exact⟨fun p hp=>by rw[h1 p hp]; exact h.1 p hp,h.2⟩
 · cases hf
structure UnF (PN:Nat->TypeId->Prop) (Ha Hr:List AO):Prop where
 len:Hr.length=Ha.length
 dead:∀ i T,PN i T->Hr[i]? = some ⟨[],T,0,false⟩
 ver:∀ i T,PN i T->∃ o,Ha[i]? = some o∧o.ver=1
 same:∀ i,(¬ ∃ T,PN i T)->Hr[i]? = Ha[i]?
theorem UnF.congr {PN PN':Nat->TypeId->Prop} {Ha Hr:List AO} (h:UnF PN Ha Hr) (hp:∀ i T,PN' i T↔PN i T):UnF PN' Ha Hr :=
 ⟨h.len,fun i T hi=>h.dead i T ((hp i T).1 hi),fun i T hi=>h.ver i T ((hp i T).1 hi),fun i hi=>h.same i fun⟨T,hT⟩=>hi ⟨T,(hp i T).2 hT⟩⟩
section
variable {P:Program} {S:St} {PN:Nat->TypeId->Prop} {Ha:List AO}
theorem UnF.cells (hu:UnF PN Ha S.H) {i ver:Nat} (h:∃ o,S.H[i]? = some o∧ver≤o.ver):objCells S.H i ver=objCells Ha i ver:=by
 by_cases hp:∃ T,PN i T
 · obtain⟨T,hp⟩:=hp
   obtain⟨o,ho,hv⟩:=h
   rw[hu.dead i T hp]at ho
   cases ho
   obtain⟨o2,h2,h3⟩:=hu.ver i T hp
   have h0:ver=0:=by simpa using hv
   subst h0
   unfold objCells
   rw[hu.dead i T hp,h2]
   simp[h3]
 · unfold objCells; rw[hu.same i hp]
theorem UnF.row (hu:UnF PN Ha S.H) {s:SV} {v:Value} (h:VR S s v):s.row S.H=s.row Ha:=by
 cases h with
 | own i off len sz ver a cap o ho hv hc hz hat=>simp only[SV.row]; rw[hu.cells ⟨o,ho,hv⟩]
 | _=>rfl
theorem UnF.at (hu:UnF PN Ha S.H) {s:SV} {v:Value} (h:VR S s v):s.at S.H=s.at Ha:=by
 cases h with
 | ptrO i off len sz ver k a o ho hv hat=>simp only[SV.at,SV.row]; rw[hu.cells ⟨o,ho,hv⟩]
 | _=>rfl
theorem UnF.odRow (hu:UnF PN Ha S.H) {env:Env} {x:Od} (hm:x.mild=true) (hr:∀ t∈x.slots,∃ u,VR S (env.get t) u) (hvd:(env.ev x).vd=true):(env.ev x).ug.row S.H=(env.ev x).ug.row Ha:=by
 cases x with
 | t n =>
  obtain⟨u,hv⟩:=hr n (by simp[Od.slots])
  exact hu.row (hv.ug hvd)
 | c s=>cases s<;>first | rfl | simp[Od.mild]at hm
theorem UnF.odAt (hu:UnF PN Ha S.H) {env:Env} {x:Od} (hm:x.mild=true) (hr:∀ t∈x.slots,∃ u,VR S (env.get t) u) (hvd:(env.ev x).vd=true):(env.ev x).ug.at S.H=(env.ev x).ug.at Ha:=by
 cases x with
 | t n =>
  obtain⟨u,hv⟩:=hr n (by simp[Od.slots])
  exact hu.at (hv.ug hvd)
 | c s=>cases s<;>first | rfl | simp[Od.mild]at hm
theorem quietV_unf (hu:UnF PN Ha S.H) {o:Ins} {env:Env} {v:SV} (hm:o.mild=true) (hr:∀ t∈o.slots,∃ u,VR S (env.get t) u) (h:quietV P o env Ha v):quietV P o env S.H v:=by
 obtain⟨hg,⟨i,hj,hods⟩ | ⟨i,hj,hp,_⟩ | ⟨i,T,hf⟩⟩:=mild_cases hm
 · have hsl:∀ x∈i.ods,∀ t∈x.slots,∃ u,VR S (env.get t) u:=fun x hx t ht=>hr t (by
    simp only[Ins.slots,hj,J.slots,List.mem_append,List.mem_flatMap]; exact .inr ⟨x,hx,ht⟩)
   unfold quietV at h ⊢
   rw[hg,hj]at h ⊢
   simp only at h ⊢
   by_cases hd:J.dep (.p i)=true
   · cases i<;>simp[J.dep]at hd
     · rename_i p
       have hp:=hods p (by simp[I.ods])
       obtain⟨⟨h1,h2⟩,h3⟩:=h
       have e:=hu.odAt (env:=env) hp (hsl p (by simp[I.ods])) h1
       exact⟨⟨h1,by rw[e]; exact h2⟩,by rw[h3]; show _=((env.ev p).ug.at S.H).headD .any; rw[e]; rfl⟩
     · rename_i n p
       have hp:=hods p (by simp[I.ods])
       obtain⟨⟨h1,h2,h4⟩,h3⟩:=h
       have e:=hu.odAt (env:=env) hp (hsl p (by simp[I.ods])) h1
       exact⟨⟨h1,by rw[e]; exact h2,h4⟩,by rw[h3]; show _=SV.agg (((env.ev p).ug.at S.H).take n); rw[e]; rfl⟩
     · rename_i n sz p lo hi
       have hp:=hods p (by simp[I.ods])
       obtain⟨⟨h1,h2,h4⟩,h3⟩:=h
       have e:=hu.odAt (env:=env) hp (hsl p (by simp[I.ods])) h1
       exact⟨⟨h1,by rw[e]; exact h2,h4⟩,h3⟩
     · have:=mild_noMap hm hj; simp[I.noMap]at this
     · have:=mild_noMap hm hj; simp[I.noMap]at this
   · rw[pv_H (by simpa using hd) env.ev S.H Ha]; exact h
 · unfold quietV at h; rw[hg,hj]at h; exact h.elim
 · have:=(fl_quiet hf).1
   unfold quietV at h; rw[hg]at h
   cases hj:o.j with
   | p i=>rw[hj]at this; simp[J.quiet]at this
   | q f as=>rw[hj]at this; simp[J.quiet]at this
   | e i=>rw[hj]at h; exact h.elim
theorem UnF.setObj (hu:UnF PN Ha S.H) {i ver:Nat} (f:AO->AO) {o:AO} (ha:Ha[i]? = some o) (hn:¬ ∃ T,PN i T):UnF PN (Ab.setObj Ha i f) (Ab.setObj S.H i f)∧∀ j T,PN j T->(Ab.setObj Ha i f)[j]? = Ha[j]? := by
 have hr:S.H[i]? = some o:=by rw[hu.same i hn]; exact ha
 rw[setObj_some ha,setObj_some hr]
 have ne:∀ {j T},PN j T->i≠j:=by rintro j T hp rfl; exact hn ⟨T,hp⟩
 refine⟨⟨by simp[hu.len],fun j T hp => ?_,fun j T hp => ?_,fun j hj => ?_⟩,fun j T hp => ?_⟩
 · rw[List.getElem?_set_ne (ne hp)]; exact hu.dead j T hp
 · rw[List.getElem?_set_ne (ne hp)]; exact hu.ver j T hp
 · by_cases hij:i=j
   · subst hij; rw[List.getElem?_set_self (getElem?_lt hr),List.getElem?_set_self (getElem?_lt ha)]
   · rw[List.getElem?_set_ne hij,List.getElem?_set_ne hij]; exact hu.same j hj
 · rw[List.getElem?_set_ne (ne hp)]
theorem UnF.not_pn (hu:UnF PN Ha S.H) {i ver:Nat} (h:∃ o,S.H[i]? = some o∧ver≤o.ver) {o:AO} (ha:Ha[i]? = some o) (hv:o.ver=ver):¬ ∃ T,PN i T:=by
 rintro⟨T,hp⟩
 obtain⟨p,h1,h2⟩:=h
 rw[hu.dead i T hp]at h1; cases h1
 obtain⟨o2,h3,h4⟩:=hu.ver i T hp
 rw[ha]at h3; cases h3
 simp at h2; omega
theorem xe_unf (hu:UnF PN Ha S.H) {i:E} {env:Env} (hp:i.plain=true) (hods:∀ x∈i.ods,x.mild=true) (hr:∀ x∈i.ods,∀ t∈x.slots,∃ u,VR S (env.get t) u) {K:SV->List AO->Prop} (h:xe i env.ev Ha K) :
 xe i env.ev S.H fun v Hr=>∃ Ha',UnF PN Ha' Hr∧(∀ j T,PN j T->Ha'[j]? = Ha[j]?)∧K v Ha':=by
 cases i<;>simp[E.plain]at hp
 · rename_i T x
   obtain⟨a1,a2,a3⟩:=h
   refine⟨a1,a2,Ha++[⟨(env.ev x).ug.flat,T,0,true⟩],?_,?_,by rw[hu.len]; exact a3⟩
   · refine⟨by simp[hu.len],fun j T' hj => ?_,fun j T' hj => ?_,fun j hj => ?_⟩
     · rw[List.getElem?_append_left (getElem?_lt (hu.dead j T' hj))]; exact hu.dead j T' hj
     · obtain⟨o,ho,hv⟩:=hu.ver j T' hj
       exact⟨o,by rw[List.getElem?_append_left (getElem?_lt ho)]; exact ho,hv⟩
     · rw[List.getElem?_append,List.getElem?_append,hu.len,hu.same j hj]
   · intro j T' hj
     obtain⟨o,ho,hv⟩:=hu.ver j T' hj
     rw[List.getElem?_append_left (getElem?_lt ho)]
 · rename_i T sz bytes s x
   obtain⟨a1,a2,a3,a4,a5,a6,a7,a8⟩:=h
   have e:=hu.odRow (env:=env) (hods x (by simp[E.ods])) (hr x (by simp[E.ods])) a2
   have e':(env.ev x).ug.els S.H sz=(env.ev x).ug.els Ha sz:=by simp only[SV.els]; rw[e]
   refine⟨a1,a2,a3,by rw[e]; exact a4,by rw[e']; exact a5,a6,a7,?_⟩
   split at a8
   · rename_i k n sz' ver hs
     obtain⟨b1,⟨o,b2,b3,b4,b5,b6⟩,b7⟩:=a8
     have hvr:∃ o',S.H[k]? = some o'∧ver≤o'.ver:=by
      have hm:=hods s (by simp[E.ods])
      cases s with
      | t m =>
       obtain⟨u,hv⟩:=hr (.t m) (by simp[E.ods]) m (by simp[Od.slots])
       have h1:=hv.ug a1
       rw[show(env.get m).ug=_ from hs]at h1
       cases h1 with
       | own _ _ _ _ _ ad cap o' ho' hvl hcap hz hat=>exact⟨o',ho',hvl⟩
      | c w=>cases w<;>first | (simp[Od.mild]at hm; done) | (simp[Env.ev,SV.ug]at hs)
     have hn:=hu.not_pn hvr b2 b4
     have hst:=hu.setObj (ver:=ver) (fun o=>o.grow ((env.ev x).ug.els Ha sz)) b2 hn
     refine⟨b1,⟨o,by rw[hu.same k hn]; exact b2,b3,b4,b5,b6⟩,_,?_,hst.2,b7⟩
     rw[e']; exact hst.1
   · rename_i hnown
     refine⟨a8.1,Ha++[⟨(env.ev x).ug.els Ha sz,T,1,true⟩],?_,?_,by rw[hu.len]; exact a8.2⟩
     · rw[e']
       refine⟨by simp[hu.len],fun j T' hj => ?_,fun j T' hj => ?_,fun j hj => ?_⟩
       · rw[List.getElem?_append_left (getElem?_lt (hu.dead j T' hj))]; exact hu.dead j T' hj
       · obtain⟨o,ho,hv⟩:=hu.ver j T' hj
         exact⟨o,by rw[List.getElem?_append_left (getElem?_lt ho)]; exact ho,hv⟩
       · rw[List.getElem?_append,List.getElem?_append,hu.len,hu.same j hj]
     · intro j T' hj
       obtain⟨o,ho,hv⟩:=hu.ver j T' hj
       rw[List.getElem?_append_left (getElem?_lt ho)]
 · rename_i n p x
   obtain⟨a1,a2,a3,a4,a5,a6⟩:=h
   refine⟨a1,a2,a3,a4,a5,?_⟩
   split at a6
   · rename_i k off len sz ver j hs
     obtain⟨b1,b2⟩:=a6
     have hvr:∃ o',S.H[k]? = some o'∧ver≤o'.ver:=by
      have hm:=hods p (by simp[E.ods])
      cases p with
      | t m =>
       obtain⟨u,hv⟩:=hr (.t m) (by simp[E.ods]) m (by simp[Od.slots])
       have h1:=hv.ug a1
       rw[show(env.get m).ug=_ from hs]at h1
       cases h1 with
       | ptrO _ _ _ _ _ _ a o' ho' hvl hat=>exact⟨o',ho',hvl⟩
      | c w=>cases w<;>first | (simp[Od.mild]at hm; done) | (simp[Env.ev,SV.ug]at hs)
     have hne:0<(objCells Ha k ver).length:=by omega
     obtain⟨o,c1,c2,c3,_⟩:=objCells_get (List.getElem?_eq_getElem hne)
     have hn:=hu.not_pn hvr c1 c3
     have hst:=hu.setObj (ver:=ver) (fun o=>o.put (off+j) (env.ev x).ug.flat) c1 hn
     refine⟨by rw[hu.cells hvr]; exact b1,_,hst.1,hst.2,b2⟩
   · exact a6.elim
 · rename_i ws n p x
   obtain⟨a1,a2,a3,a4,a5,a6⟩:=h
   refine⟨a1,a2,a3,a4,a5,?_⟩
   split at a6
   · rename_i k off len sz ver j hs
     obtain⟨b1,b2⟩:=a6
     have hvr:∃ o',S.H[k]? = some o'∧ver≤o'.ver:=by
      have hm:=hods p (by simp[E.ods])
      cases p with
      | t m =>
       obtain⟨u,hv⟩:=hr (.t m) (by simp[E.ods]) m (by simp[Od.slots])
       have h1:=hv.ug a1
       rw[show(env.get m).ug=_ from hs]at h1
       cases h1 with
       | ptrO _ _ _ _ _ _ a o' ho' hvl hat=>exact⟨o',ho',hvl⟩
      | c w=>cases w<;>first | (simp[Od.mild]at hm; done) | (simp[Env.ev,SV.ug]at hs)
     have hne:0<(objCells Ha k ver).length:=by omega
     obtain⟨o,c1,c2,c3,_⟩:=objCells_get (List.getElem?_eq_getElem hne)
     have hn:=hu.not_pn hvr c1 c3
     have hst:=hu.setObj (ver:=ver) (fun o=>o.put (off+j) (env.ev x).ug.flat) c1 hn
     refine⟨by rw[hu.cells hvr]; exact b1,_,hst.1,hst.2,b2⟩
   · exact a6.elim
 · exact h.elim
end
section
variable {P:Program} {S:St} {PN:Nat->TypeId->Prop} {Ha:List AO}
theorem fl_step (hu:UnF PN Ha S.H) {o:Ins} {i:Nat} {T:TypeId} {env:Env} {v:SV} (hf:o.fl=some (i,T)) (hpn:PN i T) (hv:flV o env Ha v) :
 xo P o env S.H fun x e H'=>x=.normal∧e=env.put o.d v∧∃ p,Ha[i]? = some p∧H'=S.H.set i p:=by
 have hd:=hu.dead i T hpn
 unfold Ins.fl at hf
 split at hf
 · rename_i i' T' sz bytes z len cap hg hj
   cases hf
   unfold flV at hv
   rw[hj]at hv
   obtain⟨h1,h2,h3,h4,h5,h6,rfl,h8⟩:=hv
   unfold xo
   rw[hg]
   simp only
   unfold xj
   rw[hj]
   exact⟨h1,h2,h3,h4,h5,h6,hd,rfl,rfl,_,h8,rfl⟩
 · rename_i i' T' sz hg hj
   cases hf
   unfold flV at hv
   rw[hj]at hv
   obtain⟨rfl,h8⟩:=hv
   unfold xo
   rw[hg]
   simp only
   unfold xj
   rw[hj]
   exact⟨hd,rfl,rfl,_,h8,rfl⟩
 · rename_i i' T' z hg hj
   cases hf
   unfold flV at hv
   rw[hj]at hv
   obtain⟨rfl,h8⟩:=hv
   unfold xo
   rw[hg]
   simp only
   unfold xj
   rw[hj]
   exact⟨hd,rfl,rfl,_,h8,rfl⟩
 · rename_i i' T' sz len z ps hg hj
   cases hf
   unfold flV at hv
   rw[hj]at hv
   obtain⟨h1,h2,rfl,h8⟩:=hv
   unfold xo
   rw[hg]
   simp only
   unfold xj
   rw[hj]
   exact⟨h1,h2,hd,rfl,rfl,_,h8,rfl⟩
 · cases hf
theorem UnF.fill {PN':Nat->TypeId->Prop} {Hr:List AO} (hu:UnF PN Ha Hr) {i:Nat} {p:AO} (hp:Ha[i]? = some p) (h1:∀ j T,PN' j T↔(PN j T∧j≠i)):UnF PN' Ha (Hr.set i p):=by
 have hlt:i<Hr.length:=by rw[hu.len]; exact getElem?_lt hp
 refine⟨by simp[hu.len],fun j T hj => ?_,fun j T hj=>hu.ver j T ((h1 j T).1 hj).1,fun j hj => ?_⟩
 · obtain⟨h2,h3⟩:=(h1 j T).1 hj
   rw[List.getElem?_set_ne (fun e=>h3 e.symm)]; exact hu.dead j T h2
 · by_cases hij:i=j
   · subst hij; rw[List.getElem?_set_self hlt,hp]
   · rw[List.getElem?_set_ne hij]
     exact hu.same j fun⟨T,hT⟩=>hj ⟨T,(h1 j T).2 ⟨hT,fun e=>hij e.symm⟩⟩
def Fil (H Ha:List AO):Prop:=∀ i ver,objCells H i ver≠[]->objCells Ha i ver=objCells H i ver
theorem Fil.refl (H:List AO):Fil H H:=fun _ _ _=>rfl
theorem Fil.trans {H H' H'':List AO} (h:Fil H H') (h':Fil H' H''):Fil H H'':=by
 intro i ver hne
 have e:=h i ver hne
 rw[h' i ver (by rw[e]; exact hne),e]
theorem Fil.at {H Ha:List AO} (h:Fil H Ha) {s:SV} (hne:s.at H≠[]):s.at Ha=s.at H:=by
 cases s with
 | ptr s k =>
  cases s with
  | own i off len sz ver =>
   simp only[SV.at,SV.row]at hne ⊢
   rw[h i ver fun e=>hne (by rw[e]; simp)]
  | _=>rfl
 | _=>rfl
theorem quietV_fil {H Ha:List AO} (hf:Fil H Ha) {o:Ins} {env:Env} {v:SV} (hm:o.mild=true) (h:quietV P o env H v):quietV P o env Ha v:=by
 obtain⟨hg,⟨i,hj,hods⟩ | ⟨i,hj,hp,_⟩ | ⟨i,T,hfl⟩⟩:=mild_cases hm
 · unfold quietV at h ⊢
   rw[hg,hj]at h ⊢
   simp only at h ⊢
   by_cases hd:J.dep (.p i)=true
   · cases i<;>simp[J.dep]at hd
     · rename_i p
       obtain⟨⟨h1,h2⟩,h3⟩:=h
       have h2:0<((env.ev p).ug.at H).length:=h2
       have e:=hf.at (s:=(env.ev p).ug) (fun e=>by rw[e]at h2; simp at h2)
       exact⟨⟨h1,by rw[e]; exact h2⟩,by rw[h3]; show _=((env.ev p).ug.at Ha).headD .any; rw[e]; rfl⟩
     · rename_i n p
       obtain⟨⟨h1,h2,h4⟩,h3⟩:=h
       have h2:n≤((env.ev p).ug.at H).length:=h2
       have e:=hf.at (s:=(env.ev p).ug) (fun e=>by rw[e]at h2; simp at h2; omega)
       exact⟨⟨h1,by rw[e]; exact h2,h4⟩,by rw[h3]; show _=SV.agg (((env.ev p).ug.at Ha).take n); rw[e]; rfl⟩
     · rename_i n sz p lo hi
       obtain⟨⟨h1,h2,h0,h4⟩,h3⟩:=h
       have h2:n*sz≤((env.ev p).ug.at H).length:=h2
       have e:=hf.at (s:=(env.ev p).ug) (fun e=>by rw[e]at h2; simp only[List.length_nil]at h2; omega)
       exact⟨⟨h1,by rw[e]; exact h2,h0,h4⟩,h3⟩
     · have:=mild_noMap hm hj; simp[I.noMap]at this
     · have:=mild_noMap hm hj; simp[I.noMap]at this
   · rw[pv_H (by simpa using hd) env.ev Ha H]; exact h
 · unfold quietV at h; rw[hg,hj]at h; exact h.elim
 · have:=(fl_quiet hfl).1
   unfold quietV at h; rw[hg]at h
   cases hj:o.j with
   | p i=>rw[hj]at this; simp[J.quiet]at this
   | q f as=>rw[hj]at this; simp[J.quiet]at this
   | e i=>rw[hj]at h; exact h.elim
theorem fl_take {H:List AO} {o:Ins} {i:Nat} {T:TypeId} {env:Env} {K:XE->Env->List AO->Prop} (hf:o.fl=some (i,T)) (h:xo P o env H K) :
 ∃ v p,H[i]? = some ⟨[],T,0,false⟩∧p.ver=1∧flV o env (H.set i p) v∧K .normal (env.put o.d v) (H.set i p):=by
 unfold Ins.fl at hf
 split at hf
 · rename_i i' T' sz bytes z len cap hg hj
   cases hf
   unfold xo at h
   rw[hg]at h
   simp only at h
   unfold xj at h
   rw[hj]at h
   obtain⟨h1,h2,h3,h4,h5,h6,h8,h7⟩:=h
   refine⟨_,_,h8,?_,?_,h7⟩
   · rfl
   · unfold flV
     rw[hj]
     exact⟨h1,h2,h3,h4,h5,h6,rfl,List.getElem?_set_self (getElem?_lt h8)⟩
 · rename_i i' T' sz hg hj
   cases hf
   unfold xo at h
   rw[hg]at h
   simp only at h
   unfold xj at h
   rw[hj]at h
   obtain⟨h8,h7⟩:=h
   refine⟨_,_,h8,?_,?_,h7⟩
   · rfl
   · unfold flV
     rw[hj]
     exact⟨rfl,List.getElem?_set_self (getElem?_lt h8)⟩
 · rename_i i' T' z hg hj
   cases hf
   unfold xo at h
   rw[hg]at h
   simp only at h
   unfold xj at h
   rw[hj]at h
   obtain⟨h8,h7⟩:=h
   refine⟨_,_,h8,?_,?_,h7⟩
   · rfl
   · unfold flV
     rw[hj]
     exact⟨rfl,List.getElem?_set_self (getElem?_lt h8)⟩
 · rename_i i' T' sz len z ps hg hj
   cases hf
   unfold xo at h
   rw[hg]at h
   simp only at h
   unfold xj at h
   rw[hj]at h
   obtain⟨h1,h2,h8,h7⟩:=h
   refine⟨_,_,h8,?_,?_,h7⟩
   · rfl
   · unfold flV
     rw[hj]
     exact⟨h1,h2,rfl,List.getElem?_set_self (getElem?_lt h8)⟩
 · cases hf
theorem xd_splitF {K:XE->Env->List AO->Prop}:∀ (rest:List CI) (pend:List (Ins×SV)) (env:Env) (H:List AO),(∀ c∈rest,c.2.mild=true) →
 (rest.Pairwise fun x y=>∀ i T T',x.2.fl=some (i,T)->y.2.fl≠some (i,T'))->xd P pend (rest.map (·.2)) env H K →
 ∃ (F:List QI) (rest':List CI) (pend':List (Ins×SV)) (Ha:List AO),rest=(F.map fun q=>(q.1,q.2.1))++rest'∧(rest'=[]∨∃ c r,rest'=c::r∧c.2.j.quiet=false∧c.2.fl=none) ∧
  (∀ q∈F,q.2.1.j.quiet=true∨q.2.1.fl.isSome=true)∧(∀ p∈pend,p∈pend')∧(∀ q∈F,q.2.1.j.quiet=true->(q.2.1,q.2.2)∈pend')∧(∀ p∈pend',p∈pend∨∃ q∈F,p.1=q.2.1) ∧
  (∀ (k:Nat) (q:QI),F[k]? = some q->(q.2.1.j.quiet=true->quietV P q.2.1 (putAll env ((F.take k).map (·.2.1)) ((F.take k).map (·.2.2))) Ha q.2.2) ∧
   (q.2.1.fl.isSome=true->flV q.2.1 (putAll env ((F.take k).map (·.2.1)) ((F.take k).map (·.2.2))) Ha q.2.2)) ∧
  xd P pend' (rest'.map (·.2)) (putAll env (F.map (·.2.1)) (F.map (·.2.2))) Ha K∧Ha.length=H.length∧(∀ i,(¬ ∃ q∈F,∃ T,q.2.1.fl=some (i,T))->Ha[i]? = H[i]?) ∧
  (∀ q∈F,∀ i T,q.2.1.fl=some (i,T)->H[i]? = some ⟨[],T,0,false⟩∧∃ o,Ha[i]? = some o∧o.ver=1)∧Fil H Ha
 | [],pend,env,H,_,_,h=>⟨[],[],pend,H,rfl,.inl rfl,fun q hq=>by simp at hq,fun p hp=>hp,fun q hq=>by simp at hq,fun p hp=>.inl hp,fun k q hk=>by simp at hk,h,rfl,fun _ _=>rfl,fun q hq=>by simp at hq,Fil.refl _⟩
 | c::r,pend,env,H,hm,hpw,h=>by
  rw[List.pairwise_cons]at hpw
  by_cases hq:c.2.j.quiet=true
  · obtain⟨hg,⟨i,hj,_⟩ | ⟨i,hj,_,_⟩ | ⟨i,T,hfl⟩⟩:=mild_cases (hm c (by simp))
    · have key:∃ v,quietV P c.2 env H v∧xd P ((c.2,v)::pend) (r.map (·.2)) (env.put c.2.d v) H K:=by
       simp only[List.map_cons,xd]at h
       rw[if_pos hq]at h
       unfold quietV
       rw[hg,hj]at h
       rw[hg,hj]
       simp only at h ⊢
       exact⟨_,⟨h.1,rfl⟩,h.2⟩
      obtain⟨v,h1,h4⟩:=key
      obtain⟨F,rest',pend',Ha,g1,g2,g3,g4,g5,g8,g6,g7,g9,g10,g11,g12⟩:=xd_splitF r _ _ _ (fun c hc=>hm c (by simp[hc])) hpw.2 h4
      have hnf:c.2.fl=none:=by
       cases hf:c.2.fl with
       | none=>rfl
       | some x=>have:=(fl_quiet hf).1; rw[hq]at this; cases this
      refine⟨(c.1,c.2,v)::F,rest',pend',Ha,by simp[g1],g2,?_,fun p hp=>g4 p (by simp[hp]),?_,?_,?_,by simpa[putAll]using g7,g9,fun i hi=>g10 i fun⟨q,hqm,hT⟩=>hi ⟨q,by simp[hqm],hT⟩,?_,g12⟩
      · intro q hqm
        simp only[List.mem_cons]at hqm
        rcases hqm with rfl | hqm
        · exact .inl hq
        · exact g3 q hqm
      · intro q hqm hqq
        simp only[List.mem_cons]at hqm
        rcases hqm with rfl | hqm
        · exact g4 _ (by simp)
        · exact g5 q hqm hqq
      · intro p hp
        rcases g8 p hp with h | ⟨q,hqm,h⟩
        · simp only[List.mem_cons]at h
          rcases h with rfl | h
          · exact .inr ⟨(c.1,c.2,v),by simp,rfl⟩
          · exact .inl h
        · exact .inr ⟨q,by simp[hqm],h⟩
      · intro k q hk
        cases k with
        | zero =>
         simp at hk; subst hk
         refine⟨fun _ => ?_,fun hs=>by rw[show(c.1,c.2,v).2.1.fl=none from hnf]at hs; cases hs⟩
         simpa[putAll]using quietV_fil g12 (hm c (by simp)) h1
        | succ k=>simpa[putAll]using g6 k q (by simpa using hk)
      · intro q hqm i T hT
        simp only[List.mem_cons]at hqm
        rcases hqm with rfl | hqm
        · rw[show(c.1,c.2,v).2.1.fl=none from hnf]at hT; cases hT
        · exact g11 q hqm i T hT
    · rw[hj]at hq; simp[J.quiet]at hq
    · have:=(fl_quiet hfl).1; rw[hq]at this; cases this
  · have hq':c.2.j.quiet=false:=by simpa using hq
    cases hf:c.2.fl with
    | none=>exact⟨[],c::r,pend,H,rfl,.inr ⟨c,r,rfl,hq',hf⟩,fun q hq=>by simp at hq,fun p hp=>hp,fun q hq=>by simp at hq,fun p hp=>.inl hp,fun k q hk=>by simp at hk,h,rfl,fun _ _=>rfl,fun q hq=>by simp at hq,Fil.refl _⟩
    | some x =>
     obtain⟨i,T⟩:=x
     simp only[List.map_cons,xd]at h
     rw[if_neg hq]at h
     obtain⟨v,p,k1,k2,k3,_,k4⟩:=fl_take hf h
     have hfil:Fil H (H.set i p):=by
      intro j ver hne
      by_cases hij:i=j
      · subst hij
        exact absurd (by unfold objCells; rw[k1]; rfl) hne
      · unfold objCells; rw[List.getElem?_set_ne hij]
     obtain⟨F,rest',pend',Ha,g1,g2,g3,g4,g5,g8,g6,g7,g9,g10,g11,g12⟩:=xd_splitF r _ _ _ (fun c hc=>hm c (by simp[hc])) hpw.2 k4
     have hni:¬ ∃ q∈F,∃ T',q.2.1.fl=some (i,T'):=by
      rintro⟨q,hqm,T',hT'⟩
      refine hpw.1 (q.1,q.2.1) ?_ i T T' hf hT'
      rw[g1]; exact List.mem_append_left _ (List.mem_map.2 ⟨q,hqm,rfl⟩)
     have hHai:Ha[i]? = some p:=by rw[g10 i hni,List.getElem?_set_self (getElem?_lt k1)]
     refine⟨(c.1,c.2,v)::F,rest',pend',Ha,by simp[g1],g2,?_,fun p hp=>g4 p hp,?_,?_,?_,by simpa[putAll]using g7,by rw[g9]; simp,fun j hj => ?_,?_,hfil.trans g12⟩
     · intro q hqm
       simp only[List.mem_cons]at hqm
       rcases hqm with rfl | hqm
       · exact .inr (by rw[show(c.1,c.2,v).2.1.fl=some (i,T)from hf]; rfl)
       · exact g3 q hqm
     · intro q hqm hqq
       simp only[List.mem_cons]at hqm
       rcases hqm with rfl | hqm
       · exact absurd hqq hq
       · exact g5 q hqm hqq
     · intro p hp
       rcases g8 p hp with h | ⟨q,hqm,h⟩
       · exact .inl h
       · exact .inr ⟨q,by simp[hqm],h⟩
     · intro k q hk
       cases k with
       | zero =>
        simp at hk; subst hk
        refine⟨fun hs=>absurd hs hq,fun _ => ?_⟩
        refine flV_congr (H:=H.set i p) (by simpa[putAll]using k3) (fun t _=>rfl) (fun j T' hj => ?_) (by rw[show(c.1,c.2,v).2.1.fl=some (i,T)from hf]; rfl)
        rw[show(c.1,c.2,v).2.1.fl=some (i,T)from hf]at hj
        cases hj
        exact g10 i hni
       | succ k=>simpa[putAll]using g6 k q (by simpa using hk)
     · have hji:i≠j:=by
        rintro rfl
        exact hj ⟨(c.1,c.2,v),by simp,T,hf⟩
       rw[g10 j fun⟨q,hqm,hT⟩=>hj ⟨q,by simp[hqm],hT⟩,List.getElem?_set_ne hji]
     · intro q hqm j T' hT
       simp only[List.mem_cons]at hqm
       rcases hqm with rfl | hqm
       · rw[show(c.1,c.2,v).2.1.fl=some (i,T)from hf]at hT; cases hT
         exact⟨k1,p,hHai,k2⟩
       · obtain⟨h1,h2⟩:=g11 q hqm j T' hT
         have hji:i≠j:=by rintro rfl; exact hni ⟨q,hqm,T',hT⟩
         rw[List.getElem?_set_ne hji]at h1
         exact⟨h1,h2⟩
def PNf (listed:Array Bool) (Qs:List QI) (i:Nat) (T:TypeId):Prop:=∃ q∈Qs,listed.getD q.1 false=false∧q.2.1.fl=some (i,T)
theorem UnF.all {PN:Nat->TypeId->Prop} {Ha Hr:List AO} (hu:UnF PN Ha Hr) (h:∀ i T,¬ PN i T):Hr=Ha:=by
 apply List.ext_getElem?
 intro i
 exact hu.same i fun⟨T,hT⟩=>h i T hT
theorem xo_mono {o:Ins} {env:Env} {H:List AO} {K K':XE->Env->List AO->Prop} (h:xo P o env H K) (hk:∀ x e H',K x e H'->K' x e H'):xo P o env H K':=by
 have hj:xj P o env H K->xj P o env H K':=by
  intro h
  unfold xj at h ⊢
  cases hoj:o.j with
  | p i=>rw[hoj]at h; exact⟨h.1,hk _ _ _ h.2⟩
  | q f as=>rw[hoj]at h; obtain⟨r,h1,h2⟩:=h; exact⟨r,h1,hk _ _ _ h2⟩
  | e i =>
   rw[hoj]at h
   by_cases hc:i.isCall=true
   · cases i<;>simp[E.isCall]at hc
     case call f args =>
      obtain⟨Pt,h2,h3⟩:=h
      refine⟨Pt,h2,fun out H' hp => ?_⟩
      have h3:=h3 out H' hp
      cases out with
      | ret r=>exact hk _ _ _ h3
      | pan x=>exact hk _ _ _ h3
     case calln f args =>
      obtain⟨r,L,h2,h3⟩:=h
      exact⟨r,L,h2,hk _ _ _ h3⟩
     case pan x =>
      obtain⟨h2,h3⟩:=h
      refine⟨h2,?_⟩
      split at h3
      · exact hk _ _ _ h3
      · exact h3.elim
   · have hc':i.isCall=false:=by simpa using hc
     have h1:xe i env.ev H fun v H'=>K .normal (env.put o.d v) H':=by
      cases i<;>first | exact h | simp[E.isCall]at hc'
     have h2:=xe_congr (g':=env.ev) (K':=fun v H'=>K' .normal (env.put o.d v) H') (fun x _=>rfl) (fun v H' hh=>hk _ _ _ hh) h1
     cases i<;>first | exact h2 | simp[E.isCall]at hc'
 unfold xo at h ⊢
 cases hog:o.g with
 | none=>rw[hog]at h; exact hj h
 | some sw =>
  obtain⟨s,want⟩:=sw
  rw[hog]at h
  simp only at h ⊢
  refine⟨h.1,?_⟩
  have h2:=h.2
  cases hoj:o.j with
  | p i=>rw[hoj]at h2; exact⟨h2.1,hk _ _ _ h2.2⟩
  | q f as=>rw[hoj]at h2; obtain⟨r,h3,h4⟩:=h2; exact⟨r,h3,hk _ _ _ h4⟩
  | e i=>rw[hoj]at h2; exact⟨fun ho=>hj (h2.1 ho),fun ho=>hk _ _ _ (h2.2 ho)⟩
theorem xo_unf (hu:UnF PN Ha S.H) {o:Ins} {env env':Env} {K:XE->Env->List AO->Prop} (hm:o.mild=true) (hq:o.j.quiet=false) (hf:o.fl=none) (hs:∀ t∈o.slots,env'.get t=env.get t)
 (hr:∀ t∈o.slots,∃ u,VR S (env'.get t) u) (h:xo P o env Ha K) :
 xo P o env' S.H fun x e2 Hr=>match x with
  | .normal=>∃ v Ha',e2=env'.put o.d v∧UnF PN Ha' Hr∧(∀ j T,PN j T->Ha'[j]? = Ha[j]?)∧K .normal (env.put o.d v) Ha'
  | _=>False:=by
 obtain⟨hg,⟨i,hj,hods⟩ | ⟨i,hj,hp,hods⟩ | ⟨i,T,hfl⟩⟩:=mild_cases hm
 · rw[hj]at hq; simp[J.quiet]at hq
 · have hev:∀ x∈i.ods,env.ev x=env'.ev x:=by
    intro x hx
    refine(ev_congr fun t ht=>hs t ?_).symm
    simp only[Ins.slots,hj,J.slots,List.mem_append,List.mem_flatMap]
    exact .inr ⟨x,hx,ht⟩
   have hsl:∀ x∈i.ods,∀ t∈x.slots,∃ u,VR S (env'.get t) u:=fun x hx t ht=>hr t (by
    simp only[Ins.slots,hj,J.slots,List.mem_append,List.mem_flatMap]; exact .inr ⟨x,hx,ht⟩)
   by_cases hcn:∃ f args,i=.calln f args
   · obtain⟨f,args,rfl⟩:=hcn
     simp only[E.ods,List.mem_cons,forall_eq_or_imp]at hev
     have h1:args.map env.ev=args.map env'.ev:=List.map_congr_left hev.2
     unfold xo at h ⊢
     rw[hg]at h ⊢
     simp only at h ⊢
     unfold xj at h ⊢
     rw[hj]at h ⊢
     simp only at h ⊢
     obtain⟨r,L,h2,h3⟩:=h
     refine⟨r,L,fun H' hl=>by rw[←hev.1,<- h1]; exact h2 H' (hl.trans hu.len),r,Ha++L,rfl,⟨by simp[hu.len],fun j T hp => ?_,fun j T hp => ?_,fun j hn => ?_⟩,fun j T hp => ?_,h3⟩
     · have:=hu.dead j T hp
       rw[List.getElem?_append_left (getElem?_lt this)]; exact this
     · obtain⟨o',h4,h5⟩:=hu.ver j T hp
       exact⟨o',by rw[List.getElem?_append_left (getElem?_lt h4)]; exact h4,h5⟩
     · by_cases hjl:j<Ha.length
       · rw[List.getElem?_append_left hjl,List.getElem?_append_left (by rw[hu.len]; exact hjl)]; exact hu.same j hn
       · have hl:=hu.len
         rw[List.getElem?_append_right (by omega),List.getElem?_append_right (by omega),hl]
     · obtain⟨o',h4,h5⟩:=hu.ver j T hp
       rw[List.getElem?_append_left (getElem?_lt h4)]
   have hnc:i.isCall=false:=by cases i<;>simp_all [E.plain,E.isCall]
   unfold xo at h ⊢
   rw[hg]at h ⊢
   simp only at h ⊢
   unfold xj at h ⊢
   rw[hj]at h ⊢
   have h1:xe i env.ev Ha fun v H'=>K .normal (env.put o.d v) H':=by
    cases i<;>first | exact h | simp[E.isCall]at hnc
   have h2:=xe_congr (K':=fun v H'=>K .normal (env.put o.d v) H') hev (fun v H' hk=>hk) h1
   have h3:=xe_unf hu hp hods hsl h2
   have h4:=xe_congr (g':=env'.ev) (K':=fun v Hr=>∃ v1 Ha',env'.put o.d v=env'.put o.d v1∧UnF PN Ha' Hr∧(∀ j T,PN j T->Ha'[j]? = Ha[j]?)∧K .normal (env.put o.d v1) Ha') (fun x _=>rfl)
    (fun v H' ⟨Ha',a1,a2,a3⟩=>⟨v,Ha',rfl,a1,a2,a3⟩) h3
   cases i<;>first | exact h4 | simp[E.isCall]at hnc
 · rw[hfl]at hf; cases hf
theorem draw_mainF {N:Nat} {ops:Array Oper} {C:List CI} {S:St} {db:DB} {K:XE->Env->List AO->Prop} (hd:DC ops C) (hchk:∀ x∈C,∃ o,ops[x.1]? = some o∧chkIns P N ops o x.2=true) (hmi:∀ x∈C,x.2.mild=true)
 (hfu:∀ x∈C,∀ y∈C,∀ i T T',x.2.fl=some (i,T)->y.2.fl=some (i,T')->x.1=y.1) :
 ∀ (fuel:Nat) (listed:Array Bool) (S':St) (Ha:List AO) (a:Act) (Qs:List QI) (Ef:Env) (pend:List (Ins×SV)) (rest:List CI),
 rest.length+(Qs.filter (unl listed)).length≤fuel->listed.size=ops.size->(Closed ops fun t=>listed.getD t false=true) →
 (∀ q∈Qs,(q.1,q.2.1)∈C)->(∀ r∈rest,r∈C) →
 (∀ i,i<ops.size->listed.getD i false=false->(∃ q∈Qs,q.1=i)∨∃ r∈rest,r.1=i) →
 (∀ r∈rest,listed.getD r.1 false=false) →
 (rest.Pairwise fun x y=>(∀ d,y.2.d=some d->d∉x.2.slots)∧(x.2.j.quiet=false->beforeB (masks ops.toList []) x.1 y.1=true)∧x.1≠y.1) →
 (rest=[]∨∃ c r,rest=c::r∧c.2.j.quiet=false)->(∀ r∈rest,r.2.fl=none) →
 (∀ q∈Qs,∀ r∈rest,(∀ d,r.2.d=some d->d∉q.2.1.slots)∧q.1≠r.1) →
 (∀ q∈Qs,∀ q'∈Qs,q.1=q'.1->q=q')->(∀ q∈Qs,q.2.1.j.quiet=true∨q.2.1.fl.isSome=true) →
 (∀ q∈Qs,∀ d,q.2.1.d=some d->Ef.get d=q.2.2) →
 (∀ q∈Qs,listed.getD q.1 false=false->q.2.1.j.quiet=true->quietV P q.2.1 Ef Ha q.2.2)->(∀ q∈Qs,listed.getD q.1 false=false->q.2.1.fl.isSome=true->flV q.2.1 Ef Ha q.2.2) →
 (∀ q∈Qs,q.2.1.j.quiet=true->(q.2.1,q.2.2)∈pend)->(∀ p∈pend,∃ i,(i,p.1)∈C)->UnF (PNf listed Qs) Ha S'.H →
 Ext S.H.length S S'->Sim S'->EnvR S' (maskE (Qs.filter (unl listed)) Ef) a.tmps->a.tmps.size=N->db.Ok S'.w a.defers →
 xd P pend (rest.map (·.2)) Ef Ha K->wpAny P .any ops (Post S N db K) fuel listed a S'.w:=by
 intro fuel
 induction fuel with
 | zero =>
  intro listed S' Ha a Qs Ef pend rest hf hsz hcl hQC hrC hcov hrl hpw hhead hrf hqr hqn hqq hval hqv hqf hpend hpC hu he hS henv hN hdf hx
  obtain rfl:rest=[]:=List.eq_nil_of_length_eq_zero (by omega)
  have hun:Qs.filter (unl listed)=[]:=List.eq_nil_of_length_eq_zero (by omega)
  have hall:∀ i,i<ops.size->listed.getD i false=true:=by
   intro i hi
   cases h:listed.getD i false with
   | true=>rfl
   | false =>
    rcases hcov i hi h with ⟨q,hq,rfl⟩ | ⟨r,hr,_⟩
    · have:q∈Qs.filter (unl listed):=by rw[List.mem_filter]; exact⟨hq,by simp[unl]; simpa using h⟩
      rw[hun]at this; simp at this
    · simp at hr
  rw[hun]at henv
  have heq:S'.H=Ha:=hu.all fun i T ⟨q,hq,h1,_⟩=>by
   obtain⟨o,ho,_⟩:=hchk _ (hQC q hq)
   rw[hall q.1 (Array.getElem?_eq_some_iff.1 ho).1]at h1; cases h1
  refine⟨?_,⟨.normal,Ef,S'.ρ,S'.H,trivial,he,hS,henv,hN,hdf,by rw[heq]; exact hx⟩⟩
  rw[List.eq_nil_iff_forall_not_mem]
  intro i hi
  rw[mem_ready]at hi
  obtain⟨h1,o,ho,_⟩:=hi
  have hlt:i<ops.size:=(Array.getElem?_eq_some_iff.1 ho).1
  rw[getD_size (by omega),hall i hlt]at h1; cases h1
 | succ fuel ih =>
  intro listed S' Ha a Qs Ef pend rest hf hsz hcl hQC hrC hcov hrl hpw hhead hrf hqr hqn hqq hval hqv hqf hpend hpC hu he hS henv hN hdf hx
  refine⟨fun hr => ?_,fun j hj => ?_⟩
  · have hall:=some_ready hd.edge hsz hr
    have hrest:rest=[]:=by
     cases rest with
     | nil=>rfl
     | cons c r =>
      obtain⟨o,ho,_⟩:=hchk c (hrC c (by simp))
      have h1:=hrl c (by simp)
      rw[hall c.1 (Array.getElem?_eq_some_iff.1 ho).1]at h1; cases h1
    subst hrest
    have hun:Qs.filter (unl listed)=[]:=by
     rw[List.filter_eq_nil_iff]
     intro q hq hu
     obtain⟨o,ho,_⟩:=hchk _ (hQC q hq)
     have:=hall q.1 (Array.getElem?_eq_some_iff.1 ho).1
     have e:unl listed q=false:=by unfold unl; rw[this]; rfl
     rw[e]at hu; cases hu
    rw[hun]at henv
    have heq:S'.H=Ha:=hu.all fun i T ⟨q,hq,h1,_⟩=>by
     obtain⟨o,ho,_⟩:=hchk _ (hQC q hq)
     rw[hall q.1 (Array.getElem?_eq_some_iff.1 ho).1]at h1; cases h1
    exact⟨.normal,Ef,S'.ρ,S'.H,trivial,he,hS,henv,hN,hdf,by rw[heq]; exact hx⟩
  · rw[mem_ready]at hj
    obtain⟨g1,o,ho,hdeps⟩:=hj
    have hlt:j<ops.size:=(Array.getElem?_eq_some_iff.1 ho).1
    rw[getD_size (by omega)]at g1
    have before:=fun(i:Nat)=>before_listed (i:=i) ho hcl hdeps
    have hjs:j<listed.size:=by omega
    have hset:∀ k,(listed.setIfInBounds j true).getD k false=false->listed.getD k false=false:=by
     intro k hk
     cases h:listed.getD k false with
     | false=>rfl
     | true=>rw[(set_listed (k:=k) hjs).2 (.inr h)]at hk; cases hk
    have hclosed':Closed ops fun t=>(listed.setIfInBounds j true).getD t false=true:=by
     intro i p hi hp e hem hb
     rw[set_listed hjs]at hi ⊢
     rcases hi with rfl | hi
     · rw[ho]at hp; cases hp; exact .inr (hdeps e (by simpa using hem) hb)
     · exact .inr (hcl i p hi hp e hem hb)
    rcases hcov j hlt g1 with ⟨q,hq,rfl⟩ | ⟨c,hc,rfl⟩
    · -- a quiet operation
      obtain⟨o',ho',hci⟩:=hchk _ (hQC q hq)
      rw[ho]at ho'; cases ho'
      have hm:∀ t∈q.2.1.slots,(maskE (Qs.filter (unl listed)) Ef).get t=Ef.get t:=by
       intro t ht
       refine mask_get fun q' hq' hd' => ?_
       rw[List.mem_filter]at hq'
       have h1:=before q'.1 (hd.dep _ (hQC q' hq'.1) _ (hQC q hq) t hd' ht)
       have h2:=hq'.2
       simp only[unl,Bool.not_eq_true']at h2
       rw[h1]at h2; cases h2
      have hxo:xo P q.2.1 (maskE (Qs.filter (unl listed)) Ef) S'.H (fun x env' H'=>x=.normal∧env'=(maskE (Qs.filter (unl listed)) Ef).put q.2.1.d q.2.2∧UnF (PNf (listed.setIfInBounds q.1 true) Qs) Ha H'):=by
       rcases hqq q hq with hqu | hfs
       · have hq1:=quietV_unf hu (hmi _ (hQC q hq)) (fun t _=>⟨_,henv.get t⟩) (quietV_congr (hqv q hq g1 hqu) hm)
         refine xo_of_quietV hq1 ⟨rfl,rfl,hu.congr fun i T => ?_⟩
         constructor
         · rintro⟨q',hq',h1,h2⟩
           exact⟨q',hq',hset _ h1,h2⟩
         · rintro⟨q',hq',h1,h2⟩
           refine⟨q',hq',?_,h2⟩
           cases h3:(listed.setIfInBounds q.1 true).getD q'.1 false with
           | false=>rfl
           | true =>
            rw[set_listed hjs]at h3
            rcases h3 with h3 | h3
            · have:=hqn q' hq' q hq h3
              subst this
              rw[(fl_quiet h2).1]at hqu; cases hqu
            · rw[h1]at h3; cases h3
       · obtain⟨⟨i,T⟩,hfi⟩:=Option.isSome_iff_exists.1 hfs
         have hv:=flV_congr (hqf q hq g1 hfs) hm (fun _ _ _=>rfl) hfs
         refine xo_mono (fl_step hu hfi ⟨q,hq,g1,hfi⟩ hv) ?_
         rintro x e H' ⟨rfl,rfl,p,hp,rfl⟩
         refine⟨rfl,rfl,hu.fill hp fun j T' => ?_⟩
         constructor
         · rintro⟨q',hq',h1,h2⟩
           refine⟨⟨q',hq',hset _ h1,h2⟩,?_⟩
           rintro rfl
           have:=hfu _ (hQC q' hq') _ (hQC q hq) _ _ _ h2 hfi
           rw[(set_listed (k:=q'.1) hjs).2 (.inl this)]at h1; cases h1
         · rintro⟨⟨q',hq',h1,h2⟩,hne⟩
           refine⟨q',hq',?_,h2⟩
           cases h3:(listed.setIfInBounds q.1 true).getD q'.1 false with
           | false=>rfl
           | true =>
            rw[set_listed hjs]at h3
            rcases h3 with h3 | h3
            · have:=hqn q' hq' q hq h3
              subst this
              rw[hfi]at h2; cases h2; exact absurd rfl hne
            · rw[h1]at h3; cases h3
      refine step_wpOp ho (xo_sound hS henv hN hdf hci hxo ?_ ?_)
      · rintro a' w' ⟨x,env',ρ',H',hx',hext,hsim,henv',hN',hdf',hxn,rfl,hu'⟩
        refine ih _ ⟨ρ',H',w'⟩ Ha a' Qs Ef pend rest ?_ (by simpa using hsz) hclosed' hQC hrC (fun i hi h=>hcov i hi (hset i h)) ?_ hpw hhead hrf hqr hqn hqq hval
         (fun q' hq' h=>hqv q' hq' (hset _ h)) (fun q' hq' h=>hqf q' hq' (hset _ h)) hpend hpC hu' (he.trans (hext.mono (he.len (Nat.le_refl _)))) hsim ?_ hN' hdf' hx
        · have:=filter_lt (p:=unl listed) (q:=unl (listed.setIfInBounds q.1 true)) Qs (by
           intro q' _ h
           simp only[unl,Bool.not_eq_true']at h ⊢
           exact hset _ h) q hq (by simp only[unl,g1]; rfl) (by
           simp only[unl,Bool.not_eq_false']
           exact(set_listed hjs).2 (.inl rfl))
          omega
        · intro r hr
          have h1:=hrl r hr
          cases h:(listed.setIfInBounds q.1 true).getD r.1 false with
          | false=>rfl
          | true =>
           rw[set_listed hjs]at h
           rcases h with h | h
           · exact absurd h.symm (hqr q hq r hr).2
           · rw[h1]at h; cases h
        · refine henv'.congr fun t => ?_
          by_cases hun:∃ q'∈Qs.filter (unl (listed.setIfInBounds q.1 true)),q'.2.1.d=some t
          · exact .inl (mask_any hun)
          · right
            rw[mask_get (fun q' hq' h=>hun ⟨q',hq',h⟩)]
            by_cases h2:q.2.1.d=some t
            · rw[h2,put_get_eq]; exact hval q hq t h2
            · rw[put_get_ne h2,mask_get]
              intro q' hq' h3
              apply hun
              refine⟨q',?_,h3⟩
              rw[List.mem_filter]at hq' ⊢
              refine⟨hq'.1,?_⟩
              have h4:=hq'.2
              simp only[unl,Bool.not_eq_true']at h4 ⊢
              cases h5:(listed.setIfInBounds q.1 true).getD q'.1 false with
              | false=>rfl
              | true =>
               rw[set_listed hjs]at h5
               rcases h5 with h5 | h5
               · have:=hqn q' hq'.1 q hq h5
                 subst this; exact absurd h3 h2
               · rw[h4]at h5; cases h5
      · rintro ch a' w' ⟨x,env',ρ',H',hx',hext,hsim,henv',hN',hdf',hxn,_⟩
        subst hxn
        simp only[ER]at hx'
    · -- the next write
      have hhd:∃ r,rest=c::r:=by
       rcases hhead with rfl | ⟨c',r,rfl,hq'⟩
       · simp at hc
       · simp only[List.mem_cons]at hc
         rcases hc with rfl | hc
         · exact⟨r,rfl⟩
         · rw[List.pairwise_cons]at hpw
           have h1:=before c'.1 ((hpw.1 c hc).2.1 hq')
           rw[hrl c' (by simp)]at h1; cases h1
      obtain⟨r,rfl⟩:=hhd
      have hcq:c.2.j.quiet=false:=by
       rcases hhead with h | ⟨c',r',h,hq'⟩
       · cases h
       · cases h; exact hq'
      obtain⟨o',ho',hci⟩:=hchk c (hrC c (by simp))
      rw[ho]at ho'; cases ho'
      rw[List.pairwise_cons]at hpw
      have hm:∀ t∈c.2.slots,(maskE (Qs.filter (unl listed)) Ef).get t=Ef.get t:=by
       intro t ht
       refine mask_get fun q' hq' hd' => ?_
       rw[List.mem_filter]at hq'
       have h1:=before q'.1 (hd.dep _ (hQC q' hq'.1) _ (hrC c (by simp)) t hd' ht)
       have h2:=hq'.2
       simp only[unl,Bool.not_eq_true']at h2
       rw[h1]at h2; cases h2
      simp only[List.map_cons,xd]at hx
      rw[if_neg (by simp[hcq])]at hx
      have hxo:=xo_unf hu (hmi _ (hrC c (by simp))) hcq (hrf c (by simp)) hm (fun t _=>⟨_,henv.get t⟩) hx
      refine step_wpOp ho (xo_sound hS henv hN hdf hci hxo ?_ ?_)
      · rintro a' w' ⟨x,env',ρ',H',hx',hext,hsim,henv',hN',hdf',hk⟩
        cases x<;>simp only[ER]at hx'
        obtain⟨v,Ha',rfl,hu',hsame,hpv,hxd⟩:=hk
        obtain⟨F,rest',pend',f1,f2,f3,f4,f5,f8,f6,f7⟩:=xd_split r pend _ hxd
        subst f1
        have hFC:∀ q∈F,(q.1,q.2.1)∈C:=fun q hq=>hrC _ (by simp; exact .inr (.inl ⟨q.2.2,hq⟩))
        have hr'C:∀ y∈rest',y∈C:=fun y hy=>hrC _ (by simp[hy])
        have hFr:∀ q∈F,(q.1,q.2.1)∈(F.map fun q=>(q.1,q.2.1))++rest':=fun q hq=>List.mem_append_left _ (List.mem_map.2 ⟨q,hq,rfl⟩)
        rw[List.pairwise_append]at hpw
        obtain⟨hpc,hpF,hpr,hpFr⟩:=hpw
        have hFidx:∀ (i k:Nat) (x y:QI),F[i]? = some x->F[k]? = some y->i<k->(∀ d,y.2.1.d=some d->d∉x.2.1.slots)∧x.1≠y.1:=by
         intro i k x y hx hy hik
         rw[List.pairwise_map,List.pairwise_iff_getElem]at hpF
         have h1:=getElem?_lt hx
         have h2:=getElem?_lt hy
         have h3:=hpF i k h1 h2 hik
         rw[List.getElem?_eq_getElem h1]at hx; cases hx
         rw[List.getElem?_eq_getElem h2]at hy; cases hy
         exact⟨h3.1,h3.2.2⟩
        generalize hE1:Ef.put c.2.d v=E1 at *
        have getF:∀ (t:Nat),(∀ q∈F,q.2.1.d≠some t)->(putAll E1 (F.map (·.2.1)) (F.map (·.2.2))).get t=E1.get t:=by
         intro t h
         refine putAll_not _ _ _ _ fun p hp => ?_
         obtain⟨q,hq,rfl⟩:=List.mem_map.1 hp
         exact h q hq
        have getF1:∀ q∈F,∀ d,q.2.1.d=some d->(putAll E1 (F.map (·.2.1)) (F.map (·.2.2))).get d=q.2.2:=by
         intro q hq d hqd
         obtain⟨k,hk⟩:=List.getElem?_of_mem hq
         refine putAll_one _ _ _ d k q.2.1 q.2.2 (by simp[hk]) (by simp[hk]) hqd ?_
         intro i p hik hp hpd
         simp only[List.getElem?_map,Option.map_eq_some_iff]at hp
         obtain⟨y,hy,rfl⟩:=hp
         exact hd.uniq _ (hFC q hq) _ (hFC y (List.mem_of_getElem? hy)) (hFidx k i q y hk hy hik).2 d hqd hpd
        have hcF:∀ q∈F,c.1≠q.1:=fun q hq=>(hpc _ (hFr q hq)).2.2
        have hcr':∀ y∈rest',c.1≠y.1:=fun y hy=>(hpc _ (List.mem_append_right _ hy)).2.2
        have hlF:∀ q∈F,(listed.setIfInBounds c.1 true).getD q.1 false=false:=by
         intro q hq
         cases h:(listed.setIfInBounds c.1 true).getD q.1 false with
         | false=>rfl
         | true =>
          rw[set_listed hjs]at h
          rcases h with h | h
          · exact absurd h.symm (hcF q hq)
          · have:=hrl (q.1,q.2.1) (List.mem_cons_of_mem _ (hFr q hq)); rw[this]at h; cases h
        have hQF:∀ q∈Qs,∀ q'∈F,(∀ d,q'.2.1.d=some d->d∉q.2.1.slots)∧q.1≠q'.1:=fun q hq q' hq'=>hqr q hq (q'.1,q'.2.1) (List.mem_cons_of_mem _ (hFr q' hq'))
        have hQc:∀ q∈Qs,(∀ d,c.2.d=some d->d∉q.2.1.slots)∧q.1≠c.1:=fun q hq=>hqr q hq c (by simp)
        have hFn:∀ q∈F,q.2.1.fl=none:=by
         intro q hq
         cases h:q.2.1.fl with
         | none=>rfl
         | some x=>have:=(fl_quiet h).1; rw[f3 q hq]at this; cases this
        refine ih _ ⟨ρ',H',w'⟩ Ha' a' (Qs++F) (putAll E1 (F.map (·.2.1)) (F.map (·.2.2))) pend' rest' ?_ (by simpa using hsz) hclosed' ?_ hr'C ?_ ?_ hpr f2 (fun y hy=>hrf y (by simp[hy])) ?_ ?_ ?_ ?_ ?_ ?_ ?_ ?_ ?_
         (he.trans (hext.mono (he.len (Nat.le_refl _)))) hsim ?_ hN' hdf' f7
        · -- fuel
          have h1:((Qs++F).filter (unl (listed.setIfInBounds c.1 true))).length≤(Qs.filter (unl listed)).length+F.length:=by
           rw[List.filter_append,List.length_append]
           have h2:=List.length_filter_le (unl (listed.setIfInBounds c.1 true)) F
           have h3:(Qs.filter (unl (listed.setIfInBounds c.1 true))).length≤(Qs.filter (unl listed)).length:=by
            have:Qs.filter (unl (listed.setIfInBounds c.1 true))=(Qs.filter (unl listed)).filter (unl (listed.setIfInBounds c.1 true)):=by
             rw[List.filter_filter]
             refine List.filter_congr fun q _ => ?_
             simp only[unl]
             cases h:(listed.setIfInBounds c.1 true).getD q.1 false with
             | true=>rfl
             | false=>rw[hset _ h]; rfl
            rw[this]; exact List.length_filter_le _ _
           omega
          simp only[List.length_cons,List.length_append,List.length_map]at hf
          omega
        · intro q hq
          rcases List.mem_append.1 hq with hq | hq
          · exact hQC q hq
          · exact hFC q hq
        · intro i hi h
          have h0:=hset i h
          rcases hcov i hi h0 with ⟨q,hq,rfl⟩ | ⟨y,hy,rfl⟩
          · exact .inl ⟨q,List.mem_append_left _ hq,rfl⟩
          · simp only[List.mem_cons,List.mem_append,List.mem_map]at hy
            rcases hy with rfl | ⟨q,hq,rfl⟩ | hy
            · rw[(set_listed (k:=y.1) hjs).2 (.inl rfl)]at h; cases h
            · exact .inl ⟨q,List.mem_append_right _ hq,rfl⟩
            · exact .inr ⟨y,hy,rfl⟩
        · intro y hy
          cases h:(listed.setIfInBounds c.1 true).getD y.1 false with
          | false=>rfl
          | true =>
           rw[set_listed hjs]at h
           rcases h with h | h
           · exact absurd h.symm (hcr' y hy)
           · have:=hrl y (List.mem_cons_of_mem _ (List.mem_append_right _ hy)); rw[this]at h; cases h
        · intro q hq y hy
          rcases List.mem_append.1 hq with hq | hq
          · exact hqr q hq y (List.mem_cons_of_mem _ (List.mem_append_right _ hy))
          · have:=hpFr (q.1,q.2.1) (List.mem_map.2 ⟨q,hq,rfl⟩) y hy
            exact⟨this.1,this.2.2⟩
        · intro q hq q' hq' heq
          rcases List.mem_append.1 hq with hq | hq<;>rcases List.mem_append.1 hq' with hq' | hq'
          · exact hqn q hq q' hq' heq
          · exact absurd heq (hQF q hq q' hq').2
          · exact absurd heq.symm (hQF q' hq' q hq).2
          · obtain⟨i,hi⟩:=List.getElem?_of_mem hq
            obtain⟨k,hk⟩:=List.getElem?_of_mem hq'
            rcases Nat.lt_trichotomy i k with h | h | h
            · exact absurd heq (hFidx i k q q' hi hk h).2
            · subst h; rw[hi]at hk; cases hk; rfl
            · exact absurd heq.symm (hFidx k i q' q hk hi h).2
        · intro q hq
          rcases List.mem_append.1 hq with hq | hq
          · exact hqq q hq
          · exact .inl (f3 q hq)
        · intro q hq d hqd
          rcases List.mem_append.1 hq with hq | hq
          · rw[getF d (fun q' hq' h=>hd.uniq _ (hQC q hq) _ (hFC q' hq') (hQF q hq q' hq').2 d hqd h),<- hE1,put_get_ne (fun h=>hd.uniq _ (hQC q hq) _ (hrC c (by simp)) (hQc q hq).2 d hqd h)]
            exact hval q hq d hqd
          · exact getF1 q hq d hqd
        · intro q hq hun hqu
          rcases List.mem_append.1 hq with hq | hq
          · have hcg:∀ t∈q.2.1.slots,(putAll E1 (F.map (·.2.1)) (F.map (·.2.2))).get t=E1.get t:=fun t ht=>getF t fun q' hq' h=>(hQF q hq q' hq').1 t h ht
            refine quietV_congr ?_ hcg
            by_cases hdep:q.2.1.j.dep=true
            · refine hpv _ (hpend q hq hqu) ?_
              simp only[loose,hdep,Bool.true_and,Bool.not_eq_true']
              unfold hasD
              cases hqd:q.2.1.d with
              | none=>rfl
              | some d =>
               simp only
               cases hcn:(needed c.2.slots pend).contains d with
               | false=>rfl
               | true =>
                have h1:=needed_listed hd hchk hcl pend c.2.slots hpC (fun t ht y hy hyd=>before y.1 (hd.dep y hy c (hrC c (by simp)) t hyd ht)) d (by simpa using hcn) _ (hQC q hq) hqd
                rw[hset _ hun]at h1; cases h1
            · refine quietV_H (by simpa using hdep) (quietV_congr (hqv q hq (hset _ hun) hqu) fun t ht => ?_)
              rw[←hE1,put_get_ne (fun h=>(hQc q hq).1 t h ht)]
          · obtain⟨k,hk⟩:=List.getElem?_of_mem hq
            refine quietV_congr (f6 k q hk) fun t ht => ?_
            by_cases hw:∃ y∈F,y.2.1.d=some t
            · obtain⟨y,hy,hyd⟩:=hw
              obtain⟨i,hi⟩:=List.getElem?_of_mem hy
              have hik:i<k:=by
               rcases Nat.lt_trichotomy i k with h | h | h
               · exact h
               · subst h; rw[hi]at hk; cases hk
                 exact absurd ht (hd.self _ (hFC q hq) t hyd)
               · exact absurd ht ((hFidx k i q y hk hi h).1 t hyd)
              rw[getF1 y hy t hyd]
              refine(putAll_one _ _ _ t i y.2.1 y.2.2 ?_ ?_ hyd ?_).symm
              · simp only[List.getElem?_map,List.getElem?_take,if_pos hik,hi,Option.map_some]
              · simp only[List.getElem?_map,List.getElem?_take,if_pos hik,hi,Option.map_some]
              · intro m p him hp hpd
                simp only[List.getElem?_map,List.getElem?_take,Option.map_eq_some_iff]at hp
                obtain⟨z,hz,rfl⟩:=hp
                split at hz
                · exact hd.uniq _ (hFC y hy) _ (hFC z (List.mem_of_getElem? hz)) (hFidx i m y z hi hz him).2 t hyd hpd
                · cases hz
            · have hw':∀ y∈F,y.2.1.d≠some t:=fun y hy h=>hw ⟨y,hy,h⟩
              rw[getF t hw']
              refine(putAll_not _ _ _ _ fun p hp => ?_).symm
              obtain⟨z,hz,rfl⟩:=List.mem_map.1 hp
              exact hw' z (List.mem_of_mem_take hz)
        · intro q hq hun hfs
          rcases List.mem_append.1 hq with hq | hq
          · refine flV_congr (hqf q hq (hset _ hun) hfs) (fun t ht => ?_) (fun i T hT=>hsame i T ⟨q,hq,hset _ hun,hT⟩) hfs
            rw[getF t fun q' hq' h=>(hQF q hq q' hq').1 t h ht,<- hE1,put_get_ne (fun h=>(hQc q hq).1 t h ht)]
          · rw[hFn q hq]at hfs; cases hfs
        · intro q hq hqu
          rcases List.mem_append.1 hq with hq | hq
          · exact f4 _ (hpend q hq hqu)
          · exact f5 q hq
        · intro p hp
          rcases f8 p hp with h | ⟨q,hq,h⟩
          · exact hpC p h
          · exact⟨q.1,by rw[h]; exact hFC q hq⟩
        · refine hu'.congr fun i T => ?_
          constructor
          · rintro⟨q,hq,h1,h2⟩
            rcases List.mem_append.1 hq with hq | hq
            · exact⟨q,hq,hset _ h1,h2⟩
            · rw[hFn q hq]at h2; cases h2
          · rintro⟨q,hq,h1,h2⟩
            refine⟨q,List.mem_append_left _ hq,?_,h2⟩
            cases h3:(listed.setIfInBounds c.1 true).getD q.1 false with
            | false=>rfl
            | true =>
             rw[set_listed hjs]at h3
             rcases h3 with h3 | h3
             · exact absurd h3 (hQc q hq).2
             · rw[h1]at h3; cases h3
        · refine henv'.congr fun t => ?_
          by_cases hun:∃ q'∈(Qs++F).filter (unl (listed.setIfInBounds c.1 true)),q'.2.1.d=some t
          · exact .inl (mask_any hun)
          · right
            rw[mask_get (fun q' hq' h=>hun ⟨q',hq',h⟩)]
            have hnF:∀ q∈F,q.2.1.d≠some t:=by
             intro q hq h
             exact hun ⟨q,by rw[List.mem_filter]; exact⟨List.mem_append_right _ hq,by simp only[unl,hlF q hq]; rfl⟩,h⟩
            rw[getF t hnF,<- hE1]
            by_cases h2:c.2.d=some t
            · rw[h2,put_get_eq,put_get_eq]
            · rw[put_get_ne h2,put_get_ne h2,mask_get]
              intro q' hq' h3
              apply hun
              refine⟨q',?_,h3⟩
              rw[List.mem_filter]at hq' ⊢
              refine⟨List.mem_append_left _ hq'.1,?_⟩
              have h4:=hq'.2
              simp only[unl,Bool.not_eq_true']at h4 ⊢
              cases h5:(listed.setIfInBounds c.1 true).getD q'.1 false with
              | false=>rfl
              | true =>
               rw[set_listed hjs]at h5
               rcases h5 with h5 | h5
               · exact absurd h5 (hQc q' hq'.1).2
               · rw[h4]at h5; cases h5
      · rintro ch a' w' ⟨x,env',ρ',H',hx',hext,hsim,henv',hN',hdf',hk⟩
        cases x<;>simp only[ER]at hx'
        exact hk.elim
end
end Go.Ab
namespace Go.Ab
variable [GlobEnv] [FrEnv] [KnEnv]
theorem slots_rs (n:Nat) (o:Ins):(o.rs n).slots=o.slots:=by
 obtain⟨d,g,j⟩:=o
 cases j with
 | e i=>cases i<;>rfl
 | _=>rfl
theorem quiet_rs (n:Nat) (o:Ins):(o.rs n).j.quiet=o.j.quiet:=by
 obtain⟨d,g,j⟩:=o
 cases j<;>rfl
theorem d_rs (n:Nat) (o:Ins):(o.rs n).d=o.d:=rfl
theorem mild_rs (n:Nat) (o:Ins):(o.rs n).mild=o.mild:=by
 obtain⟨d,g,j⟩:=o
 cases g with
 | some x=>rfl
 | none=>cases j with
  | e i=>cases i<;>rfl
  | _=>rfl
theorem fl_rs (n:Nat) (o:Ins):(o.rs n).fl=o.fl.map fun x=>(n+x.1,x.2):=by
 obtain⟨d,g,j⟩:=o
 cases g with
 | some x=>cases j with
  | e i=>cases i<;>rfl
  | _=>rfl
 | none=>cases j with
  | e i=>cases i<;>rfl
  | _=>rfl
def drawG (free:Ins->Bool) (ops:Array Oper) (ns:List Nat) (l:List Ins):Bool :=
 let B:=masks ops.toList []
 let n:=l.length
 let L:=ns.zip l
 (n==ops.size)&&(ns.length==n)&&((List.range n).all fun i=>ns.contains i) &&
 ((List.range n).all fun i=>((ops.getD i default).after.toList.all fun e => !Region.binds .any e||decide (e.on<i))) &&
 (L.zipIdx.all fun x=>L.zipIdx.all fun y =>
  (match x.1.2.d with
   | none=>true
   | some d=>(x.2==y.2||y.1.2.d != some d)&&(!y.1.2.slots.contains d||(beforeB B x.1.1 y.1.1&&decide (x.2<y.2)))) &&
  (free x.1.2||decide (y.2≤x.2)||beforeB B x.1.1 y.1.1)&&(x.2==y.2||x.1.1 != y.1.1))
theorem drawG_rs {free:Ins->Bool} (n:Nat) (hf:∀ o,free (Ins.rs n o)=free o) {ops:Array Oper} {ns:List Nat} {l:List Ins} (h:drawG free ops ns l=true):drawG free ops ns (l.map (Ins.rs n))=true:=by
 have e:drawG free ops ns (l.map (Ins.rs n))=drawG free ops ns l:=by
  unfold drawG
  simp only[List.length_map,List.zip_map_right,List.zipIdx_map,List.all_map,Function.comp_def,Prod.map_fst,Prod.map_snd,id_eq,d_rs,slots_rs,hf]
 rw[e]; exact h
theorem draw0_G (ops:Array Oper) (ns:List Nat) (l:List Ins):drawB0 ops ns l=drawG (fun o=>o.j.quiet) ops ns l:=rfl
theorem dcG_of {free:Ins->Bool} {ops:Array Oper} {ns:List Nat} {l:List Ins} (h:drawG free ops ns l=true):DC ops (ns.zip l) ∧
 (ns.zip l).Pairwise (fun x y=>(∀ d,y.2.d=some d->d∉x.2.slots)∧(free x.2=false->beforeB (masks ops.toList []) x.1 y.1=true)∧x.1≠y.1)∧ns.length=l.length∧l.length=ops.size:=by
 unfold drawG at h
 simp only[Bool.and_eq_true,beq_iff_eq,List.all_eq_true,List.mem_range,Bool.or_eq_true,Bool.not_eq_true',decide_eq_true_eq,List.contains_eq_mem]at h
 obtain⟨⟨⟨⟨h1,h2⟩,h3⟩,h4⟩,h5⟩:=h
 refine(fun hh=>⟨hh.1,hh.2,h2,h1⟩:(_∧_)->_) ?_
 generalize hC:ns.zip l=C at h5 ⊢
 have hp:∀ (a b:Nat) (x y:CI),C[a]? = some x->C[b]? = some y →
  (∀ d,x.2.d=some d->(a=b∨y.2.d≠some d)∧(d∈y.2.slots->beforeB (masks ops.toList []) x.1 y.1=true∧a<b)) ∧
  ((free x.2=true∨b≤a)∨beforeB (masks ops.toList []) x.1 y.1=true)∧(a=b∨x.1≠y.1):=by
  intro a b x y hx hy
  have hxm:(x,a)∈C.zipIdx:=List.mem_of_getElem? (i:=a) (by rw[List.getElem?_zipIdx]; simp[hx])
  have hym:(y,b)∈C.zipIdx:=List.mem_of_getElem? (i:=b) (by rw[List.getElem?_zipIdx]; simp[hy])
  have h6:=h5 (x,a) hxm (y,b) hym
  simp only[bne_iff_ne,ne_eq]at h6
  obtain⟨⟨h6,h7⟩,h8⟩:=h6
  refine⟨fun d hd => ?_,h7,h8⟩
  rw[hd]at h6
  simp only[Bool.and_eq_true,Bool.or_eq_true,beq_iff_eq,bne_iff_ne,ne_eq,Bool.not_eq_true',decide_eq_true_eq,decide_eq_false_iff_not]at h6
  refine⟨h6.1,fun hm => ?_⟩
  rcases h6.2 with h9 | h9
  · exact absurd hm h9
  · exact h9
 refine⟨⟨fun i hi => ?_,?_,?_,?_,?_⟩,?_⟩
 · rw[←hC]; exact zip_fst h2 (h3 i (by omega))
 · intro i o ho e he hb
   have hi:i<ops.size:=(Array.getElem?_eq_some_iff.1 ho).1
   rcases h4 i (by omega) e (by rw[Array.getD_eq_getD_getElem?,ho]; simpa using he)with h6 | h6
   · rw[hb]at h6; cases h6
   · exact h6
 · intro x hx y hy hne d hd hd'
   obtain⟨a,ha⟩:=List.getElem?_of_mem hx
   obtain⟨b,hb⟩:=List.getElem?_of_mem hy
   rcases((hp a b x y ha hb).1 d hd).1 with h6 | h6
   · subst h6; rw[ha]at hb; cases hb; exact hne rfl
   · exact h6 hd'
 · intro x hx y hy d hd hs
   obtain⟨a,ha⟩:=List.getElem?_of_mem hx
   obtain⟨b,hb⟩:=List.getElem?_of_mem hy
   exact(((hp a b x y ha hb).1 d hd).2 hs).1
 · intro x hx d hd hs
   obtain⟨a,ha⟩:=List.getElem?_of_mem hx
   have:=(((hp a a x x ha ha).1 d hd).2 hs).2; omega
 · rw[List.pairwise_iff_getElem]
   intro a b ha hb hab
   have h6:=hp a b C[a] C[b] (List.getElem?_eq_getElem ha) (List.getElem?_eq_getElem hb)
   have h7:=hp b a C[b] C[a] (List.getElem?_eq_getElem hb) (List.getElem?_eq_getElem ha)
   refine⟨fun d hd hs => ?_,fun hq => ?_,?_⟩
   · have:=((h7.1 d hd).2 hs).2; omega
   · rcases h6.2.1 with (h8 | h8) | h8
     · rw[hq]at h8; cases h8
     · omega
     · exact h8
   · rcases h6.2.2 with h8 | h8
     · omega
     · exact h8
def flOk:List Ins->Bool
 | []=>true
 | o::r=>(o.fl.isSome||o.j.quiet||r.all fun p=>p.fl.isNone)&&(match o.fl with | none=>true | some (i,_)=>r.all fun p=>match p.fl with | none=>true | some (k,_)=>k != i)&&flOk r
def drawF (ops:Array Oper) (ns:List Nat) (l:List Ins):Bool:=(l.all Ins.mild&&flOk l)&&drawG (fun o=>o.j.quiet||o.fl.isSome) ops ns l
theorem flOk_rs (n:Nat):∀ (l:List Ins),flOk (l.map (Ins.rs n))=flOk l
 | []=>rfl
 | o::r=>by
  simp only[List.map_cons,flOk,flOk_rs n r,List.all_map,Function.comp_def,fl_rs,quiet_rs,Option.isSome_map,Option.isNone_map]
  congr 2
  cases o.fl with
  | none=>rfl
  | some x =>
   simp only[Option.map_some]
   congr 1
   funext p
   cases p.fl with
   | none=>rfl
   | some y =>
    simp only[Option.map_some]
    rw[Bool.eq_iff_iff]; simp
theorem drawF_rs (n:Nat) {ops:Array Oper} {ns:List Nat} {l:List Ins} (h:drawF ops ns l=true):drawF ops ns (l.map (Ins.rs n))=true:=by
 unfold drawF at h ⊢
 rw[Bool.and_eq_true,Bool.and_eq_true]at h ⊢
 refine⟨⟨?_,by rw[flOk_rs]; exact h.1.2⟩,drawG_rs n (fun o=>by rw[quiet_rs,fl_rs,Option.isSome_map]) h.2⟩
 have:=h.1.1
 simp only[List.all_map,Function.comp_def,mild_rs]
 exact this
theorem flOk_pw:∀ {l:List Ins},flOk l=true->l.Pairwise fun x y=>(∀ i T T',x.fl=some (i,T)->y.fl≠some (i,T'))∧(x.j.quiet=false->x.fl=none->y.fl=none)
 | [],_=>.nil
 | o::r,h=>by
  simp only[flOk,Bool.and_eq_true]at h
  obtain⟨⟨h1,h2⟩,h3⟩:=h
  rw[List.pairwise_cons]
  refine⟨fun y hy=>⟨fun i T T' hx hy' => ?_,fun hq hx => ?_⟩,flOk_pw h3⟩
  · rw[hx]at h2
    simp only[List.all_eq_true]at h2
    have:=h2 y hy
    rw[hy']at this
    simp at this
  · rw[hx,hq]at h1
    simp only[Option.isSome_none,Bool.false_or,List.all_eq_true]at h1
    have:=h1 y hy
    cases hyf:y.fl with
    | none=>rfl
    | some z=>rw[hyf]at this; cases this
section
variable {P:Program}
theorem draw_okF:DOk0 P drawF:=by
 intro N ops ns l env H K hc hdr hx db S a hH hS he hN hdf
 subst hH
 unfold drawF at hdr
 rw[Bool.and_eq_true,Bool.and_eq_true]at hdr
 obtain⟨⟨hmild,hfl⟩,hdr⟩:=hdr
 obtain⟨hd,hpw0,hlen⟩:=dcG_of hdr
 have hsnd:(ns.zip l).map (·.2)=l:=by rw[List.map_snd_zip]; omega
 have hchk:∀ x∈ns.zip l,∃ o,ops[x.1]? = some o∧chkIns P N ops o x.2=true:=by
  intro x hx
  unfold chkP at hc
  rw[List.all_eq_true]at hc
  have:=hc x hx
  split at this
  · rename_i o ho; exact⟨o,ho,this⟩
  · cases this
 have hmi:∀ x∈ns.zip l,x.2.mild=true:=fun x hx=>by
  rw[List.all_eq_true]at hmild
  exact hmild _ (List.of_mem_zip hx).2
 have hflp:(ns.zip l).Pairwise fun x y=>(∀ i T T',x.2.fl=some (i,T)->y.2.fl≠some (i,T'))∧(x.2.j.quiet=false->x.2.fl=none->y.2.fl=none):=by
  have:=flOk_pw hfl
  rw[←hsnd,List.pairwise_map]at this
  exact this
 have hnone:∀ i,(Array.replicate ops.size false).getD i false=false:=by
  intro i
  rw[Array.getD_eq_getD_getElem?,Array.getElem?_replicate]
  split<;>rfl
 have hE:=ext_same (S:=S) (w':=S.w.drew) rfl rfl rfl rfl
 have hS':=sim_same hS (w':=S.w.drew) rfl rfl rfl rfl
 obtain⟨F,rest',pend',Ha,f1,f2,f3,f4,f5,f8,f6,f7,g1,g2,g3,g4⟩:=xd_splitF (ns.zip l) [] env S.H hmi (hflp.imp fun h=>h.1) (by rw[hsnd]; exact hx)
 have hFC:∀ q∈F,(q.1,q.2.1)∈ns.zip l:=fun q hq=>by rw[f1]; exact List.mem_append_left _ (List.mem_map.2 ⟨q,hq,rfl⟩)
 have hr'C:∀ y∈rest',y∈ns.zip l:=fun y hy=>by rw[f1]; exact List.mem_append_right _ hy
 have hfu:∀ x∈ns.zip l,∀ y∈ns.zip l,∀ i T T',x.2.fl=some (i,T)->y.2.fl=some (i,T')->x.1=y.1:=by
  intro x hx y hy i T T' h1 h2
  obtain⟨k,hk⟩:=List.getElem?_of_mem hx
  obtain⟨m,hm⟩:=List.getElem?_of_mem hy
  rw[List.pairwise_iff_getElem]at hflp
  have b1:=getElem?_lt hk
  have b2:=getElem?_lt hm
  rcases Nat.lt_trichotomy k m with h | h | h
  · have:=(hflp k m b1 b2 h).1
    rw[List.getElem?_eq_getElem b1]at hk; cases hk
    rw[List.getElem?_eq_getElem b2]at hm; cases hm
    exact absurd h2 (this i T T' h1)
  · subst h; rw[hk]at hm; cases hm; rfl
  · have:=(hflp m k b2 b1 h).1
    rw[List.getElem?_eq_getElem b1]at hk; cases hk
    rw[List.getElem?_eq_getElem b2]at hm; cases hm
    exact absurd h1 (this i T' T h2)
 have hpw1:=hpw0
 rw[f1,List.pairwise_append]at hpw1
 obtain⟨hpF,hpr0,hpFr⟩:=hpw1
 have hrf:∀ y∈rest',y.2.fl=none:=by
  intro y hy
  rcases f2 with rfl | ⟨c,r,rfl,hcq,hcf⟩
  · simp at hy
  · rw[f1,List.pairwise_append]at hflp
    simp only[List.mem_cons]at hy
    rcases hy with rfl | hy
    · exact hcf
    · exact((List.pairwise_cons.1 hflp.2.1).1 y hy).2 hcq hcf
 have hpr:rest'.Pairwise fun x y=>(∀ d,y.2.d=some d->d∉x.2.slots)∧(x.2.j.quiet=false->beforeB (masks ops.toList []) x.1 y.1=true)∧x.1≠y.1:=by
  refine List.Pairwise.imp_of_mem ?_ hpr0
  intro x y hx hy h
  exact⟨h.1,fun hq=>h.2.1 (by rw[hq,hrf x hx]; rfl),h.2.2⟩
 have hFidx:∀ (i k:Nat) (x y:QI),F[i]? = some x->F[k]? = some y->i<k->(∀ d,y.2.1.d=some d->d∉x.2.1.slots)∧x.1≠y.1:=by
  intro i k x y hx hy hik
  rw[List.pairwise_map,List.pairwise_iff_getElem]at hpF
  have h1:=getElem?_lt hx
  have h2:=getElem?_lt hy
  have h3:=hpF i k h1 h2 hik
  rw[List.getElem?_eq_getElem h1]at hx; cases hx
  rw[List.getElem?_eq_getElem h2]at hy; cases hy
  exact⟨h3.1,h3.2.2⟩
 have getF:∀ (t:Nat),(∀ q∈F,q.2.1.d≠some t)->(putAll env (F.map (·.2.1)) (F.map (·.2.2))).get t=env.get t:=by
  intro t h
  refine putAll_not _ _ _ _ fun p hp => ?_
  obtain⟨q,hq,rfl⟩:=List.mem_map.1 hp
  exact h q hq
 have getF1:∀ q∈F,∀ d,q.2.1.d=some d->(putAll env (F.map (·.2.1)) (F.map (·.2.2))).get d=q.2.2:=by
  intro q hq d hqd
  obtain⟨k,hk⟩:=List.getElem?_of_mem hq
  refine putAll_one _ _ _ d k q.2.1 q.2.2 (by simp[hk]) (by simp[hk]) hqd ?_
  intro i p hik hp hpd
  simp only[List.getElem?_map,Option.map_eq_some_iff]at hp
  obtain⟨y,hy,rfl⟩:=hp
  exact hd.uniq _ (hFC q hq) _ (hFC y (List.mem_of_getElem? hy)) (hFidx k i q y hk hy hik).2 d hqd hpd
 have hback:∀ q∈F,∀ k,F[k]? = some q->∀ t∈q.2.1.slots,(putAll env (F.map (·.2.1)) (F.map (·.2.2))).get t=(putAll env ((F.take k).map (·.2.1)) ((F.take k).map (·.2.2))).get t:=by
  intro q hq k hk t ht
  by_cases hw:∃ y∈F,y.2.1.d=some t
  · obtain⟨y,hy,hyd⟩:=hw
    obtain⟨i,hi⟩:=List.getElem?_of_mem hy
    have hik:i<k:=by
     rcases Nat.lt_trichotomy i k with h | h | h
     · exact h
     · subst h; rw[hi]at hk; cases hk
       exact absurd ht (hd.self _ (hFC q hq) t hyd)
     · exact absurd ht ((hFidx k i q y hk hi h).1 t hyd)
    rw[getF1 y hy t hyd]
    refine(putAll_one _ _ _ t i y.2.1 y.2.2 ?_ ?_ hyd ?_).symm
    · simp only[List.getElem?_map,List.getElem?_take,if_pos hik,hi,Option.map_some]
    · simp only[List.getElem?_map,List.getElem?_take,if_pos hik,hi,Option.map_some]
    · intro m p him hp hpd
      simp only[List.getElem?_map,List.getElem?_take,Option.map_eq_some_iff]at hp
      obtain⟨z,hz,rfl⟩:=hp
      split at hz
      · exact hd.uniq _ (hFC y hy) _ (hFC z (List.mem_of_getElem? hz)) (hFidx i m y z hi hz him).2 t hyd hpd
      · cases hz
  · have hw':∀ y∈F,y.2.1.d≠some t:=fun y hy h=>hw ⟨y,hy,h⟩
    rw[getF t hw']
    refine(putAll_not _ _ _ _ fun p hp => ?_).symm
    obtain⟨z,hz,rfl⟩:=List.mem_map.1 hp
    exact hw' z (List.mem_of_mem_take hz)
 have hf2:rest'=[]∨∃ c r,rest'=c::r∧c.2.j.quiet=false:=by
  rcases f2 with h | ⟨c,r,h,h1,_⟩
  · exact .inl h
  · exact .inr ⟨c,r,h,h1⟩
 refine draw_mainF hd hchk hmi hfu ops.size (Array.replicate ops.size false) ⟨S.ρ,S.H,S.w.drew⟩ Ha a F (putAll env (F.map (·.2.1)) (F.map (·.2.2))) pend' rest' ?_ (by simp) ?_ hFC hr'C ?_ (fun r _=>hnone _) hpr hf2 hrf ?_ ?_ f3 getF1 ?_ ?_ f5 (fun p hp=>by
  rcases f8 p hp with h | ⟨q,hq,h⟩
  · simp at h
  · exact⟨q.1,by rw[h]; exact hFC q hq⟩)
  ?_ hE hS' ?_ hN hdf.drew f7
 · have h1:=List.length_filter_le (unl (Array.replicate ops.size false)) F
   have h2:(ns.zip l).length=ops.size:=by rw[List.length_zip]; omega
   rw[f1]at h2
   simp at h2; omega
 · intro j o hj
   simp only[hnone]at hj; cases hj
 · intro i hi _
   obtain⟨x,hx,rfl⟩:=hd.cov i hi
   rw[f1,List.mem_append,List.mem_map]at hx
   rcases hx with ⟨q,hq,rfl⟩ | hx
   · exact .inl ⟨q,hq,rfl⟩
   · exact .inr ⟨x,hx,rfl⟩
 · intro q hq y hy
   have:=hpFr (q.1,q.2.1) (List.mem_map.2 ⟨q,hq,rfl⟩) y hy
   exact⟨this.1,this.2.2⟩
 · intro q hq q' hq' heq
   obtain⟨i,hi⟩:=List.getElem?_of_mem hq
   obtain⟨k,hk⟩:=List.getElem?_of_mem hq'
   rcases Nat.lt_trichotomy i k with h | h | h
   · exact absurd heq (hFidx i k q q' hi hk h).2
   · subst h; rw[hi]at hk; cases hk; rfl
   · exact absurd heq.symm (hFidx k i q' q hk hi h).2
 · intro q hq _ hqu
   obtain⟨k,hk⟩:=List.getElem?_of_mem hq
   exact quietV_congr ((f6 k q hk).1 hqu) (hback q hq k hk)
 · intro q hq _ hfs
   obtain⟨k,hk⟩:=List.getElem?_of_mem hq
   exact flV_congr ((f6 k q hk).2 hfs) (hback q hq k hk) (fun _ _ _=>rfl) hfs
 · refine⟨g1.symm,?_,?_,?_⟩
   · rintro i T ⟨q,hq,_,h⟩; exact(g3 q hq i T h).1
   · rintro i T ⟨q,hq,_,h⟩; exact(g3 q hq i T h).2
   · intro i hi
     exact(g2 i fun⟨q,hq,T,h⟩=>hi ⟨T,q,hq,hnone _,h⟩).symm
 · refine(he.ext hE).congr fun t => ?_
   by_cases hw:∃ y∈F,y.2.1.d=some t
   · left
     obtain⟨y,hy,hyd⟩:=hw
     exact mask_any ⟨y,by rw[List.mem_filter]; exact⟨hy,by simp only[unl,hnone]; rfl⟩,hyd⟩
   · right
     have hw':∀ y∈F,y.2.1.d≠some t:=fun y hy h=>hw ⟨y,hy,h⟩
     rw[mask_get (fun q hq=>hw' q (List.mem_filter.1 hq).1),getF t hw']
end
def drawB (ops:Array Oper) (ns:List Nat) (l:List Ins):Bool:=drawB0 ops ns l||drawF ops ns l
theorem draw_ok {P:Program} (hm:P.follows .mixedOrders=true):DOk P drawB where
 rs:=by
  intro n ops m l h
  unfold drawB at h ⊢
  rw[Bool.or_eq_true]at h ⊢
  rcases h with h | h
  · left; rw[draw0_G]at h ⊢; exact drawG_rs n (fun o=>quiet_rs n o) h
  · right; exact drawF_rs n h
 mixed:=hm
 ok:=by
  intro N ops m l env H K hc hd hx
  unfold drawB at hd
  rw[Bool.or_eq_true]at hd
  rcases hd with h | h
  · exact draw_ok0 N ops m l env H K hc h hx
  · exact draw_okF N ops m l env H K hc h hx
end Go.Ab
namespace Go.Ab
variable [GlobEnv] [FrEnv] [KnEnv]
def chkF (P:Program) (D:Array Oper->List Nat->List Ins->Bool) (fn:Func) (i:IC) (rs:List RS):Bool :=
 (match fn.body with | some c => chkC P fn.ntmps D c i | none => false) && !(fn.name == "runtime.NumGoroutine") && chkRes P fn.results.toList rs && decide (fn.params.size + fn.nfree ≤ fn.ntmps)
theorem ok_fn {P:Program} (hm:P.follows .mixedOrders=true) {f:FuncId} {fn:Func} {i:IC} {rs:List RS} (hf:P.funcs[f]? = some fn) (hc:chkF P drawB fn i rs=true)
 {args:List SV} {H:List AO} {out:Out} {H':List AO} (hn:args.length=fn.params.size+fn.nfree)
 (hx:closed H->X P fn.ntmps drawB i (argsEnv args) H (Fin H.length rs out H')):Ok P f args H out H':=by
 unfold chkF at hc
 rw[Bool.and_eq_true,Bool.and_eq_true,Bool.and_eq_true]at hc
 obtain⟨⟨⟨h1,h2⟩,h3⟩,h4⟩:=hc
 split at h1
 · rename_i c hb
   exact ok_of (draw_ok hm) hf hb (by simpa using h2) (by rw[hn]; simpa using h4) h1 h3 hx
 · cases h1
theorem okP_fn {P:Program} (hm:P.follows .mixedOrders=true) {f:FuncId} {fn:Func} {i:IC} {rs:List RS} (hf:P.funcs[f]? = some fn) (hc:chkF P drawB fn i rs=true)
 {args:List SV} {H:List AO} {Pt:Out->List AO->Prop} (hn:args.length=fn.params.size+fn.nfree)
 (hx:closed H->X P fn.ntmps drawB i (argsEnv args) H (FinP H.length rs Pt)):OkP P f args H Pt:=by
 unfold chkF at hc
 rw[Bool.and_eq_true,Bool.and_eq_true,Bool.and_eq_true]at hc
 obtain⟨⟨⟨h1,h2⟩,h3⟩,h4⟩:=hc
 split at h1
 · rename_i c hb
   exact okP_of (draw_ok hm) hf hb (by simpa using h2) (by rw[hn]; simpa using h4) h1 h3 hx
 · cases h1
theorem li_round {P:Program} (hm:P.follows .mixedOrders=true) {N:Nat} {i:IC} {env:Env} {H:List AO} {K:XE->Env->List AO->Prop}
 (h:X P N drawB i env H fun x env H=>match x with | .normal=>LI P N drawB i env H K | x=>K x env H):LI P N drawB i env H K:=LI.round (draw_ok hm) h
theorem isI_i64 (n:Int):(i64 n).isI .i64=true:=rfl
theorem int_i64 (n:Int):(i64 n).int=n:=rfl
theorem isN_i64 (n:Int):(i64 n).isN=true:=rfl
theorem isB_bl (b:Bool):(bl b).isB=true:=rfl
theorem bool_bl (b:Bool):(bl b).bool=b:=rfl
theorem ug_i64 (n:Int):(i64 n).ug=i64 n:=rfl
theorem vd_i64 (n:Int):(i64 n).vd=true:=rfl
theorem ug_bl (b:Bool):(bl b).ug=bl b:=rfl
theorem vd_bl (b:Bool):(bl b).vd=true:=rfl
theorem wrap_id {n:Int} (h1 : -9223372036854775808≤n) (h2:n≤9223372036854775807):IntKind.i64.wrap n=n:=by rw[IntKind.wrap_i64]; omega
theorem val_i64 (n:Int):SV.val (.int .i64 n)=i64 n:=rfl
theorem objCells_new (H L:List AO) (k ver:Nat):objCells (H++L) (H.length+k) ver=objCells L k ver:=by
 unfold objCells; rw[List.getElem?_append_right (by omega)]; simp
theorem objCells_new0 (H L:List AO) (ver:Nat):objCells (H++L) H.length ver=objCells L 0 ver:=objCells_new H L 0 ver
theorem setObj_new (H L:List AO) (k:Nat) (f:AO->AO):setObj (H++L) (H.length+k) f=H++setObj L k f:=by
 unfold setObj
 rw[List.getElem?_append_right (by omega)]
 have:H.length+k-H.length=k:=by omega
 rw[this]
 cases L[k]? with
 | none=>rfl
 | some o=>simp
theorem setObj_new0 (H L:List AO) (f:AO->AO):setObj (H++L) H.length f=H++setObj L 0 f:=setObj_new H L 0 f
end Go.Ab
namespace Go.Ab
variable [GlobEnv] [FrEnv] [KnEnv]
theorem cv_keep {n0:Nat} {H1 H0 L:List AO} {r:SV} (d:Nat) (ks:List Nat) (h:H1=H0++L) (hn:n0≤H0.length) (hcl:closed H0) (hk:keptOk H0.length ks L d ks) :
 Cv n0 r H1 (r.fz H0.length ks L d) (H0++keptO H0.length ks L d):=by
 intro S v hS hsim hv
 subst h
 exact⟨_,(ext_kept hS hk).mono hn,sim_kept hsim hS hcl hk,fz_rel hsim hS hk d (Nat.le_refl _) r v hv⟩
theorem cv_none {n0:Nat} {H1 H0 L:List AO} {r:SV} (d:Nat) (h:H1=H0++L) (hn:n0≤H0.length) (hcl:closed H0):Cv n0 r H1 (r.fz H0.length [] L d) H0:=by
 have:=cv_keep (r:=r) d [] h hn hcl trivial
 simpa[keptO]using this
end Go.Ab
namespace Go.Ab
variable [GlobEnv] [FrEnv] [KnEnv]
def Ev {α:Type} (v:α):α:=v
@[simp] theorem Ev_eq {α:Type} (v:α):Ev v=v:=Eq.trans rfl rfl
theorem Ev_to {α:Type} {v w:α} (h:Ev v=w):v=w:=h
def Kn (K:XE->Env->List AO->Prop) (x:XE) (env:Env) (d:Option Nat) (v:SV) (H:List AO):Prop:=K x (env.put d v) H
@[congr] theorem Kn_congr {K:XE->Env->List AO->Prop} {x:XE} {env:Env} {d:Option Nat} {v v':SV} {H H':List AO} (h1:Ev v=v') (h2:Ev H=H'):Kn K x env d v H=Kn K x env d v' H':=by rw[Ev_to h1,Ev_to h2]
@[simp] theorem Kn_some (K:XE->Env->List AO->Prop) (x:XE) (env:Env) (d:Nat) (v:SV) (H:List AO):Kn K x env (some d) v H=K x ((d,v)::env) H:=rfl
@[simp] theorem Kn_none (K:XE->Env->List AO->Prop) (x:XE) (env:Env) (v:SV) (H:List AO):Kn K x env none v H=K x env H:=rfl
def Ke (K:SV->List AO->Prop) (v:SV) (H:List AO):Prop:=K v H
@[congr] theorem Ke_congr {K:SV->List AO->Prop} {v v':SV} {H H':List AO} (h1:Ev v=v') (h2:Ev H=H'):Ke K v H=Ke K v' H':=by rw[Ev_to h1,Ev_to h2]
@[simp] theorem Ke_go (K:SV->List AO->Prop) (v:SV) (H:List AO):Ke K v H=K v H:=rfl
section
variable {P:Program} {N:Nat} {D:Array Oper->List Nat->List Ins->Bool}
@[simp ↓] theorem X_skip (env:Env) (H:List AO) (K:XE->Env->List AO->Prop):X P N D .skip env H K=K .normal env H:=rfl
@[simp ↓] theorem X_reg (l:List Ins) (env:Env) (H:List AO) (K:XE->Env->List AO->Prop):X P N D (.reg l) env H K=xops P l env H K:=rfl
@[simp ↓] theorem X_drw (m:List Nat) (l:List Ins) (env:Env) (H:List AO) (K:XE->Env->List AO->Prop):X P N D (.drw m l) env H K=xd P [] l env H fun x e H' =>
 match x with
 | .normal=>K .normal e H'
 | x=>K x (offE l env) H':=rfl
@[simp] theorem offE_nil (e:Env):offE [] e=e:=rfl
@[simp] theorem offE_cons (i:Ins) (r:List Ins) (e:Env):offE (i::r) e=(offE r e).put i.d .any:=rfl
@[simp ↓] theorem X_drt (n0:Nat) (m:List Nat) (l tl:List Ins) (env:Env) (H:List AO) (K:XE->Env->List AO->Prop):X P N D (.drt n0 m l tl) env H K=xd P [] l env H fun x env H =>
 match x with
 | .normal=>xops P tl env H K
 | x=>K x env H:=rfl
@[simp ↓] theorem X_dre (os:List (List Nat)) (l:List Ins) (env:Env) (H:List AO) (K:XE->Env->List AO->Prop):X P N D (.dre os l) env H K=xre P l os env H fun x e H=>K x (e.keep (dreK l env)) H:=rfl
@[simp ↓] theorem xrt_nil (n0:Nat) (l:List Ins) (env:Env) (H:List AO) (K:XE->Env->List AO->Prop):xrt P n0 l [] env H K=True:=rfl
@[simp ↓] theorem xrt_cons (n0:Nat) (l:List Ins) (o:List Nat) (os:List (List Nat)) (env:Env) (H:List AO) (K:XE->Env->List AO->Prop):xrt P n0 l (o::os) env H K=(xops P (pickT n0 l o) env H K∧xrt P n0 l os env H K):=rfl
@[simp ↓] theorem pickT_nil (n0:Nat) (l:List Ins):pickT n0 l []=[]:=rfl
@[simp ↓] theorem xre_nil (l:List Ins) (env:Env) (H:List AO) (K:XE->Env->List AO->Prop):xre P l [] env H K=True:=rfl
@[simp ↓] theorem xre_cons (l:List Ins) (o:List Nat) (os:List (List Nat)) (env:Env) (H:List AO) (K:XE->Env->List AO->Prop):xre P l (o::os) env H K=(xops P (pickI l o) env H K∧xre P l os env H K):=rfl
@[simp ↓] theorem pickI_nil (l:List Ins):pickI l []=[]:=rfl
@[simp ↓] theorem X_seq (a b:IC) (env:Env) (H:List AO) (K:XE->Env->List AO->Prop):X P N D (.seq a b) env H K=X P N D a env H fun x env H =>
 match x with
 | .normal=>X P N D b env H K
 | x=>K x env H:=rfl
@[simp ↓] theorem X_blk (id:Nat) (a:IC) (env:Env) (H:List AO) (K:XE->Env->List AO->Prop):X P N D (.blk id a) env H K=X P N D a env H fun x env H =>
 match x with
 | .exit i=>if i=id then K .normal env H else K (.exit i) env H
 | x=>K x env H:=rfl
@[simp ↓] theorem X_scp (a:IC) (env:Env) (H:List AO) (K:XE->Env->List AO->Prop):X P N D (.scp a) env H K=X P N D a env H fun x env H =>
 match x with
 | .goto _=>False
 | x=>K x env H:=rfl
@[simp ↓] theorem X_lab (env:Env) (H:List AO) (K:XE->Env->List AO->Prop):X P N D .lab env H K=K .normal env H:=rfl
@[simp ↓] theorem X_exit (id:Nat) (env:Env) (H:List AO) (K:XE->Env->List AO->Prop):X P N D (.exit id) env H K=K (.exit id) env H:=rfl
@[simp ↓] theorem X_ret (env:Env) (H:List AO) (K:XE->Env->List AO->Prop):X P N D .ret env H K=K .ret env H:=rfl
@[simp ↓] theorem X_keep (ks:List Nat) (a:IC) (env:Env) (H:List AO) (K:XE->Env->List AO->Prop):X P N D (.keep ks a) env H K=X P N D a (env.keep ks) H K:=rfl
def sCond (c:SV) (a b:Prop):Prop:=c.isB=true∧if c.bool=true then a else b
@[congr] theorem sCond_congr {c c':SV} {a b:Prop} (h:Ev c=c'):sCond c a b=sCond c' a b:=by rw[Ev_to h]
@[simp] theorem sCond_go (c:SV) (a b:Prop):sCond c a b=(c.isB=true∧if c.bool=true then a else b):=rfl
@[simp ↓] theorem X_cond (c:Od) (a b:IC) (env:Env) (H:List AO) (K:XE->Env->List AO->Prop):X P N D (.cond c a b) env H K=sCond (env.ev c) (X P N D a env H K) (X P N D b env H K):=by
 apply propext
 simp only[X,sCond]
 cases (env.ev c).bool<;>simp
def Lp (P:Program) (N:Nat) (D:Array Oper->List Nat->List Ins->Bool) (i:IC) (env:Env) (H:List AO) (K:XE->Env->List AO->Prop):Prop:=LI P N D i env H K
@[congr] theorem Lp_congr {i:IC} {env env':Env} {H H':List AO} {K:XE->Env->List AO->Prop} (h:Ev env=env') (h2:Ev H=H'):Lp P N D i env H K=Lp P N D i env' H' K:=by rw[Ev_to h,Ev_to h2]
@[simp ↓] theorem X_loop (i:IC) (env:Env) (H:List AO) (K:XE->Env->List AO->Prop):X P N D (.loop i) env H K=Lp P N D i env H K:=rfl
@[simp ↓] theorem xops_nil (env:Env) (H:List AO) (K:XE->Env->List AO->Prop):xops P [] env H K=K .normal env H:=rfl
@[simp ↓] theorem xops_cons (o:Ins) (r:List Ins) (env:Env) (H:List AO) (K:XE->Env->List AO->Prop):xops P (o::r) env H K=xo P o env H fun x env H =>
 match x with
 | .normal=>xops P r env H K
 | x=>K x env H:=rfl
def CallTo (P:Program) (f:SV) (args:List SV) (H:List AO) (K:Out->List AO->Prop):Prop:=∃ Pt:Out->List AO->Prop,OkCP P f args H Pt∧∀ out H',Pt out H'->K out H'
@[congr] theorem CallTo_congr {f f':SV} {args args':List SV} {H H':List AO} {K:Out->List AO->Prop} (h1:Ev f=f') (h2:Ev args=args') (h3:Ev H=H'):CallTo P f args H K=CallTo P f' args' H' K:=by rw[Ev_to h1,Ev_to h2,Ev_to h3]
theorem call_of {k:FuncId} {a b args:List SV} {H H':List AO} {out:Out} {K:Out->List AO->Prop} (h:Ok P k (a++args++b) H out H') (hk:K out H'):CallTo P (.fn (.func k) a b) args H K :=
 ⟨_,⟨rfl,h.toP⟩,fun o h' hp=>by obtain⟨rfl,rfl⟩:=hp; exact hk⟩
theorem call_ofP {k:FuncId} {a b args:List SV} {H:List AO} {Pt:Out->List AO->Prop} {K:Out->List AO->Prop} (h:OkP P k (a++args++b) H Pt) (hk:∀ out H',Pt out H'->K out H'):CallTo P (.fn (.func k) a b) args H K :=
 ⟨_,⟨rfl,h⟩,hk⟩
theorem call_goP {k:FuncId} {args:List SV} {H:List AO} {Pt:Out->List AO->Prop} {K:Out->List AO->Prop} (h:OkP P k args H Pt) (hk:∀ out H',Pt out H'->K out H'):CallTo P (.fn (.func k) [] []) args H K :=
 call_ofP (by simpa using h) hk
theorem call_go {k:FuncId} {args:List SV} {H H':List AO} {out:Out} {K:Out->List AO->Prop} (h:Ok P k args H out H') (hk:K out H'):CallTo P (.fn (.func k) [] []) args H K :=
 call_of (by simpa using h) hk
def CallQ (P:Program) (on:Bool) (f:SV) (args:List SV) (H:List AO) (K:SV->Prop):Prop:=∃ r,(on=true->OkC P f args H (.ret r) H)∧K r
@[congr] theorem CallQ_congr {on on':Bool} {f f':SV} {args args':List SV} {H H':List AO} {K:SV->Prop} (h0:Ev on=on') (h1:Ev f=f') (h2:Ev args=args') (h3:Ev H=H'):CallQ P on f args H K=CallQ P on' f' args' H' K:=by rw[Ev_to h0,Ev_to h1,Ev_to h2,Ev_to h3]
theorem callq_of {on:Bool} {k:FuncId} {a b args:List SV} {H:List AO} {r:SV} {K:SV->Prop} (h:on=true->Ok P k (a++args++b) H (.ret r) H) (hk:K r):CallQ P on (.fn (.func k) a b) args H K :=
 ⟨r,fun ho=>⟨rfl,h ho⟩,hk⟩
theorem callq_go {on:Bool} {k:FuncId} {args:List SV} {H:List AO} {r:SV} {K:SV->Prop} (h:on=true->Ok P k args H (.ret r) H) (hk:K r):CallQ P on (.fn (.func k) [] []) args H K :=
 callq_of (by simpa using h) hk
theorem callq_off (f:SV) (args:List SV) (H:List AO) (K:SV->Prop) (h:K .any):CallQ P false f args H K:=⟨.any,fun h=>by simp at h,h⟩
theorem okC_go {k:FuncId} {args:List SV} {H H':List AO} {out:Out} (h:Ok P k args H out H'):OkC P (.fn (.func k) [] []) args H out H':=⟨rfl,by show Ok P k ([]++args++[]) H out H'; simpa using h⟩
@[simp ↓] theorem xo_p (d:Option Nat) (i:I) (env:Env) (H:List AO) (K:XE->Env->List AO->Prop):xo P ⟨d,none,.p i⟩ env H K=((pv i env.ev H).1∧Kn K .normal env d (pv i env.ev H).2 H):=rfl
@[simp ↓] theorem xo_call (d:Option Nat) (f:Od) (args:List Od) (env:Env) (H:List AO) (K:XE->Env->List AO->Prop):xo P ⟨d,none,.e (.call f args)⟩ env H K=CallTo P (env.ev f) (args.map env.ev) H fun out H' =>
     match out with
     | .ret r=>K .normal (env.put d r) H'
     | .pan x=>K (.panic x) env H':=rfl
def sOn (c:SV) (want:Bool) (F:Bool->Prop):Prop:=c.bish=true∧F (c.on want)
@[congr] theorem sOn_congr {c c':SV} {want:Bool} {F:Bool->Prop} (h:Ev c=c'):sOn c want F=sOn c' want F:=by rw[Ev_to h]
def sGo (b:Bool) (F:Bool->Prop):Prop:=F b
@[congr] theorem sGo_congr {b b':Bool} {F:Bool->Prop} (h:Ev b=b'):sGo b F=sGo b' F:=by rw[Ev_to h]
@[simp] theorem sGo_go (b:Bool) (F:Bool->Prop):sGo b F=F b:=rfl
@[simp] theorem sOn_go (c:SV) (want:Bool) (F:Bool->Prop):sOn c want F=(c.bish=true∧sGo (c.on want) F):=rfl
@[simp ↓] theorem xo_gp (d:Option Nat) (s:Nat) (want:Bool) (i:I) (env:Env) (H:List AO) (K:XE->Env->List AO->Prop):xo P ⟨d,some (s,want),.p i⟩ env H K=sOn (env.get s) want fun b=>(b=true->(pv i env.ev H).1)∧Kn K .normal env d (.gd b (pv i env.ev H).2) H:=rfl
@[simp ↓] theorem xo_gq (d:Option Nat) (s:Nat) (want:Bool) (f:Od) (args:List Od) (env:Env) (H:List AO) (K:XE->Env->List AO->Prop):xo P ⟨d,some (s,want),.q f args⟩ env H K=sOn (env.get s) want fun b=>CallQ P b (env.ev f) (args.map env.ev) H fun r=>K .normal (env.put d (.gd b r)) H:=rfl
@[simp ↓] theorem xo_ge (d:Option Nat) (s:Nat) (want:Bool) (i:E) (env:Env) (H:List AO) (K:XE->Env->List AO->Prop):xo P ⟨d,some (s,want),.e i⟩ env H K=sOn (env.get s) want fun b=>if b=true then xo P ⟨d,none,.e i⟩ env H K else K .normal (env.put d (.val undef)) H:=by
 apply propext
 simp only[xo,sOn,xj]
 cases (env.get s).on want<;>simp
def xdn (P:Program) (pend:List (Ins×SV)) (o:Ins) (v:SV) (r:List Ins) (env:Env) (H:List AO) (K:XE->Env->List AO->Prop):Prop:=xd P ((o,v)::pend) r (env.put o.d v) H K
@[congr] theorem xdn_congr {pend:List (Ins×SV)} {o:Ins} {v v':SV} {r:List Ins} {env:Env} {H:List AO} {K:XE->Env->List AO->Prop} (h:Ev v=v'):xdn P pend o v r env H K=xdn P pend o v' r env H K:=by rw[Ev_to h]
@[simp ↓] theorem xd_nil (pend:List (Ins×SV)) (env:Env) (H:List AO) (K:XE->Env->List AO->Prop):xd P pend [] env H K=K .normal env H:=rfl
@[simp ↓] theorem xd_p (pend:List (Ins×SV)) (d:Option Nat) (i:I) (r:List Ins) (env:Env) (H:List AO) (K:XE->Env->List AO->Prop):xd P pend (⟨d,none,.p i⟩::r) env H K=((pv i env.ev H).1∧xdn P pend ⟨d,none,.p i⟩ (pv i env.ev H).2 r env H K):=rfl
@[simp ↓] theorem xd_q (pend:List (Ins×SV)) (d:Option Nat) (f:Od) (args:List Od) (r:List Ins) (env:Env) (H:List AO) (K:XE->Env->List AO->Prop):xd P pend (⟨d,none,.q f args⟩::r) env H K=CallQ P true (env.ev f) (args.map env.ev) H fun v=>xd P ((⟨d,none,.q f args⟩,v)::pend) r (env.put d v) H K:=by
 simp only[CallQ,true_implies]; rfl
@[simp ↓] theorem xd_gp (pend:List (Ins×SV)) (d:Option Nat) (s:Nat) (want:Bool) (i:I) (r:List Ins) (env:Env) (H:List AO) (K:XE->Env->List AO->Prop):xd P pend (⟨d,some (s,want),.p i⟩::r) env H K=sOn (env.get s) want fun b=>(b=true->(pv i env.ev H).1)∧xdn P pend ⟨d,some (s,want),.p i⟩ (.gd b (pv i env.ev H).2) r env H K:=rfl
@[simp ↓] theorem xd_gq (pend:List (Ins×SV)) (d:Option Nat) (s:Nat) (want:Bool) (f:Od) (args:List Od) (r:List Ins) (env:Env) (H:List AO) (K:XE->Env->List AO->Prop):xd P pend (⟨d,some (s,want),.q f args⟩::r) env H K=sOn (env.get s) want fun b=>CallQ P b (env.ev f) (args.map env.ev) H fun v=>xd P ((⟨d,some (s,want),.q f args⟩,.gd b v)::pend) r (env.put d (.gd b v)) H K:=rfl
def owed (P:Program) (env:Env) (H:List AO):List (Ins×SV)->Prop
 | []=>True
 | p::r=>quietV P p.1 env H p.2∧owed P env H r
theorem owed_eq (env:Env) (H:List AO):∀ l,owed P env H l=∀ p∈l,quietV P p.1 env H p.2
 | []=>by simp[owed]
 | p::r=>by simp only[owed,owed_eq env H r,List.forall_mem_cons]
attribute [simp] loose needed hasD Ins.slots J.slots I.ods E.ods Od.slots
@[simp] theorem owed_nil (env:Env) (H:List AO):owed P env H []=True:=rfl
@[simp] theorem owed_cons (env:Env) (H:List AO) (o:Ins) (v:SV) (r:List (Ins×SV)):owed P env H ((o,v)::r)=(quietV P o env H v∧owed P env H r):=rfl
@[simp ↓] theorem xd_e (pend:List (Ins×SV)) (d:Option Nat) (g:Option (Nat×Bool)) (i:E) (r:List Ins) (env:Env) (H:List AO) (K:XE->Env->List AO->Prop):xd P pend (⟨d,g,.e i⟩::r) env H K=xo P ⟨d,g,.e i⟩ env H fun x env' H' =>
     match x with
     | .normal=>owed P env' H' (pend.filter fun p=>loose ⟨d,g,.e i⟩ pend p.1)∧xd P pend r env' H' K
     | x=>K x [] H':=by
 rw[xd,if_neg (by simp[J.quiet])]
 congr 1
 funext x env' H'
 cases x<;>try rfl
 simp only[owed_eq,List.mem_filter,and_imp]
@[simp ↓] theorem quietV_p (d:Option Nat) (i:I) (env:Env) (H:List AO) (v:SV):quietV P ⟨d,none,.p i⟩ env H v=((pv i env.ev H).1∧v=(pv i env.ev H).2):=rfl
@[simp ↓] theorem quietV_q (d:Option Nat) (f:Od) (args:List Od) (env:Env) (H:List AO) (v:SV):quietV P ⟨d,none,.q f args⟩ env H v=OkC P (env.ev f) (args.map env.ev) H (.ret v) H:=rfl
@[simp ↓] theorem quietV_gp (d:Option Nat) (s:Nat) (want:Bool) (i:I) (env:Env) (H:List AO) (v:SV):quietV P ⟨d,some (s,want),.p i⟩ env H v=sOn (env.get s) want fun b=>(b=true->(pv i env.ev H).1)∧v=.gd b (pv i env.ev H).2:=rfl
@[simp] theorem dep_p (i:I):J.dep (.p i)=(match i with | .ld1 _ | .ldn _ _ | .sla _ _ _ _ _ | .lkp _ _ _ _ _ | .bys _=>true | _=>false):=by cases i<;>rfl
@[simp] theorem xdn_go (pend:List (Ins×SV)) (o:Ins) (v:SV) (r:List Ins) (env:Env) (H:List AO) (K:XE->Env->List AO->Prop):xdn P pend o v r env H K=xd P ((o,v)::pend) r (env.put o.d v) H K:=rfl
def s_alc (T:TypeId) (z:List SV) (H:List AO) (K:SV->List AO->Prop):Prop:=K (.ptr (.own H.length 0 0 0 0) 0) (H++[⟨z,T,0,true⟩])
@[congr] theorem s_alc_congr {T:TypeId} {z:List SV} {H H':List AO} {K:SV->List AO->Prop} (h9:Ev H=H'):s_alc T z H K=s_alc T z H' K:=by rw[Ev_to h9]
@[simp ↓] theorem xo_alc (d:Option Nat) (T:TypeId) (z:List SV) (env:Env) (H:List AO) (K:XE->Env->List AO->Prop):xo P ⟨d,none,.e (.alc T z)⟩ env H K=s_alc T z H fun v H'=>K .normal (env.put d v) H':=rfl
@[simp] theorem s_alc_go (T:TypeId) (z:List SV) (H:List AO) (K:SV->List AO->Prop):s_alc T z H K=(Ke K (.ptr (.own H.length 0 0 0 0) 0) (H++[⟨z,T,0,true⟩])):=rfl
def s_box (T:TypeId) (x:SV) (H:List AO) (K:SV->List AO->Prop):Prop:=x.vd=true∧cellsOk x.ug.flat∧K (.ptr (.own H.length 0 0 0 0) 0) (H++[⟨x.ug.flat,T,0,true⟩])
@[congr] theorem s_box_congr {T:TypeId} {x x':SV} {H H':List AO} {K:SV->List AO->Prop} (h0:Ev x=x') (h9:Ev H=H'):s_box T x H K=s_box T x' H' K:=by rw[Ev_to h0,Ev_to h9]
@[simp ↓] theorem xo_box (d:Option Nat) (T:TypeId) (x:Od) (env:Env) (H:List AO) (K:XE->Env->List AO->Prop):xo P ⟨d,none,.e (.box T x)⟩ env H K=s_box T (env.ev x) H fun v H'=>K .normal (env.put d v) H':=rfl
@[simp] theorem s_box_go (T:TypeId) (x:SV) (H:List AO) (K:SV->List AO->Prop):s_box T x H K=(x.vd=true∧cellsOk x.ug.flat∧Ke K (.ptr (.own H.length 0 0 0 0) 0) (H++[⟨x.ug.flat,T,0,true⟩])):=rfl
def s_mks (T:TypeId) (sz:Nat) (bytes:Nat) (z:List SV) (len:SV) (cap:SV) (H:List AO) (K:SV->List AO->Prop):Prop:=len.isN=true∧cap.isN=true∧0≤len.int∧len.int≤cap.int∧bytes*cap.int≤140737488355328∧cap.int≤140737488355328∧K (.own H.length 0 len.int.toNat sz 0) (H++[⟨(List.replicate len.int.toNat z).flatten,T,0,true⟩])
@[congr] theorem s_mks_congr {T:TypeId} {sz:Nat} {bytes:Nat} {z:List SV} {len len':SV} {cap cap':SV} {H H':List AO} {K:SV->List AO->Prop} (h0:Ev len=len') (h1:Ev cap=cap') (h9:Ev H=H'):s_mks T sz bytes z len cap H K=s_mks T sz bytes z len' cap' H' K:=by rw[Ev_to h0,Ev_to h1,Ev_to h9]
@[simp ↓] theorem xo_mks (d:Option Nat) (T:TypeId) (sz:Nat) (bytes:Nat) (z:List SV) (len:Od) (cap:Od) (env:Env) (H:List AO) (K:XE->Env->List AO->Prop):xo P ⟨d,none,.e (.mks T sz bytes z len cap)⟩ env H K=s_mks T sz bytes z (env.ev len) (env.ev cap) H fun v H'=>K .normal (env.put d v) H':=rfl
@[simp] theorem s_mks_go (T:TypeId) (sz:Nat) (bytes:Nat) (z:List SV) (len:SV) (cap:SV) (H:List AO) (K:SV->List AO->Prop):s_mks T sz bytes z len cap H K=(len.isN=true∧cap.isN=true∧0≤len.int∧len.int≤cap.int∧bytes*cap.int≤140737488355328∧cap.int≤140737488355328∧Ke K (.own H.length 0 len.int.toNat sz 0) (H++[⟨(List.replicate len.int.toNat z).flatten,T,0,true⟩])):=rfl
def s_app (T:TypeId) (sz:Nat) (bytes:Nat) (s:SV) (x:SV) (H:List AO) (K:SV->List AO->Prop):Prop:=s.vd=true∧x.vd=true∧x.ug.isSl=true∧x.ug.slen*sz≤(x.ug.row H).length∧cellsOk (x.ug.els H sz) ∧
     (s.ug.slen+x.ug.slen)*bytes≤140737488355328∧s.ug.slen+x.ug.slen≤140737488355328 ∧
     match s.ug with
     | .own i 0 n sz' ver =>
       sz'=sz∧(∃ o,H[i]? = some o∧o.live=true∧o.ver=ver∧o.ty=T∧o.cells.length=n*sz)∧K (.own i 0 (n+x.ug.slen) sz (ver+1)) (setObj H i fun o=>o.grow (x.ug.els H sz))
     | v=>v.isNil=true∧K (.own H.length 0 x.ug.slen sz 1) (H++[⟨x.ug.els H sz,T,1,true⟩])
@[congr] theorem s_app_congr {T:TypeId} {sz:Nat} {bytes:Nat} {s s':SV} {x x':SV} {H H':List AO} {K:SV->List AO->Prop} (h0:Ev s=s') (h1:Ev x=x') (h9:Ev H=H'):s_app T sz bytes s x H K=s_app T sz bytes s' x' H' K:=by rw[Ev_to h0,Ev_to h1,Ev_to h9]
@[simp ↓] theorem xo_app (d:Option Nat) (T:TypeId) (sz:Nat) (bytes:Nat) (s:Od) (x:Od) (env:Env) (H:List AO) (K:XE->Env->List AO->Prop):xo P ⟨d,none,.e (.app T sz bytes s x)⟩ env H K=s_app T sz bytes (env.ev s) (env.ev x) H fun v H'=>K .normal (env.put d v) H':=rfl
def objIs (H:List AO) (i ver:Nat) (T:TypeId) (m:Nat):Prop:=∃ o,H[i]? = some o∧o.live=true∧o.ver=ver∧o.ty=T∧o.cells.length=m
@[simp] theorem s_app_own (T:TypeId) (sz bytes i n sz' ver:Nat) (x:SV) (H:List AO) (K:SV->List AO->Prop):s_app T sz bytes (.own i 0 n sz' ver) x H K=(x.vd=true∧x.ug.isSl=true∧x.ug.slen*sz≤(x.ug.row H).length∧cellsOk (x.ug.els H sz) ∧
     (n+x.ug.slen)*bytes≤140737488355328∧n+x.ug.slen≤140737488355328∧sz'=sz∧objIs H i ver T (n*sz)∧Ke K (.own i 0 (n+x.ug.slen) sz (ver+1)) (setObj H i fun o=>o.grow (x.ug.els H sz))):=by
 simp[s_app,SV.vd,SV.ug,SV.slen,objIs,Ke]
def s_cpy (sz:Nat) (d x:SV) (H:List AO) (K:SV->List AO->Prop):Prop:=d.vd=true∧x.vd=true∧x.ug.isSl=true∧x.ug.slen*sz≤(x.ug.row H).length∧cellsOk (x.ug.els H sz) ∧
     match d.ug with
     | .own i off n _ ver=>0<n∧n=x.ug.slen∧off+n≤(objCells H i ver).length∧K (i64 n) (setObj H i fun o=>o.put off (x.ug.els H sz))
     | _=>False
@[simp ↓] theorem xo_cpy (d:Option Nat) (sz:Nat) (s x:Od) (env:Env) (H:List AO) (K:XE->Env->List AO->Prop):xo P ⟨d,none,.e (.cpy sz s x)⟩ env H K=s_cpy sz (env.ev s) (env.ev x) H fun v H'=>K .normal (env.put d v) H':=rfl
def s_st (n:Nat) (p:SV) (x:SV) (H:List AO) (K:SV->List AO->Prop):Prop:=p.vd=true∧x.vd=true∧cellsOk x.ug.flat∧x.ug.flat.length=n∧0<n ∧
     match p.ug with
     | .ptr (.own i off _ _ ver) k=>off+k+n≤(objCells H i ver).length∧K (.val undef) (setObj H i fun o=>o.put (off+k) x.ug.flat)
     | _=>False
@[congr] theorem s_st_congr {n:Nat} {p p':SV} {x x':SV} {H H':List AO} {K:SV->List AO->Prop} (h0:Ev p=p') (h1:Ev x=x') (h9:Ev H=H'):s_st n p x H K=s_st n p' x' H' K:=by rw[Ev_to h0,Ev_to h1,Ev_to h9]
@[simp ↓] theorem xo_st (d:Option Nat) (n:Nat) (p:Od) (x:Od) (env:Env) (H:List AO) (K:XE->Env->List AO->Prop):xo P ⟨d,none,.e (.st n p x)⟩ env H K=s_st n (env.ev p) (env.ev x) H fun v H'=>K .normal (env.put d v) H':=rfl
@[simp] theorem s_st_ptr (n i off len sz ver k:Nat) (x:SV) (H:List AO) (K:SV->List AO->Prop):s_st n (.ptr (.own i off len sz ver) k) x H K=(x.vd=true∧cellsOk x.ug.flat∧x.ug.flat.length=n∧0<n ∧
     off+k+n≤(objCells H i ver).length∧Ke K (.val undef) (setObj H i fun o=>o.put (off+k) x.ug.flat)):=by
 simp[s_st,SV.vd,SV.ug,Ke]
def s_pan (x:SV) (K:SV->Prop):Prop:=x.vd=true∧match x.ug with
 | .ifc t y=>K (.ifc t y)
 | _=>False
@[congr] theorem s_pan_congr {x x':SV} {K:SV->Prop} (h:Ev x=x'):s_pan x K=s_pan x' K:=by rw[Ev_to h]
@[simp] theorem s_pan_ifc (t:TypeId) (y:SV) (K:SV->Prop):s_pan (.ifc t y) K=K (.ifc t y):=by simp[s_pan,SV.vd,SV.ug]
@[simp ↓] theorem xo_pan (d:Option Nat) (x:Od) (env:Env) (H:List AO) (K:XE->Env->List AO->Prop):xo P ⟨d,none,.e (.pan x)⟩ env H K=s_pan (env.ev x) fun y=>K (.panic y) env H:=rfl
@[simp ↓] theorem xo_stw (d:Option Nat) (ws:List Nat) (n:Nat) (p x:Od) (env:Env) (H:List AO) (K:XE->Env->List AO->Prop):xo P ⟨d,none,.e (.stw ws n p x)⟩ env H K=s_st n (env.ev p) (env.ev x) H fun v H'=>K .normal (env.put d v) H':=rfl
def s_nil (T:TypeId) (sz:Nat) (x:SV) (H:List AO) (K:SV->List AO->Prop):Prop:=x.vd=true∧x.ug.isNil=true∧K (.own H.length 0 0 sz 0) (H++[⟨[],T,0,true⟩])
@[congr] theorem s_nil_congr {T:TypeId} {sz:Nat} {x x':SV} {H H':List AO} {K:SV->List AO->Prop} (h0:Ev x=x') (h9:Ev H=H'):s_nil T sz x H K=s_nil T sz x' H' K:=by rw[Ev_to h0,Ev_to h9]
@[simp ↓] theorem xo_nil (d:Option Nat) (T:TypeId) (sz:Nat) (x:Od) (env:Env) (H:List AO) (K:XE->Env->List AO->Prop):xo P ⟨d,none,.e (.nil T sz x)⟩ env H K=s_nil T sz (env.ev x) H fun v H'=>K .normal (env.put d v) H':=rfl
@[simp] theorem s_nil_go (T:TypeId) (sz:Nat) (x:SV) (H:List AO) (K:SV->List AO->Prop):s_nil T sz x H K=(x.vd=true∧x.ug.isNil=true∧Ke K (.own H.length 0 0 sz 0) (H++[⟨[],T,0,true⟩])):=rfl
def s_sl0 (T:TypeId) (sz:Nat) (x:SV) (H:List AO) (K:SV->List AO->Prop):Prop:=x.vd=true∧x.ug.isSl=true∧K (.own H.length 0 0 sz 0) (H++[⟨[],T,0,true⟩])
@[simp ↓] theorem xo_sl0 (d:Option Nat) (T:TypeId) (sz:Nat) (x:Od) (env:Env) (H:List AO) (K:XE->Env->List AO->Prop):xo P ⟨d,none,.e (.sl0 T sz x)⟩ env H K=s_sl0 T sz (env.ev x) H fun v H'=>K .normal (env.put d v) H':=rfl
@[simp] theorem s_sl0_go (T:TypeId) (sz:Nat) (x:SV) (H:List AO) (K:SV->List AO->Prop):s_sl0 T sz x H K=(x.vd=true∧x.ug.isSl=true∧Ke K (.own H.length 0 0 sz 0) (H++[⟨[],T,0,true⟩])):=rfl
def s_aps (T:TypeId) (s:SV) (x:SV) (H:List AO) (K:SV->List AO->Prop):Prop:=s.vd=true∧x.isS=true∧s.ug.slen+x.str.size≤140737488355328 ∧
     match s.ug with
     | .own i 0 n sz' ver =>
       sz'=1∧(∃ o,H[i]? = some o∧o.live=true∧o.ver=ver∧o.ty=T∧o.cells.length=n*1)∧K (.own i 0 (n+x.str.size) 1 (ver+1)) (setObj H i fun o=>o.grow (sbyts x.str))
     | v=>v.isNil=true∧K (.own H.length 0 x.str.size 1 1) (H++[⟨sbyts x.str,T,1,true⟩])
@[simp ↓] theorem xo_aps (d:Option Nat) (T:TypeId) (s:Od) (x:Od) (env:Env) (H:List AO) (K:XE->Env->List AO->Prop):xo P ⟨d,none,.e (.aps T s x)⟩ env H K=s_aps T (env.ev s) (env.ev x) H fun v H'=>K .normal (env.put d v) H':=rfl
def s_sby (x:SV) (H:List AO) (K:SV->List AO->Prop):Prop:=x.isS=true∧K (.slc (sbyts x.str) x.str.size) H
@[simp ↓] theorem xo_sby (d:Option Nat) (x:Od) (env:Env) (H:List AO) (K:XE->Env->List AO->Prop):xo P ⟨d,none,.e (.sby x)⟩ env H K=s_sby (env.ev x) H fun v H'=>K .normal (env.put d v) H':=rfl
@[simp] theorem s_sby_go (x:SV) (H:List AO) (K:SV->List AO->Prop):s_sby x H K=(x.isS=true∧Ke K (.slc (sbyts x.str) x.str.size) H):=rfl
def s_mkm (T:TypeId) (H:List AO) (K:SV->List AO->Prop):Prop:=K (.mp H.length 0) (H++[⟨[.mk []],T,0,false⟩])
@[congr] theorem s_mkm_congr {T:TypeId} {H H':List AO} {K:SV->List AO->Prop} (h9:Ev H=H'):s_mkm T H K=s_mkm T H' K:=by rw[Ev_to h9]
@[simp ↓] theorem xo_mkm (d:Option Nat) (T:TypeId) (env:Env) (H:List AO) (K:XE->Env->List AO->Prop):xo P ⟨d,none,.e (.mkm T)⟩ env H K=s_mkm T H fun v H'=>K .normal (env.put d v) H':=rfl
@[simp] theorem s_mkm_go (T:TypeId) (H:List AO) (K:SV->List AO->Prop):s_mkm T H K=Ke K (.mp H.length 0) (H++[⟨[.mk []],T,0,false⟩]):=rfl
def s_mup (kk:KK) (m k v:SV) (H:List AO) (K:SV->List AO->Prop):Prop:=m.vd=true∧k.isK kk=true∧v.vd=true ∧
     match m.ug,m.ug.mapOf H with
     | .mp i _,some x=>x.1.all kk.is=true∧(∀ v∈k.key kk::x.1,kk.knows v)∧K (.val undef) (setObj H i fun o=>{ o with cells:=.mk (msetK (k.key kk) x.1)::msetV (k.key kk) v.ug x.1 x.2 })
     | _,_=>False
@[congr] theorem s_mup_congr {kk:KK} {m m' k k' v v':SV} {H H':List AO} {K:SV->List AO->Prop} (h0:Ev m=m') (h1:Ev k=k') (h2:Ev v=v') (h9:Ev H=H'):s_mup kk m k v H K=s_mup kk m' k' v' H' K:=by rw[Ev_to h0,Ev_to h1,Ev_to h2,Ev_to h9]
@[simp ↓] theorem xo_mup (d:Option Nat) (kk:KK) (m k v:Od) (env:Env) (H:List AO) (K:XE->Env->List AO->Prop):xo P ⟨d,none,.e (.mup kk m k v)⟩ env H K=s_mup kk (env.ev m) (env.ev k) (env.ev v) H fun w H'=>K .normal (env.put d w) H':=rfl
theorem s_mup_go {kk:KK} {i ver:Nat} {k v:SV} {H:List AO} {K:SV->List AO->Prop} {x:List Value×List SV} (hm:(SV.mp i ver).mapOf H=some x) (hk:k.isK kk=true) (hv:v.vd=true) (ha:x.1.all kk.is=true)
 (h:K (.val undef) (setObj H i fun o=>{ o with cells:=.mk (msetK (k.key kk) x.1)::msetV (k.key kk) v.ug x.1 x.2 })) (hkn:∀ v∈k.key kk::x.1,kk.knows v:=by simp):s_mup kk (.mp i ver) k v H K:=by
 refine⟨rfl,hk,hv,?_⟩
 simp only[SV.ug]
 rw[hm]
 exact⟨ha,hkn,h⟩
def CallN (P:Program) (f:SV) (args:List SV) (H:List AO) (K:SV->List AO->Prop):Prop:=∃ (r:SV) (L:List AO),(∀ H':List AO,H'.length=H.length->OkC P f args H' (.ret r) (H'++L))∧K r (H++L)
@[simp ↓] theorem xo_calln (d:Option Nat) (f:Od) (args:List Od) (env:Env) (H:List AO) (K:XE->Env->List AO->Prop):xo P ⟨d,none,.e (.calln f args)⟩ env H K=CallN P (env.ev f) (args.map env.ev) H fun r H'=>K .normal (env.put d r) H':=rfl
def s_snil (neg:Bool) (right:Bool) (x:SV) (H:List AO) (K:SV->List AO->Prop):Prop:=x.vd=true∧x.ug.isSl=true∧(x.ug.slen≠0->K (bl neg) H)∧(x.ug.slen=0->K (bl neg) H∧K (bl (!neg)) H)
@[simp ↓] theorem xo_snil (d:Option Nat) (neg:Bool) (right:Bool) (x:Od) (env:Env) (H:List AO) (K:XE->Env->List AO->Prop):xo P ⟨d,none,.e (.snil neg right x)⟩ env H K=s_snil neg right (env.ev x) H fun v H'=>K .normal (env.put d v) H':=rfl
@[simp] theorem s_snil_go (neg:Bool) (right:Bool) (x:SV) (H:List AO) (K:SV->List AO->Prop):s_snil neg right x H K=(x.vd=true∧x.ug.isSl=true∧(x.ug.slen≠0->Ke K (bl neg) H)∧(x.ug.slen=0->Ke K (bl neg) H∧Ke K (bl (!neg)) H)):=rfl
def s_bsl (T:TypeId) (sz len:Nat) (z:List SV) (parts:List (Nat×SV)) (H:List AO) (K:SV->List AO->Prop):Prop :=
 (∀ p∈parts,partOk sz p.2∧p.1*sz+sz≤len*sz)∧cellsOk (fillS (List.replicate len z).flatten (parts.map fun p=>(p.1*sz,p.2))) ∧
  K (.own H.length 0 len sz 0) (H++[⟨fillS (List.replicate len z).flatten (parts.map fun p=>(p.1*sz,p.2)),T,0,true⟩])
@[congr] theorem s_bsl_congr {T:TypeId} {sz len:Nat} {z:List SV} {parts parts':List (Nat×SV)} {H H':List AO} {K:SV->List AO->Prop} (h:Ev parts=parts') (h2:Ev H=H'):s_bsl T sz len z parts H K=s_bsl T sz len z parts' H' K:=by rw[Ev_to h,Ev_to h2]
@[simp ↓] theorem xo_bsl (d:Option Nat) (T:TypeId) (sz len:Nat) (z:List SV) (parts:List (Nat×Od)) (env:Env) (H:List AO) (K:XE->Env->List AO->Prop) :
 xo P ⟨d,none,.e (.bsl T sz len z parts)⟩ env H K=s_bsl T sz len z (parts.map fun p=>(p.1,env.ev p.2)) H fun v H'=>K .normal (env.put d v) H':=by
 simp only[xo,xj,xe,s_bsl,List.map_map,Function.comp_def,List.forall_mem_map]
@[simp] theorem s_bsl_go (T:TypeId) (sz len:Nat) (z:List SV) (parts:List (Nat×SV)) (H:List AO) (K:SV->List AO->Prop):s_bsl T sz len z parts H K=(
 (∀ p∈parts,partOk sz p.2∧p.1*sz+sz≤len*sz)∧cellsOk (fillS (List.replicate len z).flatten (parts.map fun p=>(p.1*sz,p.2))) ∧
  Ke K (.own H.length 0 len sz 0) (H++[⟨fillS (List.replicate len z).flatten (parts.map fun p=>(p.1*sz,p.2)),T,0,true⟩])):=rfl
def ldv (H:List AO) (p:SV):SV:=(p.at H).headD .any
def ldvs (H:List AO) (p:SV) (n:Nat):List SV:=(p.at H).take n
def ldok (H:List AO) (p:SV) (n:Nat):Prop:=n≤(p.at H).length
@[simp] theorem ldv_own (H:List AO) (i off len sz ver k:Nat):ldv H (.ptr (.own i off len sz ver) k)=(((objCells H i ver).drop off).drop k).headD .any:=rfl
@[simp] theorem ldv_slc (H:List AO) (c:List SV) (n k:Nat):ldv H (.ptr (.slc c n) k)=(c.drop k).headD .any:=rfl
@[simp] theorem ldvs_own (H:List AO) (i off len sz ver k n:Nat):ldvs H (.ptr (.own i off len sz ver) k) n=(((objCells H i ver).drop off).drop k).take n:=rfl
@[simp] theorem ldvs_slc (H:List AO) (c:List SV) (m k n:Nat):ldvs H (.ptr (.slc c m) k) n=(c.drop k).take n:=rfl
@[simp] theorem ldok_own (H:List AO) (i off len sz ver k n:Nat):ldok H (.ptr (.own i off len sz ver) k) n=(n≤(((objCells H i ver).drop off).drop k).length):=rfl
@[simp] theorem ldok_slc (H:List AO) (c:List SV) (m k n:Nat):ldok H (.ptr (.slc c m) k) n=(n≤(c.drop k).length):=rfl
variable (g:Od->SV) (H:List AO)
@[simp ↓] theorem pv1_mov (x:Od):(pv (.mov x) g H).1=(True):=rfl
@[simp ↓] theorem pv2_mov (x:Od):(pv (.mov x) g H).2=g x:=rfl
@[simp ↓] theorem pv1_pick (c:Od) (a:Od) (b:Od):(pv (.pick c a b) g H).1=((g c).isB=true∧(if(g c).bool=true then(g a).isB=true else(g b).isB=true)):=by
 first
 | rfl
 | (apply propext; simp only[pv]; cases (g c).bool<;>simp)
@[simp ↓] theorem pv2_pick (c:Od) (a:Od) (b:Od):(pv (.pick c a b) g H).2=bl (cond (g c).bool (g a).bool (g b).bool):=by
 first
 | rfl
 | (apply propext; simp only[pv]; cases (g c).bool<;>simp)
@[simp ↓] theorem pv1_neg (k:IntKind) (x:Od):(pv (.neg k x) g H).1=((g x).isI k=true):=rfl
@[simp ↓] theorem pv2_neg (k:IntKind) (x:Od):(pv (.neg k x) g H).2=.val (.int k (k.wrap (0-(g x).int))):=rfl
@[simp ↓] theorem pv1_not (x:Od):(pv (.not x) g H).1=((g x).isB=true):=rfl
@[simp ↓] theorem pv2_not (x:Od):(pv (.not x) g H).2=bl (!(g x).bool):=rfl
@[simp ↓] theorem pv1_cvi (k:IntKind) (x:Od):(pv (.cvi k x) g H).1=((g x).isN=true):=rfl
@[simp ↓] theorem pv2_cvi (k:IntKind) (x:Od):(pv (.cvi k x) g H).2=.val (.int k (k.wrap (g x).int)):=rfl
@[simp ↓] theorem pv1_ld1 (p:Od):(pv (.ld1 p) g H).1=((g p).vd=true∧ldok H (g p).ug 1):=rfl
@[simp ↓] theorem pv2_ld1 (p:Od):(pv (.ld1 p) g H).2=ldv H (g p).ug:=rfl
@[simp ↓] theorem pv1_ldn (n:Nat) (p:Od):(pv (.ldn n p) g H).1=((g p).vd=true∧ldok H (g p).ug n∧0<n):=rfl
@[simp ↓] theorem pv2_ldn (n:Nat) (p:Od):(pv (.ldn n p) g H).2=.agg (ldvs H (g p).ug n):=rfl
@[simp ↓] theorem pv1_ia (sz:Nat) (s:Od) (j:Od):(pv (.ia sz s j) g H).1=((g s).vd=true∧(g s).ug.isSl=true∧(g j).isN=true∧0≤(g j).int∧(g j).int<(g s).ug.slen):=rfl
@[simp ↓] theorem pv2_ia (sz:Nat) (s:Od) (j:Od):(pv (.ia sz s j) g H).2=.ptr (g s).ug ((g j).int.toNat*sz):=rfl
@[simp ↓] theorem pv1_ixs (s:Od) (j:Od):(pv (.ixs s j) g H).1=((g s).isS=true∧(g j).isN=true∧0≤(g j).int∧(g j).int<(g s).str.size):=rfl
@[simp ↓] theorem pv2_ixs (s:Od) (j:Od):(pv (.ixs s j) g H).2=.val (.int .u8 ((g s).str.data.toList.getD (g j).int.toNat 0).toNat):=rfl
@[simp ↓] theorem pv1_sl (sz:Nat) (x:Od) (lo:Option Od) (hi:Option Od):(pv (.sl sz x lo hi) g H).1=((g x).vd=true∧(g x).ug.isSl=true∧(g x).ug.szIs sz=true∧bdOf (lo.map g)∧bdOf (hi.map g)∧loOf (lo.map g)≤hiOf (g x).ug.slen (hi.map g)∧hiOf (g x).ug.slen (hi.map g)≤(g x).ug.slen):=rfl
@[simp ↓] theorem pv2_sl (sz:Nat) (x:Od) (lo:Option Od) (hi:Option Od):(pv (.sl sz x lo hi) g H).2=(g x).ug.cut sz (loOf (lo.map g)) (hiOf (g x).ug.slen (hi.map g)):=rfl
@[simp ↓] theorem pv1_sls (x:Od) (lo:Option Od) (hi:Option Od):(pv (.sls x lo hi) g H).1=((g x).isS=true∧bdOf (lo.map g)∧bdOf (hi.map g)∧loOf (lo.map g)≤hiOf (g x).str.size (hi.map g)∧hiOf (g x).str.size (hi.map g)≤(g x).str.size):=rfl
@[simp ↓] theorem pv2_sls (x:Od) (lo:Option Od) (hi:Option Od):(pv (.sls x lo hi) g H).2=st ((g x).str.extract (loOf (lo.map g)) (hiOf (g x).str.size (hi.map g))):=rfl
@[simp ↓] theorem pv1_sla (n:Nat) (sz:Nat) (p:Od) (lo:Option Od) (hi:Option Od):(pv (.sla n sz p lo hi) g H).1=((g p).vd=true∧ldok H (g p).ug (n*sz)∧0<n*sz∧bdOf (lo.map g)∧bdOf (hi.map g)∧loOf (lo.map g)≤hiOf n (hi.map g)∧hiOf n (hi.map g)≤n):=rfl
@[simp ↓] theorem pv2_sla (n:Nat) (sz:Nat) (p:Od) (lo:Option Od) (hi:Option Od):(pv (.sla n sz p lo hi) g H).2=(g p).ug.cutA sz (loOf (lo.map g)) (hiOf n (hi.map g)):=rfl
@[simp ↓] theorem pv1_len (x:Od):(pv (.len x) g H).1=((g x).vd=true∧(g x).ug.isSl=true):=rfl
@[simp ↓] theorem pv2_len (x:Od):(pv (.len x) g H).2=i64 (g x).ug.slen:=rfl
@[simp ↓] theorem pv1_lens (x:Od):(pv (.lens x) g H).1=((g x).isS=true):=rfl
@[simp ↓] theorem pv2_lens (x:Od):(pv (.lens x) g H).2=i64 (g x).str.size:=rfl
@[simp ↓] theorem pv1_mm (mx:Bool) (k:IntKind) (x:Od) (y:Od):(pv (.mm mx k x y) g H).1=((g x).isI k=true∧(g y).isI k=true):=rfl
@[simp ↓] theorem pv2_mm (mx:Bool) (k:IntKind) (x:Od) (y:Od):(pv (.mm mx k x y) g H).2=.val (.int k (if mx=true then max (g x).int (g y).int else min (g x).int (g y).int)):=rfl
@[simp ↓] theorem pv1_mkf (f:Fn) (first:List Od) (cap:List Od):(pv (.mkf f first cap) g H).1=(True):=rfl
@[simp ↓] theorem pv2_mkf (f:Fn) (first:List Od) (cap:List Od):(pv (.mkf f first cap) g H).2=.fn f (first.map g) (cap.map g):=rfl
@[simp ↓] theorem pv1_mki (t:TypeId) (x:Od):(pv (.mki t x) g H).1=(True):=rfl
@[simp ↓] theorem pv2_mki (t:TypeId) (x:Od):(pv (.mki t x) g H).2=.ifc t (g x):=rfl
@[simp ↓] theorem pv1_kro (T:TypeId) (sz len:Nat) (z:List SV) (parts:List (Nat×SV)):(pv (.kro T sz len z parts) g H).1=True:=rfl
@[simp ↓] theorem pv1_kr1 (T:TypeId) (len:Nat) (z:List SV) (parts:List (Nat×Od)):(pv (.kr1 T len z parts) g H).1=(((fillS (List.replicate len z).flatten (parts.map fun p=>(p.1*1,g p.2))).all SV.isCell=true∧SV.underL 0 (fillS (List.replicate len z).flatten (parts.map fun p=>(p.1*1,g p.2)))=true∧(fillS (List.replicate len z).flatten (parts.map fun p=>(p.1*1,g p.2))).length=len*1)∧∀ p∈parts,p.1*1+1≤len*1∧partOk 1 (g p.2)):=rfl
@[simp ↓] theorem pv2_kr1 (T:TypeId) (len:Nat) (z:List SV) (parts:List (Nat×Od)):(pv (.kr1 T len z parts) g H).2=.slc (fillS (List.replicate len z).flatten (parts.map fun p=>(p.1*1,g p.2))) len:=rfl
@[simp ↓] theorem pv2_kro (T:TypeId) (sz len:Nat) (z:List SV) (parts:List (Nat×SV)):(pv (.kro T sz len z parts) g H).2=.slc (fillS (List.replicate len z).flatten (parts.map fun p=>(p.1*sz,p.2))) len:=rfl
@[simp ↓] theorem pv1_bld (z:List SV) (parts:List (Nat×Nat×Od)):(pv (.bld z parts) g H).1=(∀ p∈parts.map (fun p=>(p.1,p.2.1,g p.2.2)),partOk p.2.1 p.2.2∧p.1+p.2.1≤z.length):=by
 first
 | rfl
 | (apply propext; simp only[pv,List.forall_mem_map])
@[simp ↓] theorem pv2_bld (z:List SV) (parts:List (Nat×Nat×Od)):(pv (.bld z parts) g H).2=.agg (fillS z (parts.map fun p=>(p.1,g p.2.2))):=by
 first
 | rfl
 | (apply propext; simp only[pv,List.forall_mem_map])
def SV.isPt:SV->Bool
 | .ptr _ _=>true
 | _=>false
def SV.isAg:SV->Bool
 | .agg _=>true
 | _=>false
def SV.isTu:SV->Bool
 | .tup _=>true
 | _=>false
def SV.isNc:SV->Bool
 | .ptr _ _=>true
 | .fn (.func _) _ _=>true
 | _=>false
def SV.els':SV->List SV
 | .agg l=>l
 | .tup l=>l
 | _=>[]
def SV.mv (off:Nat):SV->SV
 | .ptr s k=>.ptr s (k+off)
 | _=>.any
@[simp ↓] theorem pv1_fa (off:Nat) (p:Od):(pv (.fa off p) g H).1=((g p).ug.isPt=true∧(g p).vd=true):=by
 cases hu:(g p).ug<;>simp[pv,hu,SV.isPt]
@[simp ↓] theorem pv2_fa (off:Nat) (p:Od) (h:(g p).ug.isPt=true):(pv (.fa off p) g H).2=(g p).ug.mv off:=by
 cases hu:(g p).ug<;>simp[pv,hu,SV.isPt,SV.mv]at h ⊢
@[simp ↓] theorem pv1_fldn (off:Nat) (n:Nat) (x:Od):(pv (.fldn off n x) g H).1=((g x).ug.isAg=true∧(g x).vd=true∧off+n≤(g x).ug.els'.length):=by
 cases hu:(g x).ug<;>simp[pv,hu,SV.isAg,SV.els']
@[simp ↓] theorem pv2_fldn (off:Nat) (n:Nat) (x:Od) (h:(g x).ug.isAg=true):(pv (.fldn off n x) g H).2=.agg (((g x).ug.els'.drop off).take n):=by
 cases hu:(g x).ug<;>simp[pv,hu,SV.isAg,SV.els']at h ⊢
@[simp ↓] theorem pv1_ext (x:Od) (j:Nat):(pv (.ext x j) g H).1=((g x).ug.isTu=true∧(g x).vd=true∧j<(g x).ug.els'.length):=by
 cases hu:(g x).ug<;>simp[pv,hu,SV.isTu,SV.els']
@[simp ↓] theorem pv2_ext (x:Od) (j:Nat) (h:(g x).ug.isTu=true):(pv (.ext x j) g H).2=(g x).ug.els'.getD j .any:=by
 cases hu:(g x).ug<;>simp[pv,hu,SV.isTu,SV.els']at h ⊢
@[simp ↓] theorem pv1_nck (x:Od):(pv (.nck x) g H).1=((g x).ug.isNc=true∧(g x).vd=true):=by
 cases hu:(g x).ug with
 | fn f a b=>cases f<;>simp[pv,hu,SV.isNc]
 | _=>simp[pv,hu,SV.isNc]
@[simp ↓] theorem pv2_nck (x:Od) (h:(g x).ug.isNc=true):(pv (.nck x) g H).2=(g x).ug:=by
 cases hu:(g x).ug with
 | fn f a b=>rw[hu]at h; cases f<;>simp[pv,hu,SV.isNc]at h ⊢
 | _=>simp[hu,SV.isNc]at h ⊢ <;> simp[pv,hu]
@[simp ↓] theorem pv1_eqf (neg:Bool) (ks:List CK) (x y:Od):(pv (.eqf neg ks x y) g H).1=((g x).ug.isAg=true∧(g y).ug.isAg=true∧(g x).vd=true∧(g y).vd=true∧eqSide ks (g x).ug.els' (g y).ug.els'):=by
 cases hu:(g x).ug<;>cases hv:(g y).ug<;>simp[pv,hu,hv,SV.isAg,SV.els']
@[simp ↓] theorem pv2_eqf (neg:Bool) (ks:List CK) (x y:Od) (h:((g x).ug.isAg&&(g y).ug.isAg)=true):(pv (.eqf neg ks x y) g H).2=bl (if neg=true then !eqAll ks (g x).ug.els' (g y).ug.els' else eqAll ks (g x).ug.els' (g y).ug.els'):=by
 cases hu:(g x).ug<;>cases hv:(g y).ug<;>simp[pv,hu,hv,SV.isAg,SV.els']at h ⊢
@[simp ↓] theorem pv1_bin_add_i (k:IntKind) (x y:Od):(pv (.bin .add (.i k) x y) g H).1=((g x).isI k=true∧(g y).isI k=true):=rfl
@[simp ↓] theorem pv2_bin_add_i (k:IntKind) (x y:Od):(pv (.bin .add (.i k) x y) g H).2=.val (.int k (k.wrap ((g x).int+(g y).int))):=rfl
@[simp ↓] theorem pv1_bin_sub_i (k:IntKind) (x y:Od):(pv (.bin .sub (.i k) x y) g H).1=((g x).isI k=true∧(g y).isI k=true):=rfl
@[simp ↓] theorem pv2_bin_sub_i (k:IntKind) (x y:Od):(pv (.bin .sub (.i k) x y) g H).2=.val (.int k (k.wrap ((g x).int-(g y).int))):=rfl
@[simp ↓] theorem pv1_bin_mul_i (k:IntKind) (x y:Od):(pv (.bin .mul (.i k) x y) g H).1=((g x).isI k=true∧(g y).isI k=true):=rfl
@[simp ↓] theorem pv2_bin_mul_i (k:IntKind) (x y:Od):(pv (.bin .mul (.i k) x y) g H).2=.val (.int k (k.wrap ((g x).int*(g y).int))):=rfl
@[simp ↓] theorem pv1_bin_quo_i (k:IntKind) (x y:Od):(pv (.bin .quo (.i k) x y) g H).1=((g x).isI k=true∧(g y).isI k=true∧(g y).int≠0):=rfl
@[simp ↓] theorem pv2_bin_quo_i (k:IntKind) (x y:Od):(pv (.bin .quo (.i k) x y) g H).2=.val (.int k (k.wrap ((g x).int.tdiv (g y).int))):=rfl
@[simp ↓] theorem pv1_bin_rem_i (k:IntKind) (x y:Od):(pv (.bin .rem (.i k) x y) g H).1=((g x).isI k=true∧(g y).isI k=true∧(g y).int≠0):=rfl
@[simp ↓] theorem pv2_bin_rem_i (k:IntKind) (x y:Od):(pv (.bin .rem (.i k) x y) g H).2=.val (.int k ((g x).int.tmod (g y).int)):=rfl
@[simp ↓] theorem pv1_bin_and_i (k:IntKind) (x y:Od):(pv (.bin .and (.i k) x y) g H).1=((g x).isI k=true∧(g y).isI k=true):=rfl
@[simp ↓] theorem pv2_bin_and_i (k:IntKind) (x y:Od):(pv (.bin .and (.i k) x y) g H).2=.val (.int k (bitsI .and k (g x).int (g y).int)):=rfl
@[simp ↓] theorem pv1_bin_or_i (k:IntKind) (x y:Od):(pv (.bin .or (.i k) x y) g H).1=((g x).isI k=true∧(g y).isI k=true):=rfl
@[simp ↓] theorem pv2_bin_or_i (k:IntKind) (x y:Od):(pv (.bin .or (.i k) x y) g H).2=.val (.int k (bitsI .or k (g x).int (g y).int)):=rfl
@[simp ↓] theorem pv1_bin_xor_i (k:IntKind) (x y:Od):(pv (.bin .xor (.i k) x y) g H).1=((g x).isI k=true∧(g y).isI k=true):=rfl
@[simp ↓] theorem pv2_bin_xor_i (k:IntKind) (x y:Od):(pv (.bin .xor (.i k) x y) g H).2=.val (.int k (bitsI .xor k (g x).int (g y).int)):=rfl
@[simp ↓] theorem pv1_bin_andNot_i (k:IntKind) (x y:Od):(pv (.bin .andNot (.i k) x y) g H).1=((g x).isI k=true∧(g y).isI k=true):=rfl
@[simp ↓] theorem pv2_bin_andNot_i (k:IntKind) (x y:Od):(pv (.bin .andNot (.i k) x y) g H).2=.val (.int k (bitsI .andNot k (g x).int (g y).int)):=rfl
@[simp ↓] theorem pv1_bin_eql_i (k:IntKind) (x y:Od):(pv (.bin .eql (.i k) x y) g H).1=((g x).isI k=true∧(g y).isI k=true):=rfl
@[simp ↓] theorem pv2_bin_eql_i (k:IntKind) (x y:Od):(pv (.bin .eql (.i k) x y) g H).2=bl (decide ((g x).int=(g y).int)):=rfl
@[simp ↓] theorem pv1_bin_neq_i (k:IntKind) (x y:Od):(pv (.bin .neq (.i k) x y) g H).1=((g x).isI k=true∧(g y).isI k=true):=rfl
@[simp ↓] theorem pv2_bin_neq_i (k:IntKind) (x y:Od):(pv (.bin .neq (.i k) x y) g H).2=bl (!decide ((g x).int=(g y).int)):=rfl
@[simp ↓] theorem pv1_bin_lss_i (k:IntKind) (x y:Od):(pv (.bin .lss (.i k) x y) g H).1=((g x).isI k=true∧(g y).isI k=true):=rfl
@[simp ↓] theorem pv2_bin_lss_i (k:IntKind) (x y:Od):(pv (.bin .lss (.i k) x y) g H).2=bl (decide ((g x).int<(g y).int)):=rfl
@[simp ↓] theorem pv1_bin_leq_i (k:IntKind) (x y:Od):(pv (.bin .leq (.i k) x y) g H).1=((g x).isI k=true∧(g y).isI k=true):=rfl
@[simp ↓] theorem pv2_bin_leq_i (k:IntKind) (x y:Od):(pv (.bin .leq (.i k) x y) g H).2=bl (decide ((g x).int≤(g y).int)):=rfl
@[simp ↓] theorem pv1_bin_gtr_i (k:IntKind) (x y:Od):(pv (.bin .gtr (.i k) x y) g H).1=((g x).isI k=true∧(g y).isI k=true):=rfl
@[simp ↓] theorem pv2_bin_gtr_i (k:IntKind) (x y:Od):(pv (.bin .gtr (.i k) x y) g H).2=bl (decide ((g y).int<(g x).int)):=rfl
@[simp ↓] theorem pv1_bin_geq_i (k:IntKind) (x y:Od):(pv (.bin .geq (.i k) x y) g H).1=((g x).isI k=true∧(g y).isI k=true):=rfl
@[simp ↓] theorem pv2_bin_geq_i (k:IntKind) (x y:Od):(pv (.bin .geq (.i k) x y) g H).2=bl (decide ((g y).int≤(g x).int)):=rfl
@[simp ↓] theorem pv1_bin_eql_s (x y:Od):(pv (.bin .eql .s x y) g H).1=((g x).isS=true∧(g y).isS=true):=rfl
@[simp ↓] theorem pv2_bin_eql_s (x y:Od):(pv (.bin .eql .s x y) g H).2=bl (decide ((g x).str.data.toList=(g y).str.data.toList)):=rfl
@[simp ↓] theorem pv1_bin_neq_s (x y:Od):(pv (.bin .neq .s x y) g H).1=((g x).isS=true∧(g y).isS=true):=rfl
@[simp ↓] theorem pv2_bin_neq_s (x y:Od):(pv (.bin .neq .s x y) g H).2=bl (!decide ((g x).str.data.toList=(g y).str.data.toList)):=rfl
@[simp ↓] theorem pv1_bin_add_s (x y:Od):(pv (.bin .add .s x y) g H).1=((g x).isS=true∧(g y).isS=true∧(g x).str.size+(g y).str.size≤9223372036854775807):=rfl
@[simp ↓] theorem pv2_bin_add_s (x y:Od):(pv (.bin .add .s x y) g H).2=st ((g x).str++(g y).str):=rfl
@[simp ↓] theorem pv1_bin_eql_b (x y:Od):(pv (.bin .eql .b x y) g H).1=((g x).isB=true∧(g y).isB=true):=rfl
@[simp ↓] theorem pv2_bin_eql_b (x y:Od):(pv (.bin .eql .b x y) g H).2=bl ((g x).bool==(g y).bool):=rfl
@[simp ↓] theorem pv1_bin_neq_b (x y:Od):(pv (.bin .neq .b x y) g H).1=((g x).isB=true∧(g y).isB=true):=rfl
@[simp ↓] theorem pv2_bin_neq_b (x y:Od):(pv (.bin .neq .b x y) g H).2=bl ((g x).bool != (g y).bool):=rfl
@[simp ↓] theorem pv1_gix (k len sz:Nat) (cs:List SV) (j:Od):(pv (.gix k len sz cs j) g H).1=((g j).isN=true∧0≤(g j).int∧(g j).int<len):=rfl
@[simp ↓] theorem pv2_gix (k len sz:Nat) (cs:List SV) (j:Od):(pv (.gix k len sz cs j) g H).2=.ptr (.slc cs cs.length) ((g j).int.toNat*sz):=rfl
@[simp ↓] theorem pv1_ifn (neg right:Bool) (x:Od):(pv (.ifn neg right x) g H).1=((g x).vd=true∧(g x).ug.isIf=true):=rfl
@[simp ↓] theorem pv2_ifn (neg right:Bool) (x:Od):(pv (.ifn neg right x) g H).2=bl (if(g x).ug.ifNil=true then !neg else neg):=rfl
@[simp ↓] theorem pv1_rst (x:Od):(pv (.rst x) g H).1=((g x).isN=true):=rfl
@[simp ↓] theorem pv2_rst (x:Od):(pv (.rst x) g H).2=.val (.string (Utf8.encode (g x).int)):=rfl
@[simp ↓] theorem pv1_fnn (neg right:Bool) (x:Od):(pv (.fnn neg right x) g H).1=((g x).vd=true∧(g x).ug.isFn=true):=rfl
@[simp ↓] theorem pv2_fnn (neg right:Bool) (x:Od):(pv (.fnn neg right x) g H).2=bl (if(g x).ug.fnNil=true then !neg else neg):=rfl
@[simp ↓] theorem pv1_tas (t:TypeId) (ok:Bool) (z:SV) (x:Od):(pv (.tas t ok z x) g H).1=((g x).vd=true∧(g x).ug.isIf=true∧(ok=true∨(g x).ug.ifIs t=true)):=rfl
@[simp ↓] theorem pv2_tas (t:TypeId) (ok:Bool) (z:SV) (x:Od):(pv (.tas t ok z x) g H).2=if ok=true then(if(g x).ug.ifIs t=true then .tup [(g x).ug.ifVal,bl true]else .tup [z,bl false])else(g x).ug.ifVal:=rfl
@[simp ↓] theorem pv_lkp (kk:KK) (ok:Bool) (z:SV) (m k:Od):pv (.lkp kk ok z m k) g H=(match (g m).ug.mapOf H with
 | some x=>((g m).vd=true∧(g k).isK kk=true∧x.1.all kk.is=true∧(∀ v∈(g k).key kk::x.1,kk.knows v),
  if ok=true then .tup [(lkm ((g k).key kk) x.1 x.2).getD z,bl (lkm ((g k).key kk) x.1 x.2).isSome]else(lkm ((g k).key kk) x.1 x.2).getD z)
 | none=>(False,.any)):=rfl
@[simp ↓] theorem pv_iav (sz:Nat) (s j:Od):pv (.iav sz s j) g H=(match (g s).ug with
 | .val (.slice (some a) len _)=>((g s).vd=true∧(g j).isN=true∧0≤(g j).int∧(g j).int<len,.val (.pointer (some (a.add ((g j).int.toNat*sz)))))
 | _=>(False,.any)):=rfl
@[simp ↓] theorem pv_lnv (x:Od):pv (.lnv x) g H=(match (g x).ug with
 | .val (.slice _ len _)=>((g x).vd=true,i64 len)
 | _=>(False,.any)):=rfl
@[simp ↓] theorem pv1_bys (x:Od):(pv (.bys x) g H).1=((g x).vd=true∧(g x).ug.isSl=true∧bysB ((g x).ug.row H) (g x).ug.slen=true):=rfl
@[simp ↓] theorem pv2_bys (x:Od):(pv (.bys x) g H).2=.val (.string (bysS (((g x).ug.row H).take (g x).ug.slen))):=rfl
@[simp ↓] theorem pv1_no:(pv .no g H).1=False:=rfl
@[simp ↓] theorem pv2_no:(pv .no g H).2=.any:=rfl
@[simp ↓] theorem pv_bin_sh (op:BinOp) (k yk:IntKind) (x y:Od):pv (.bin op (.sh k yk) x y) g H=pbin op (.sh k yk) (g x) (g y):=rfl
@[simp ↓] theorem pv_bin_pnil (op:BinOp) (r:Bool) (x y:Od):pv (.bin op (.pnil r) x y) g H=pbin op (.pnil r) (g x) (g y):=rfl
@[simp] theorem pbin_shl (k yk:IntKind) (x y:SV):pbin .shl (.sh k yk) x y=(x.isI k=true∧y.isI yk=true∧0≤y.int,.val (.int k (k.wrap (x.int*2 ^ (min y.int.toNat k.bits))))):=rfl
@[simp] theorem pbin_shr (k yk:IntKind) (x y:SV):pbin .shr (.sh k yk) x y=(x.isI k=true∧y.isI yk=true∧0≤y.int,.val (.int k (x.int.fdiv (2 ^ (min y.int.toNat k.bits))))):=rfl
@[simp] theorem pbin_pnil (op:BinOp) (r:Bool) (x y:SV):pbin op (.pnil r) x y=(match op,(if r=true then x else y).ug with
 | .eql,.ptr _ _=>((if r=true then x else y).vd=true,bl false)
 | .neq,.ptr _ _=>((if r=true then x else y).vd=true,bl true)
 | .eql,.val (.pointer none)=>((if r=true then x else y).vd=true,bl true)
 | .neq,.val (.pointer none)=>((if r=true then x else y).vd=true,bl false)
 | _,_=>(False,.any)):=rfl
end
@[simp] theorem env_get_cons (e:Env) (k t:Nat) (v:SV):Env.get ((k,v)::e) t=if k=t then v else Env.get e t:=rfl
@[simp] theorem env_get_nil (t:Nat):Env.get [] t=.any:=rfl
@[simp] theorem env_ev_t (e:Env) (n:Nat):Env.ev e (.t n)=e.get n:=rfl
@[simp] theorem env_ev_c (e:Env) (s:SV):Env.ev e (.c s)=s:=rfl
@[simp] theorem env_put_some (e:Env) (d:Nat) (v:SV):Env.put e (some d) v=(d,v)::e:=rfl
@[simp] theorem env_put_none (e:Env) (v:SV):Env.put e none v=e:=rfl
@[simp] theorem env_keep_nil (e:Env):Env.keep e []=[]:=rfl
@[simp] theorem env_keep_cons (e:Env) (k:Nat) (r:List Nat):Env.keep e (k::r)=(k,e.get k)::Env.keep e r:=rfl
@[simp] theorem argsEnv_eq (l:List SV):argsEnv l=(List.range l.length).zip l:=rfl
attribute [simp] List.range_succ val_i64 isI_i64 int_i64 isN_i64 isB_bl bool_bl ug_i64 vd_i64 ug_bl vd_bl
@[simp] theorem vd_any  : SV.vd .any=true:=rfl
@[simp] theorem ug_any  : SV.ug .any=.any:=rfl
@[simp] theorem isCell_any  : SV.isCell .any=false:=rfl
@[simp] theorem flat_any  : SV.flat .any=[.any]:=rfl
@[simp] theorem isPt_any  : SV.isPt .any=false:=rfl
@[simp] theorem isAg_any  : SV.isAg .any=false:=rfl
@[simp] theorem isTu_any  : SV.isTu .any=false:=rfl
@[simp] theorem vd_val (v:Value):SV.vd (.val v)=true:=rfl
@[simp] theorem ug_val (v:Value):SV.ug (.val v)=(.val v):=rfl
@[simp] theorem flat_val (v:Value):SV.flat (.val v)=[(.val v)]:=rfl
@[simp] theorem isPt_val (v:Value):SV.isPt (.val v)=false:=rfl
@[simp] theorem isAg_val (v:Value):SV.isAg (.val v)=false:=rfl
@[simp] theorem isTu_val (v:Value):SV.isTu (.val v)=false:=rfl
@[simp] theorem isCell_i64 (n:Int):SV.isCell (i64 n)=true:=rfl
@[simp] theorem flat_i64 (n:Int):SV.flat (i64 n)=[(i64 n)]:=rfl
@[simp] theorem isPt_i64 (n:Int):SV.isPt (i64 n)=false:=rfl
@[simp] theorem isAg_i64 (n:Int):SV.isAg (i64 n)=false:=rfl
@[simp] theorem isTu_i64 (n:Int):SV.isTu (i64 n)=false:=rfl
@[simp] theorem isCell_bl (b:Bool):SV.isCell (bl b)=true:=rfl
@[simp] theorem flat_bl (b:Bool):SV.flat (bl b)=[(bl b)]:=rfl
@[simp] theorem isPt_bl (b:Bool):SV.isPt (bl b)=false:=rfl
@[simp] theorem isAg_bl (b:Bool):SV.isAg (bl b)=false:=rfl
@[simp] theorem isTu_bl (b:Bool):SV.isTu (bl b)=false:=rfl
@[simp] theorem vd_st (s:ByteArray):SV.vd (st s)=true:=rfl
@[simp] theorem ug_st (s:ByteArray):SV.ug (st s)=(st s):=rfl
@[simp] theorem isCell_st (s:ByteArray):SV.isCell (st s)=true:=rfl
@[simp] theorem flat_st (s:ByteArray):SV.flat (st s)=[(st s)]:=rfl
@[simp] theorem isPt_st (s:ByteArray):SV.isPt (st s)=false:=rfl
@[simp] theorem isAg_st (s:ByteArray):SV.isAg (st s)=false:=rfl
@[simp] theorem isTu_st (s:ByteArray):SV.isTu (st s)=false:=rfl
@[simp] theorem vd_slc (c:List SV) (n:Nat):SV.vd (.slc c n)=true:=rfl
@[simp] theorem ug_slc (c:List SV) (n:Nat):SV.ug (.slc c n)=(.slc c n):=rfl
@[simp] theorem isCell_slc (c:List SV) (n:Nat):SV.isCell (.slc c n)=true:=rfl
@[simp] theorem flat_slc (c:List SV) (n:Nat):SV.flat (.slc c n)=[(.slc c n)]:=rfl
@[simp] theorem isPt_slc (c:List SV) (n:Nat):SV.isPt (.slc c n)=false:=rfl
@[simp] theorem isAg_slc (c:List SV) (n:Nat):SV.isAg (.slc c n)=false:=rfl
@[simp] theorem isTu_slc (c:List SV) (n:Nat):SV.isTu (.slc c n)=false:=rfl
@[simp] theorem vd_own (i off len sz ver:Nat):SV.vd (.own i off len sz ver)=true:=rfl
@[simp] theorem ug_own (i off len sz ver:Nat):SV.ug (.own i off len sz ver)=(.own i off len sz ver):=rfl
@[simp] theorem isCell_own (i off len sz ver:Nat):SV.isCell (.own i off len sz ver)=true:=rfl
@[simp] theorem flat_own (i off len sz ver:Nat):SV.flat (.own i off len sz ver)=[(.own i off len sz ver)]:=rfl
@[simp] theorem isPt_own (i off len sz ver:Nat):SV.isPt (.own i off len sz ver)=false:=rfl
@[simp] theorem isAg_own (i off len sz ver:Nat):SV.isAg (.own i off len sz ver)=false:=rfl
@[simp] theorem isTu_own (i off len sz ver:Nat):SV.isTu (.own i off len sz ver)=false:=rfl
@[simp] theorem vd_ptr (s:SV) (k:Nat):SV.vd (.ptr s k)=true:=rfl
@[simp] theorem ug_ptr (s:SV) (k:Nat):SV.ug (.ptr s k)=(.ptr s k):=rfl
@[simp] theorem isCell_ptr (s:SV) (k:Nat):SV.isCell (.ptr s k)=true:=rfl
@[simp] theorem flat_ptr (s:SV) (k:Nat):SV.flat (.ptr s k)=[(.ptr s k)]:=rfl
@[simp] theorem isPt_ptr (s:SV) (k:Nat):SV.isPt (.ptr s k)=true:=rfl
@[simp] theorem isAg_ptr (s:SV) (k:Nat):SV.isAg (.ptr s k)=false:=rfl
@[simp] theorem isTu_ptr (s:SV) (k:Nat):SV.isTu (.ptr s k)=false:=rfl
@[simp] theorem vd_agg (l:List SV):SV.vd (.agg l)=true:=rfl
@[simp] theorem ug_agg (l:List SV):SV.ug (.agg l)=(.agg l):=rfl
@[simp] theorem isCell_agg (l:List SV):SV.isCell (.agg l)=false:=rfl
@[simp] theorem isPt_agg (l:List SV):SV.isPt (.agg l)=false:=rfl
@[simp] theorem isAg_agg (l:List SV):SV.isAg (.agg l)=true:=rfl
@[simp] theorem isTu_agg (l:List SV):SV.isTu (.agg l)=false:=rfl
@[simp] theorem vd_tup (l:List SV):SV.vd (.tup l)=true:=rfl
@[simp] theorem ug_tup (l:List SV):SV.ug (.tup l)=(.tup l):=rfl
@[simp] theorem isCell_tup (l:List SV):SV.isCell (.tup l)=false:=rfl
@[simp] theorem flat_tup (l:List SV):SV.flat (.tup l)=[(.tup l)]:=rfl
@[simp] theorem isPt_tup (l:List SV):SV.isPt (.tup l)=false:=rfl
@[simp] theorem isAg_tup (l:List SV):SV.isAg (.tup l)=false:=rfl
@[simp] theorem isTu_tup (l:List SV):SV.isTu (.tup l)=true:=rfl
@[simp] theorem vd_fn (f:Fn) (a b:List SV):SV.vd (.fn f a b)=true:=rfl
@[simp] theorem ug_fn (f:Fn) (a b:List SV):SV.ug (.fn f a b)=(.fn f a b):=rfl
@[simp] theorem isCell_fn (f:Fn) (a b:List SV):SV.isCell (.fn f a b)=true:=rfl
@[simp] theorem flat_fn (f:Fn) (a b:List SV):SV.flat (.fn f a b)=[(.fn f a b)]:=rfl
@[simp] theorem isPt_fn (f:Fn) (a b:List SV):SV.isPt (.fn f a b)=false:=rfl
@[simp] theorem isAg_fn (f:Fn) (a b:List SV):SV.isAg (.fn f a b)=false:=rfl
@[simp] theorem isTu_fn (f:Fn) (a b:List SV):SV.isTu (.fn f a b)=false:=rfl
@[simp] theorem vd_ifc (t:TypeId) (x:SV):SV.vd (.ifc t x)=true:=rfl
@[simp] theorem ug_ifc (t:TypeId) (x:SV):SV.ug (.ifc t x)=(.ifc t x):=rfl
@[simp] theorem isCell_ifc (t:TypeId) (x:SV):SV.isCell (.ifc t x)=true:=rfl
@[simp] theorem flat_ifc (t:TypeId) (x:SV):SV.flat (.ifc t x)=[(.ifc t x)]:=rfl
@[simp] theorem isPt_ifc (t:TypeId) (x:SV):SV.isPt (.ifc t x)=false:=rfl
@[simp] theorem isAg_ifc (t:TypeId) (x:SV):SV.isAg (.ifc t x)=false:=rfl
@[simp] theorem isTu_ifc (t:TypeId) (x:SV):SV.isTu (.ifc t x)=false:=rfl
@[simp] theorem isCell_val (v:Value):SV.isCell (.val v)=v.oneCell':=rfl
@[simp] theorem flat_agg (l:List SV):SV.flat (.agg l)=l:=rfl
@[simp] theorem vd_gd (b:Bool) (x:SV):SV.vd (.gd b x)=(b&&x.vd):=rfl
@[simp] theorem ug_gd (b:Bool) (x:SV):SV.ug (.gd b x)=x.ug:=rfl
@[simp] theorem isI_gd (k:IntKind) (b:Bool) (x:SV):SV.isI k (.gd b x)=(b&&x.isI k):=rfl
@[simp] theorem isN_gd (b:Bool) (x:SV):SV.isN (.gd b x)=(b&&x.isN):=rfl
@[simp] theorem isB_gd (b:Bool) (x:SV):SV.isB (.gd b x)=(b&&x.isB):=rfl
@[simp] theorem isS_gd (b:Bool) (x:SV):SV.isS (.gd b x)=(b&&x.isS):=rfl
@[simp] theorem int_gd (b:Bool) (x:SV):SV.int (.gd b x)=x.int:=rfl
@[simp] theorem bool_gd (b:Bool) (x:SV):SV.bool (.gd b x)=x.bool:=rfl
@[simp] theorem str_gd (b:Bool) (x:SV):SV.str (.gd b x)=x.str:=rfl
@[simp] theorem isI_val' (k k':IntKind) (n:Int):SV.isI k (.val (.int k' n))=decide (k'=k):=rfl
@[simp] theorem isN_val' (k':IntKind) (n:Int):SV.isN (.val (.int k' n))=true:=rfl
@[simp] theorem int_val' (k':IntKind) (n:Int):SV.int (.val (.int k' n))=n:=rfl
@[simp] theorem isB_val' (b:Bool):SV.isB (.val (.bool b))=true:=rfl
@[simp] theorem bool_val' (b:Bool):SV.bool (.val (.bool b))=b:=rfl
@[simp] theorem isS_st (s:ByteArray):SV.isS (st s)=true:=rfl
@[simp] theorem str_st (s:ByteArray):SV.str (st s)=s:=rfl
@[simp] theorem on_bl (want b:Bool):SV.on want (bl b)=(b==want):=rfl
@[simp] theorem on_gd (want b:Bool) (x:SV):SV.on want (.gd b x)=(b&&x.on want):=rfl
@[simp] theorem bish_bl (b:Bool):SV.bish (bl b)=true:=rfl
@[simp] theorem bish_gd (b:Bool) (x:SV):SV.bish (.gd b x)=x.bish:=rfl
@[simp] theorem mv_ptr (off:Nat) (s:SV) (k:Nat):SV.mv off (.ptr s k)=.ptr s (k+off):=rfl
@[simp] theorem els_agg (l:List SV):SV.els' (.agg l)=l:=rfl
@[simp] theorem els_tup (l:List SV):SV.els' (.tup l)=l:=rfl
@[simp] theorem isNc_ptr (s:SV) (k:Nat):SV.isNc (.ptr s k)=true:=rfl
@[simp] theorem isNc_fn (f:FuncId) (a b:List SV):SV.isNc (.fn (.func f) a b)=true:=rfl
@[simp] theorem slen_slc (c:List SV) (n:Nat):SV.slen (.slc c n)=n:=rfl
@[simp] theorem slen_own (i off len sz ver:Nat):SV.slen (.own i off len sz ver)=len:=rfl
@[simp] theorem isSl_slc (c:List SV) (n:Nat):SV.isSl (.slc c n)=true:=rfl
@[simp] theorem isSl_own (i off len sz ver:Nat):SV.isSl (.own i off len sz ver)=true:=rfl
@[simp] theorem row_slc (H:List AO) (c:List SV) (n:Nat):SV.row H (.slc c n)=c:=rfl
@[simp] theorem row_own (H:List AO) (i off len sz ver:Nat):SV.row H (.own i off len sz ver)=(objCells H i ver).drop off:=rfl
@[simp] theorem at_ptr (H:List AO) (s:SV) (k:Nat):SV.at H (.ptr s k)=(s.row H).drop k:=rfl
@[simp] theorem els_eq (H:List AO) (sz:Nat) (s:SV):SV.els H sz s=(s.row H).take (s.slen*sz):=rfl
@[simp] theorem isNil_val:SV.isNil (.val (.slice none 0 0))=true:=rfl
@[simp] theorem szIs_own (sz i off len s ver:Nat):SV.szIs sz (.own i off len s ver)=(s==sz):=rfl
@[simp] theorem szIs_slc (sz:Nat) (c:List SV) (n:Nat):SV.szIs sz (.slc c n)=true:=rfl
@[simp] theorem cut_slc (sz l h:Nat) (cs:List SV) (n:Nat):SV.cut sz l h (.slc cs n)=.slc ((cs.drop (l*sz)).take ((h-l)*sz)) (h-l):=rfl
@[simp] theorem cut_own (sz l h i off n s ver:Nat):SV.cut sz l h (.own i off n s ver)=.own i (off+l*sz) (h-l) s ver:=rfl
@[simp] theorem loOf_some (x:SV):loOf (some x)=x.int.toNat:=rfl
@[simp] theorem loOf_none:loOf none=0:=rfl
@[simp] theorem hiOf_some (n:Nat) (x:SV):hiOf n (some x)=x.int.toNat:=rfl
@[simp] theorem hiOf_none (n:Nat):hiOf n none=n:=rfl
@[simp] theorem bdOf_some (x:SV):bdOf (some x)=(x.isN=true∧0≤x.int):=rfl
@[simp] theorem bdOf_none:bdOf none=True:=rfl
@[simp] theorem partOk_agg (n:Nat) (l:List SV):partOk n (.agg l)=(l.length=n):=by simp[partOk]
@[simp] theorem partOk_i64 (n:Nat) (k:Int):partOk n (i64 k)=(n=1):=by
 show(n=1∧(i64 k).isCell=true∧true=true)=_
 simp
@[simp] theorem partOk_bl (n:Nat) (k:Bool):partOk n (bl k)=(n=1):=by
 show(n=1∧(bl k).isCell=true∧true=true)=_
 simp
@[simp] theorem partOk_st (n:Nat) (k:ByteArray):partOk n (st k)=(n=1):=by
 show(n=1∧(st k).isCell=true∧true=true)=_
 simp
@[simp] theorem partOk_slc (n:Nat) (c:List SV) (k:Nat):partOk n (.slc c k)=(n=1):=by simp[partOk,SV.ug,SV.vd,SV.isCell]
@[simp] theorem partOk_own (n i off len sz ver:Nat):partOk n (.own i off len sz ver)=(n=1):=by simp[partOk,SV.ug,SV.vd,SV.isCell]
@[simp] theorem partOk_fn (n:Nat) (f:Fn) (a b:List SV):partOk n (.fn f a b)=(n=1):=by simp[partOk,SV.ug,SV.vd,SV.isCell]
@[simp] theorem fillS_nil (z:List SV):fillS z []=z:=rfl
@[simp] theorem fillS_cons (z:List SV) (off:Nat) (v:SV) (r:List (Nat×SV)):fillS z ((off,v)::r)=fillS (z.take off++v.ug.flat++z.drop (off+v.ug.flat.length)) r:=rfl
@[simp] theorem cellsOk_nil:cellsOk []=True:=by simp[cellsOk]
@[simp] theorem cellsOk_cons (s:SV) (l:List SV):cellsOk (s::l)=(s.isCell=true∧cellsOk l):=by simp[cellsOk]
@[simp] theorem cellsOk_append (a b:List SV):cellsOk (a++b)=(cellsOk a∧cellsOk b):=by
 apply propext; constructor
 · intro h; exact⟨fun s hs=>h s (by simp[hs]),fun s hs=>h s (by simp[hs])⟩
 · rintro⟨h1,h2⟩ s hs; rcases List.mem_append.1 hs with h | h
   · exact h1 s h
   · exact h2 s h
def ints (l:List Int):List SV:=l.map i64
@[simp] theorem ints_length (l:List Int):(ints l).length=l.length:=by simp[ints]
attribute [simp] objCells_new objCells_new0 setObj_new setObj_new0
@[simp] theorem objCells_hit (o:AO) (r:List AO) (ver:Nat):objCells (o::r) 0 ver=if(o.live&&o.ver==ver)=true then o.cells else []:=by simp[objCells]
@[simp] theorem objCells_next (o:AO) (r:List AO) (k ver:Nat):objCells (o::r) (k+1) ver=objCells r k ver:=by simp[objCells]
@[simp] theorem setObj_hit (o:AO) (r:List AO) (f:AO->AO):setObj (o::r) 0 f=f o::r:=by simp[setObj]
@[simp] theorem setObj_next (o:AO) (r:List AO) (k:Nat) (f:AO->AO):setObj (o::r) (k+1) f=o::setObj r k f:=by
 simp only[setObj,List.getElem?_cons_succ]; cases r[k]? <;> simp
@[simp] theorem objIs_new (H L:List AO) (k ver:Nat) (T:TypeId) (m:Nat):objIs (H++L) (H.length+k) ver T m=objIs L k ver T m:=by
 unfold objIs; rw[List.getElem?_append_right (by omega)]; simp
@[simp] theorem objIs_hit (o:AO) (r:List AO) (ver:Nat) (T:TypeId) (m:Nat):objIs (o::r) 0 ver T m=(o.live=true∧o.ver=ver∧o.ty=T∧o.cells.length=m):=by simp[objIs]
@[simp] theorem objIs_next (o:AO) (r:List AO) (k ver:Nat) (T:TypeId) (m:Nat):objIs (o::r) (k+1) ver T m=objIs r k ver T m:=by simp[objIs]
attribute [simp] AO.put AO.grow eqSide eqAll SV.under SV.underL keptO keptOk placeOf
@[simp] theorem under_i64 (n:Nat) (k:Int):SV.under n (i64 k)=true:=rfl
@[simp] theorem under_bl (n:Nat) (b:Bool):SV.under n (bl b)=true:=rfl
@[simp] theorem under_st (n:Nat) (s:ByteArray):SV.under n (st s)=true:=rfl
@[simp] theorem fin_normal (n0:Nat) (rs:List RS) (r:SV) (H':List AO) (env:Env) (H1:List AO):Ab.Fin n0 rs (.ret r) H' .normal env H1=((∀ s∈rs,s.side env H1)∧Cv n0 (resV env H1 rs) H1 r H'):=rfl
@[simp] theorem fin_ret (n0:Nat) (rs:List RS) (r:SV) (H':List AO) (env:Env) (H1:List AO):Ab.Fin n0 rs (.ret r) H' .ret env H1=((∀ s∈rs,s.side env H1)∧Cv n0 (resV env H1 rs) H1 r H'):=rfl
@[simp] theorem finP_normal (n0:Nat) (rs:List RS) (Pt:Out->List AO->Prop) (env:Env) (H1:List AO):Ab.FinP n0 rs Pt .normal env H1=((∀ s∈rs,s.side env H1)∧FinQ n0 Pt (resV env H1 rs) H1):=rfl
@[simp] theorem finP_ret (n0:Nat) (rs:List RS) (Pt:Out->List AO->Prop) (env:Env) (H1:List AO):Ab.FinP n0 rs Pt .ret env H1=((∀ s∈rs,s.side env H1)∧FinQ n0 Pt (resV env H1 rs) H1):=rfl
@[congr] theorem FinQ_congr {n0:Nat} {Pt:Out->List AO->Prop} {v v':SV} {H H':List AO} (h:Ev v=v') (h1:Ev H=H'):FinQ n0 Pt v H=FinQ n0 Pt v' H':=by rw[Ev_to h,Ev_to h1]
@[simp] theorem fin_pan (n0:Nat) (rs:List RS) (x y:SV) (H':List AO) (env:Env) (H1:List AO):Ab.Fin n0 rs (.pan y) H' (.panic x) env H1=Cv n0 x H1 y H':=rfl
attribute [simp] RS.side RS.ev resV
theorem cv_fz {n0:Nat} {H L:List AO} {r r1:SV} (d:Nat) (hcl:closed H) (hn:n0=H.length) (h:r1.fz H.length [] L d=r):Cv n0 r1 (H++L) r H:=by
 subst h; exact cv_none d rfl (by omega) hcl
theorem cv_id {n0:Nat} {H:List AO} {r:SV}:Cv n0 r H r H:=fun S v hS hsim hv=>⟨S.ρ,by subst hS; exact Ext.refl _ _,by subst hS; exact hsim,by subst hS; exact hv⟩
theorem fz_under {n:Nat} {ks:List Nat} {L:List AO} {d:Nat} {s:SV} (h:s.under n=true):SV.fz n ks L (d+1) s=s:=by unfold SV.fz; rw[if_pos h]
@[simp] theorem fz_i64 (n:Nat) (ks:List Nat) (L:List AO) (d:Nat) (k:Int):SV.fz n ks L (d+1) (i64 k)=i64 k:=fz_under rfl
@[simp] theorem fz_bl (n:Nat) (ks:List Nat) (L:List AO) (d:Nat) (k:Bool):SV.fz n ks L (d+1) (bl k)=bl k:=fz_under rfl
@[simp] theorem fz_ints (n:Nat) (ks:List Nat) (L:List AO) (d:Nat) (l:List Int):(ints l).map (SV.fz n ks L (d+1))=ints l:=by
 simp only[ints,List.map_map]; apply List.map_congr_left; intro k _; exact fz_i64 n ks L d k
end Go.Ab
namespace Go.Ab
variable [GlobEnv] [FrEnv] [KnEnv]
theorem objCells_app {H:List AO} {i ver:Nat} (L:List AO) (h:i<H.length):objCells (H++L) i ver=objCells H i ver:=by
 unfold objCells; rw[List.getElem?_append_left h]
theorem row_app {H:List AO} {x:SV} (L:List AO) (h:x.under H.length=true):x.row (H++L)=x.row H:=by
 cases x<;>try rfl
 rename_i i off len sz ver
 simp only[SV.row]; rw[objCells_app L (by simpa[SV.under]using h)]
namespace IsI
variable {H:List AO} {x:SV} {l:List Int}
end IsI
theorem li_go {P:Program} (hm:P.follows .mixedOrders=true) {N:Nat} {i j:IC} (e:i=j) {env:Env} {H:List AO} {K:XE->Env->List AO->Prop}
 (h:X P N drawB j env H fun x env H=>match x with | .normal=>LI P N drawB i env H K | x=>K x env H):LI P N drawB i env H K:=by
 subst e; exact li_round hm h
@[congr] theorem LI_congr {P:Program} {N:Nat} {D:Array Oper->List Nat->List Ins->Bool} {i:IC} {env env':Env} {H H':List AO} {K:XE->Env->List AO->Prop} (h:Ev env=env') (h2:Ev H=H'):LI P N D i env H K=LI P N D i env' H' K:=by rw[Ev_to h,Ev_to h2]
@[simp] theorem add_lt_left' (n k:Nat):(n+k<n)=False:=by simp
theorem wrap_nat {n:Nat} (h:n≤9223372036854775807):IntKind.i64.wrap (n:Int)=n:=wrap_id (by omega) (by omega)
theorem wrap_suc {n:Nat} (h:n<9223372036854775807):IntKind.i64.wrap ((n:Int)+1)=(n:Int)+1:=wrap_id (by omega) (by omega)
theorem wrap_succ {n:Nat} (h:n<9223372036854775807):IntKind.i64.wrap ((n:Int)+1)=((n+1:Nat):Int):=by rw[wrap_id (by omega) (by omega)]; rfl
@[simp] theorem ints_G {l:List Int} {k:Nat} (h:k<(ints l).length):(ints l)[k]=i64 (l[k]'(by simpa using h)):=by simp[ints]
def SV.strip:SV->SV
 | .gd true x=>x.strip
 | x=>x
theorem vr_strip {S:St} {s:SV} {v:Value} (h:VR S s v):VR S s.strip v:=by
 induction h with
 | gd b x v h0 h ih =>
  cases b with
  | true=>exact ih rfl
  | false=>exact .gd false x v h0 h
 | any v=>exact .any v
 | val v=>exact .val v
 | nilslc=>exact .nilslc
 | slc cells len a cap us hc hl hi h ih=>exact .slc cells len a cap us hc hl hi h
 | own i off len sz ver a cap o ho hv hc hz h=>exact .own i off len sz ver a cap o ho hv hc hz h
 | ptrI cells len k a us hl hi h ih=>exact .ptrI cells len k a us hl hi h
 | ptrO i off len sz ver k a o ho hv h=>exact .ptrO i off len sz ver k a o ho hv h
 | agg l us hl h ih=>exact .agg l us hl h
 | tup l us hl h ih=>exact .tup l us hl h
 | fn f x y us vs hl h hl' h' ih ih'=>exact .fn f x y us vs hl h hl' h'
 | ifc t x v h ih=>exact .ifc t x v h
 | yl i l o ho h=>exact .yl i l o ho h
 | mp i ver l o ho hv h=>exact .mp i ver l o ho hv h
 | mpf vs l es cl us hb hn hu hl h ih=>exact .mpf vs l es cl us hb hn hu hl h
 | pn x v h hr hp ih=>exact .pn x v h hr hp
theorem Ok.strip {P:Program} {f:FuncId} {args:List SV} {H H':List AO} {out:Out} (h:Ok P f (args.map SV.strip) H out H'):Ok P f args H out H' :=
 ⟨h.1,fun S vs hH hS hv=>h.2 S vs hH hS (hv.map fun s v hs=>vr_strip hs)⟩
theorem callq_st {P:Program} {on:Bool} {k:FuncId} {args:List SV} {H:List AO} {r:SV} {K:SV->Prop} (h:on=true->Ok P k (args.map SV.strip) H (.ret r) H) (hk:K r):CallQ P on (.fn (.func k) [] []) args H K :=
 callq_go (fun ho=>(h ho).strip) hk
section
variable (n:Nat) (ks:List Nat) (L:List AO) (d:Nat)
theorem map_fz_under {l:List SV} (h:SV.underL n l=true):l.map (SV.fz n ks L (d+1))=l:=by
 rw[SV.underL_iff]at h
 have:l.map (SV.fz n ks L (d+1))=l.map id:=List.map_congr_left fun s hs=>fz_under (h s hs)
 simpa using this
@[simp] theorem fz_agg (l:List SV):SV.fz n ks L (d+2) (.agg l)=.agg (l.map (SV.fz n ks L (d+1))):=by
 by_cases h:(SV.agg l).under n=true
 · rw[fz_under h]; rw[map_fz_under n ks L d (by simpa[SV.under]using h)]
 · conv=>lhs; unfold SV.fz
   rw[if_neg h]
@[simp] theorem fz_tup (l:List SV):SV.fz n ks L (d+2) (.tup l)=.tup (l.map (SV.fz n ks L (d+1))):=by
 by_cases h:(SV.tup l).under n=true
 · rw[fz_under h]; rw[map_fz_under n ks L d (by simpa[SV.under]using h)]
 · conv=>lhs; unfold SV.fz
   rw[if_neg h]
@[simp] theorem fz_slc (l:List SV) (m:Nat):SV.fz n ks L (d+2) (.slc l m)=.slc (l.map (SV.fz n ks L (d+1))) m:=by
 by_cases h:(SV.slc l m).under n=true
 · rw[fz_under h]; rw[map_fz_under n ks L d (by simpa[SV.under]using h)]
 · conv=>lhs; unfold SV.fz
   rw[if_neg h]
@[simp] theorem fz_st (s:ByteArray):SV.fz n ks L (d+1) (st s)=st s:=fz_under rfl
@[simp] theorem fz_val (v:Value):SV.fz n ks L (d+1) (.val v)=.val v:=fz_under rfl
@[simp] theorem fz_fn0 (f:Fn):SV.fz n ks L (d+1) (.fn f [] [])=.fn f [] []:=fz_under rfl
@[simp] theorem fz_own (k off len sz ver:Nat):SV.fz n ks L (d+1) (.own (n+k) off len sz ver)=(match L[k]? with
     | some o =>
       match placeOf ks k with
       | some p=>if o.ver=ver then .own (n+p) off len sz 0 else .any
       | none=>if o.live=true∧o.ver=ver∧off+len*sz≤o.cells.length then .slc (((o.cells.drop off).take (len*sz)).map (SV.fz n ks L d)) len else .any
     | none=>.any):=by
 conv=>lhs; unfold SV.fz
 rw[if_neg (by simp[SV.under])]
 have e:n+k-n=k:=by omega
 simp only[e]
 cases L[k]? with
 | none=>rfl
 | some o=>cases placeOf ks k<;>rfl
@[simp] theorem fz_own0 (off len sz ver:Nat):SV.fz n ks L (d+1) (.own n off len sz ver)=(match L[0]? with
     | some o =>
       match placeOf ks 0 with
       | some p=>if o.ver=ver then .own (n+p) off len sz 0 else .any
       | none=>if o.live=true∧o.ver=ver∧off+len*sz≤o.cells.length then .slc (((o.cells.drop off).take (len*sz)).map (SV.fz n ks L d)) len else .any
     | none=>.any):=fz_own n ks L d 0 off len sz ver
end
end Go.Ab
namespace Go.Ab
variable [GlobEnv] [FrEnv] [KnEnv]
open Go.RowKit
def st0 (W:World):St:=⟨fun _=>none,[],W⟩
theorem sim0 (W:World) (hg:(st0 W).GL) (hk:KnEnv.kn=[]):Sim (st0 W) :=
 ⟨fun i o h=>by simp[st0]at h,fun i o h=>by simp[st0]at h,fun i j o o' b h=>by simp[st0]at h,fun i o h=>by simp[st0]at h,hg,fun p hp=>by rw[hk]at hp; cases hp⟩
theorem rw0 (W:World) (k:Nat):¬ (st0 W).rw k:=by
 rintro⟨i,o,h,_⟩; simp[st0]at h
theorem below_of_ext {W W':World} {ρ:Nat->Option Nat} {H:List AO} (h:Ext 0 (st0 W) ⟨ρ,H,W'⟩):Below W.heap.size W W' :=
 ⟨h.os,h.tape,h.output,h.size,fun k hk=>(h.imm k hk (rw0 W k)).1⟩
theorem ok_calls [KnNo] {P:Program} {f:FuncId} {args:List SV} (h:Ok P f args [] (.ret (bl true)) []) {W:World} (hg:(st0 W).GL) {vs:List Value} (hv:VRs (st0 W) args vs) :
 Calls P f vs.toArray W fun e W'=>e=.returned (.bool true)∧Below W.heap.size W W':=by
 refine(h.2 (st0 W) vs rfl (sim0 W hg KnNo.nokn) hv).mono ?_
 rintro e W' ⟨v,ρ',hext,_,rfl,hv⟩
 refine⟨?_,below_of_ext hext⟩
 have:=hv.isB rfl
 rw[this]; rfl
end Go.Ab
namespace Go.Ab
variable [GlobEnv] [FrEnv] [KnEnv] [KnNo] [KnOld]
open Go.ChangeShapes Go.WideShapes Go.RowKit
inductive Sh where
 | int (k:IntKind)
 | bool
 | str
 | sl (e:Sh)
 | st (l:List Sh)
inductive Dt where
 | int (k:IntKind) (n:Int)
 | bool (b:Bool)
 | str (s:ByteArray)
 | sl (l:List Dt)
 | agg (l:List Dt)
 deriving Inhabited
mutual
def Dt.cells:Dt->List SV
 | .int k n=>[.val (.int k n)]
 | .bool b=>[bl b]
 | .str s=>[Ab.st s]
 | .sl l=>[.slc (Dt.cellsL l) l.length]
 | .agg l=>Dt.cellsL l
def Dt.cellsL:List Dt->List SV
 | []=>[]
 | d::r=>d.cells++Dt.cellsL r
end
def Dt.sv:Dt->SV
 | .agg l=>.agg (Dt.cellsL l)
 | d=>d.cells.headD .any
mutual
def Sh.has:Sh->Dt->Prop
 | .int k,d=>∃ n,d=.int k n∧(Lit.int k n).wf=true
 | .bool,d=>∃ b,d=.bool b
 | .str,d=>∃ s,d=.str s∧s.size≤maxLen
 | .sl e,d=>∃ l,d=.sl l∧l.length≤maxLen∧∀ x∈l,e.has x
 | .st l,d=>∃ m,d=.agg m∧Sh.hasL l m
def Sh.hasL:List Sh->List Dt->Prop
 | [],m=>m=[]
 | s::r,m=>∃ d m',m=d::m'∧s.has d∧Sh.hasL r m'
end
mutual
def Sh.chk (P:Program):Sh->TypeId->Bool
 | .int k,t=>match P.underlying t with | some (.int k')=>decide (k'=k) | _=>false
 | .bool,t=>match P.underlying t with | some .bool=>true | _=>false
 | .str,t=>match P.underlying t with | some .string=>true | _=>false
 | .sl e,t=>match P.underlying t with | some (.slice e')=>e.chk P e' | _=>false
 | .st l,t=>match P.underlying t with | some (.struct fs)=>Sh.chkL P l fs.toList 0 (P.cellsOf t) | _=>false
def Sh.chkL (P:Program):List Sh->List Field->Nat->Nat->Bool
 | [],fs,off,tot=>fs.isEmpty&&off==tot
 | s::r,fs,off,tot=>match fs with | []=>false | f::fs=>f.offset==off&&s.chk P f.type&&Sh.chkL P r fs (off+P.cellsOf f.type) tot
end
section
variable {H:Type} {enc:TypeId×Value->H} {P:Program} {W:World} {base:Nat} {spare:Nat->Bool} {held:Bool}
theorem cellsL_append (a b:List Dt):Dt.cellsL (a++b)=Dt.cellsL a++Dt.cellsL b:=by
 induction a with
 | nil=>rfl
 | cons x r ih=>simp[Dt.cellsL,ih]
theorem read_row {e:TypeId} {sh:Sh} {n:Nat} {a:Addr} {elems:List (DataW H×List MemPlace)}
 (ih:∀ cs x,DataW.trod enc P W base spare held n e cs=some x->∃ d,sh.has d∧VRs (st0 W) d.cells cs) :
 ∀ k,k≤elems.length->(∀ i,i<k->(W.cells? base (a.add (i*P.cellsOf e)) (P.cellsOf e)).bind (DataW.trod enc P W base spare held n e)=elems[i]?) →
  ∃ (ds:List Dt) (us:List Value),ds.length=k∧(∀ x∈ds,sh.has x)∧VRs (st0 W) (Dt.cellsL ds) us∧us.length=k*P.cellsOf e∧∀ j u,us[j]? = some u->W.cell? (a.add j)=some u:=by
 intro k
 induction k with
 | zero=>intro _ _; exact⟨[],[],rfl,by simp,VRs.nil _,by simp,by simp⟩
 | succ k ihk =>
  intro hk hel
  obtain⟨ds,us,h1,h2,h3,h4,h5⟩:=ihk (by omega) (fun i hi=>hel i (by omega))
  have h6:=hel k (by omega)
  rw[List.getElem?_eq_getElem (by omega),Option.bind_eq_some_iff]at h6
  obtain⟨cs,hcs,ht⟩:=h6
  obtain⟨d,hd,hv⟩:=ih cs _ ht
  obtain⟨_,hlen,hc⟩:=World.cells?_some hcs
  refine⟨ds++[d],us++cs,by simp[h1],?_,?_,?_,?_⟩
  · intro x hx
    rcases List.mem_append.1 hx with hx | hx
    · exact h2 x hx
    · simp at hx; subst hx; exact hd
  · rw[cellsL_append]; simpa[Dt.cellsL]using h3.append hv
  · simp[h4,hlen,Nat.add_mul]
  · intro j u hj
    by_cases hlt:j<us.length
    · rw[List.getElem?_append_left hlt]at hj; exact h5 j u hj
    · rw[List.getElem?_append_right (by omega)]at hj
      have hj':j-us.length<cs.length:=getElem?_lt hj
      have:=hc (j-us.length) (by omega)
      rw[hj,add_add]at this
      rw[←this]; congr 2; omega
mutual
theorem read (sh:Sh):∀ {t:TypeId} {fuel:Nat} {cs:List Value} {x:DataW H×List MemPlace},sh.chk P t=true->DataW.trod enc P W base spare held fuel t cs=some x →
 ∃ d,sh.has d∧VRs (st0 W) d.cells cs:=by
 intro t fuel cs x hc h
 cases sh with
 | int k =>
  simp only[Sh.chk]at hc
  split at hc
  · rename_i k' ht
    have:k'=k:=by simpa using hc
    subst this
    obtain⟨n,rfl,_,hw⟩:=DataW.trod_int ht h
    exact⟨.int k' n,⟨n,rfl,hw⟩,VRs.cons (.val _) (VRs.nil _)⟩
  · cases hc
 | bool =>
  simp only[Sh.chk]at hc
  split at hc
  · rename_i ht
    obtain⟨b,rfl⟩:∃ b,cs=[.bool b]:=by
     cases fuel with
     | zero=>simp[DataW.trod]at h
     | succ n =>
      unfold DataW.trod at h
      rw[ht]at h
      split at h<;>simp_all
    exact⟨.bool b,⟨b,rfl⟩,VRs.cons (.val _) (VRs.nil _)⟩
  · cases hc
 | str =>
  simp only[Sh.chk]at hc
  split at hc
  · rename_i ht
    obtain⟨s,rfl,_,hs⟩:=DataW.trod_string ht h
    exact⟨.str s,⟨s,rfl,hs⟩,VRs.cons (.val _) (VRs.nil _)⟩
  · cases hc
 | sl e =>
  simp only[Sh.chk]at hc
  split at hc
  · rename_i e' ht
    rcases DataW.trod_slice ht h with ⟨rfl,_⟩ | ⟨a,len,cap,elems,rest,n,_,rfl,_,hb,hl,hm,hlen,hel,_,_⟩
    · exact⟨.sl [],⟨[],rfl,by simp,by simp⟩,VRs.cons .nilslc (VRs.nil _)⟩
    · obtain⟨ds,us,h1,h2,h3,h4,h5⟩:=read_row (sh:=e) (fun cs x hx=>read e hc hx) len (by omega) hel
      refine⟨.sl ds,⟨ds,rfl,by omega,h2⟩,VRs.cons ?_ (VRs.nil _)⟩
      have:ds.length=len:=h1
      subst this
      exact .slc _ _ a cap us hl h3.1 ⟨h5,fun _=>rw0 W _,fun hf=>absurd (KnOld.old.symm.trans hf) (by decide)⟩ h3.2
  · cases hc
 | st l =>
  simp only[Sh.chk]at hc
  split at hc
  · rename_i fs ht
    obtain⟨xs,n,_,_,hl,hlen,hf⟩:=DataW.trod_struct ht h
    obtain⟨m,hm,hv⟩:=readL l (n:=n) (cs:=cs) (fs:=fs.toList) (off:=0) (xs:=xs) hc (fun i f hi=>by
     have hlt:i<xs.length:=by rw[hlen]; simpa using getElem?_lt hi
     refine⟨xs[i],?_⟩
     rw[hf i f (by simpa using hi),List.getElem?_eq_getElem hlt]) hl
    exact⟨.agg m,⟨m,rfl,hm⟩,by rw[Dt.cells]; simpa using hv⟩
  · cases hc
theorem readL (l:List Sh):∀ {n:Nat} {cs:List Value} {fs:List Field} {off tot:Nat} {xs:List (DataW H×List MemPlace)},Sh.chkL P l fs off tot=true →
 (∀ (i:Nat) (f:Field),fs[i]? = some f->∃ x,DataW.trod enc P W base spare held n f.type ((cs.drop f.offset).take (P.cellsOf f.type))=some x)->cs.length=tot →
 ∃ m,Sh.hasL l m∧VRs (st0 W) (Dt.cellsL m) (cs.drop off):=by
 intro n cs fs off tot xs hc hf hl
 cases l with
 | nil =>
  simp only[Sh.chkL,Bool.and_eq_true,List.isEmpty_iff,beq_iff_eq]at hc
  refine⟨[],rfl,?_⟩
  rw[List.drop_of_length_le (by omega)]
  exact VRs.nil _
 | cons s r =>
  simp only[Sh.chkL]at hc
  split at hc
  · cases hc
  · rename_i f fs'
    simp only[Bool.and_eq_true,beq_iff_eq]at hc
    obtain⟨⟨h1,h2⟩,h3⟩:=hc
    obtain⟨x,hx⟩:=hf 0 f rfl
    obtain⟨d,hd,hv⟩:=read s h2 hx
    obtain⟨m,hm,hv'⟩:=readL r (n:=n) (cs:=cs) (fs:=fs') (xs:=xs) h3 (fun i f hi=>hf (i+1) f (by simpa using hi)) hl
    refine⟨d::m,⟨d,m,rfl,hd,hm⟩,?_⟩
    have:=hv.append hv'
    rw[h1,<- List.drop_drop,List.take_append_drop]at this
    simpa[Dt.cellsL]using this
end
end
end Go.Ab
namespace Go.Ab
variable [GlobEnv] [FrEnv] [KnEnv] [KnNo] [KnOld]
open Go.ChangeShapes Go.WideShapes Go.ChangeAt Go.RowKit
section
variable {H:Type} {enc:TypeId×Value->H} {P:Program} {W:World} {base b0:Nat} {spare:Nat->Bool} {held:Bool} {r:Reach}
theorem below_all (hl:laidOutB P=true) {W':World} (hb:Below W.heap.size W W'):∀ {ts:List TypeId} {vs:List Value} {ds:List (DataW H)} {p:List MemPlace},
 (∀ t∈ts,P.readableRec t=true∧t<P.types.size)->DataW.TrodAll enc P W 0 (fun _=>true) true ts vs ds p->DataW.TrodAll enc P W' 0 (fun b=>decide (b<W.heap.size)) true ts vs ds p
 | [],vs,ds,p,_,h=>by obtain⟨rfl,rfl,rfl⟩:=trodAll_nil h; exact trodAll_mk0
 | t::ts,vs,ds,p,hr,h=>by
  obtain⟨v,vs',d,ds',p,q,rfl,rfl,rfl,h1,h2⟩:=trodAll_cons h
  have hlt:∀ x∈p,x.block<W.heap.size:=by obtain⟨m,hm⟩:=h1; exact DataW.trod_lt m _ _ _ hm
  exact trodAll_cons_mk (Below.trod hl (hr t (by simp)).1 (hr t (by simp)).2 h1 hb hlt) (below_all hl hb (fun t ht=>hr t (by simp[ht])) h2)
theorem trodAll_len:∀ {ts:List TypeId} {vs:List Value} {ds:List (DataW H)} {p:List MemPlace},DataW.TrodAll enc P W base spare held ts vs ds p->ds.length=ts.length
 | [],vs,ds,p,h=>by obtain⟨rfl,rfl,rfl⟩:=trodAll_nil h; rfl
 | t::ts,vs,ds,p,h=>by
  obtain⟨v,vs',d,ds',p,q,rfl,rfl,rfl,h1,h2⟩:=trodAll_cons h
  simp[trodAll_len h2]
end
end Go.Ab
namespace Go.Ab
variable [GlobEnv] [FrEnv] [KnEnv]
theorem sv_agg (m:List Dt):(Dt.agg m).sv=.agg (Dt.cellsL m):=rfl
theorem cells_agg (m:List Dt):(Dt.agg m).cells=Dt.cellsL m:=by simp only[Dt.cells]
end Go.Ab
namespace Go.Ab
variable [GlobEnv] [FrEnv] [KnEnv]
def SV.gv (k ver:Nat) (cs:List SV):Nat->SV->SV
 | 0,s=>s
 | d+1,s =>
  match s with
  | .own i off len sz v=>if i=k∧v=ver∧off+len*sz≤cs.length then .slc ((cs.drop off).take (len*sz)) len else .own i off len sz v
  | .agg l=>.agg (l.map (SV.gv k ver cs d))
  | .tup l=>.tup (l.map (SV.gv k ver cs d))
  | s=>s
section
variable {S:St} {k:Nat} {o:AO}
theorem gv_rel (hS:Sim S) (ho:S.H[k]? = some o) (hl:o.live=true):∀ (d:Nat) (s:SV) (v:Value),VR S s v->VR ⟨S.ρ,S.H.set k o.dead,S.w⟩ (s.gv k o.ver o.cells d) v:=by
 have he:=ext_kill ho
 intro d
 induction d with
 | zero=>intro s v h; exact h.ext he
 | succ d ih =>
  intro s v h
  unfold SV.gv
  split
  · rename_i i off len sz ver
    split
    · rename_i hc
      obtain⟨rfl,rfl,hlen⟩:=hc
      obtain⟨ad,cap,rfl,hcap,hz,hat⟩:=h.own_inv ho rfl
      have h1:=hS.live i o ho hl
      unfold St.OwnAt at hat
      cases hρ:S.ρ i with
      | none =>
       rw[hρ]at hat
       obtain⟨rfl,rfl⟩:=hat
       cases ad with
       | none=>simpa using VR.nilslc
       | some a =>
        simp only[Nat.zero_mul,List.take_zero]
        exact .slc [] 0 a 0 [] hcap rfl ⟨fun j u hj=>by simp at hj,fun hne=>absurd rfl hne,imm_part0⟩ fun j s u hj=>by simp at hj
      | some b =>
       rw[hρ]at hat h1
       obtain⟨us,rest,hh,hvr⟩:=h1
       have hul:us.length=o.cells.length:=hvr.1
       have him:(⟨S.ρ,S.H.set i o.dead,S.w⟩:St).Imm ⟨b,off,none⟩ ((us.drop off).take (len*sz)):=by
        refine⟨?_,?_,fun _ _=>.inl ⟨_,_,hh⟩⟩
        · intro j u hj
          rw[List.getElem?_take]at hj
          split at hj
          · rw[List.getElem?_drop]at hj
            have hadd:(⟨b,off,none⟩:Addr).add j=⟨b,off+j,none⟩:=by unfold Addr.add; split<;>simp_all
            rw[hadd]
            show S.w.cell? _=_
            unfold World.cell?
            simp only[hh,Option.isSome_none,Bool.false_eq_true,if_false]
            simp[List.getElem?_append_left (getElem?_lt hj),hj]
          · cases hj
        · rintro hne ⟨j,p,hp,hpl,hpρ⟩
          simp only at hp hpρ
          by_cases hij:j=i
          · subst hij; rw[List.getElem?_set_self (getElem?_lt ho)]at hp; cases hp; simp[AO.dead,AO.own]at hpl
          · rw[List.getElem?_set_ne (by omega)]at hp
            exact hij (hS.inj j i p o b hp ho hpl (AO.own_live hl) hpρ hρ)
       have hvs:VRs (⟨S.ρ,S.H.set i o.dead,S.w⟩:St) ((o.cells.drop off).take (len*sz)) ((us.drop off).take (len*sz)):=((hvr.ext he).drop off).take (len*sz)
       cases ad with
       | none =>
        have h0:=hz rfl
        subst h0
        have hc0:cap=0:=by
         rcases hat with h2 | ⟨h2,_⟩
         · exact h2
         · cases h2
        subst hc0
        simpa using VR.nilslc
       | some a =>
        rcases hat with h2 | ⟨h2,_⟩
        · have:len=0:=by omega
          subst this
          simp only[Nat.zero_mul,List.take_zero]
          exact .slc [] 0 a cap [] hcap rfl ⟨fun j u hj=>by simp at hj,fun hne=>absurd rfl hne,imm_part0⟩ fun j s u hj=>by simp at hj
        · cases h2
          exact .slc _ len _ cap _ hcap hvs.1 him hvs.2
    · exact h.ext he
  · cases h with
    | agg _ us hl h=>exact VR.of_agg (VRs.map (S:=S) (us:=us) ⟨hl,h⟩ ih)
  · cases h with
    | tup _ us hl h=>exact VR.of_tup (VRs.map (S:=S) (us:=us) ⟨hl,h⟩ ih)
  · exact h.ext he
end
theorem Ok.give {P:Program} {f:FuncId} {args:List SV} {H H':List AO} {out:Out} (k:Nat) (d:Nat) {o:AO} (ho:H[k]? = some o) (hl:o.live=true)
 (h:Ok P f (args.map (SV.gv k o.ver o.cells d)) (setObj H k AO.dead) out H'):Ok P f args H out H':=by
 refine⟨h.1,?_⟩
 intro S vs hH hS hvs
 subst hH
 have e:setObj S.H k AO.dead=S.H.set k o.dead:=by unfold setObj; rw[ho]
 have h1:=h.2 ⟨S.ρ,S.H.set k o.dead,S.w⟩ vs e.symm (sim_kill hS ho) (hvs.map (gv_rel hS ho hl d))
 refine h1.mono ?_
 rintro en w' ⟨v,ρ',hext,hsim,hout⟩
 refine⟨v,ρ',(ext_kill ho).trans (hext.mono (by simp)),hsim,hout⟩
@[simp] theorem dead_eq (o:AO):AO.dead o=⟨[],o.ty,o.ver+1,false⟩:=rfl
def AO.gv (k ver:Nat) (cs:List SV) (d:Nat) (p:AO):AO:={ p with cells:=p.cells.map (SV.gv k ver cs d) }
theorem gv_own' {k ver:Nat} {cs:List SV} {d:Nat} {p:AO} (h:(p.gv k ver cs d).own=true):p.own=true:=by
 simpa[AO.own,AO.gv]using h
theorem gv_cell {k ver:Nat} {cs:List SV} {d:Nat} {s:SV} (h:s.isCell=true):(s.gv k ver cs d).isCell=true:=by
 cases d with
 | zero=>exact h
 | succ d =>
  unfold SV.gv
  split
  · split
    · rfl
    · exact h
  · simp[SV.isCell]at h
  · simp[SV.isCell]at h
  · exact h
theorem gv_under {k ver n:Nat} {cs:List SV} (hn:n≤k):∀ (d:Nat) (s:SV),s.under n=true->s.gv k ver cs d=s:=by
 intro d
 induction d with
 | zero=>intro s _; rfl
 | succ d ih =>
  intro s h
  have hm:∀ l:List SV,SV.underL n l=true->l.map (SV.gv k ver cs d)=l:=by
   intro l hl
   rw[SV.underL_iff]at hl
   have:l.map (SV.gv k ver cs d)=l.map id:=List.map_congr_left fun s hs=>ih s (hl s hs)
   simpa using this
  unfold SV.gv
  split
  · simp only[SV.under,decide_eq_true_eq]at h
    rw[if_neg (by omega)]
  · simp only[SV.under]at h; rw[hm _ h]
  · simp only[SV.under]at h; rw[hm _ h]
  · rfl
section
variable (k ver:Nat) (cs:List SV) (d:Nat)
@[simp] theorem gv_zero (s:SV):SV.gv k ver cs 0 s=s:=rfl
@[simp] theorem gv_i64 (n:Int):SV.gv k ver cs d (i64 n)=i64 n:=by cases d<;>rfl
@[simp] theorem gv_bl (b:Bool):SV.gv k ver cs d (bl b)=bl b:=by cases d<;>rfl
@[simp] theorem gv_st (s:ByteArray):SV.gv k ver cs d (st s)=st s:=by cases d<;>rfl
@[simp] theorem gv_val (v:Value):SV.gv k ver cs d (.val v)=.val v:=by cases d<;>rfl
@[simp] theorem gv_any:SV.gv k ver cs d .any=.any:=by cases d<;>rfl
@[simp] theorem gv_slc (l:List SV) (n:Nat):SV.gv k ver cs d (.slc l n)=.slc l n:=by cases d<;>rfl
@[simp] theorem gv_ptr (s:SV) (n:Nat):SV.gv k ver cs d (.ptr s n)=.ptr s n:=by cases d<;>rfl
@[simp] theorem gv_fn (f:Fn) (a b:List SV):SV.gv k ver cs d (.fn f a b)=.fn f a b:=by cases d<;>rfl
@[simp] theorem gv_gd (b:Bool) (x:SV):SV.gv k ver cs d (.gd b x)=.gd b x:=by cases d<;>rfl
@[simp] theorem gv_agg (l:List SV):SV.gv k ver cs (d+1) (.agg l)=.agg (l.map (SV.gv k ver cs d)):=rfl
@[simp] theorem gv_tup (l:List SV):SV.gv k ver cs (d+1) (.tup l)=.tup (l.map (SV.gv k ver cs d)):=rfl
@[simp] theorem gv_own (i off len sz v:Nat):SV.gv k ver cs (d+1) (.own i off len sz v)=if i=k∧v=ver∧off+len*sz≤cs.length then .slc ((cs.drop off).take (len*sz)) len else .own i off len sz v:=rfl
end
theorem gv_below {k ver n:Nat} {cs:List SV} (hc:SV.underL n cs=true):∀ (d:Nat) (s:SV),s.under n=true->(s.gv k ver cs d).under n=true:=by
 intro d
 induction d with
 | zero=>intro s h; exact h
 | succ d ih =>
  intro s h
  have hm:∀ l:List SV,SV.underL n l=true->SV.underL n (l.map (SV.gv k ver cs d))=true:=by
   intro l hl
   rw[SV.underL_iff]at hl ⊢
   intro s hs
   obtain⟨t,ht,rfl⟩:=List.mem_map.1 hs
   exact ih t (hl t ht)
  unfold SV.gv
  split
  · split
    · rw[SV.under,SV.underL_iff]
      rw[SV.underL_iff]at hc
      intro s hs
      exact hc s (List.mem_of_mem_drop (List.mem_of_mem_take hs))
    · exact h
  · simp only[SV.under]at h ⊢; exact hm _ h
  · simp only[SV.under]at h ⊢; exact hm _ h
  · exact h
section
variable {S:St} {H0 L:List AO} {k d:Nat} {o:AO}
def givS (S:St) (H0 L:List AO) (k d:Nat) (o:AO):St:=⟨S.ρ,H0++(L.set k o.dead).map (AO.gv (H0.length+k) o.ver o.cells d),S.w⟩
theorem giv_at {i:Nat} {p:AO} (h:(givS S H0 L k d o).H[i]? = some p) (ho:L[k]? = some o) :
 (i<H0.length∧H0[i]? = some p)∨(i=H0.length+k∧p=AO.gv (H0.length+k) o.ver o.cells d o.dead)∨(∃ p0 j,i=H0.length+j∧j≠k∧L[j]? = some p0∧p=AO.gv (H0.length+k) o.ver o.cells d p0):=by
 simp only[givS]at h
 by_cases hi:i<H0.length
 · rw[List.getElem?_append_left hi]at h; exact .inl ⟨hi,h⟩
 · rw[List.getElem?_append_right (by omega),List.getElem?_map,Option.map_eq_some_iff]at h
   obtain⟨p0,h1,rfl⟩:=h
   right
   by_cases hk:i-H0.length=k
   · left
     rw[hk,List.getElem?_set_self (getElem?_lt ho)]at h1
     cases h1
     exact⟨by omega,rfl⟩
   · right
     rw[List.getElem?_set_ne (by omega)]at h1
     exact⟨p0,i-H0.length,by omega,hk,h1,rfl⟩
theorem giv_ext (hH:S.H=H0++L) (ho:L[k]? = some o):Ext S.H.length S (givS S H0 L k d o) where
 obj:=by
  intro i p hi hp
  rw[hH]at hp hi
  by_cases hlt:i<H0.length
  · rw[List.getElem?_append_left hlt]at hp
    exact⟨p,by simp only[givS]; rw[List.getElem?_append_left hlt]; exact hp,Nat.le_refl _,fun _=>rfl⟩
  · rw[List.getElem?_append_right (by omega)]at hp
    by_cases hk:i-H0.length=k
    · rw[hk,ho]at hp; cases hp
      refine⟨AO.gv (H0.length+k) o.ver o.cells d o.dead,?_,by simp[AO.gv,AO.dead],fun _=>rfl⟩
      simp only[givS]
      rw[List.getElem?_append_right (by omega),List.getElem?_map,hk,List.getElem?_set_self (getElem?_lt ho)]; rfl
    · refine⟨AO.gv (H0.length+k) o.ver o.cells d p,?_,Nat.le_refl _,fun _=>rfl⟩
      simp only[givS]
      rw[List.getElem?_append_right (by omega),List.getElem?_map,List.getElem?_set_ne (by omega),hp]; rfl
 imm:=by
  intro b hb hn
  refine⟨rfl,?_⟩
  rintro⟨i,p,hp,hl,hρ⟩
  rcases giv_at hp ho with ⟨h1,h2⟩ | ⟨rfl,rfl⟩ | ⟨p0,j,rfl,h1,h2,rfl⟩
  · exact hn ⟨i,p,by rw[hH,List.getElem?_append_left h1]; exact h2,hl,hρ⟩
  · simp[AO.gv,AO.dead,AO.own]at hl
  · exact hn ⟨H0.length+j,p0,by rw[hH,List.getElem?_append_right (by omega)]; simpa using h2,gv_own' hl,hρ⟩
 size:=Nat.le_refl _
 shape:=fun _ _ _ h=>h
 loops:=fun _ r h=>⟨r,h⟩
 os:=rfl
 tape:=rfl
 output:=rfl
theorem giv_rel (hS:Sim S) (hH:S.H=H0++L) (ho:L[k]? = some o) (hl:o.live=true) (s:SV) (v:Value) (h:VR S s v):VR (givS S H0 L k d o) (s.gv (H0.length+k) o.ver o.cells d) v:=by
 have ho':S.H[H0.length+k]? = some o:=by rw[hH,List.getElem?_append_right (by omega)]; simpa using ho
 have h1:=gv_rel hS ho' hl d s v h
 refine h1.ext (S:=⟨S.ρ,S.H.set (H0.length+k) o.dead,S.w⟩) ?_
 have hsz:(S.H.set (H0.length+k) o.dead).length=S.H.length:=by simp
 constructor
 · intro i p hi hp
   simp only at hp hi
   by_cases hik:i=H0.length+k
   · subst hik
     rw[List.getElem?_set_self (getElem?_lt ho')]at hp; cases hp
     refine⟨AO.gv (H0.length+k) o.ver o.cells d o.dead,?_,Nat.le_refl _,fun _=>rfl⟩
     simp only[givS]
     rw[List.getElem?_append_right (by omega),List.getElem?_map,Nat.add_sub_cancel_left,List.getElem?_set_self (getElem?_lt ho)]; rfl
   · rw[List.getElem?_set_ne (by omega),hH]at hp
     by_cases hlt:i<H0.length
     · rw[List.getElem?_append_left hlt]at hp
       exact⟨p,by simp only[givS]; rw[List.getElem?_append_left hlt]; exact hp,Nat.le_refl _,fun _=>rfl⟩
     · rw[List.getElem?_append_right (by omega)]at hp
       refine⟨AO.gv (H0.length+k) o.ver o.cells d p,?_,Nat.le_refl _,fun _=>rfl⟩
       simp only[givS]
       rw[List.getElem?_append_right (by omega),List.getElem?_map,List.getElem?_set_ne (by omega),hp]; rfl
 · intro b hb hn
   refine⟨rfl,?_⟩
   rintro⟨i,p,hp,hpl,hρ⟩
   rcases giv_at hp ho with ⟨h1,h2⟩ | ⟨rfl,rfl⟩ | ⟨p0,j,rfl,h1,h2,rfl⟩
   · refine hn ⟨i,p,?_,hpl,hρ⟩
     simp only
     rw[List.getElem?_set_ne (by omega),hH,List.getElem?_append_left h1]; exact h2
   · simp[AO.gv,AO.dead,AO.own]at hpl
   · refine hn ⟨H0.length+j,p0,?_,gv_own' hpl,hρ⟩
     simp only
     rw[List.getElem?_set_ne (by omega),hH,List.getElem?_append_right (by omega)]; simpa using h2
 · exact Nat.le_refl _
 · exact fun _ _ _ h=>h
 · exact fun _ r h=>⟨r,h⟩
 · rfl
 · rfl
 · rfl
theorem giv_sim (hS:Sim S) (hH:S.H=H0++L) (hcl:closed H0) (ho:L[k]? = some o) (hl:o.live=true):Sim (givS S H0 L k d o):=by
 have ho':S.H[H0.length+k]? = some o:=by rw[hH,List.getElem?_append_right (by omega)]; simpa using ho
 have hlen:(givS S H0 L k d o).H.length=S.H.length:=by simp[givS,hH]
 have at0:∀ {i:Nat} {p:AO},H0[i]? = some p->S.H[i]? = some p:=by
  intro i p h; rw[hH,List.getElem?_append_left (getElem?_lt h)]; exact h
 have at1:∀ {j:Nat} {p:AO},L[j]? = some p->S.H[H0.length+j]? = some p:=by
  intro j p h; rw[hH,List.getElem?_append_right (by omega)]; simpa using h
 constructor
 · intro i p hp hpl
   have key:∀ (p0:AO),S.H[i]? = some p0->p0.live=true->p.ty=p0.ty->(p.cells=p0.cells.map (SV.gv (H0.length+k) o.ver o.cells d)) →
    match S.ρ i with
    | none=>p.cells=[]
    | some b=>∃ us rest,S.w.heap[b]? = some (.cells (us++rest).toArray p.ty (0,0))∧VRs (givS S H0 L k d o) p.cells us:=by
    intro p0 h0 h0l hty hce
    have h1:=hS.live i p0 h0 h0l
    cases hρ:S.ρ i with
    | none=>rw[hρ]at h1; simp only at h1 ⊢; rw[hce,h1]; rfl
    | some b =>
     rw[hρ]at h1
     obtain⟨us,rest,h2,h3⟩:=h1
     exact⟨us,rest,by rw[hty]; exact h2,by rw[hce]; exact h3.map fun s v h=>giv_rel hS hH ho hl s v h⟩
   show match S.ρ i with
    | none=>p.cells=[]
    | some b=>∃ us rest,S.w.heap[b]? = some (.cells (us++rest).toArray p.ty (0,0))∧VRs (givS S H0 L k d o) p.cells us
   rcases giv_at hp ho with ⟨h1,h2⟩ | ⟨rfl,rfl⟩ | ⟨p0,j,rfl,h1,h2,rfl⟩
   · refine key p (at0 h2) hpl rfl ?_
     have:p.cells.map (SV.gv (H0.length+k) o.ver o.cells d)=p.cells.map id:=List.map_congr_left fun s hs=>gv_under (Nat.le_add_right _ _) d s (hcl i p h2 s hs)
     rw[this]; simp
   · simp[AO.gv,AO.dead]at hpl
   · exact key p0 (at1 h2) hpl rfl rfl
 · intro i p hp s hs
   rw[hlen]
   rcases giv_at hp ho with ⟨h1,h2⟩ | ⟨rfl,rfl⟩ | ⟨p0,j,rfl,h1,h2,rfl⟩
   · exact hS.bel i p (at0 h2) s hs
   · simp[AO.gv,AO.dead]at hs
   · simp only[AO.gv,List.mem_map]at hs
     obtain⟨t,ht,rfl⟩:=hs
     have h3:=hS.bel _ p0 (at1 h2) t ht
     refine⟨gv_below ?_ d t h3.1,fun hl=>gv_cell (h3.2 hl)⟩
     rw[SV.underL_iff]
     exact fun u hu=>(hS.bel _ o ho' u hu).1
 · intro i j p q b hi hj hil hjl hρi hρj
   have key:∀ {i:Nat} {p:AO},(givS S H0 L k d o).H[i]? = some p->p.own=true->∃ p0,S.H[i]? = some p0∧p0.own=true:=by
    intro i p hp hpl
    rcases giv_at hp ho with ⟨h1,h2⟩ | ⟨rfl,rfl⟩ | ⟨p0,j,rfl,h1,h2,rfl⟩
    · exact⟨p,at0 h2,hpl⟩
    · simp[AO.gv,AO.dead,AO.own]at hpl
    · exact⟨p0,at1 h2,gv_own' hpl⟩
   obtain⟨p0,h1,h2⟩:=key hi hil
   obtain⟨q0,h3,h4⟩:=key hj hjl
   exact hS.inj i j p0 q0 b h1 h3 h2 h4 hρi hρj
 · intro i p hp hl' hne
   rcases giv_at hp ho with ⟨h1,h2⟩ | ⟨rfl,rfl⟩ | ⟨p0,j,rfl,h1,h2,rfl⟩
   · obtain⟨l,x,m,us,env,k1,k2,k3,k4,k6⟩:=hS.lp i p (at0 h2) hl' hne
     exact⟨l,x,m,us,env,k1,k2,k3,k4,k6.ext (giv_ext hH ho)⟩
   · exact absurd rfl hne
   · have hne':p0.cells≠[]:=fun e=>hne (by simp[AO.gv,e])
     obtain⟨l,x,m,us,env,k1,k2,k3,k4,k6⟩:=hS.lp _ p0 (at1 h2) hl' hne'
     have hm:SV.gv (H0.length+k) o.ver o.cells d m=m:=by
      cases m<;>first | (simp[SpR]at k4; done) | (cases d<;>rfl)
     refine⟨l,x,m,us,env.map (SV.gv (H0.length+k) o.ver o.cells d),k1,?_,k3,k4,k6.map fun s v h=>giv_rel hS hH ho hl s v h⟩
     simp only[AO.gv,k2,List.map_cons,hm]
 · exact hS.gl.ext (giv_ext hH ho)
 · exact hS.kf.ext (giv_ext hH ho)
theorem get_map (e:Env) (f:SV->SV) (hf:f .any=.any) (t:Nat):Env.get (e.map fun p=>(p.1,f p.2)) t=f (e.get t):=by
 induction e with
 | nil=>exact hf.symm
 | cons p r ih =>
  obtain⟨k,v⟩:=p
  simp only[List.map_cons,Env.get]
  split
  · rfl
  · exact ih
end
attribute [simp] AO.gv
@[simp] theorem dep_q (f:Od) (args:List Od):J.dep (.q f args)=true:=rfl
attribute [simp] List.filter_cons
end Go.Ab
namespace Go.Ab
variable [GlobEnv] [FrEnv] [KnEnv]
section
variable {P:Program} {N:Nat} {D:Array Oper->List Nat->List Ins->Bool}
def place (n i:Nat):Nat:=n+i
@[simp] theorem rs_p (n:Nat) (d:Option Nat) (g:Option (Nat×Bool)) (i:I):Ins.rs n ⟨d,g,.p i⟩=⟨d,g,.p i⟩:=rfl
@[simp] theorem rs_q (n:Nat) (d:Option Nat) (g:Option (Nat×Bool)) (f:Od) (as:List Od):Ins.rs n ⟨d,g,.q f as⟩=⟨d,g,.q f as⟩:=rfl
@[simp] theorem rs_e (n:Nat) (d:Option Nat) (g:Option (Nat×Bool)) (i:E):Ins.rs n ⟨d,g,.e i⟩=⟨d,g,.e (i.rs n)⟩:=rfl
@[simp] theorem rs_st (n m:Nat) (p x:Od):E.rs n (.st m p x)=.st m p x:=rfl
@[simp] theorem rs_stw (n m:Nat) (ws:List Nat) (p x:Od):E.rs n (.stw ws m p x)=.stw ws m p x:=rfl
@[simp] theorem rs_app (n:Nat) (T:TypeId) (sz b:Nat) (s x:Od):E.rs n (.app T sz b s x)=.app T sz b s x:=rfl
@[simp] theorem rs_aps (n:Nat) (T:TypeId) (s x:Od):E.rs n (.aps T s x)=.aps T s x:=rfl
@[simp] theorem rs_call (n:Nat) (f:Od) (as:List Od):E.rs n (.call f as)=.call f as:=rfl
@[simp] theorem rs_alc (n:Nat) (T:TypeId) (z:List SV):E.rs n (.alc T z)=.alc T z:=rfl
@[simp] theorem rs_box (n:Nat) (T:TypeId) (x:Od):E.rs n (.box T x)=.box T x:=rfl
def xdl (P:Program) (l:List Ins) (env:Env) (H:List AO) (K:XE->Env->List AO->Prop):Prop:=xd P [] l env H K
@[simp] theorem xdl_go (l:List Ins) (env:Env) (H:List AO) (K:XE->Env->List AO->Prop):xdl P l env H K=xd P [] l env H K:=rfl
def s_drft (P:Program) (l:List Ins) (n:Nat) (env:Env) (H:List AO) (K:XE->Env->List AO->Prop):Prop:=xdl P (l.map (Ins.rs n)) env H K
@[congr] theorem s_drft_congr {l:List Ins} {n n':Nat} {env:Env} {H H':List AO} {K:XE->Env->List AO->Prop} (h:Ev n=n') (h2:Ev H=H'):s_drft P l n env H K=s_drft P l n' env H' K:=by rw[Ev_to h,Ev_to h2]
@[simp] theorem s_drft_go (l:List Ins) (n:Nat) (env:Env) (H:List AO) (K:XE->Env->List AO->Prop):s_drft P l n env H K=xdl P (l.map (Ins.rs n)) env H K:=rfl
@[simp ↓] theorem X_drq (Ts:List TypeId) (n0:Nat) (m:List Nat) (l:List Ins) (os:List (List Nat)) (tl:List Ins) (env:Env) (H:List AO) (K:XE->Env->List AO->Prop):X P N D (.drq Ts n0 m l os tl) env H K=s_drft P l H.length env (H++resd Ts) fun x env H' =>
 match x with
 | .normal=>xrt P n0 tl os env H' fun x e H=>K x (e.keep (dreK tl env)) H
 | x=>K x env H':=rfl
@[simp] theorem resd_nil:resd []=[]:=rfl
@[simp] theorem resd_cons (T:TypeId) (r:List TypeId):resd (T::r)=⟨[],T,0,false⟩::resd r:=rfl
end
@[simp] theorem len_add1 (H:List AO) (k:Nat):H.length+k+1=H.length+(k+1):=rfl
@[simp] theorem s_app_nil (T:TypeId) (sz bytes:Nat) (x:SV) (H:List AO) (K:SV->List AO->Prop):s_app T sz bytes (.val (.slice none 0 0)) x H K=(x.vd=true∧x.ug.isSl=true∧x.ug.slen*sz≤(x.ug.row H).length∧cellsOk (x.ug.els H sz) ∧
     x.ug.slen*bytes≤140737488355328∧x.ug.slen≤140737488355328∧Ke K (.own H.length 0 x.ug.slen sz 1) (H++[⟨x.ug.els H sz,T,1,true⟩])):=by
 simp[s_app,SV.vd,SV.ug,SV.slen,SV.isNil,Ke]
section
variable (n:Nat) (L:List AO) (d:Nat)
@[simp] theorem fz_ptr (k off len sz ver p:Nat):SV.fz n [] L (d+1) (.ptr (.own (n+k) off len sz ver) p)=(match L[k]? with
     | some o=>if o.live=true∧o.ver=ver∧off<o.cells.length then .ptr (.slc ((o.cells.drop off).map (SV.fz n [] L d)) 0) p else .any
     | none=>.any):=by
 conv=>lhs; unfold SV.fz
 rw[if_neg (by simp[SV.under])]
 have e:n+k-n=k:=by omega
 simp only[e]
 cases L[k]? with
 | none=>rfl
 | some o=>rfl
@[simp] theorem fz_ptr0 (off len sz ver p:Nat):SV.fz n [] L (d+1) (.ptr (.own n off len sz ver) p)=(match L[0]? with
     | some o=>if o.live=true∧o.ver=ver∧off<o.cells.length then .ptr (.slc ((o.cells.drop off).map (SV.fz n [] L d)) 0) p else .any
     | none=>.any):=fz_ptr n L d 0 off len sz ver p
end
end Go.Ab
namespace Go.Ab
variable [GlobEnv] [FrEnv] [KnEnv]
section
variable {P:Program} {N:Nat}
def Rg (P:Program) (N:Nat) (D:Array Oper->List Nat->List Ins->Bool) (kk:Nat) (ps:List Nat) (ia ib:IC) (f:SV) (env:Env) (H:List AO) (K:XE->Env->List AO->Prop):Prop :=
 f.vd=true∧match f.ug with
  | .fn (.func k) first cap=>∃ Pt:Out->List AO->Prop,OkP P k (first++[.yl H.length]++cap) (H++[lpo P N D kk ps ia ib (env.vals N) .ready]) Pt ∧
   ∀ out H',Pt out H'->match out with
    | .ret _=>∃ k' ok st cs,H'[H.length]? = some ⟨.lp k' ok st::cs,0,0,false⟩∧st.out K env (H'.set H.length deadL)
    | .pan x=>K (.panic x) env H'
  | _=>False
@[congr] theorem Rg_congr {D:Array Oper->List Nat->List Ins->Bool} {kk:Nat} {ps:List Nat} {ia ib:IC} {f f':SV} {env env':Env} {H H':List AO} {K:XE->Env->List AO->Prop} (h1:Ev f=f') (h2:Ev env=env') (h3:Ev H=H') :
 Rg P N D kk ps ia ib f env H K=Rg P N D kk ps ia ib f' env' H' K:=by rw[Ev_to h1,Ev_to h2,Ev_to h3]
@[simp ↓] theorem X_rng (D:Array Oper->List Nat->List Ins->Bool) (kk:Nat) (g:Od) (ps:List Nat) (ia ib:IC) (env:Env) (H:List AO) (K:XE->Env->List AO->Prop):X P N D (.rng kk g ps ia ib) env H K=Rg P N D kk ps ia ib (env.ev g) env H K:=rfl
attribute [simp] LSt.out
end
end Go.Ab
