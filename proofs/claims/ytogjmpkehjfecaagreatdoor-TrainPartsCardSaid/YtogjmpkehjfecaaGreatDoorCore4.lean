/- Steps of the proof. -/
import Derived.Test.YtogjmpkehjfecaaGreatDoorCore3
import Derived.Below
import Derived.ChangeArms
import Derived.DataReads
import Derived.WideShapes
import Derived.RowKit
import Derived.WalkKit
import Derived.ProofKit
import Derived.OpenShut
import Derived.ShutString
import Derived.ChangeOld
import Derived.Carry
import Derived.KernelRfl
set_option linter.all false
namespace Go.Ab
section
variable [QK] [QE] [QF]
def Ins.fl (o:Ins):Option (Nat×Ww) :=
 match o.g,o.j with
 |none,.e (.flo i T _ _ _ _ _)=>some (i,T)
 |none,.e (.fle i T _)=>some (i,T)
 |none,.e (.fla i T _)=>some (i,T)
 |none,.e (.flb i T _ _ _ _)=>some (i,T)
 |_,_=>none
def E.plain:E->Bool
 |.st _ _ _=>true
 |.stw _ _ _ _=>true
 |.app _ _ _ _ _=>true
 |.calln _ _=>true
 |.box _ _=>true
 |_=>false
def Od.mild:Od->Bool
 |.t _=>true
 |.c (.val _)=>true
 |.c (.slc _ _)=>true
 |.c (.fn _ _ _)=>true
 |_=>false
def I.noMap:I->Bool
 |.lkp _ _ _ _ _=>false
 |.bys _=>false
 |_=>true
def Ins.mild (o:Ins):Bool :=
 match o.g,o.j with
 |none,.p i=>i.noMap&&i.ods.all Od.mild
 |none,.e i=>(i.plain&&i.ods.all Od.mild)||(match i with|.flo _ _ _ _ _ _ _=>true|.fle _ _ _=>true|.fla _ _ _=>true|.flb _ _ _ _ _ _=>true|_=>false)
 |_,_=>false
theorem QhX {o:Ins} {i:I} (h:o.mild=true) (hj:o.j=.p i):i.noMap=true:=by
 unfold Ins.mild at h;split at h
 . rename_i i' hg hj';rw[hj]at hj'; cases hj'
   rw[Va]at h; exact h.1
 . rename_i i' hg hj'; rw[hj]at hj'; cases hj'
 . cases h
theorem Qit {o:Ins} (h:o.mild=true):o.g=none/\((∃ i,o.j=.p i/\∀ x∈i.ods,x.mild=true)\/(∃ i,o.j=.e i/\i.plain=true/\∀ x∈i.ods,x.mild=true)\/∃ i T,o.fl=some (i,T)):=by
 unfold Ins.mild at h;split at h
 . rename_i i hg hj; exact⟨hg,.inl ⟨i,hj,by rw[Va]at h; simpa using h.2⟩⟩
 . rename_i i hg hj;refine⟨hg,.inr ?_⟩;rw[Yb]at h;rcases h with h|h
   . rw[Va]at h; exact .inl ⟨i,hj,h.1,by simpa using h.2⟩
   . right;unfold Ins.fl;rw[hg,hj];split at h
     . exact⟨_,_,rfl⟩
     . exact⟨_,_,rfl⟩
     . exact⟨_,_,rfl⟩
     . exact⟨_,_,rfl⟩
     . cases h
 . cases h
theorem Qe7 {o:Ins} {x:Nat×Ww} (h:o.fl=some x):o.j.quiet=false/\o.g=none:=by
 unfold Ins.fl at h;split at h
 . rename_i hg hj; rw[hj]; exact⟨rfl,hg⟩
 . rename_i hg hj; rw[hj]; exact⟨rfl,hg⟩
 . rename_i hg hj; rw[hj]; exact⟨rfl,hg⟩
 . rename_i hg hj; rw[hj]; exact⟨rfl,hg⟩
 . cases h
def flV (o:Ins) (env:Env) (H:Ws) (v:SV):Prop :=
 match o.j with
 |.e (.flo i T sz bytes z len cap)=>(env.ev len).isN=true/\(env.ev cap).isN=true/\0<=(env.ev len).int/\(env.ev len).int<=(env.ev cap).int/\bytes*(env.ev cap).int<=140737488355328/\(env.ev cap).int<=140737488355328 /\
  v=.own i 0 (env.ev len).int.toNat sz 1/\H[i]? = some ⟨(List.replicate (env.ev len).int.toNat z).flatten,T,1,true⟩
 |.e (.fle i T sz)=>v=.own i 0 0 sz 1/\H[i]? = some ⟨[],T,1,true⟩
 |.e (.fla i T z)=>v=.ptr (.own i 0 0 0 1) 0/\H[i]? = some ⟨z,T,1,true⟩
 |.e (.flb i T sz len z parts)=>(∀ p∈parts,Q9 sz (env.ev p.2)/\p.1*sz+sz<=len*sz)/\Qy (Qah (List.replicate len z).flatten (parts.map λp=>(p.1*sz,env.ev p.2))) /\
  v=.own i 0 len sz 1/\H[i]? = some ⟨Qah (List.replicate len z).flatten (parts.map λp=>(p.1*sz,env.ev p.2)),T,1,true⟩
 |_=>False
theorem Qjx {env env':Env} {x:Od} (h:∀ t∈x.slots,env'.get t=env.get t):env'.ev x=env.ev x:=by
 cases x with
 |t n=>exact h n (by simp[Od.slots])
 |c s=>rfl
theorem QiN {o:Ins} {env env':Env} {H H':Ws} {v:SV} (h:flV o env H v) (hk:∀ t∈o.slots,env'.get t=env.get t) (hH:∀ i T,o.fl=some (i,T)->H'[i]? = H[i]?) (hf:o.fl.isSome=true):flV o env' H' v:=by
 unfold Ins.fl at hH hf;unfold flV at h ⊢;split at hf
 . rename_i i T sz bytes z len cap hg hj;rw[hg]at hH;rw[hj]at h hH ⊢;simp only at h hH ⊢;have e1:env'.ev len=env.ev len:=Qjx λt ht=>hk t (by simp[Ins.slots,hj,J.slots,E.ods,ht]);have e2:env'.ev cap=env.ev cap:=Qjx λt ht=>hk t (by simp[Ins.slots,hj,J.slots,E.ods,ht]);rw[e1,e2,hH i T rfl]; exact h
 . rename_i i T sz hg hj;rw[hg]at hH;rw[hj]at h hH ⊢;simp only at h hH ⊢;rw[hH i T rfl]; exact h
 . rename_i i T z hg hj;rw[hg]at hH;rw[hj]at h hH ⊢;simp only at h hH ⊢;rw[hH i T rfl]; exact h
 . rename_i i T sz len z ps hg hj;rw[hg]at hH;rw[hj]at h hH ⊢;simp only at h hH ⊢;have h1:∀ p∈ps,env'.ev p.2=env.ev p.2:=λp hp=>Qjx λt ht=>hk t (by
    simp only[Ins.slots,hj,J.slots,E.ods,Vj,YD,Vl];exact .inr ⟨p.2,⟨p,hp,rfl⟩,ht⟩)
   have h2:(ps.map λp=>(p.1*sz,env'.ev p.2))=ps.map λp=>(p.1*sz,env.ev p.2):=VA λp hp=>by rw[h1 p hp]
   rw[h2,hH i T rfl];exact⟨λp hp=>by rw[h1 p hp]; exact h.1 p hp,h.2⟩
 . cases hf
structure UnF (PN:Nat->Ww->Prop) (Ha Hr:Ws):Prop where
 len:Hr.length=Ha.length
 dead:∀ i T,PN i T->Hr[i]? = some ⟨[],T,0,false⟩
 ver:∀ i T,PN i T->∃ o,Ha[i]? = some o/\o.ver=1
 same:∀ i,(¬ ∃ T,PN i T)->Hr[i]? = Ha[i]?
theorem UnF.congr {PN PN':Nat->Ww->Prop} {Ha Hr:Ws} (h:UnF PN Ha Hr) (hp:∀ i T,PN' i T↔PN i T):UnF PN' Ha Hr :=
 ⟨h.len,λi T hi=>h.dead i T ((hp i T).1 hi),λi T hi=>h.ver i T ((hp i T).1 hi),λi hi=>h.same i λ⟨T,hT⟩=>hi ⟨T,(hp i T).2 hT⟩⟩
section
variable {P:Wx} {S:St} {PN:Nat->Ww->Prop} {Ha:Ws}
theorem UnF.cells (hu:UnF PN Ha S.H) {i ver:Nat} (h:∃ o,S.H[i]? = some o/\ver<=o.ver):Qe S.H i ver=Qe Ha i ver:=by
 by_cases hp:∃ T,PN i T
 . obtain⟨T,hp⟩:=hp;obtain⟨o,ho,hv⟩:=h;rw[hu.dead i T hp]at ho
   cases ho
   obtain⟨o2,h2,h3⟩:=hu.ver i T hp;have h0:ver=0:=by simpa using hv
   subst h0;unfold Qe;rw[hu.dead i T hp,h2];simp[h3]
 . unfold Qe; rw[hu.same i hp]
theorem UnF.row (hu:UnF PN Ha S.H) {s:SV} {v:Value} (h:VR S s v):s.row S.H=s.row Ha:=by
 cases h with
 |own i off len sz ver a cap o ho hv hc hz hat=>simp only[SV.row]; rw[hu.cells ⟨o,ho,hv⟩]
 |_=>rfl
theorem UnF.at (hu:UnF PN Ha S.H) {s:SV} {v:Value} (h:VR S s v):s.at S.H=s.at Ha:=by
 cases h with
 |ptrO i off len sz ver k a o ho hv hat=>simp only[SV.at,SV.row]; rw[hu.cells ⟨o,ho,hv⟩]
 |_=>rfl
theorem UnF.odRow (hu:UnF PN Ha S.H) {env:Env} {x:Od} (hm:x.mild=true) (hr:∀ t∈x.slots,∃ u,VR S (env.get t) u) (hvd:(env.ev x).vd=true):(env.ev x).ug.row S.H=(env.ev x).ug.row Ha:=by
 cases x with
 |t n =>
  obtain⟨u,hv⟩:=hr n (by simp[Od.slots]);exact hu.row (hv.ug hvd)
 |c s=>cases s<;>first|rfl|simp[Od.mild]at hm
theorem UnF.odAt (hu:UnF PN Ha S.H) {env:Env} {x:Od} (hm:x.mild=true) (hr:∀ t∈x.slots,∃ u,VR S (env.get t) u) (hvd:(env.ev x).vd=true):(env.ev x).ug.at S.H=(env.ev x).ug.at Ha:=by
 cases x with
 |t n =>
  obtain⟨u,hv⟩:=hr n (by simp[Od.slots]);exact hu.at (hv.ug hvd)
 |c s=>cases s<;>first|rfl|simp[Od.mild]at hm
theorem QuK (hu:UnF PN Ha S.H) {o:Ins} {env:Env} {v:SV} (hm:o.mild=true) (hr:∀ t∈o.slots,∃ u,VR S (env.get t) u) (h:Q2 P o env Ha v):Q2 P o env S.H v:=by
 obtain⟨hg,⟨i,hj,hods⟩|⟨i,hj,hp,_⟩|⟨i,T,hf⟩⟩:=Qit hm
 . have hsl:∀ x∈i.ods,∀ t∈x.slots,∃ u,VR S (env.get t) u:=λx hx t ht=>hr t (by
    simp only[Ins.slots,hj,J.slots,Vj,YD]; exact .inr ⟨x,hx,ht⟩)
   unfold Q2 at h ⊢;rw[hg,hj]at h ⊢;simp only at h ⊢;by_cases hd:J.dep (.p i)=true
   . cases i<;>simp[J.dep]at hd
     . rename_i p;have hp:=hods p (by simp[I.ods]);obtain⟨⟨h1,h2⟩,h3⟩:=h;have e:=hu.odAt (env:=env) hp (hsl p (by simp[I.ods])) h1;exact⟨⟨h1,by rw[e]; exact h2⟩,by rw[h3]; show _=((env.ev p).ug.at S.H).headD .any; rw[e]; rfl⟩
     . rename_i n p;have hp:=hods p (by simp[I.ods]);obtain⟨⟨h1,h2,h4⟩,h3⟩:=h;have e:=hu.odAt (env:=env) hp (hsl p (by simp[I.ods])) h1;exact⟨⟨h1,by rw[e]; exact h2,h4⟩,by rw[h3]; show _=SV.agg (((env.ev p).ug.at S.H).take n); rw[e]; rfl⟩
     . rename_i n sz p lo hi;have hp:=hods p (by simp[I.ods]);obtain⟨⟨h1,h2,h4⟩,h3⟩:=h;have e:=hu.odAt (env:=env) hp (hsl p (by simp[I.ods])) h1;exact⟨⟨h1,by rw[e]; exact h2,h4⟩,h3⟩
     . have:=QhX hm hj; simp[I.noMap]at this
     . have:=QhX hm hj; simp[I.noMap]at this
   . rw[QjB (by simpa using hd) env.ev S.H Ha]; exact h
 . unfold Q2 at h; rw[hg,hj]at h; exact h.elim
 . have:=(Qe7 hf).1;unfold Q2 at h; rw[hg]at h
   cases hj:o.j with
   |p i=>rw[hj]at this; simp[J.quiet]at this
   |q f as=>rw[hj]at this; simp[J.quiet]at this
   |e i=>rw[hj]at h; exact h.elim
theorem UnF.setObj (hu:UnF PN Ha S.H) {i ver:Nat} (f:AO->AO) {o:AO} (ha:Ha[i]? = some o) (hn:¬ ∃ T,PN i T):UnF PN (Ab.setObj Ha i f) (Ab.setObj S.H i f)/\∀ j T,PN j T->(Ab.setObj Ha i f)[j]? = Ha[j]? := by
 have hr:S.H[i]? = some o:=by rw[hu.same i hn]; exact ha
 rw[QS ha,QS hr];have ne:∀ {j T},PN j T->i≠j:=by rintro j T hp rfl; exact hn ⟨T,hp⟩
 refine⟨⟨by simp[hu.len],λj T hp => ?_,λj T hp => ?_,λj hj => ?_⟩,λj T hp => ?_⟩
 . rw[Ve (ne hp)]; exact hu.dead j T hp
 . rw[Ve (ne hp)]; exact hu.ver j T hp
 . by_cases hij:i=j
   . subst hij; rw[Vh (Qd hr),Vh (Qd ha)]
   . rw[Ve hij,Ve hij]; exact hu.same j hj
 . rw[Ve (ne hp)]
theorem UnF.not_pn (hu:UnF PN Ha S.H) {i ver:Nat} (h:∃ o,S.H[i]? = some o/\ver<=o.ver) {o:AO} (ha:Ha[i]? = some o) (hv:o.ver=ver):¬ ∃ T,PN i T:=by
 rintro⟨T,hp⟩;obtain⟨p,h1,h2⟩:=h;rw[hu.dead i T hp]at h1; cases h1
 obtain⟨o2,h3,h4⟩:=hu.ver i T hp;rw[ha]at h3; cases h3
 simp at h2; omega
theorem Qtj (hu:UnF PN Ha S.H) {i:E} {env:Env} (hp:i.plain=true) (hods:∀ x∈i.ods,x.mild=true) (hr:∀ x∈i.ods,∀ t∈x.slots,∃ u,VR S (env.get t) u) {K:SV->Ws->Prop} (h:xe i env.ev Ha K) :
 xe i env.ev S.H λv Hr=>∃ Ha',UnF PN Ha' Hr/\(∀ j T,PN j T->Ha'[j]? = Ha[j]?)/\K v Ha':=by
 cases i<;>simp[E.plain]at hp
 . rename_i T x;obtain⟨a1,a2,a3⟩:=h;refine⟨a1,a2,Ha++[⟨(env.ev x).ug.flat,T,0,true⟩],?_,?_,by rw[hu.len]; exact a3⟩
   . refine⟨by simp[hu.len],λj T' hj => ?_,λj T' hj => ?_,λj hj => ?_⟩
     . rw[Vd (Qd (hu.dead j T' hj))]; exact hu.dead j T' hj
     . obtain⟨o,ho,hv⟩:=hu.ver j T' hj;exact⟨o,by rw[Vd (Qd ho)]; exact ho,hv⟩
     . rw[YN,YN,hu.len,hu.same j hj]
   . intro j T' hj;obtain⟨o,ho,hv⟩:=hu.ver j T' hj;rw[Vd (Qd ho)]
 . rename_i T sz bytes s x;obtain⟨a1,a2,a3,a4,a5,a6,a7,a8⟩:=h;have e:=hu.odRow (env:=env) (hods x (by simp[E.ods])) (hr x (by simp[E.ods])) a2;have e':(env.ev x).ug.els S.H sz=(env.ev x).ug.els Ha sz:=by simp only[SV.els]; rw[e]
   refine⟨a1,a2,a3,by rw[e]; exact a4,by rw[e']; exact a5,a6,a7,?_⟩;split at a8
   . rename_i k n sz' ver hs;obtain⟨b1,⟨o,b2,b3,b4,b5,b6⟩,b7⟩:=a8;have hvr:∃ o',S.H[k]? = some o'/\ver<=o'.ver:=by
      have hm:=hods s (by simp[E.ods])
      cases s with
      |t m =>
       obtain⟨u,hv⟩:=hr (.t m) (by simp[E.ods]) m (by simp[Od.slots]);have h1:=hv.ug a1;rw[show(env.get m).ug=_ from hs]at h1
       cases h1 with
       |own _ _ _ _ _ ad cap o' ho' hvl hcap hz hat=>exact⟨o',ho',hvl⟩
      |c w=>cases w<;>first|(simp[Od.mild]at hm; done)|(simp[Env.ev,SV.ug]at hs)
     have hn:=hu.not_pn hvr b2 b4;have hst:=hu.setObj (ver:=ver) (λo=>o.grow ((env.ev x).ug.els Ha sz)) b2 hn;refine⟨b1,⟨o,by rw[hu.same k hn]; exact b2,b3,b4,b5,b6⟩,_,?_,hst.2,b7⟩;rw[e']; exact hst.1
   . rename_i hnown;refine⟨a8.1,Ha++[⟨(env.ev x).ug.els Ha sz,T,1,true⟩],?_,?_,by rw[hu.len]; exact a8.2⟩
     . rw[e'];refine⟨by simp[hu.len],λj T' hj => ?_,λj T' hj => ?_,λj hj => ?_⟩
       . rw[Vd (Qd (hu.dead j T' hj))]; exact hu.dead j T' hj
       . obtain⟨o,ho,hv⟩:=hu.ver j T' hj;exact⟨o,by rw[Vd (Qd ho)]; exact ho,hv⟩
       . rw[YN,YN,hu.len,hu.same j hj]
     . intro j T' hj;obtain⟨o,ho,hv⟩:=hu.ver j T' hj;rw[Vd (Qd ho)]
 . rename_i n p x;obtain⟨a1,a2,a3,a4,a5,a6⟩:=h;refine⟨a1,a2,a3,a4,a5,?_⟩;split at a6
   . rename_i k off len sz ver j hs;obtain⟨b1,b2⟩:=a6;have hvr:∃ o',S.H[k]? = some o'/\ver<=o'.ver:=by
      have hm:=hods p (by simp[E.ods])
      cases p with
      |t m =>
       obtain⟨u,hv⟩:=hr (.t m) (by simp[E.ods]) m (by simp[Od.slots]);have h1:=hv.ug a1;rw[show(env.get m).ug=_ from hs]at h1
       cases h1 with
       |ptrO _ _ _ _ _ _ a o' ho' hvl hat=>exact⟨o',ho',hvl⟩
      |c w=>cases w<;>first|(simp[Od.mild]at hm; done)|(simp[Env.ev,SV.ug]at hs)
     have hne:0<(Qe Ha k ver).length:=by omega
     obtain⟨o,c1,c2,c3,_⟩:=Qfl (Vb hne);have hn:=hu.not_pn hvr c1 c3;have hst:=hu.setObj (ver:=ver) (λo=>o.put (off+j) (env.ev x).ug.flat) c1 hn;refine⟨by rw[hu.cells hvr]; exact b1,_,hst.1,hst.2,b2⟩
   . exact a6.elim
 . rename_i ws n p x;obtain⟨a1,a2,a3,a4,a5,a6⟩:=h;refine⟨a1,a2,a3,a4,a5,?_⟩;split at a6
   . rename_i k off len sz ver j hs;obtain⟨b1,b2⟩:=a6;have hvr:∃ o',S.H[k]? = some o'/\ver<=o'.ver:=by
      have hm:=hods p (by simp[E.ods])
      cases p with
      |t m =>
       obtain⟨u,hv⟩:=hr (.t m) (by simp[E.ods]) m (by simp[Od.slots]);have h1:=hv.ug a1;rw[show(env.get m).ug=_ from hs]at h1
       cases h1 with
       |ptrO _ _ _ _ _ _ a o' ho' hvl hat=>exact⟨o',ho',hvl⟩
      |c w=>cases w<;>first|(simp[Od.mild]at hm; done)|(simp[Env.ev,SV.ug]at hs)
     have hne:0<(Qe Ha k ver).length:=by omega
     obtain⟨o,c1,c2,c3,_⟩:=Qfl (Vb hne);have hn:=hu.not_pn hvr c1 c3;have hst:=hu.setObj (ver:=ver) (λo=>o.put (off+j) (env.ev x).ug.flat) c1 hn;refine⟨by rw[hu.cells hvr]; exact b1,_,hst.1,hst.2,b2⟩
   . exact a6.elim
 . exact h.elim
end
section
variable {P:Wx} {S:St} {PN:Nat->Ww->Prop} {Ha:Ws}
theorem Qqz (hu:UnF PN Ha S.H) {o:Ins} {i:Nat} {T:Ww} {env:Env} {v:SV} (hf:o.fl=some (i,T)) (hpn:PN i T) (hv:flV o env Ha v) :
 xo P o env S.H λx e H'=>x=.normal/\e=env.put o.d v/\∃ p,Ha[i]? = some p/\H'=S.H.set i p:=by
 have hd:=hu.dead i T hpn;unfold Ins.fl at hf;split at hf
 . rename_i i' T' sz bytes z len cap hg hj
   cases hf
   unfold flV at hv;rw[hj]at hv;obtain⟨h1,h2,h3,h4,h5,h6,rfl,h8⟩:=hv;unfold xo;rw[hg];simp only;unfold xj;rw[hj];exact⟨h1,h2,h3,h4,h5,h6,hd,rfl,rfl,_,h8,rfl⟩
 . rename_i i' T' sz hg hj
   cases hf
   unfold flV at hv;rw[hj]at hv;obtain⟨rfl,h8⟩:=hv;unfold xo;rw[hg];simp only;unfold xj;rw[hj];exact⟨hd,rfl,rfl,_,h8,rfl⟩
 . rename_i i' T' z hg hj
   cases hf
   unfold flV at hv;rw[hj]at hv;obtain⟨rfl,h8⟩:=hv;unfold xo;rw[hg];simp only;unfold xj;rw[hj];exact⟨hd,rfl,rfl,_,h8,rfl⟩
 . rename_i i' T' sz len z ps hg hj
   cases hf
   unfold flV at hv;rw[hj]at hv;obtain⟨h1,h2,rfl,h8⟩:=hv;unfold xo;rw[hg];simp only;unfold xj;rw[hj];exact⟨h1,h2,hd,rfl,rfl,_,h8,rfl⟩
 . cases hf
theorem UnF.fill {PN':Nat->Ww->Prop} {Hr:Ws} (hu:UnF PN Ha Hr) {i:Nat} {p:AO} (hp:Ha[i]? = some p) (h1:∀ j T,PN' j T↔(PN j T/\j≠i)):UnF PN' Ha (Hr.set i p):=by
 have hlt:i<Hr.length:=by rw[hu.len]; exact Qd hp
 refine⟨by simp[hu.len],λj T hj => ?_,λj T hj=>hu.ver j T ((h1 j T).1 hj).1,λj hj => ?_⟩
 . obtain⟨h2,h3⟩:=(h1 j T).1 hj;rw[Ve (λe=>h3 e.symm)]; exact hu.dead j T h2
 . by_cases hij:i=j
   . subst hij; rw[Vh hlt,hp]
   . rw[Ve hij];exact hu.same j λ⟨T,hT⟩=>hj ⟨T,(h1 j T).2 ⟨hT,λe=>hij e.symm⟩⟩
def Fil (H Ha:Ws):Prop:=∀ i ver,Qe H i ver≠[]->Qe Ha i ver=Qe H i ver
theorem Fil.refl (H:Ws):Fil H H:=λ_ _ _=>rfl
theorem Fil.trans {H H' H'':Ws} (h:Fil H H') (h':Fil H' H''):Fil H H'':=by
 intro i ver hne;have e:=h i ver hne;rw[h' i ver (by rw[e]; exact hne),e]
theorem Fil.at {H Ha:Ws} (h:Fil H Ha) {s:SV} (hne:s.at H≠[]):s.at Ha=s.at H:=by
 cases s with
 |ptr s k =>
  cases s with
  |own i off len sz ver =>
   simp only[SV.at,SV.row]at hne ⊢;rw[h i ver λe=>hne (by rw[e]; simp)]
  |_=>rfl
 |_=>rfl
theorem QtU {H Ha:Ws} (hf:Fil H Ha) {o:Ins} {env:Env} {v:SV} (hm:o.mild=true) (h:Q2 P o env H v):Q2 P o env Ha v:=by
 obtain⟨hg,⟨i,hj,hods⟩|⟨i,hj,hp,_⟩|⟨i,T,hfl⟩⟩:=Qit hm
 . unfold Q2 at h ⊢;rw[hg,hj]at h ⊢;simp only at h ⊢;by_cases hd:J.dep (.p i)=true
   . cases i<;>simp[J.dep]at hd
     . rename_i p;obtain⟨⟨h1,h2⟩,h3⟩:=h;have h2:0<((env.ev p).ug.at H).length:=h2;have e:=hf.at (s:=(env.ev p).ug) (λe=>by rw[e]at h2; simp at h2);exact⟨⟨h1,by rw[e]; exact h2⟩,by rw[h3]; show _=((env.ev p).ug.at Ha).headD .any; rw[e]; rfl⟩
     . rename_i n p;obtain⟨⟨h1,h2,h4⟩,h3⟩:=h;have h2:n<=((env.ev p).ug.at H).length:=h2;have e:=hf.at (s:=(env.ev p).ug) (λe=>by rw[e]at h2; simp at h2; omega);exact⟨⟨h1,by rw[e]; exact h2,h4⟩,by rw[h3]; show _=SV.agg (((env.ev p).ug.at Ha).take n); rw[e]; rfl⟩
     . rename_i n sz p lo hi;obtain⟨⟨h1,h2,h0,h4⟩,h3⟩:=h;have h2:n*sz<=((env.ev p).ug.at H).length:=h2;have e:=hf.at (s:=(env.ev p).ug) (λe=>by rw[e]at h2; simp only[Yx]at h2; omega);exact⟨⟨h1,by rw[e]; exact h2,h0,h4⟩,h3⟩
     . have:=QhX hm hj; simp[I.noMap]at this
     . have:=QhX hm hj; simp[I.noMap]at this
   . rw[QjB (by simpa using hd) env.ev Ha H]; exact h
 . unfold Q2 at h; rw[hg,hj]at h; exact h.elim
 . have:=(Qe7 hfl).1;unfold Q2 at h; rw[hg]at h
   cases hj:o.j with
   |p i=>rw[hj]at this; simp[J.quiet]at this
   |q f as=>rw[hj]at this; simp[J.quiet]at this
   |e i=>rw[hj]at h; exact h.elim
theorem QvB {H:Ws} {o:Ins} {i:Nat} {T:Ww} {env:Env} {K:Wr} (hf:o.fl=some (i,T)) (h:xo P o env H K) :
 ∃ v p,H[i]? = some ⟨[],T,0,false⟩/\p.ver=1/\flV o env (H.set i p) v/\K .normal (env.put o.d v) (H.set i p):=by
 unfold Ins.fl at hf;split at hf
 . rename_i i' T' sz bytes z len cap hg hj
   cases hf
   unfold xo at h;rw[hg]at h;simp only at h;unfold xj at h;rw[hj]at h;obtain⟨h1,h2,h3,h4,h5,h6,h8,h7⟩:=h;refine⟨_,_,h8,?_,?_,h7⟩
   . rfl
   . unfold flV;rw[hj];exact⟨h1,h2,h3,h4,h5,h6,rfl,Vh (Qd h8)⟩
 . rename_i i' T' sz hg hj
   cases hf
   unfold xo at h;rw[hg]at h;simp only at h;unfold xj at h;rw[hj]at h;obtain⟨h8,h7⟩:=h;refine⟨_,_,h8,?_,?_,h7⟩
   . rfl
   . unfold flV;rw[hj];exact⟨rfl,Vh (Qd h8)⟩
 . rename_i i' T' z hg hj
   cases hf
   unfold xo at h;rw[hg]at h;simp only at h;unfold xj at h;rw[hj]at h;obtain⟨h8,h7⟩:=h;refine⟨_,_,h8,?_,?_,h7⟩
   . rfl
   . unfold flV;rw[hj];exact⟨rfl,Vh (Qd h8)⟩
 . rename_i i' T' sz len z ps hg hj
   cases hf
   unfold xo at h;rw[hg]at h;simp only at h;unfold xj at h;rw[hj]at h;obtain⟨h1,h2,h8,h7⟩:=h;refine⟨_,_,h8,?_,?_,h7⟩
   . rfl
   . unfold flV;rw[hj];exact⟨h1,h2,rfl,Vh (Qd h8)⟩
 . cases hf
theorem QlK {K:Wr}:∀ (rest:List CI) (pend:List (Ins×SV)) (env:Env) (H:Ws),(∀ c∈rest,c.2.mild=true) ->
 (rest.Pairwise λx y=>∀ i T T',x.2.fl=some (i,T)->y.2.fl≠some (i,T'))->xd P pend (rest.map (·.2)) env H K ->
 ∃ (F:List QI) (rest':List CI) (pend':List (Ins×SV)) (Ha:Ws),rest=(F.map λq=>(q.1,q.2.1))++rest'/\(rest'=[]\/∃ c r,rest'=c::r/\c.2.j.quiet=false/\c.2.fl=none) /\
  (∀ q∈F,q.2.1.j.quiet=true\/q.2.1.fl.isSome=true)/\(∀ p∈pend,p∈pend')/\(∀ q∈F,q.2.1.j.quiet=true->(q.2.1,q.2.2)∈pend')/\(∀ p∈pend',p∈pend\/∃ q∈F,p.1=q.2.1) /\
  (∀ (k:Nat) (q:QI),F[k]? = some q->(q.2.1.j.quiet=true->Q2 P q.2.1 (QU env ((F.take k).map (·.2.1)) ((F.take k).map (·.2.2))) Ha q.2.2) /\
   (q.2.1.fl.isSome=true->flV q.2.1 (QU env ((F.take k).map (·.2.1)) ((F.take k).map (·.2.2))) Ha q.2.2)) /\
  xd P pend' (rest'.map (·.2)) (QU env (F.map (·.2.1)) (F.map (·.2.2))) Ha K/\Ha.length=H.length/\(∀ i,(¬ ∃ q∈F,∃ T,q.2.1.fl=some (i,T))->Ha[i]? = H[i]?) /\
  (∀ q∈F,∀ i T,q.2.1.fl=some (i,T)->H[i]? = some ⟨[],T,0,false⟩/\∃ o,Ha[i]? = some o/\o.ver=1)/\Fil H Ha
 |[],pend,env,H,_,_,h=>⟨[],[],pend,H,rfl,.inl rfl,λq hq=>by simp at hq,λp hp=>hp,λq hq=>by simp at hq,λp hp=>.inl hp,λk q hk=>by simp at hk,h,rfl,λ_ _=>rfl,λq hq=>by simp at hq,Fil.refl _⟩
 |c::r,pend,env,H,hm,hpw,h=>by
  rw[Yz]at hpw;by_cases hq:c.2.j.quiet=true
  . obtain⟨hg,⟨i,hj,_⟩|⟨i,hj,_,_⟩|⟨i,T,hfl⟩⟩:=Qit (hm c (by simp))
    . have key:∃ v,Q2 P c.2 env H v/\xd P ((c.2,v)::pend) (r.map (·.2)) (env.put c.2.d v) H K:=by
       simp only[Vs,xd]at h;rw[Wb hq]at h;unfold Q2;rw[hg,hj]at h;rw[hg,hj];simp only at h ⊢;exact⟨_,⟨h.1,rfl⟩,h.2⟩
      obtain⟨v,h1,h4⟩:=key;obtain⟨F,rest',pend',Ha,g1,g2,g3,g4,g5,g8,g6,g7,g9,g10,g11,g12⟩:=QlK r _ _ _ (λc hc=>hm c (by simp[hc])) hpw.2 h4;have hnf:c.2.fl=none:=by
       cases hf:c.2.fl with
       |none=>rfl
       |some x=>have:=(Qe7 hf).1; rw[hq]at this; cases this
      refine⟨(c.1,c.2,v)::F,rest',pend',Ha,by simp[g1],g2,?_,λp hp=>g4 p (by simp[hp]),?_,?_,?_,by simpa[QU]using g7,g9,λi hi=>g10 i λ⟨q,hqm,hT⟩=>hi ⟨q,by simp[hqm],hT⟩,?_,g12⟩
      . intro q hqm;simp only[Vi]at hqm;rcases hqm with rfl|hqm
        . exact .inl hq
        . exact g3 q hqm
      . intro q hqm hqq;simp only[Vi]at hqm;rcases hqm with rfl|hqm
        . exact g4 _ (by simp)
        . exact g5 q hqm hqq
      . intro p hp;rcases g8 p hp with h|⟨q,hqm,h⟩
        . simp only[Vi]at h;rcases h with rfl|h
          . exact .inr ⟨(c.1,c.2,v),by simp,rfl⟩
          . exact .inl h
        . exact .inr ⟨q,by simp[hqm],h⟩
      . intro k q hk
        cases k with
        |zero =>
         simp at hk; subst hk;refine⟨λ_ => ?_,λhs=>by rw[show(c.1,c.2,v).2.1.fl=none from hnf]at hs; cases hs⟩
         simpa[QU]using QtU g12 (hm c (by simp)) h1
        |succ k=>simpa[QU]using g6 k q (by simpa using hk)
      . intro q hqm i T hT;simp only[Vi]at hqm;rcases hqm with rfl|hqm
        . rw[show(c.1,c.2,v).2.1.fl=none from hnf]at hT; cases hT
        . exact g11 q hqm i T hT
    . rw[hj]at hq; simp[J.quiet]at hq
    . have:=(Qe7 hfl).1; rw[hq]at this; cases this
  . have hq':c.2.j.quiet=false:=by simpa using hq
    cases hf:c.2.fl with
    |none=>exact⟨[],c::r,pend,H,rfl,.inr ⟨c,r,rfl,hq',hf⟩,λq hq=>by simp at hq,λp hp=>hp,λq hq=>by simp at hq,λp hp=>.inl hp,λk q hk=>by simp at hk,h,rfl,λ_ _=>rfl,λq hq=>by simp at hq,Fil.refl _⟩
    |some x =>
     obtain⟨i,T⟩:=x;simp only[Vs,xd]at h;rw[Wa hq]at h;obtain⟨v,p,k1,k2,k3,_,k4⟩:=QvB hf h;have hfil:Fil H (H.set i p):=by
      intro j ver hne;by_cases hij:i=j
      . subst hij;exact absurd (by unfold Qe; rw[k1]; rfl) hne
      . unfold Qe; rw[Ve hij]
     obtain⟨F,rest',pend',Ha,g1,g2,g3,g4,g5,g8,g6,g7,g9,g10,g11,g12⟩:=QlK r _ _ _ (λc hc=>hm c (by simp[hc])) hpw.2 k4;have hni:¬ ∃ q∈F,∃ T',q.2.1.fl=some (i,T'):=by
      rintro⟨q,hqm,T',hT'⟩;refine hpw.1 (q.1,q.2.1) ?_ i T T' hf hT';rw[g1]; exact VZ _ (Vl.2 ⟨q,hqm,rfl⟩)
     have hHai:Ha[i]? = some p:=by rw[g10 i hni,Vh (Qd k1)]
     refine⟨(c.1,c.2,v)::F,rest',pend',Ha,by simp[g1],g2,?_,λp hp=>g4 p hp,?_,?_,?_,by simpa[QU]using g7,by rw[g9]; simp,λj hj => ?_,?_,hfil.trans g12⟩
     . intro q hqm;simp only[Vi]at hqm;rcases hqm with rfl|hqm
       . exact .inr (by rw[show(c.1,c.2,v).2.1.fl=some (i,T)from hf]; rfl)
       . exact g3 q hqm
     . intro q hqm hqq;simp only[Vi]at hqm;rcases hqm with rfl|hqm
       . exact absurd hqq hq
       . exact g5 q hqm hqq
     . intro p hp;rcases g8 p hp with h|⟨q,hqm,h⟩
       . exact .inl h
       . exact .inr ⟨q,by simp[hqm],h⟩
     . intro k q hk
       cases k with
       |zero =>
        simp at hk; subst hk;refine⟨λhs=>absurd hs hq,λ_ => ?_⟩;refine QiN (H:=H.set i p) (by simpa[QU]using k3) (λt _=>rfl) (λj T' hj => ?_) (by rw[show(c.1,c.2,v).2.1.fl=some (i,T)from hf]; rfl);rw[show(c.1,c.2,v).2.1.fl=some (i,T)from hf]at hj
        cases hj
        exact g10 i hni
       |succ k=>simpa[QU]using g6 k q (by simpa using hk)
     . have hji:i≠j:=by
        rintro rfl;exact hj ⟨(c.1,c.2,v),by simp,T,hf⟩
       rw[g10 j λ⟨q,hqm,hT⟩=>hj ⟨q,by simp[hqm],hT⟩,Ve hji]
     . intro q hqm j T' hT;simp only[Vi]at hqm;rcases hqm with rfl|hqm
       . rw[show(c.1,c.2,v).2.1.fl=some (i,T)from hf]at hT; cases hT
         exact⟨k1,p,hHai,k2⟩
       . obtain⟨h1,h2⟩:=g11 q hqm j T' hT;have hji:i≠j:=by rintro rfl; exact hni ⟨q,hqm,T',hT⟩
         rw[Ve hji]at h1;exact⟨h1,h2⟩
def PNf (listed:Array Bool) (Qs:List QI) (i:Nat) (T:Ww):Prop:=∃ q∈Qs,listed.getD q.1 false=false/\q.2.1.fl=some (i,T)
theorem UnF.all {PN:Nat->Ww->Prop} {Ha Hr:Ws} (hu:UnF PN Ha Hr) (h:∀ i T,¬ PN i T):Hr=Ha:=by
 apply Vz;intro i;exact hu.same i λ⟨T,hT⟩=>h i T hT
theorem Qti {o:Ins} {env:Env} {H:Ws} {K K':Wr} (h:xo P o env H K) (hk:∀ x e H',K x e H'->K' x e H'):xo P o env H K':=by
 have hj:xj P o env H K->xj P o env H K':=by
  intro h;unfold xj at h ⊢
  cases hoj:o.j with
  |p i=>rw[hoj]at h; exact⟨h.1,hk _ _ _ h.2⟩
  |q f as=>rw[hoj]at h; obtain⟨r,h1,h2⟩:=h; exact⟨r,h1,hk _ _ _ h2⟩
  |e i =>
   rw[hoj]at h;by_cases hc:i.isCall=true
   . cases i<;>simp[E.isCall]at hc
     case call f args =>
      obtain⟨Pt,h2,h3⟩:=h;refine⟨Pt,h2,λout H' hp => ?_⟩;have h3:=h3 out H' hp
      cases out with
      |ret r=>exact hk _ _ _ h3
      |pan x=>exact hk _ _ _ h3
     case calln f args =>
      obtain⟨r,L,h2,h3⟩:=h;exact⟨r,L,h2,hk _ _ _ h3⟩
     case pan x =>
      obtain⟨h2,h3⟩:=h;refine⟨h2,?_⟩;split at h3
      . exact hk _ _ _ h3
      . exact h3.elim
   . have hc':i.isCall=false:=by simpa using hc
     have h1:xe i env.ev H λv H'=>K .normal (env.put o.d v) H':=by
      cases i<;>first|exact h|simp[E.isCall]at hc'
     have h2:=Qim (g':=env.ev) (K':=λv H'=>K' .normal (env.put o.d v) H') (λx _=>rfl) (λv H' hh=>hk _ _ _ hh) h1
     cases i<;>first|exact h2|simp[E.isCall]at hc'
 unfold xo at h ⊢
 cases hog:o.g with
 |none=>rw[hog]at h; exact hj h
 |some sw =>
  obtain⟨s,want⟩:=sw;rw[hog]at h;simp only at h ⊢;refine⟨h.1,?_⟩;have h2:=h.2
  cases hoj:o.j with
  |p i=>rw[hoj]at h2; exact⟨h2.1,hk _ _ _ h2.2⟩
  |q f as=>rw[hoj]at h2; obtain⟨r,h3,h4⟩:=h2; exact⟨r,h3,hk _ _ _ h4⟩
  |e i=>rw[hoj]at h2; exact⟨λho=>hj (h2.1 ho),λho=>hk _ _ _ (h2.2 ho)⟩
theorem Qqh (hu:UnF PN Ha S.H) {o:Ins} {env env':Env} {K:Wr} (hm:o.mild=true) (hq:o.j.quiet=false) (hf:o.fl=none) (hs:∀ t∈o.slots,env'.get t=env.get t)
 (hr:∀ t∈o.slots,∃ u,VR S (env'.get t) u) (h:xo P o env Ha K) :
 xo P o env' S.H λx e2 Hr=>match x with
  |.normal=>∃ v Ha',e2=env'.put o.d v/\UnF PN Ha' Hr/\(∀ j T,PN j T->Ha'[j]? = Ha[j]?)/\K .normal (env.put o.d v) Ha'
  |_=>False:=by
 obtain⟨hg,⟨i,hj,hods⟩|⟨i,hj,hp,hods⟩|⟨i,T,hfl⟩⟩:=Qit hm
 . rw[hj]at hq; simp[J.quiet]at hq
 . have hev:∀ x∈i.ods,env.ev x=env'.ev x:=by
    intro x hx;refine(Qgk λt ht=>hs t ?_).symm;simp only[Ins.slots,hj,J.slots,Vj,YD];exact .inr ⟨x,hx,ht⟩
   have hsl:∀ x∈i.ods,∀ t∈x.slots,∃ u,VR S (env'.get t) u:=λx hx t ht=>hr t (by
    simp only[Ins.slots,hj,J.slots,Vj,YD]; exact .inr ⟨x,hx,ht⟩)
   by_cases hcn:∃ f args,i=.calln f args
   . obtain⟨f,args,rfl⟩:=hcn;simp only[E.ods,Vi,Wm]at hev;have h1:args.map env.ev=args.map env'.ev:=VA hev.2;unfold xo at h ⊢;rw[hg]at h ⊢;simp only at h ⊢;unfold xj at h ⊢;rw[hj]at h ⊢;simp only at h ⊢;obtain⟨r,L,h2,h3⟩:=h;refine⟨r,L,λH' hl=>by rw[<-hev.1,<- h1]; exact h2 H' (hl.trans hu.len),r,Ha++L,rfl,⟨by simp[hu.len],λj T hp => ?_,λj T hp => ?_,λj hn => ?_⟩,λj T hp => ?_,h3⟩
     . have:=hu.dead j T hp;rw[Vd (Qd this)]; exact this
     . obtain⟨o',h4,h5⟩:=hu.ver j T hp;exact⟨o',by rw[Vd (Qd h4)]; exact h4,h5⟩
     . by_cases hjl:j<Ha.length
       . rw[Vd hjl,Vd (by rw[hu.len]; exact hjl)]; exact hu.same j hn
       . have hl:=hu.len;rw[Vg (by omega),Vg (by omega),hl]
     . obtain⟨o',h4,h5⟩:=hu.ver j T hp;rw[Vd (Qd h4)]
   have hnc:i.isCall=false:=by cases i<;>simp_all [E.plain,E.isCall]
   unfold xo at h ⊢;rw[hg]at h ⊢;simp only at h ⊢;unfold xj at h ⊢;rw[hj]at h ⊢;have h1:xe i env.ev Ha λv H'=>K .normal (env.put o.d v) H':=by
    cases i<;>first|exact h|simp[E.isCall]at hnc
   have h2:=Qim (K':=λv H'=>K .normal (env.put o.d v) H') hev (λv H' hk=>hk) h1;have h3:=Qtj hu hp hods hsl h2;have h4:=Qim (g':=env'.ev) (K':=λv Hr=>∃ v1 Ha',env'.put o.d v=env'.put o.d v1/\UnF PN Ha' Hr/\(∀ j T,PN j T->Ha'[j]? = Ha[j]?)/\K .normal (env.put o.d v1) Ha') (λx _=>rfl)
    (λv H' ⟨Ha',a1,a2,a3⟩=>⟨v,Ha',rfl,a1,a2,a3⟩) h3
   cases i<;>first|exact h4|simp[E.isCall]at hnc
 . rw[hfl]at hf; cases hf
theorem QvQ {N:Nat} {ops:Array Oper} {C:List CI} {S:St} {db:DB} {K:Wr} (hd:DC ops C) (hchk:∀ x∈C,∃ o,ops[x.1]? = some o/\Qb1 P N ops o x.2=true) (hmi:∀ x∈C,x.2.mild=true)
 (hfu:∀ x∈C,∀ y∈C,∀ i T T',x.2.fl=some (i,T)->y.2.fl=some (i,T')->x.1=y.1) :
 ∀ (fuel:Nat) (listed:Array Bool) (S':St) (Ha:Ws) (a:Act) (Qs:List QI) (Ef:Env) (pend:List (Ins×SV)) (rest:List CI),
 rest.length+(Qs.filter (unl listed)).length<=fuel->listed.size=ops.size->(Qd2 ops λt=>listed.getD t false=true) ->
 (∀ q∈Qs,(q.1,q.2.1)∈C)->(∀ r∈rest,r∈C) ->
 (∀ i,i<ops.size->listed.getD i false=false->(∃ q∈Qs,q.1=i)\/∃ r∈rest,r.1=i) ->
 (∀ r∈rest,listed.getD r.1 false=false) ->
 (rest.Pairwise λx y=>(∀ d,y.2.d=some d->d∉x.2.slots)/\(x.2.j.quiet=false->Qbn (Qau ops.toList []) x.1 y.1=true)/\x.1≠y.1) ->
 (rest=[]\/∃ c r,rest=c::r/\c.2.j.quiet=false)->(∀ r∈rest,r.2.fl=none) ->
 (∀ q∈Qs,∀ r∈rest,(∀ d,r.2.d=some d->d∉q.2.1.slots)/\q.1≠r.1) ->
 (∀ q∈Qs,∀ q'∈Qs,q.1=q'.1->q=q')->(∀ q∈Qs,q.2.1.j.quiet=true\/q.2.1.fl.isSome=true) ->
 (∀ q∈Qs,∀ d,q.2.1.d=some d->Ef.get d=q.2.2) ->
 (∀ q∈Qs,listed.getD q.1 false=false->q.2.1.j.quiet=true->Q2 P q.2.1 Ef Ha q.2.2)->(∀ q∈Qs,listed.getD q.1 false=false->q.2.1.fl.isSome=true->flV q.2.1 Ef Ha q.2.2) ->
 (∀ q∈Qs,q.2.1.j.quiet=true->(q.2.1,q.2.2)∈pend)->(∀ p∈pend,∃ i,(i,p.1)∈C)->UnF (PNf listed Qs) Ha S'.H ->
 Ext S.H.length S S'->Sim S'->QB S' (Qb7 (Qs.filter (unl listed)) Ef) a.tmps->a.tmps.size=N->db.Ok S'.w a.defers ->
 xd P pend (rest.map (·.2)) Ef Ha K->Qbh P .any ops (QM S N db K) fuel listed a S'.w:=by
 intro fuel
 induction fuel with
 |zero =>
  intro listed S' Ha a Qs Ef pend rest hf hsz hcl hQC hrC hcov hrl hpw hhead hrf hqr hqn hqq hval hqv hqf hpend hpC hu he hS henv hN hdf hx;obtain rfl:rest=[]:=Vx (by omega);have hun:Qs.filter (unl listed)=[]:=Vx (by omega);have hall:∀ i,i<ops.size->listed.getD i false=true:=by
   intro i hi
   cases h:listed.getD i false with
   |true=>rfl
   |false =>
    rcases hcov i hi h with ⟨q,hq,rfl⟩|⟨r,hr,_⟩
    . have:q∈Qs.filter (unl listed):=by rw[V5]; exact⟨hq,by simp[unl]; simpa using h⟩
      rw[hun]at this; simp at this
    . simp at hr
  rw[hun]at henv;have heq:S'.H=Ha:=hu.all λi T ⟨q,hq,h1,_⟩=>by
   obtain⟨o,ho,_⟩:=hchk _ (hQC q hq);rw[hall q.1 (VU.1 ho).1]at h1; cases h1
  refine⟨?_,⟨.normal,Ef,S'.ρ,S'.H,trivial,he,hS,henv,hN,hdf,by rw[heq]; exact hx⟩⟩;rw[Z7];intro i hi;rw[mem_ready]at hi;obtain⟨h1,o,ho,_⟩:=hi;have hlt:i<ops.size:=(VU.1 ho).1;rw[Qf2 (by omega),hall i hlt]at h1; cases h1
 |succ fuel ih =>
  intro listed S' Ha a Qs Ef pend rest hf hsz hcl hQC hrC hcov hrl hpw hhead hrf hqr hqn hqq hval hqv hqf hpend hpC hu he hS henv hN hdf hx;refine⟨λhr => ?_,λj hj => ?_⟩
  . have hall:=QoL hd.edge hsz hr;have hrest:rest=[]:=by
     cases rest with
     |nil=>rfl
     |cons c r =>
      obtain⟨o,ho,_⟩:=hchk c (hrC c (by simp));have h1:=hrl c (by simp);rw[hall c.1 (VU.1 ho).1]at h1; cases h1
    subst hrest;have hun:Qs.filter (unl listed)=[]:=by
     rw[List.filter_eq_nil_iff];intro q hq hu;obtain⟨o,ho,_⟩:=hchk _ (hQC q hq);have:=hall q.1 (VU.1 ho).1;have e:unl listed q=false:=by unfold unl; rw[this]; rfl
     rw[e]at hu; cases hu
    rw[hun]at henv;have heq:S'.H=Ha:=hu.all λi T ⟨q,hq,h1,_⟩=>by
     obtain⟨o,ho,_⟩:=hchk _ (hQC q hq);rw[hall q.1 (VU.1 ho).1]at h1; cases h1
    exact⟨.normal,Ef,S'.ρ,S'.H,trivial,he,hS,henv,hN,hdf,by rw[heq]; exact hx⟩
  . rw[mem_ready]at hj;obtain⟨g1,o,ho,hdeps⟩:=hj;have hlt:j<ops.size:=(VU.1 ho).1;rw[Qf2 (by omega)]at g1;have before:=λ(i:Nat)=>QjE (i:=i) ho hcl hdeps;have hjs:j<listed.size:=by omega
    have hset:∀ k,(listed.setIfInBounds j true).getD k false=false->listed.getD k false=false:=by
     intro k hk
     cases h:listed.getD k false with
     |false=>rfl
     |true=>rw[(QaM (k:=k) hjs).2 (.inr h)]at hk; cases hk
    have hclosed':Qd2 ops λt=>(listed.setIfInBounds j true).getD t false=true:=by
     intro i p hi hp e hem hb;rw[QaM hjs]at hi ⊢;rcases hi with rfl|hi
     . rw[ho]at hp; cases hp; exact .inr (hdeps e (by simpa using hem) hb)
     . exact .inr (hcl i p hi hp e hem hb)
    rcases hcov j hlt g1 with ⟨q,hq,rfl⟩|⟨c,hc,rfl⟩
    . -- a quiet operation
      obtain⟨o',ho',hci⟩:=hchk _ (hQC q hq);rw[ho]at ho'; cases ho'
      have hm:∀ t∈q.2.1.slots,(Qb7 (Qs.filter (unl listed)) Ef).get t=Ef.get t:=by
       intro t ht;refine QbD λq' hq' hd' => ?_;rw[V5]at hq';have h1:=before q'.1 (hd.dep _ (hQC q' hq'.1) _ (hQC q hq) t hd' ht);have h2:=hq'.2;simp only[unl,VY]at h2;rw[h1]at h2; cases h2
      have hxo:xo P q.2.1 (Qb7 (Qs.filter (unl listed)) Ef) S'.H (λx env' H'=>x=.normal/\env'=(Qb7 (Qs.filter (unl listed)) Ef).put q.2.1.d q.2.2/\UnF (PNf (listed.setIfInBounds q.1 true) Qs) Ha H'):=by
       rcases hqq q hq with hqu|hfs
       . have hq1:=QuK hu (hmi _ (hQC q hq)) (λt _=>⟨_,henv.get t⟩) (Qc7 (hqv q hq g1 hqu) hm);refine QmU hq1 ⟨rfl,rfl,hu.congr λi T => ?_⟩;constructor
         . rintro⟨q',hq',h1,h2⟩;exact⟨q',hq',hset _ h1,h2⟩
         . rintro⟨q',hq',h1,h2⟩;refine⟨q',hq',?_,h2⟩
           cases h3:(listed.setIfInBounds q.1 true).getD q'.1 false with
           |false=>rfl
           |true =>
            rw[QaM hjs]at h3;rcases h3 with h3|h3
            . have:=hqn q' hq' q hq h3;subst this;rw[(Qe7 h2).1]at hqu; cases hqu
            . rw[h1]at h3; cases h3
       . obtain⟨⟨i,T⟩,hfi⟩:=Zi.1 hfs;have hv:=QiN (hqf q hq g1 hfs) hm (λ_ _ _=>rfl) hfs;refine Qti (Qqz hu hfi ⟨q,hq,g1,hfi⟩ hv) ?_;rintro x e H' ⟨rfl,rfl,p,hp,rfl⟩;refine⟨rfl,rfl,hu.fill hp λj T' => ?_⟩;constructor
         . rintro⟨q',hq',h1,h2⟩;refine⟨⟨q',hq',hset _ h1,h2⟩,?_⟩;rintro rfl;have:=hfu _ (hQC q' hq') _ (hQC q hq) _ _ _ h2 hfi;rw[(QaM (k:=q'.1) hjs).2 (.inl this)]at h1; cases h1
         . rintro⟨⟨q',hq',h1,h2⟩,hne⟩;refine⟨q',hq',?_,h2⟩
           cases h3:(listed.setIfInBounds q.1 true).getD q'.1 false with
           |false=>rfl
           |true =>
            rw[QaM hjs]at h3;rcases h3 with h3|h3
            . have:=hqn q' hq' q hq h3;subst this;rw[hfi]at h2; cases h2; exact absurd rfl hne
            . rw[h1]at h3; cases h3
      refine Qgt ho (QdL hS henv hN hdf hci hxo ?_ ?_)
      . rintro a' w' ⟨x,env',ρ',H',hx',hext,hsim,henv',hN',hdf',hxn,rfl,hu'⟩;refine ih _ ⟨ρ',H',w'⟩ Ha a' Qs Ef pend rest ?_ (by simpa using hsz) hclosed' hQC hrC (λi hi h=>hcov i hi (hset i h)) ?_ hpw hhead hrf hqr hqn hqq hval
         (λq' hq' h=>hqv q' hq' (hset _ h)) (λq' hq' h=>hqf q' hq' (hset _ h)) hpend hpC hu' (he.trans (hext.mono (he.len (Vc _)))) hsim ?_ hN' hdf' hx
        . have:=QkF (p:=unl listed) (q:=unl (listed.setIfInBounds q.1 true)) Qs (by
           intro q' _ h;simp only[unl,VY]at h ⊢;exact hset _ h) q hq (by simp only[unl,g1]; rfl) (by
           simp only[unl,Bool.not_eq_false'];exact(QaM hjs).2 (.inl rfl))
          omega
        . intro r hr;have h1:=hrl r hr
          cases h:(listed.setIfInBounds q.1 true).getD r.1 false with
          |false=>rfl
          |true =>
           rw[QaM hjs]at h;rcases h with h|h
           . exact absurd h.symm (hqr q hq r hr).2
           . rw[h1]at h; cases h
        . refine henv'.congr λt => ?_;by_cases hun:∃ q'∈Qs.filter (unl (listed.setIfInBounds q.1 true)),q'.2.1.d=some t
          . exact .inl (QdQ hun)
          . right;rw[QbD (λq' hq' h=>hun ⟨q',hq',h⟩)];by_cases h2:q.2.1.d=some t
            . rw[h2,Qd8]; exact hval q hq t h2
            . rw[Qct h2,QbD];intro q' hq' h3;apply hun;refine⟨q',?_,h3⟩;rw[V5]at hq' ⊢;refine⟨hq'.1,?_⟩;have h4:=hq'.2;simp only[unl,VY]at h4 ⊢
              cases h5:(listed.setIfInBounds q.1 true).getD q'.1 false with
              |false=>rfl
              |true =>
               rw[QaM hjs]at h5;rcases h5 with h5|h5
               . have:=hqn q' hq'.1 q hq h5;subst this; exact absurd h3 h2
               . rw[h4]at h5; cases h5
      . rintro ch a' w' ⟨x,env',ρ',H',hx',hext,hsim,henv',hN',hdf',hxn,_⟩;subst hxn;simp only[ER]at hx'
    . -- the next write
      have hhd:∃ r,rest=c::r:=by
       rcases hhead with rfl|⟨c',r,rfl,hq'⟩
       . simp at hc
       . simp only[Vi]at hc;rcases hc with rfl|hc
         . exact⟨r,rfl⟩
         . rw[Yz]at hpw;have h1:=before c'.1 ((hpw.1 c hc).2.1 hq');rw[hrl c' (by simp)]at h1; cases h1
      obtain⟨r,rfl⟩:=hhd;have hcq:c.2.j.quiet=false:=by
       rcases hhead with h|⟨c',r',h,hq'⟩
       . cases h
       . cases h; exact hq'
      obtain⟨o',ho',hci⟩:=hchk c (hrC c (by simp));rw[ho]at ho'; cases ho'
      rw[Yz]at hpw;have hm:∀ t∈c.2.slots,(Qb7 (Qs.filter (unl listed)) Ef).get t=Ef.get t:=by
       intro t ht;refine QbD λq' hq' hd' => ?_;rw[V5]at hq';have h1:=before q'.1 (hd.dep _ (hQC q' hq'.1) _ (hrC c (by simp)) t hd' ht);have h2:=hq'.2;simp only[unl,VY]at h2;rw[h1]at h2; cases h2
      simp only[Vs,xd]at hx;rw[Wa (by simp[hcq])]at hx;have hxo:=Qqh hu (hmi _ (hrC c (by simp))) hcq (hrf c (by simp)) hm (λt _=>⟨_,henv.get t⟩) hx;refine Qgt ho (QdL hS henv hN hdf hci hxo ?_ ?_)
      . rintro a' w' ⟨x,env',ρ',H',hx',hext,hsim,henv',hN',hdf',hk⟩
        cases x<;>simp only[ER]at hx'
        obtain⟨v,Ha',rfl,hu',hsame,hpv,hxd⟩:=hk;obtain⟨F,rest',pend',f1,f2,f3,f4,f5,f8,f6,f7⟩:=Qii r pend _ hxd;subst f1;have hFC:∀ q∈F,(q.1,q.2.1)∈C:=λq hq=>hrC _ (by simp; exact .inr (.inl ⟨q.2.2,hq⟩));have hr'C:∀ y∈rest',y∈C:=λy hy=>hrC _ (by simp[hy]);have hFr:∀ q∈F,(q.1,q.2.1)∈(F.map λq=>(q.1,q.2.1))++rest':=λq hq=>VZ _ (Vl.2 ⟨q,hq,rfl⟩);rw[Zn]at hpw;obtain⟨hpc,hpF,hpr,hpFr⟩:=hpw;have hFidx:∀ (i k:Nat) (x y:QI),F[i]? = some x->F[k]? = some y->i<k->(∀ d,y.2.1.d=some d->d∉x.2.1.slots)/\x.1≠y.1:=by
         intro i k x y hx hy hik;rw[Zo,Yy]at hpF;have h1:=Qd hx;have h2:=Qd hy;have h3:=hpF i k h1 h2 hik;rw[Vb h1]at hx; cases hx
         rw[Vb h2]at hy; cases hy
         exact⟨h3.1,h3.2.2⟩
        generalize hE1:Ef.put c.2.d v=E1 at *;have getF:∀ (t:Nat),(∀ q∈F,q.2.1.d≠some t)->(QU E1 (F.map (·.2.1)) (F.map (·.2.2))).get t=E1.get t:=by
         intro t h;refine Qc8 _ _ _ _ λp hp => ?_;obtain⟨q,hq,rfl⟩:=Vl.1 hp;exact h q hq
        have getF1:∀ q∈F,∀ d,q.2.1.d=some d->(QU E1 (F.map (·.2.1)) (F.map (·.2.2))).get d=q.2.2:=by
         intro q hq d hqd;obtain⟨k,hk⟩:=Vk hq;refine Qdy _ _ _ d k q.2.1 q.2.2 (by simp[hk]) (by simp[hk]) hqd ?_;intro i p hik hp hpd;simp only[Vn,V9]at hp;obtain⟨y,hy,rfl⟩:=hp;exact hd.uniq _ (hFC q hq) _ (hFC y (Vp hy)) (hFidx k i q y hk hy hik).2 d hqd hpd
        have hcF:∀ q∈F,c.1≠q.1:=λq hq=>(hpc _ (hFr q hq)).2.2;have hcr':∀ y∈rest',c.1≠y.1:=λy hy=>(hpc _ (Ya _ hy)).2.2;have hlF:∀ q∈F,(listed.setIfInBounds c.1 true).getD q.1 false=false:=by
         intro q hq
         cases h:(listed.setIfInBounds c.1 true).getD q.1 false with
         |false=>rfl
         |true =>
          rw[QaM hjs]at h;rcases h with h|h
          . exact absurd h.symm (hcF q hq)
          . have:=hrl (q.1,q.2.1) (VI _ (hFr q hq)); rw[this]at h; cases h
        have hQF:∀ q∈Qs,∀ q'∈F,(∀ d,q'.2.1.d=some d->d∉q.2.1.slots)/\q.1≠q'.1:=λq hq q' hq'=>hqr q hq (q'.1,q'.2.1) (VI _ (hFr q' hq'));have hQc:∀ q∈Qs,(∀ d,c.2.d=some d->d∉q.2.1.slots)/\q.1≠c.1:=λq hq=>hqr q hq c (by simp);have hFn:∀ q∈F,q.2.1.fl=none:=by
         intro q hq
         cases h:q.2.1.fl with
         |none=>rfl
         |some x=>have:=(Qe7 h).1; rw[f3 q hq]at this; cases this
        refine ih _ ⟨ρ',H',w'⟩ Ha' a' (Qs++F) (QU E1 (F.map (·.2.1)) (F.map (·.2.2))) pend' rest' ?_ (by simpa using hsz) hclosed' ?_ hr'C ?_ ?_ hpr f2 (λy hy=>hrf y (by simp[hy])) ?_ ?_ ?_ ?_ ?_ ?_ ?_ ?_ ?_
         (he.trans (hext.mono (he.len (Vc _)))) hsim ?_ hN' hdf' f7
        . -- fuel
          have h1:((Qs++F).filter (unl (listed.setIfInBounds c.1 true))).length<=(Qs.filter (unl listed)).length+F.length:=by
           rw[List.filter_append,Vt];have h2:=Y6 (unl (listed.setIfInBounds c.1 true)) F;have h3:(Qs.filter (unl (listed.setIfInBounds c.1 true))).length<=(Qs.filter (unl listed)).length:=by
            have:Qs.filter (unl (listed.setIfInBounds c.1 true))=(Qs.filter (unl listed)).filter (unl (listed.setIfInBounds c.1 true)):=by
             rw[List.filter_filter];refine List.filter_congr λq _ => ?_;simp only[unl]
             cases h:(listed.setIfInBounds c.1 true).getD q.1 false with
             |true=>rfl
             |false=>rw[hset _ h]; rfl
            rw[this]; exact Y6 _ _
           omega
          simp only[VT,Vt,Y2]at hf;omega
        . intro q hq;rcases Vj.1 hq with hq|hq
          . exact hQC q hq
          . exact hFC q hq
        . intro i hi h;have h0:=hset i h;rcases hcov i hi h0 with ⟨q,hq,rfl⟩|⟨y,hy,rfl⟩
          . exact .inl ⟨q,VZ _ hq,rfl⟩
          . simp only[Vi,Vj,Vl]at hy;rcases hy with rfl|⟨q,hq,rfl⟩|hy
            . rw[(QaM (k:=y.1) hjs).2 (.inl rfl)]at h; cases h
            . exact .inl ⟨q,Ya _ hq,rfl⟩
            . exact .inr ⟨y,hy,rfl⟩
        . intro y hy
          cases h:(listed.setIfInBounds c.1 true).getD y.1 false with
          |false=>rfl
          |true =>
           rw[QaM hjs]at h;rcases h with h|h
           . exact absurd h.symm (hcr' y hy)
           . have:=hrl y (VI _ (Ya _ hy)); rw[this]at h; cases h
        . intro q hq y hy;rcases Vj.1 hq with hq|hq
          . exact hqr q hq y (VI _ (Ya _ hy))
          . have:=hpFr (q.1,q.2.1) (Vl.2 ⟨q,hq,rfl⟩) y hy;exact⟨this.1,this.2.2⟩
        . intro q hq q' hq' heq;rcases Vj.1 hq with hq|hq<;>rcases Vj.1 hq' with hq'|hq'
          . exact hqn q hq q' hq' heq
          . exact absurd heq (hQF q hq q' hq').2
          . exact absurd heq.symm (hQF q' hq' q hq).2
          . obtain⟨i,hi⟩:=Vk hq;obtain⟨k,hk⟩:=Vk hq';rcases Ym i k with h|h|h
            . exact absurd heq (hFidx i k q q' hi hk h).2
            . subst h; rw[hi]at hk; cases hk; rfl
            . exact absurd heq.symm (hFidx k i q' q hk hi h).2
        . intro q hq;rcases Vj.1 hq with hq|hq
          . exact hqq q hq
          . exact .inl (f3 q hq)
        . intro q hq d hqd;rcases Vj.1 hq with hq|hq
          . rw[getF d (λq' hq' h=>hd.uniq _ (hQC q hq) _ (hFC q' hq') (hQF q hq q' hq').2 d hqd h),<- hE1,Qct (λh=>hd.uniq _ (hQC q hq) _ (hrC c (by simp)) (hQc q hq).2 d hqd h)];exact hval q hq d hqd
          . exact getF1 q hq d hqd
        . intro q hq hun hqu;rcases Vj.1 hq with hq|hq
          . have hcg:∀ t∈q.2.1.slots,(QU E1 (F.map (·.2.1)) (F.map (·.2.2))).get t=E1.get t:=λt ht=>getF t λq' hq' h=>(hQF q hq q' hq').1 t h ht;refine Qc7 ?_ hcg;by_cases hdep:q.2.1.j.dep=true
            . refine hpv _ (hpend q hq hqu) ?_;simp only[Qgd,hdep,Bool.true_and,VY];unfold QdI
              cases hqd:q.2.1.d with
              |none=>rfl
              |some d =>
               simp only
               cases hcn:(QdT c.2.slots pend).contains d with
               |false=>rfl
               |true =>
                have h1:=QgE hd hchk hcl pend c.2.slots hpC (λt ht y hy hyd=>before y.1 (hd.dep y hy c (hrC c (by simp)) t hyd ht)) d (by simpa using hcn) _ (hQC q hq) hqd;rw[hset _ hun]at h1; cases h1
            . refine QmI (by simpa using hdep) (Qc7 (hqv q hq (hset _ hun) hqu) λt ht => ?_);rw[<-hE1,Qct (λh=>(hQc q hq).1 t h ht)]
          . obtain⟨k,hk⟩:=Vk hq;refine Qc7 (f6 k q hk) λt ht => ?_;by_cases hw:∃ y∈F,y.2.1.d=some t
            . obtain⟨y,hy,hyd⟩:=hw;obtain⟨i,hi⟩:=Vk hy;have hik:i<k:=by
               rcases Ym i k with h|h|h
               . exact h
               . subst h; rw[hi]at hk; cases hk
                 exact absurd ht (hd.self _ (hFC q hq) t hyd)
               . exact absurd ht ((hFidx k i q y hk hi h).1 t hyd)
              rw[getF1 y hy t hyd];refine(Qdy _ _ _ t i y.2.1 y.2.2 ?_ ?_ hyd ?_).symm
              . simp only[Vn,VD,Wb hik,hi,VS]
              . simp only[Vn,VD,Wb hik,hi,VS]
              . intro m p him hp hpd;simp only[Vn,VD,V9]at hp;obtain⟨z,hz,rfl⟩:=hp;split at hz
                . exact hd.uniq _ (hFC y hy) _ (hFC z (Vp hz)) (hFidx i m y z hi hz him).2 t hyd hpd
                . cases hz
            . have hw':∀ y∈F,y.2.1.d≠some t:=λy hy h=>hw ⟨y,hy,h⟩;rw[getF t hw'];refine(Qc8 _ _ _ _ λp hp => ?_).symm;obtain⟨z,hz,rfl⟩:=Vl.1 hp;exact hw' z (V7 hz)
        . intro q hq hun hfs;rcases Vj.1 hq with hq|hq
          . refine QiN (hqf q hq (hset _ hun) hfs) (λt ht => ?_) (λi T hT=>hsame i T ⟨q,hq,hset _ hun,hT⟩) hfs;rw[getF t λq' hq' h=>(hQF q hq q' hq').1 t h ht,<- hE1,Qct (λh=>(hQc q hq).1 t h ht)]
          . rw[hFn q hq]at hfs; cases hfs
        . intro q hq hqu;rcases Vj.1 hq with hq|hq
          . exact f4 _ (hpend q hq hqu)
          . exact f5 q hq
        . intro p hp;rcases f8 p hp with h|⟨q,hq,h⟩
          . exact hpC p h
          . exact⟨q.1,by rw[h]; exact hFC q hq⟩
        . refine hu'.congr λi T => ?_;constructor
          . rintro⟨q,hq,h1,h2⟩;rcases Vj.1 hq with hq|hq
            . exact⟨q,hq,hset _ h1,h2⟩
            . rw[hFn q hq]at h2; cases h2
          . rintro⟨q,hq,h1,h2⟩;refine⟨q,VZ _ hq,?_,h2⟩
            cases h3:(listed.setIfInBounds c.1 true).getD q.1 false with
            |false=>rfl
            |true =>
             rw[QaM hjs]at h3;rcases h3 with h3|h3
             . exact absurd h3 (hQc q hq).2
             . rw[h1]at h3; cases h3
        . refine henv'.congr λt => ?_;by_cases hun:∃ q'∈(Qs++F).filter (unl (listed.setIfInBounds c.1 true)),q'.2.1.d=some t
          . exact .inl (QdQ hun)
          . right;rw[QbD (λq' hq' h=>hun ⟨q',hq',h⟩)];have hnF:∀ q∈F,q.2.1.d≠some t:=by
             intro q hq h;exact hun ⟨q,by rw[V5]; exact⟨Ya _ hq,by simp only[unl,hlF q hq]; rfl⟩,h⟩
            rw[getF t hnF,<- hE1];by_cases h2:c.2.d=some t
            . rw[h2,Qd8,Qd8]
            . rw[Qct h2,Qct h2,QbD];intro q' hq' h3;apply hun;refine⟨q',?_,h3⟩;rw[V5]at hq' ⊢;refine⟨VZ _ hq'.1,?_⟩;have h4:=hq'.2;simp only[unl,VY]at h4 ⊢
              cases h5:(listed.setIfInBounds c.1 true).getD q'.1 false with
              |false=>rfl
              |true =>
               rw[QaM hjs]at h5;rcases h5 with h5|h5
               . exact absurd h5 (hQc q' hq'.1).2
               . rw[h4]at h5; cases h5
      . rintro ch a' w' ⟨x,env',ρ',H',hx',hext,hsim,henv',hN',hdf',hk⟩
        cases x<;>simp only[ER]at hx'
        exact hk.elim
end
end
section
variable [QK] [QE] [QF]
theorem Qqb (n:Nat) (o:Ins):(o.rs n).slots=o.slots:=by
 obtain⟨d,g,j⟩:=o
 cases j with
 |e i=>cases i<;>rfl
 |_=>rfl
theorem QkE (n:Nat) (o:Ins):(o.rs n).j.quiet=o.j.quiet:=by
 obtain⟨d,g,j⟩:=o
 cases j<;>rfl
theorem d_rs (n:Nat) (o:Ins):(o.rs n).d=o.d:=rfl
theorem Qrw (n:Nat) (o:Ins):(o.rs n).mild=o.mild:=by
 obtain⟨d,g,j⟩:=o
 cases g with
 |some x=>rfl
 |none=>cases j with
  |e i=>cases i<;>rfl
  |_=>rfl
theorem Qob (n:Nat) (o:Ins):(o.rs n).fl=o.fl.map λx=>(n+x.1,x.2):=by
 obtain⟨d,g,j⟩:=o
 cases g with
 |some x=>cases j with
  |e i=>cases i<;>rfl
  |_=>rfl
 |none=>cases j with
  |e i=>cases i<;>rfl
  |_=>rfl
def QdG (free:Ins->Bool) (ops:Array Oper) (ns:List Nat) (l:List Ins):Bool :=
 let B:=Qau ops.toList []
 let n:=l.length
 let L:=ns.zip l
 (n==ops.size)&&(ns.length==n)&&((List.range n).all λi=>ns.contains i) &&
 ((List.range n).all λi=>((ops.getD i default).after.toList.all λe => !Region.binds .any e||decide (e.on<i))) &&
 (L.zipIdx.all λx=>L.zipIdx.all λy =>
  (match x.1.2.d with
   |none=>true
   |some d=>(x.2==y.2||y.1.2.d != some d)&&(!y.1.2.slots.contains d||(Qbn B x.1.1 y.1.1&&decide (x.2<y.2)))) &&
  (free x.1.2||decide (y.2<=x.2)||Qbn B x.1.1 y.1.1)&&(x.2==y.2||x.1.1 != y.1.1))
theorem Ql5 {free:Ins->Bool} (n:Nat) (hf:∀ o,free (Ins.rs n o)=free o) {ops:Array Oper} {ns:List Nat} {l:List Ins} (h:QdG free ops ns l=true):QdG free ops ns (l.map (Ins.rs n))=true:=by
 have e:QdG free ops ns (l.map (Ins.rs n))=QdG free ops ns l:=by
  unfold QdG;simp only[Y2,List.zip_map_right,List.zipIdx_map,List.all_map,Function.comp_def,Prod.map_fst,Prod.map_snd,id_eq,d_rs,Qqb,hf]
 rw[e]; exact h
theorem QtI (ops:Array Oper) (ns:List Nat) (l:List Ins):QeG ops ns l=QdG (λo=>o.j.quiet) ops ns l:=rfl
theorem Qs5 {free:Ins->Bool} {ops:Array Oper} {ns:List Nat} {l:List Ins} (h:QdG free ops ns l=true):DC ops (ns.zip l) /\
 (ns.zip l).Pairwise (λx y=>(∀ d,y.2.d=some d->d∉x.2.slots)/\(free x.2=false->Qbn (Qau ops.toList []) x.1 y.1=true)/\x.1≠y.1)/\ns.length=l.length/\l.length=ops.size:=by
 unfold QdG at h;simp only[Va,Wc,Vy,VJ,Yb,VY,Wd,List.contains_eq_mem]at h;obtain⟨⟨⟨⟨h1,h2⟩,h3⟩,h4⟩,h5⟩:=h;refine(λhh=>⟨hh.1,hh.2,h2,h1⟩:(_/\_)->_) ?_;generalize hC:ns.zip l=C at h5 ⊢;have hp:∀ (a b:Nat) (x y:CI),C[a]? = some x->C[b]? = some y ->
  (∀ d,x.2.d=some d->(a=b\/y.2.d≠some d)/\(d∈y.2.slots->Qbn (Qau ops.toList []) x.1 y.1=true/\a<b)) /\
  ((free x.2=true\/b<=a)\/Qbn (Qau ops.toList []) x.1 y.1=true)/\(a=b\/x.1≠y.1):=by
  intro a b x y hx hy;have hxm:(x,a)∈C.zipIdx:=Vp (i:=a) (by rw[ZL]; simp[hx]);have hym:(y,b)∈C.zipIdx:=Vp (i:=b) (by rw[ZL]; simp[hy]);have h6:=h5 (x,a) hxm (y,b) hym;simp only[bne_iff_ne,ne_eq]at h6;obtain⟨⟨h6,h7⟩,h8⟩:=h6;refine⟨λd hd => ?_,h7,h8⟩;rw[hd]at h6;simp only[Va,Yb,Wc,bne_iff_ne,ne_eq,VY,Wd,Wo]at h6;refine⟨h6.1,λhm => ?_⟩;rcases h6.2 with h9|h9
  . exact absurd hm h9
  . exact h9
 refine⟨⟨λi hi => ?_,?_,?_,?_,?_⟩,?_⟩
 . rw[<-hC]; exact Ql2 h2 (h3 i (by omega))
 . intro i o ho e he hb;have hi:i<ops.size:=(VU.1 ho).1;rcases h4 i (by omega) e (by rw[V2,ho]; simpa using he)with h6|h6
   . rw[hb]at h6; cases h6
   . exact h6
 . intro x hx y hy hne d hd hd';obtain⟨a,ha⟩:=Vk hx;obtain⟨b,hb⟩:=Vk hy;rcases((hp a b x y ha hb).1 d hd).1 with h6|h6
   . subst h6; rw[ha]at hb; cases hb; exact hne rfl
   . exact h6 hd'
 . intro x hx y hy d hd hs;obtain⟨a,ha⟩:=Vk hx;obtain⟨b,hb⟩:=Vk hy;exact(((hp a b x y ha hb).1 d hd).2 hs).1
 . intro x hx d hd hs;obtain⟨a,ha⟩:=Vk hx;have:=(((hp a a x x ha ha).1 d hd).2 hs).2; omega
 . rw[Yy];intro a b ha hb hab;have h6:=hp a b C[a] C[b] (Vb ha) (Vb hb);have h7:=hp b a C[b] C[a] (Vb hb) (Vb ha);refine⟨λd hd hs => ?_,λhq => ?_,?_⟩
   . have:=((h7.1 d hd).2 hs).2; omega
   . rcases h6.2.1 with (h8|h8)|h8
     . rw[hq]at h8; cases h8
     . omega
     . exact h8
   . rcases h6.2.2 with h8|h8
     . omega
     . exact h8
def Qeo:List Ins->Bool
 |[]=>true
 |o::r=>(o.fl.isSome||o.j.quiet||r.all λp=>p.fl.isNone)&&(match o.fl with|none=>true|some (i,_)=>r.all λp=>match p.fl with|none=>true|some (k,_)=>k != i)&&Qeo r
def QeQ (ops:Array Oper) (ns:List Nat) (l:List Ins):Bool:=(l.all Ins.mild&&Qeo l)&&QdG (λo=>o.j.quiet||o.fl.isSome) ops ns l
theorem Qns (n:Nat):∀ (l:List Ins),Qeo (l.map (Ins.rs n))=Qeo l
 |[]=>rfl
 |o::r=>by
  simp only[Vs,Qeo,Qns n r,List.all_map,Function.comp_def,Qob,QkE,Option.isSome_map,Option.isNone_map];congr 2
  cases o.fl with
  |none=>rfl
  |some x =>
   simp only[VS];congr 1;funext p
   cases p.fl with
   |none=>rfl
   |some y =>
    simp only[VS];rw[Bool.eq_iff_iff]; simp
theorem Qu5 (n:Nat) {ops:Array Oper} {ns:List Nat} {l:List Ins} (h:QeQ ops ns l=true):QeQ ops ns (l.map (Ins.rs n))=true:=by
 unfold QeQ at h ⊢;rw[Va,Va]at h ⊢;refine⟨⟨?_,by rw[Qns]; exact h.1.2⟩,Ql5 n (λo=>by rw[QkE,Qob,Option.isSome_map]) h.2⟩;have:=h.1.1;simp only[List.all_map,Function.comp_def,Qrw];exact this
theorem QoY:∀ {l:List Ins},Qeo l=true->l.Pairwise λx y=>(∀ i T T',x.fl=some (i,T)->y.fl≠some (i,T'))/\(x.j.quiet=false->x.fl=none->y.fl=none)
 |[],_=>.nil
 |o::r,h=>by
  simp only[Qeo,Va]at h;obtain⟨⟨h1,h2⟩,h3⟩:=h;rw[Yz];refine⟨λy hy=>⟨λi T T' hx hy' => ?_,λhq hx => ?_⟩,QoY h3⟩
  . rw[hx]at h2;simp only[Vy]at h2;have:=h2 y hy;rw[hy']at this;simp at this
  . rw[hx,hq]at h1;simp only[YQ,Bool.false_or,Vy]at h1;have:=h1 y hy
    cases hyf:y.fl with
    |none=>rfl
    |some z=>rw[hyf]at this; cases this
section
variable {P:Wx}
theorem Qvx:QjK P QeQ:=by
 intro N ops ns l env H K hc hdr hx db S a hH hS he hN hdf;subst hH;unfold QeQ at hdr;rw[Va,Va]at hdr;obtain⟨⟨hmild,hfl⟩,hdr⟩:=hdr;obtain⟨hd,hpw0,hlen⟩:=Qs5 hdr;have hsnd:(ns.zip l).map (·.2)=l:=by rw[List.map_snd_zip]; omega
 have hchk:∀ x∈ns.zip l,∃ o,ops[x.1]? = some o/\Qb1 P N ops o x.2=true:=by
  intro x hx;unfold QbA at hc;rw[Vy]at hc;have:=hc x hx;split at this
  . rename_i o ho; exact⟨o,ho,this⟩
  . cases this
 have hmi:∀ x∈ns.zip l,x.2.mild=true:=λx hx=>by
  rw[Vy]at hmild;exact hmild _ (List.of_mem_zip hx).2
 have hflp:(ns.zip l).Pairwise λx y=>(∀ i T T',x.2.fl=some (i,T)->y.2.fl≠some (i,T'))/\(x.2.j.quiet=false->x.2.fl=none->y.2.fl=none):=by
  have:=QoY hfl;rw[<-hsnd,Zo]at this;exact this
 have hnone:∀ i,(Array.replicate ops.size false).getD i false=false:=by
  intro i;rw[V2,Y5];split<;>rfl
 have hE:=QfZ (S:=S) (w':=S.w.drew) rfl rfl rfl rfl;have hS':=Qg9 hS (w':=S.w.drew) rfl rfl rfl rfl;obtain⟨F,rest',pend',Ha,f1,f2,f3,f4,f5,f8,f6,f7,g1,g2,g3,g4⟩:=QlK (ns.zip l) [] env S.H hmi (hflp.imp λh=>h.1) (by rw[hsnd]; exact hx);have hFC:∀ q∈F,(q.1,q.2.1)∈ns.zip l:=λq hq=>by rw[f1]; exact VZ _ (Vl.2 ⟨q,hq,rfl⟩)
 have hr'C:∀ y∈rest',y∈ns.zip l:=λy hy=>by rw[f1]; exact Ya _ hy
 have hfu:∀ x∈ns.zip l,∀ y∈ns.zip l,∀ i T T',x.2.fl=some (i,T)->y.2.fl=some (i,T')->x.1=y.1:=by
  intro x hx y hy i T T' h1 h2;obtain⟨k,hk⟩:=Vk hx;obtain⟨m,hm⟩:=Vk hy;rw[Yy]at hflp;have b1:=Qd hk;have b2:=Qd hm;rcases Ym k m with h|h|h
  . have:=(hflp k m b1 b2 h).1;rw[Vb b1]at hk; cases hk
    rw[Vb b2]at hm; cases hm
    exact absurd h2 (this i T T' h1)
  . subst h; rw[hk]at hm; cases hm; rfl
  . have:=(hflp m k b2 b1 h).1;rw[Vb b1]at hk; cases hk
    rw[Vb b2]at hm; cases hm
    exact absurd h1 (this i T' T h2)
 have hpw1:=hpw0;rw[f1,Zn]at hpw1;obtain⟨hpF,hpr0,hpFr⟩:=hpw1;have hrf:∀ y∈rest',y.2.fl=none:=by
  intro y hy;rcases f2 with rfl|⟨c,r,rfl,hcq,hcf⟩
  . simp at hy
  . rw[f1,Zn]at hflp;simp only[Vi]at hy;rcases hy with rfl|hy
    . exact hcf
    . exact((Yz.1 hflp.2.1).1 y hy).2 hcq hcf
 have hpr:rest'.Pairwise λx y=>(∀ d,y.2.d=some d->d∉x.2.slots)/\(x.2.j.quiet=false->Qbn (Qau ops.toList []) x.1 y.1=true)/\x.1≠y.1:=by
  refine List.Pairwise.imp_of_mem ?_ hpr0;intro x y hx hy h;exact⟨h.1,λhq=>h.2.1 (by rw[hq,hrf x hx]; rfl),h.2.2⟩
 have hFidx:∀ (i k:Nat) (x y:QI),F[i]? = some x->F[k]? = some y->i<k->(∀ d,y.2.1.d=some d->d∉x.2.1.slots)/\x.1≠y.1:=by
  intro i k x y hx hy hik;rw[Zo,Yy]at hpF;have h1:=Qd hx;have h2:=Qd hy;have h3:=hpF i k h1 h2 hik;rw[Vb h1]at hx; cases hx
  rw[Vb h2]at hy; cases hy
  exact⟨h3.1,h3.2.2⟩
 have getF:∀ (t:Nat),(∀ q∈F,q.2.1.d≠some t)->(QU env (F.map (·.2.1)) (F.map (·.2.2))).get t=env.get t:=by
  intro t h;refine Qc8 _ _ _ _ λp hp => ?_;obtain⟨q,hq,rfl⟩:=Vl.1 hp;exact h q hq
 have getF1:∀ q∈F,∀ d,q.2.1.d=some d->(QU env (F.map (·.2.1)) (F.map (·.2.2))).get d=q.2.2:=by
  intro q hq d hqd;obtain⟨k,hk⟩:=Vk hq;refine Qdy _ _ _ d k q.2.1 q.2.2 (by simp[hk]) (by simp[hk]) hqd ?_;intro i p hik hp hpd;simp only[Vn,V9]at hp;obtain⟨y,hy,rfl⟩:=hp;exact hd.uniq _ (hFC q hq) _ (hFC y (Vp hy)) (hFidx k i q y hk hy hik).2 d hqd hpd
 have hback:∀ q∈F,∀ k,F[k]? = some q->∀ t∈q.2.1.slots,(QU env (F.map (·.2.1)) (F.map (·.2.2))).get t=(QU env ((F.take k).map (·.2.1)) ((F.take k).map (·.2.2))).get t:=by
  intro q hq k hk t ht;by_cases hw:∃ y∈F,y.2.1.d=some t
  . obtain⟨y,hy,hyd⟩:=hw;obtain⟨i,hi⟩:=Vk hy;have hik:i<k:=by
     rcases Ym i k with h|h|h
     . exact h
     . subst h; rw[hi]at hk; cases hk
       exact absurd ht (hd.self _ (hFC q hq) t hyd)
     . exact absurd ht ((hFidx k i q y hk hi h).1 t hyd)
    rw[getF1 y hy t hyd];refine(Qdy _ _ _ t i y.2.1 y.2.2 ?_ ?_ hyd ?_).symm
    . simp only[Vn,VD,Wb hik,hi,VS]
    . simp only[Vn,VD,Wb hik,hi,VS]
    . intro m p him hp hpd;simp only[Vn,VD,V9]at hp;obtain⟨z,hz,rfl⟩:=hp;split at hz
      . exact hd.uniq _ (hFC y hy) _ (hFC z (Vp hz)) (hFidx i m y z hi hz him).2 t hyd hpd
      . cases hz
  . have hw':∀ y∈F,y.2.1.d≠some t:=λy hy h=>hw ⟨y,hy,h⟩;rw[getF t hw'];refine(Qc8 _ _ _ _ λp hp => ?_).symm;obtain⟨z,hz,rfl⟩:=Vl.1 hp;exact hw' z (V7 hz)
 have hf2:rest'=[]\/∃ c r,rest'=c::r/\c.2.j.quiet=false:=by
  rcases f2 with h|⟨c,r,h,h1,_⟩
  . exact .inl h
  . exact .inr ⟨c,r,h,h1⟩
 refine QvQ hd hchk hmi hfu ops.size (Array.replicate ops.size false) ⟨S.ρ,S.H,S.w.drew⟩ Ha a F (QU env (F.map (·.2.1)) (F.map (·.2.2))) pend' rest' ?_ (by simp) ?_ hFC hr'C ?_ (λr _=>hnone _) hpr hf2 hrf ?_ ?_ f3 getF1 ?_ ?_ f5 (λp hp=>by
  rcases f8 p hp with h|⟨q,hq,h⟩
  . simp at h
  . exact⟨q.1,by rw[h]; exact hFC q hq⟩)
  ?_ hE hS' ?_ hN hdf.drew f7
 . have h1:=Y6 (unl (Array.replicate ops.size false)) F;have h2:(ns.zip l).length=ops.size:=by rw[List.length_zip]; omega
   rw[f1]at h2;simp at h2; omega
 . intro j o hj;simp only[hnone]at hj; cases hj
 . intro i hi _;obtain⟨x,hx,rfl⟩:=hd.cov i hi;rw[f1,Vj,Vl]at hx;rcases hx with ⟨q,hq,rfl⟩|hx
   . exact .inl ⟨q,hq,rfl⟩
   . exact .inr ⟨x,hx,rfl⟩
 . intro q hq y hy;have:=hpFr (q.1,q.2.1) (Vl.2 ⟨q,hq,rfl⟩) y hy;exact⟨this.1,this.2.2⟩
 . intro q hq q' hq' heq;obtain⟨i,hi⟩:=Vk hq;obtain⟨k,hk⟩:=Vk hq';rcases Ym i k with h|h|h
   . exact absurd heq (hFidx i k q q' hi hk h).2
   . subst h; rw[hi]at hk; cases hk; rfl
   . exact absurd heq.symm (hFidx k i q' q hk hi h).2
 . intro q hq _ hqu;obtain⟨k,hk⟩:=Vk hq;exact Qc7 ((f6 k q hk).1 hqu) (hback q hq k hk)
 . intro q hq _ hfs;obtain⟨k,hk⟩:=Vk hq;exact QiN ((f6 k q hk).2 hfs) (hback q hq k hk) (λ_ _ _=>rfl) hfs
 . refine⟨g1.symm,?_,?_,?_⟩
   . rintro i T ⟨q,hq,_,h⟩; exact(g3 q hq i T h).1
   . rintro i T ⟨q,hq,_,h⟩; exact(g3 q hq i T h).2
   . intro i hi;exact(g2 i λ⟨q,hq,T,h⟩=>hi ⟨T,q,hq,hnone _,h⟩).symm
 . refine(he.ext hE).congr λt => ?_;by_cases hw:∃ y∈F,y.2.1.d=some t
   . left;obtain⟨y,hy,hyd⟩:=hw;exact QdQ ⟨y,by rw[V5]; exact⟨hy,by simp only[unl,hnone]; rfl⟩,hyd⟩
   . right;have hw':∀ y∈F,y.2.1.d≠some t:=λy hy h=>hw ⟨y,hy,h⟩;rw[QbD (λq hq=>hw' q (V5.1 hq).1),getF t hw']
end
def Qb (ops:Array Oper) (ns:List Nat) (l:List Ins):Bool:=QeG ops ns l||QeQ ops ns l
theorem QeT {P:Wx} (hm:P.follows .mixedOrders=true):DOk P Qb where
 rs:=by
  intro n ops m l h;unfold Qb at h ⊢;rw[Yb]at h ⊢;rcases h with h|h
  . left; rw[QtI]at h ⊢; exact Ql5 n (λo=>QkE n o) h
  . right; exact Qu5 n h
 mixed:=hm
 ok:=by
  intro N ops m l env H K hc hd hx;unfold Qb at hd;rw[Yb]at hd;rcases hd with h|h
  . exact Qvb N ops m l env H K hc h hx
  . exact Qvx N ops m l env H K hc h hx
end
section
variable [QK] [QE] [QF]
def Qi (P:Wx) (D:Array Oper->List Nat->List Ins->Bool) (fn:Func) (i:IC) (rs:List RS):Bool :=
 (match fn.body with | some c => QJ P fn.ntmps D c i | none => false) && !(fn.name == "runtime.NumGoroutine") && QbM P fn.results.toList rs && decide (fn.params.size + fn.nfree <= fn.ntmps)
theorem Ql {P:Wx} (hm:P.follows .mixedOrders=true) {f:Wz} {fn:Func} {i:IC} {rs:List RS} (hf:P.funcs[f]? = some fn) (hc:Qi P Qb fn i rs=true)
 {args:Wt} {H:Ws} {out:Out} {H':Ws} (hn:args.length=fn.params.size+fn.nfree)
 (hx:closed H->X P fn.ntmps Qb i (Qb2 args) H (Fin H.length rs out H')):Ok P f args H out H':=by
 unfold Qi at hc;rw[Va,Va,Va]at hc;obtain⟨⟨⟨h1,h2⟩,h3⟩,h4⟩:=hc;split at h1
 . rename_i c hb;exact Qrn (QeT hm) hf hb (by simpa using h2) (by rw[hn]; simpa using h4) h1 h3 hx
 . cases h1
theorem QaY {P:Wx} (hm:P.follows .mixedOrders=true) {f:Wz} {fn:Func} {i:IC} {rs:List RS} (hf:P.funcs[f]? = some fn) (hc:Qi P Qb fn i rs=true)
 {args:Wt} {H:Ws} {Pt:Out->Ws->Prop} (hn:args.length=fn.params.size+fn.nfree)
 (hx:closed H->X P fn.ntmps Qb i (Qb2 args) H (FinP H.length rs Pt)):OkP P f args H Pt:=by
 unfold Qi at hc;rw[Va,Va,Va]at hc;obtain⟨⟨⟨h1,h2⟩,h3⟩,h4⟩:=hc;split at h1
 . rename_i c hb;exact Qtu (QeT hm) hf hb (by simpa using h2) (by rw[hn]; simpa using h4) h1 h3 hx
 . cases h1
theorem QuO {P:Wx} (hm:P.follows .mixedOrders=true) {N:Nat} {i:IC} {env:Env} {H:Ws} {K:Wr}
 (h:X P N Qb i env H λx env H=>match x with|.normal=>LI P N Qb i env H K|x=>K x env H):LI P N Qb i env H K:=LI.round (QeT hm) h
theorem QqB (n:Int):(i64 n).isI .i64=true:=rfl
theorem Qtn (n:Int):(i64 n).int=n:=rfl
theorem Qt5 (n:Int):(i64 n).isN=true:=rfl
theorem Qsu (b:Bool):(bl b).isB=true:=rfl
theorem QrY (b:Bool):(bl b).bool=b:=rfl
theorem Qvq (n:Int):(i64 n).ug=i64 n:=rfl
theorem Qqv (n:Int):(i64 n).vd=true:=rfl
theorem QtB (b:Bool):(bl b).ug=bl b:=rfl
theorem Qto (b:Bool):(bl b).vd=true:=rfl
theorem Qj {n:Int} (h1 : -9223372036854775808<=n) (h2:n<=9223372036854775807):IntKind.i64.wrap n=n:=by rw[IntKind.wrap_i64]; omega
theorem QqI (n:Int):SV.val (.int .i64 n)=i64 n:=rfl
theorem QdM (H L:Ws) (k ver:Nat):Qe (H++L) (H.length+k) ver=Qe L k ver:=by
 unfold Qe; rw[Vg (by omega)]; simp
theorem QfT (H L:Ws) (ver:Nat):Qe (H++L) H.length ver=Qe L 0 ver:=QdM H L 0 ver
theorem QpA (H L:Ws) (k:Nat) (f:AO->AO):setObj (H++L) (H.length+k) f=H++setObj L k f:=by
 unfold setObj;rw[Vg (by omega)];have:H.length+k-H.length=k:=by omega
 rw[this]
 cases L[k]? with
 |none=>rfl
 |some o=>simp
theorem Qtq (H L:Ws) (f:AO->AO):setObj (H++L) H.length f=H++setObj L 0 f:=QpA H L 0 f
end
section
variable [QK] [QE] [QF]
theorem Qp4 {n0:Nat} {H1 H0 L:Ws} {r:SV} (d:Nat) (ks:List Nat) (h:H1=H0++L) (hn:n0<=H0.length) (hcl:closed H0) (hk:QbH H0.length ks L d ks) :
 Cv n0 r H1 (r.fz H0.length ks L d) (H0++QcN H0.length ks L d):=by
 intro S v hS hsim hv;subst h;exact⟨_,(QcZ hS hk).mono hn,Qrj hsim hS hcl hk,QgX hsim hS hk d (Vc _) r v hv⟩
theorem Qtz {n0:Nat} {H1 H0 L:Ws} {r:SV} (d:Nat) (h:H1=H0++L) (hn:n0<=H0.length) (hcl:closed H0):Cv n0 r H1 (r.fz H0.length [] L d) H0:=by
 have:=Qp4 (r:=r) d [] h hn hcl trivial;simpa[QcN]using this
end
section
variable [QK] [QE] [QF]
def Ev {α:Type} (v:α):α:=v
@[simp] theorem Ev_eq {α:Type} (v:α):Ev v=v:=Eq.trans rfl rfl
theorem QC {α:Type} {v w:α} (h:Ev v=w):v=w:=h
def Kn (K:Wr) (x:XE) (env:Env) (d:Option Nat) (v:SV) (H:Ws):Prop:=K x (env.put d v) H
@[congr] theorem Qwt {K:Wr} {x:XE} {env:Env} {d:Option Nat} {v v':SV} {H H':Ws} (h1:Ev v=v') (h2:Ev H=H'):Kn K x env d v H=Kn K x env d v' H':=by rw[QC h1,QC h2]
@[simp] theorem QyQ (K:Wr) (x:XE) (env:Env) (d:Nat) (v:SV) (H:Ws):Kn K x env (some d) v H=K x ((d,v)::env) H:=rfl
@[simp] theorem QyL (K:Wr) (x:XE) (env:Env) (v:SV) (H:Ws):Kn K x env none v H=K x env H:=rfl
def Ke (K:SV->Ws->Prop) (v:SV) (H:Ws):Prop:=K v H
@[congr] theorem QwN {K:SV->Ws->Prop} {v v':SV} {H H':Ws} (h1:Ev v=v') (h2:Ev H=H'):Ke K v H=Ke K v' H':=by rw[QC h1,QC h2]
@[simp] theorem Ke_go (K:SV->Ws->Prop) (v:SV) (H:Ws):Ke K v H=K v H:=rfl
section
variable {P:Wx} {N:Nat} {D:Array Oper->List Nat->List Ins->Bool}
@[simp ↓] theorem X_skip (env:Env) (H:Ws) (K:Wr):X P N D .skip env H K=K .normal env H:=rfl
@[simp ↓] theorem X_reg (l:List Ins) (env:Env) (H:Ws) (K:Wr):X P N D (.reg l) env H K=QaC P l env H K:=rfl
@[simp ↓] theorem X_drw (m:List Nat) (l:List Ins) (env:Env) (H:Ws) (K:Wr):X P N D (.drw m l) env H K=xd P [] l env H λx e H' =>
 match x with
 |.normal=>K .normal e H'
 |x=>K x (QbV l env) H':=rfl
@[simp] theorem Qyo (e:Env):QbV [] e=e:=rfl
@[simp] theorem Qz5 (i:Ins) (r:List Ins) (e:Env):QbV (i::r) e=(QbV r e).put i.d .any:=rfl
@[simp ↓] theorem X_drt (n0:Nat) (m:List Nat) (l tl:List Ins) (env:Env) (H:Ws) (K:Wr):X P N D (.drt n0 m l tl) env H K=xd P [] l env H λx env H =>
 match x with
 |.normal=>QaC P tl env H K
 |x=>K x env H:=rfl
@[simp ↓] theorem QwP (n0:Nat) (l:List Ins) (env:Env) (H:Ws) (K:Wr):xrt P n0 l [] env H K=True:=rfl
@[simp ↓] theorem QAq (n0:Nat) (l:List Ins) (o:List Nat) (os:List (List Nat)) (env:Env) (H:Ws) (K:Wr):xrt P n0 l (o::os) env H K=(QaC P (Qdl n0 l o) env H K/\xrt P n0 l os env H K):=rfl
@[simp ↓] theorem QAW (n0:Nat) (l:List Ins):Qdl n0 l []=[]:=rfl
@[simp ↓] theorem Qzz (l:List Ins) (env:Env) (H:Ws) (K:Wr):xre P l [] env H K=True:=rfl
@[simp ↓] theorem QzG (l:List Ins) (o:List Nat) (os:List (List Nat)) (env:Env) (H:Ws) (K:Wr):xre P l (o::os) env H K=(QaC P (Qks l o) env H K/\xre P l os env H K):=rfl
@[simp ↓] theorem QxO (l:List Ins):Qks l []=[]:=rfl
@[simp ↓] theorem X_seq (a b:IC) (env:Env) (H:Ws) (K:Wr):X P N D (.seq a b) env H K=X P N D a env H λx env H =>
 match x with
 |.normal=>X P N D b env H K
 |x=>K x env H:=rfl
@[simp ↓] theorem X_blk (id:Nat) (a:IC) (env:Env) (H:Ws) (K:Wr):X P N D (.blk id a) env H K=X P N D a env H λx env H =>
 match x with
 |.exit i=>if i=id then K .normal env H else K (.exit i) env H
 |x=>K x env H:=rfl
@[simp ↓] theorem X_scp (a:IC) (env:Env) (H:Ws) (K:Wr):X P N D (.scp a) env H K=X P N D a env H λx env H =>
 match x with
 |.goto _=>False
 |x=>K x env H:=rfl
@[simp ↓] theorem X_lab (env:Env) (H:Ws) (K:Wr):X P N D .lab env H K=K .normal env H:=rfl
@[simp ↓] theorem X_exit (id:Nat) (env:Env) (H:Ws) (K:Wr):X P N D (.exit id) env H K=K (.exit id) env H:=rfl
@[simp ↓] theorem X_ret (env:Env) (H:Ws) (K:Wr):X P N D .ret env H K=K .ret env H:=rfl
@[simp ↓] theorem X_keep (ks:List Nat) (a:IC) (env:Env) (H:Ws) (K:Wr):X P N D (.keep ks a) env H K=X P N D a (env.keep ks) H K:=rfl
def Qfz (c:SV) (a b:Prop):Prop:=c.isB=true/\if c.bool=true then a else b
@[congr] theorem Qwz {c c':SV} {a b:Prop} (h:Ev c=c'):Qfz c a b=Qfz c' a b:=by rw[QC h]
@[simp] theorem QwD (c:SV) (a b:Prop):Qfz c a b=(c.isB=true/\if c.bool=true then a else b):=rfl
@[simp ↓] theorem X_cond (c:Od) (a b:IC) (env:Env) (H:Ws) (K:Wr):X P N D (.cond c a b) env H K=Qfz (env.ev c) (X P N D a env H K) (X P N D b env H K):=by
 apply propext;simp only[X,Qfz]
 cases (env.ev c).bool<;>simp
def Lp (P:Wx) (N:Nat) (D:Array Oper->List Nat->List Ins->Bool) (i:IC) (env:Env) (H:Ws) (K:Wr):Prop:=LI P N D i env H K
@[congr] theorem Qya {i:IC} {env env':Env} {H H':Ws} {K:Wr} (h:Ev env=env') (h2:Ev H=H'):Lp P N D i env H K=Lp P N D i env' H' K:=by rw[QC h,QC h2]
@[simp ↓] theorem X_loop (i:IC) (env:Env) (H:Ws) (K:Wr):X P N D (.loop i) env H K=Lp P N D i env H K:=rfl
@[simp ↓] theorem Qxn (env:Env) (H:Ws) (K:Wr):QaC P [] env H K=K .normal env H:=rfl
@[simp ↓] theorem Qy2 (o:Ins) (r:List Ins) (env:Env) (H:Ws) (K:Wr):QaC P (o::r) env H K=xo P o env H λx env H =>
 match x with
 |.normal=>QaC P r env H K
 |x=>K x env H:=rfl
def Qc4 (P:Wx) (f:SV) (args:Wt) (H:Ws) (K:Out->Ws->Prop):Prop:=∃ Pt:Out->Ws->Prop,Qdj P f args H Pt/\∀ out H',Pt out H'->K out H'
@[congr] theorem QBd {f f':SV} {args args':Wt} {H H':Ws} {K:Out->Ws->Prop} (h1:Ev f=f') (h2:Ev args=args') (h3:Ev H=H'):Qc4 P f args H K=Qc4 P f' args' H' K:=by rw[QC h1,QC h2,QC h3]
theorem QkG {k:Wz} {a b args:Wt} {H H':Ws} {out:Out} {K:Out->Ws->Prop} (h:Ok P k (a++args++b) H out H') (hk:K out H'):Qc4 P (.fn (.func k) a b) args H K :=
 ⟨_,⟨rfl,h.toP⟩,λo h' hp=>by obtain⟨rfl,rfl⟩:=hp; exact hk⟩
theorem Qsy {k:Wz} {a b args:Wt} {H:Ws} {Pt:Out->Ws->Prop} {K:Out->Ws->Prop} (h:OkP P k (a++args++b) H Pt) (hk:∀ out H',Pt out H'->K out H'):Qc4 P (.fn (.func k) a b) args H K :=
 ⟨_,⟨rfl,h⟩,hk⟩
theorem Q4 {k:Wz} {args:Wt} {H:Ws} {Pt:Out->Ws->Prop} {K:Out->Ws->Prop} (h:OkP P k args H Pt) (hk:∀ out H',Pt out H'->K out H'):Qc4 P (.fn (.func k) [] []) args H K :=
 Qsy (by simpa using h) hk
theorem QmK {f:SV} {args:Wt} {H:Ws} {Pt:Out->Ws->Prop} {K:Out->Ws->Prop} (h:Qdj P f args H Pt) (hk:∀ out H',Pt out H'->K out H'):Qc4 P f args H K:=⟨_,h,hk⟩
theorem QjY {k:Wz} {a b args:Wt} {H:Ws} {Pt:Out->Ws->Prop} (h:OkP P k (a++args++b) H Pt):Qdj P (.fn (.func k) a b) args H Pt:=⟨rfl,h⟩
theorem Qf {k:Wz} {args:Wt} {H H':Ws} {out:Out} {K:Out->Ws->Prop} (h:Ok P k args H out H') (hk:K out H'):Qc4 P (.fn (.func k) [] []) args H K :=
 QkG (by simpa using h) hk
def QcY (P:Wx) (on:Bool) (f:SV) (args:Wt) (H:Ws) (K:SV->Prop):Prop:=∃ r,(on=true->OkC P f args H (.ret r) H)/\K r
@[congr] theorem QzB {on on':Bool} {f f':SV} {args args':Wt} {H H':Ws} {K:SV->Prop} (h0:Ev on=on') (h1:Ev f=f') (h2:Ev args=args') (h3:Ev H=H'):QcY P on f args H K=QcY P on' f' args' H' K:=by rw[QC h0,QC h1,QC h2,QC h3]
theorem QuE {on:Bool} {k:Wz} {a b args:Wt} {H:Ws} {r:SV} {K:SV->Prop} (h:on=true->Ok P k (a++args++b) H (.ret r) H) (hk:K r):QcY P on (.fn (.func k) a b) args H K :=
 ⟨r,λho=>⟨rfl,h ho⟩,hk⟩
theorem Q3 {on:Bool} {k:Wz} {args:Wt} {H:Ws} {r:SV} {K:SV->Prop} (h:on=true->Ok P k args H (.ret r) H) (hk:K r):QcY P on (.fn (.func k) [] []) args H K :=
 QuE (by simpa using h) hk
theorem Qgl (f:SV) (args:Wt) (H:Ws) (K:SV->Prop) (h:K .any):QcY P false f args H K:=⟨.any,λh=>by simp at h,h⟩
theorem Qvw {k:Wz} {args:Wt} {H H':Ws} {out:Out} (h:Ok P k args H out H'):OkC P (.fn (.func k) [] []) args H out H':=⟨rfl,by show Ok P k ([]++args++[]) H out H'; simpa using h⟩
@[simp ↓] theorem xo_p (d:Option Nat) (i:I) (env:Env) (H:Ws) (K:Wr):xo P ⟨d,none,.p i⟩ env H K=((pv i env.ev H).1/\Kn K .normal env d (pv i env.ev H).2 H):=rfl
@[simp ↓] theorem Qw9 (d:Option Nat) (f:Od) (args:List Od) (env:Env) (H:Ws) (K:Wr):xo P ⟨d,none,.e (.call f args)⟩ env H K=Qc4 P (env.ev f) (args.map env.ev) H λout H' =>
     match out with
     |.ret r=>K .normal (env.put d r) H'
     |.pan x=>K (.panic x) env H':=rfl
def sOn (c:SV) (want:Bool) (F:Bool->Prop):Prop:=c.bish=true/\F (c.on want)
@[congr] theorem Qyd {c c':SV} {want:Bool} {F:Bool->Prop} (h:Ev c=c'):sOn c want F=sOn c' want F:=by rw[QC h]
def sGo (b:Bool) (F:Bool->Prop):Prop:=F b
@[congr] theorem Qyj {b b':Bool} {F:Bool->Prop} (h:Ev b=b'):sGo b F=sGo b' F:=by rw[QC h]
@[simp] theorem sGo_go (b:Bool) (F:Bool->Prop):sGo b F=F b:=rfl
@[simp] theorem sOn_go (c:SV) (want:Bool) (F:Bool->Prop):sOn c want F=(c.bish=true/\sGo (c.on want) F):=rfl
@[simp ↓] theorem xo_gp (d:Option Nat) (s:Nat) (want:Bool) (i:I) (env:Env) (H:Ws) (K:Wr):xo P ⟨d,some (s,want),.p i⟩ env H K=sOn (env.get s) want λb=>(b=true->(pv i env.ev H).1)/\Kn K .normal env d (.gd b (pv i env.ev H).2) H:=rfl
@[simp ↓] theorem xo_gq (d:Option Nat) (s:Nat) (want:Bool) (f:Od) (args:List Od) (env:Env) (H:Ws) (K:Wr):xo P ⟨d,some (s,want),.q f args⟩ env H K=sOn (env.get s) want λb=>QcY P b (env.ev f) (args.map env.ev) H λr=>K .normal (env.put d (.gd b r)) H:=rfl
@[simp ↓] theorem xo_ge (d:Option Nat) (s:Nat) (want:Bool) (i:E) (env:Env) (H:Ws) (K:Wr):xo P ⟨d,some (s,want),.e i⟩ env H K=sOn (env.get s) want λb=>if b=true then xo P ⟨d,none,.e i⟩ env H K else K .normal (env.put d (.val undef)) H:=by
 apply propext;simp only[xo,sOn,xj]
 cases (env.get s).on want<;>simp
def xdn (P:Wx) (pend:List (Ins×SV)) (o:Ins) (v:SV) (r:List Ins) (env:Env) (H:Ws) (K:Wr):Prop:=xd P ((o,v)::pend) r (env.put o.d v) H K
@[congr] theorem QxL {pend:List (Ins×SV)} {o:Ins} {v v':SV} {r:List Ins} {env:Env} {H:Ws} {K:Wr} (h:Ev v=v'):xdn P pend o v r env H K=xdn P pend o v' r env H K:=by rw[QC h]
@[simp ↓] theorem xd_nil (pend:List (Ins×SV)) (env:Env) (H:Ws) (K:Wr):xd P pend [] env H K=K .normal env H:=rfl
@[simp ↓] theorem xd_p (pend:List (Ins×SV)) (d:Option Nat) (i:I) (r:List Ins) (env:Env) (H:Ws) (K:Wr):xd P pend (⟨d,none,.p i⟩::r) env H K=((pv i env.ev H).1/\xdn P pend ⟨d,none,.p i⟩ (pv i env.ev H).2 r env H K):=rfl
@[simp ↓] theorem xd_q (pend:List (Ins×SV)) (d:Option Nat) (f:Od) (args:List Od) (r:List Ins) (env:Env) (H:Ws) (K:Wr):xd P pend (⟨d,none,.q f args⟩::r) env H K=QcY P true (env.ev f) (args.map env.ev) H λv=>xd P ((⟨d,none,.q f args⟩,v)::pend) r (env.put d v) H K:=by
 simp only[QcY,true_implies]; rfl
@[simp ↓] theorem xd_gp (pend:List (Ins×SV)) (d:Option Nat) (s:Nat) (want:Bool) (i:I) (r:List Ins) (env:Env) (H:Ws) (K:Wr):xd P pend (⟨d,some (s,want),.p i⟩::r) env H K=sOn (env.get s) want λb=>(b=true->(pv i env.ev H).1)/\xdn P pend ⟨d,some (s,want),.p i⟩ (.gd b (pv i env.ev H).2) r env H K:=rfl
@[simp ↓] theorem xd_gq (pend:List (Ins×SV)) (d:Option Nat) (s:Nat) (want:Bool) (f:Od) (args:List Od) (r:List Ins) (env:Env) (H:Ws) (K:Wr):xd P pend (⟨d,some (s,want),.q f args⟩::r) env H K=sOn (env.get s) want λb=>QcY P b (env.ev f) (args.map env.ev) H λv=>xd P ((⟨d,some (s,want),.q f args⟩,.gd b v)::pend) r (env.put d (.gd b v)) H K:=rfl
def QdW (P:Wx) (env:Env) (H:Ws):List (Ins×SV)->Prop
 |[]=>True
 |p::r=>Q2 P p.1 env H p.2/\QdW P env H r
theorem Qnb (env:Env) (H:Ws):∀ l,QdW P env H l=∀ p∈l,Q2 P p.1 env H p.2
 |[]=>by simp[QdW]
 |p::r=>by simp only[QdW,Qnb env H r,List.forall_mem_cons]
attribute [simp] Qgd QdT QdI Ins.slots J.slots I.ods E.ods Od.slots
@[simp] theorem Qyt (env:Env) (H:Ws):QdW P env H []=True:=rfl
@[simp] theorem Qzp (env:Env) (H:Ws) (o:Ins) (v:SV) (r:List (Ins×SV)):QdW P env H ((o,v)::r)=(Q2 P o env H v/\QdW P env H r):=rfl
@[simp ↓] theorem xd_e (pend:List (Ins×SV)) (d:Option Nat) (g:Option (Nat×Bool)) (i:E) (r:List Ins) (env:Env) (H:Ws) (K:Wr):xd P pend (⟨d,g,.e i⟩::r) env H K=xo P ⟨d,g,.e i⟩ env H λx env' H' =>
     match x with
     |.normal=>QdW P env' H' (pend.filter λp=>Qgd ⟨d,g,.e i⟩ pend p.1)/\xd P pend r env' H' K
     |x=>K x [] H':=by
 rw[xd,Wa (by simp[J.quiet])];congr 1;funext x env' H'
 cases x<;>try rfl
 simp only[Qnb,V5,and_imp]
@[simp ↓] theorem Qwq (d:Option Nat) (i:I) (env:Env) (H:Ws) (v:SV):Q2 P ⟨d,none,.p i⟩ env H v=((pv i env.ev H).1/\v=(pv i env.ev H).2):=rfl
@[simp ↓] theorem QyS (d:Option Nat) (f:Od) (args:List Od) (env:Env) (H:Ws) (v:SV):Q2 P ⟨d,none,.q f args⟩ env H v=OkC P (env.ev f) (args.map env.ev) H (.ret v) H:=rfl
@[simp ↓] theorem Qwl (d:Option Nat) (s:Nat) (want:Bool) (i:I) (env:Env) (H:Ws) (v:SV):Q2 P ⟨d,some (s,want),.p i⟩ env H v=sOn (env.get s) want λb=>(b=true->(pv i env.ev H).1)/\v=.gd b (pv i env.ev H).2:=rfl
@[simp] theorem dep_p (i:I):J.dep (.p i)=(match i with|.ld1 _|.ldn _ _|.sla _ _ _ _ _|.lkp _ _ _ _ _|.bys _=>true|_=>false):=by cases i<;>rfl
@[simp] theorem xdn_go (pend:List (Ins×SV)) (o:Ins) (v:SV) (r:List Ins) (env:Env) (H:Ws) (K:Wr):xdn P pend o v r env H K=xd P ((o,v)::pend) r (env.put o.d v) H K:=rfl
def Qix (T:Ww) (z:Wt) (H:Ws) (K:SV->Ws->Prop):Prop:=K (.ptr (.own H.length 0 0 0 0) 0) (H++[⟨z,T,0,true⟩])
@[congr] theorem Qzl {T:Ww} {z:Wt} {H H':Ws} {K:SV->Ws->Prop} (h9:Ev H=H'):Qix T z H K=Qix T z H' K:=by rw[QC h9]
@[simp ↓] theorem xo_alc (d:Option Nat) (T:Ww) (z:Wt) (env:Env) (H:Ws) (K:Wr):xo P ⟨d,none,.e (.alc T z)⟩ env H K=Qix T z H λv H'=>K .normal (env.put d v) H':=rfl
@[simp] theorem QwA (T:Ww) (z:Wt) (H:Ws) (K:SV->Ws->Prop):Qix T z H K=(Ke K (.ptr (.own H.length 0 0 0 0) 0) (H++[⟨z,T,0,true⟩])):=rfl
def Qjd (T:Ww) (x:SV) (H:Ws) (K:SV->Ws->Prop):Prop:=x.vd=true/\Qy x.ug.flat/\K (.ptr (.own H.length 0 0 0 0) 0) (H++[⟨x.ug.flat,T,0,true⟩])
@[congr] theorem QAb {T:Ww} {x x':SV} {H H':Ws} {K:SV->Ws->Prop} (h0:Ev x=x') (h9:Ev H=H'):Qjd T x H K=Qjd T x' H' K:=by rw[QC h0,QC h9]
@[simp ↓] theorem xo_box (d:Option Nat) (T:Ww) (x:Od) (env:Env) (H:Ws) (K:Wr):xo P ⟨d,none,.e (.box T x)⟩ env H K=Qjd T (env.ev x) H λv H'=>K .normal (env.put d v) H':=rfl
@[simp] theorem Qy4 (T:Ww) (x:SV) (H:Ws) (K:SV->Ws->Prop):Qjd T x H K=(x.vd=true/\Qy x.ug.flat/\Ke K (.ptr (.own H.length 0 0 0 0) 0) (H++[⟨x.ug.flat,T,0,true⟩])):=rfl
def Qg2 (T:Ww) (sz:Nat) (bytes:Nat) (z:Wt) (len:SV) (cap:SV) (H:Ws) (K:SV->Ws->Prop):Prop:=len.isN=true/\cap.isN=true/\0<=len.int/\len.int<=cap.int/\bytes*cap.int<=140737488355328/\cap.int<=140737488355328/\K (.own H.length 0 len.int.toNat sz 0) (H++[⟨(List.replicate len.int.toNat z).flatten,T,0,true⟩])
@[congr] theorem QwM {T:Ww} {sz:Nat} {bytes:Nat} {z:Wt} {len len':SV} {cap cap':SV} {H H':Ws} {K:SV->Ws->Prop} (h0:Ev len=len') (h1:Ev cap=cap') (h9:Ev H=H'):Qg2 T sz bytes z len cap H K=Qg2 T sz bytes z len' cap' H' K:=by rw[QC h0,QC h1,QC h9]
@[simp ↓] theorem xo_mks (d:Option Nat) (T:Ww) (sz:Nat) (bytes:Nat) (z:Wt) (len:Od) (cap:Od) (env:Env) (H:Ws) (K:Wr):xo P ⟨d,none,.e (.mks T sz bytes z len cap)⟩ env H K=Qg2 T sz bytes z (env.ev len) (env.ev cap) H λv H'=>K .normal (env.put d v) H':=rfl
@[simp] theorem Qw7 (T:Ww) (sz:Nat) (bytes:Nat) (z:Wt) (len:SV) (cap:SV) (H:Ws) (K:SV->Ws->Prop):Qg2 T sz bytes z len cap H K=(len.isN=true/\cap.isN=true/\0<=len.int/\len.int<=cap.int/\bytes*cap.int<=140737488355328/\cap.int<=140737488355328/\Ke K (.own H.length 0 len.int.toNat sz 0) (H++[⟨(List.replicate len.int.toNat z).flatten,T,0,true⟩])):=rfl
def Qef (T:Ww) (sz:Nat) (bytes:Nat) (s:SV) (x:SV) (H:Ws) (K:SV->Ws->Prop):Prop:=s.vd=true/\x.vd=true/\x.ug.isSl=true/\x.ug.slen*sz<=(x.ug.row H).length/\Qy (x.ug.els H sz) /\
     (s.ug.slen+x.ug.slen)*bytes<=140737488355328/\s.ug.slen+x.ug.slen<=140737488355328 /\
     match s.ug with
     |.own i 0 n sz' ver =>
       sz'=sz/\(∃ o,H[i]? = some o/\o.live=true/\o.ver=ver/\o.ty=T/\o.cells.length=n*sz)/\K (.own i 0 (n+x.ug.slen) sz (ver+1)) (setObj H i λo=>o.grow (x.ug.els H sz))
     |v=>v.isNil=true/\K (.own H.length 0 x.ug.slen sz 1) (H++[⟨x.ug.els H sz,T,1,true⟩])
@[congr] theorem QxD {T:Ww} {sz:Nat} {bytes:Nat} {s s':SV} {x x':SV} {H H':Ws} {K:SV->Ws->Prop} (h0:Ev s=s') (h1:Ev x=x') (h9:Ev H=H'):Qef T sz bytes s x H K=Qef T sz bytes s' x' H' K:=by rw[QC h0,QC h1,QC h9]
@[simp ↓] theorem xo_app (d:Option Nat) (T:Ww) (sz:Nat) (bytes:Nat) (s:Od) (x:Od) (env:Env) (H:Ws) (K:Wr):xo P ⟨d,none,.e (.app T sz bytes s x)⟩ env H K=Qef T sz bytes (env.ev s) (env.ev x) H λv H'=>K .normal (env.put d v) H':=rfl
def Qb0 (H:Ws) (i ver:Nat) (T:Ww) (m:Nat):Prop:=∃ o,H[i]? = some o/\o.live=true/\o.ver=ver/\o.ty=T/\o.cells.length=m
@[simp] theorem Qx6 (T:Ww) (sz bytes i n sz' ver:Nat) (x:SV) (H:Ws) (K:SV->Ws->Prop):Qef T sz bytes (.own i 0 n sz' ver) x H K=(x.vd=true/\x.ug.isSl=true/\x.ug.slen*sz<=(x.ug.row H).length/\Qy (x.ug.els H sz) /\
     (n+x.ug.slen)*bytes<=140737488355328/\n+x.ug.slen<=140737488355328/\sz'=sz/\Qb0 H i ver T (n*sz)/\Ke K (.own i 0 (n+x.ug.slen) sz (ver+1)) (setObj H i λo=>o.grow (x.ug.els H sz))):=by
 simp[Qef,SV.vd,SV.ug,SV.slen,Qb0,Ke]
def QtX (sz:Nat) (d x:SV) (H:Ws) (K:SV->Ws->Prop):Prop:=d.vd=true/\x.vd=true/\x.ug.isSl=true/\x.ug.slen*sz<=(x.ug.row H).length/\Qy (x.ug.els H sz) /\
     match d.ug with
     |.own i off n _ ver=>0<n/\n=x.ug.slen/\off+n<=(Qe H i ver).length/\K (i64 n) (setObj H i λo=>o.put off (x.ug.els H sz))
     |_=>False
@[simp ↓] theorem xo_cpy (d:Option Nat) (sz:Nat) (s x:Od) (env:Env) (H:Ws) (K:Wr):xo P ⟨d,none,.e (.cpy sz s x)⟩ env H K=QtX sz (env.ev s) (env.ev x) H λv H'=>K .normal (env.put d v) H':=rfl
def Qfe (n:Nat) (p:SV) (x:SV) (H:Ws) (K:SV->Ws->Prop):Prop:=p.vd=true/\x.vd=true/\Qy x.ug.flat/\x.ug.flat.length=n/\0<n /\
     match p.ug with
     |.ptr (.own i off _ _ ver) k=>off+k+n<=(Qe H i ver).length/\K (.val undef) (setObj H i λo=>o.put (off+k) x.ug.flat)
     |_=>False
@[congr] theorem QxU {n:Nat} {p p':SV} {x x':SV} {H H':Ws} {K:SV->Ws->Prop} (h0:Ev p=p') (h1:Ev x=x') (h9:Ev H=H'):Qfe n p x H K=Qfe n p' x' H' K:=by rw[QC h0,QC h1,QC h9]
@[simp ↓] theorem xo_st (d:Option Nat) (n:Nat) (p:Od) (x:Od) (env:Env) (H:Ws) (K:Wr):xo P ⟨d,none,.e (.st n p x)⟩ env H K=Qfe n (env.ev p) (env.ev x) H λv H'=>K .normal (env.put d v) H':=rfl
@[simp] theorem QzM (n i off len sz ver k:Nat) (x:SV) (H:Ws) (K:SV->Ws->Prop):Qfe n (.ptr (.own i off len sz ver) k) x H K=(x.vd=true/\Qy x.ug.flat/\x.ug.flat.length=n/\0<n /\
     off+k+n<=(Qe H i ver).length/\Ke K (.val undef) (setObj H i λo=>o.put (off+k) x.ug.flat)):=by
 simp[Qfe,SV.vd,SV.ug,Ke]
def QfC (x:SV) (K:SV->Prop):Prop:=x.vd=true/\match x.ug with
 |.ifc t y=>K (.ifc t y)
 |_=>False
@[congr] theorem QyI {x x':SV} {K:SV->Prop} (h:Ev x=x'):QfC x K=QfC x' K:=by rw[QC h]
@[simp] theorem QxN (t:Ww) (y:SV) (K:SV->Prop):QfC (.ifc t y) K=K (.ifc t y):=by simp[QfC,SV.vd,SV.ug]
@[simp ↓] theorem xo_pan (d:Option Nat) (x:Od) (env:Env) (H:Ws) (K:Wr):xo P ⟨d,none,.e (.pan x)⟩ env H K=QfC (env.ev x) λy=>K (.panic y) env H:=rfl
@[simp ↓] theorem xo_stw (d:Option Nat) (ws:List Nat) (n:Nat) (p x:Od) (env:Env) (H:Ws) (K:Wr):xo P ⟨d,none,.e (.stw ws n p x)⟩ env H K=Qfe n (env.ev p) (env.ev x) H λv H'=>K .normal (env.put d v) H':=rfl
def Qjc (T:Ww) (sz:Nat) (x:SV) (H:Ws) (K:SV->Ws->Prop):Prop:=x.vd=true/\x.ug.isNil=true/\K (.own H.length 0 0 sz 0) (H++[⟨[],T,0,true⟩])
@[congr] theorem Qwa {T:Ww} {sz:Nat} {x x':SV} {H H':Ws} {K:SV->Ws->Prop} (h0:Ev x=x') (h9:Ev H=H'):Qjc T sz x H K=Qjc T sz x' H' K:=by rw[QC h0,QC h9]
@[simp ↓] theorem xo_nil (d:Option Nat) (T:Ww) (sz:Nat) (x:Od) (env:Env) (H:Ws) (K:Wr):xo P ⟨d,none,.e (.nil T sz x)⟩ env H K=Qjc T sz (env.ev x) H λv H'=>K .normal (env.put d v) H':=rfl
@[simp] theorem QwZ (T:Ww) (sz:Nat) (x:SV) (H:Ws) (K:SV->Ws->Prop):Qjc T sz x H K=(x.vd=true/\x.ug.isNil=true/\Ke K (.own H.length 0 0 sz 0) (H++[⟨[],T,0,true⟩])):=rfl
def QpX (T:Ww) (sz:Nat) (x:SV) (H:Ws) (K:SV->Ws->Prop):Prop:=x.vd=true/\x.ug.isSl=true/\K (.own H.length 0 0 sz 0) (H++[⟨[],T,0,true⟩])
@[simp] theorem Qv8 (T:Ww) (sz:Nat) (x:SV) (H:Ws) (K:SV->Ws->Prop):QpX T sz x H K=(x.vd=true/\x.ug.isSl=true/\Ke K (.own H.length 0 0 sz 0) (H++[⟨[],T,0,true⟩])):=rfl
def QrI (T:Ww) (s:SV) (x:SV) (H:Ws) (K:SV->Ws->Prop):Prop:=s.vd=true/\x.isS=true/\s.ug.slen+x.str.size<=140737488355328 /\
     match s.ug with
     |.own i 0 n sz' ver =>
       sz'=1/\(∃ o,H[i]? = some o/\o.live=true/\o.ver=ver/\o.ty=T/\o.cells.length=n*1)/\K (.own i 0 (n+x.str.size) 1 (ver+1)) (setObj H i λo=>o.grow (Qbp x.str))
     |v=>v.isNil=true/\K (.own H.length 0 x.str.size 1 1) (H++[⟨Qbp x.str,T,1,true⟩])
@[simp ↓] theorem xo_aps (d:Option Nat) (T:Ww) (s:Od) (x:Od) (env:Env) (H:Ws) (K:Wr):xo P ⟨d,none,.e (.aps T s x)⟩ env H K=QrI T (env.ev s) (env.ev x) H λv H'=>K .normal (env.put d v) H':=rfl
def Qme (x:SV) (H:Ws) (K:SV->Ws->Prop):Prop:=x.isS=true/\K (.slc (Qbp x.str) x.str.size) H
@[simp ↓] theorem xo_sby (d:Option Nat) (x:Od) (env:Env) (H:Ws) (K:Wr):xo P ⟨d,none,.e (.sby x)⟩ env H K=Qme (env.ev x) H λv H'=>K .normal (env.put d v) H':=rfl
@[simp] theorem Qzu (x:SV) (H:Ws) (K:SV->Ws->Prop):Qme x H K=(x.isS=true/\Ke K (.slc (Qbp x.str) x.str.size) H):=rfl
def Qoh (T:Ww) (H:Ws) (K:SV->Ws->Prop):Prop:=K (.mp H.length 0) (H++[⟨[.mk []],T,0,false⟩])
@[simp ↓] theorem xo_mkm (d:Option Nat) (T:Ww) (env:Env) (H:Ws) (K:Wr):xo P ⟨d,none,.e (.mkm T)⟩ env H K=Qoh T H λv H'=>K .normal (env.put d v) H':=rfl
@[simp] theorem Qxi (T:Ww) (H:Ws) (K:SV->Ws->Prop):Qoh T H K=Ke K (.mp H.length 0) (H++[⟨[.mk []],T,0,false⟩]):=rfl
def QuY (kk:KK) (m k v:SV) (H:Ws) (K:SV->Ws->Prop):Prop:=m.vd=true/\k.isK kk=true/\v.vd=true /\
     match m.ug,m.ug.mapOf H with
     |.mp i _,some x=>x.1.all kk.is=true/\(∀ v∈k.key kk::x.1,kk.knows v)/\K (.val undef) (setObj H i λo=>{ o with cells:=.mk (QbN (k.key kk) x.1)::QbR (k.key kk) v.ug x.1 x.2 })
     |_,_=>False
@[simp ↓] theorem xo_mup (d:Option Nat) (kk:KK) (m k v:Od) (env:Env) (H:Ws) (K:Wr):xo P ⟨d,none,.e (.mup kk m k v)⟩ env H K=QuY kk (env.ev m) (env.ev k) (env.ev v) H λw H'=>K .normal (env.put d w) H':=rfl
def Qhv (P:Wx) (f:SV) (args:Wt) (H:Ws) (K:SV->Ws->Prop):Prop:=∃ (r:SV) (L:Ws),(∀ H':Ws,H'.length=H.length->OkC P f args H' (.ret r) (H'++L))/\K r (H++L)
@[congr] theorem Qy7 {f f':SV} {args args':Wt} {H H':Ws} {K:SV->Ws->Prop} (h1:Ev f=f') (h2:Ev args=args') (h3:Ev H=H'):Qhv P f args H K=Qhv P f' args' H' K:=by rw[QC h1,QC h2,QC h3]
@[simp ↓] theorem QAm (d:Option Nat) (f:Od) (args:List Od) (env:Env) (H:Ws) (K:Wr):xo P ⟨d,none,.e (.calln f args)⟩ env H K=Qhv P (env.ev f) (args.map env.ev) H λr H'=>K .normal (env.put d r) H':=rfl
theorem Qug {k:Wz} {args:Wt} {H L:Ws} {r:SV} {K:SV->Ws->Prop} (h:∀ H':Ws,H'.length=H.length->Ok P k args H' (.ret r) (H'++L)) (hk:K r (H++L)):Qhv P (.fn (.func k) [] []) args H K :=
 ⟨r,L,λH' hl=>Qvw (h H' hl),hk⟩
def Qgp (neg:Bool) (right:Bool) (x:SV) (H:Ws) (K:SV->Ws->Prop):Prop:=x.vd=true/\x.ug.isSl=true/\(x.ug.slen≠0->K (bl neg) H)/\(x.ug.slen=0->K (bl neg) H/\K (bl (!neg)) H)
@[congr] theorem Qws {neg:Bool} {right:Bool} {x x':SV} {H H':Ws} {K:SV->Ws->Prop} (h0:Ev x=x') (h9:Ev H=H'):Qgp neg right x H K=Qgp neg right x' H' K:=by rw[QC h0,QC h9]
@[simp ↓] theorem QBb (d:Option Nat) (neg:Bool) (right:Bool) (x:Od) (env:Env) (H:Ws) (K:Wr):xo P ⟨d,none,.e (.snil neg right x)⟩ env H K=Qgp neg right (env.ev x) H λv H'=>K .normal (env.put d v) H':=rfl
@[simp] theorem Qwd (neg:Bool) (right:Bool) (x:SV) (H:Ws) (K:SV->Ws->Prop):Qgp neg right x H K=(x.vd=true/\x.ug.isSl=true/\(x.ug.slen≠0->Ke K (bl neg) H)/\(x.ug.slen=0->Ke K (bl neg) H/\Ke K (bl (!neg)) H)):=rfl
def Qfq (T:Ww) (sz len:Nat) (z:Wt) (parts:List (Nat×SV)) (H:Ws) (K:SV->Ws->Prop):Prop :=
 (∀ p∈parts,Q9 sz p.2/\p.1*sz+sz<=len*sz)/\Qy (Qah (List.replicate len z).flatten (parts.map λp=>(p.1*sz,p.2))) /\
  K (.own H.length 0 len sz 0) (H++[⟨Qah (List.replicate len z).flatten (parts.map λp=>(p.1*sz,p.2)),T,0,true⟩])
@[congr] theorem Qyc {T:Ww} {sz len:Nat} {z:Wt} {parts parts':List (Nat×SV)} {H H':Ws} {K:SV->Ws->Prop} (h:Ev parts=parts') (h2:Ev H=H'):Qfq T sz len z parts H K=Qfq T sz len z parts' H' K:=by rw[QC h,QC h2]
@[simp ↓] theorem xo_bsl (d:Option Nat) (T:Ww) (sz len:Nat) (z:Wt) (parts:List (Nat×Od)) (env:Env) (H:Ws) (K:Wr) :
 xo P ⟨d,none,.e (.bsl T sz len z parts)⟩ env H K=Qfq T sz len z (parts.map λp=>(p.1,env.ev p.2)) H λv H'=>K .normal (env.put d v) H':=by
 simp only[xo,xj,xe,Qfq,YS,Function.comp_def,Z8]
@[simp] theorem Qyf (T:Ww) (sz len:Nat) (z:Wt) (parts:List (Nat×SV)) (H:Ws) (K:SV->Ws->Prop):Qfq T sz len z parts H K=(
 (∀ p∈parts,Q9 sz p.2/\p.1*sz+sz<=len*sz)/\Qy (Qah (List.replicate len z).flatten (parts.map λp=>(p.1*sz,p.2))) /\
  Ke K (.own H.length 0 len sz 0) (H++[⟨Qah (List.replicate len z).flatten (parts.map λp=>(p.1*sz,p.2)),T,0,true⟩])):=rfl
def ldv (H:Ws) (p:SV):SV:=(p.at H).headD .any
def Qk0 (H:Ws) (p:SV) (n:Nat):Wt:=(p.at H).take n
def Qem (H:Ws) (p:SV) (n:Nat):Prop:=n<=(p.at H).length
@[simp] theorem QxS (H:Ws) (i off len sz ver k:Nat):ldv H (.ptr (.own i off len sz ver) k)=(((Qe H i ver).drop off).drop k).headD .any:=rfl
@[simp] theorem Qwv (H:Ws) (c:Wt) (n k:Nat):ldv H (.ptr (.slc c n) k)=(c.drop k).headD .any:=rfl
@[simp] theorem Qx2 (H:Ws) (i off len sz ver k n:Nat):Qk0 H (.ptr (.own i off len sz ver) k) n=(((Qe H i ver).drop off).drop k).take n:=rfl
@[simp] theorem QzN (H:Ws) (c:Wt) (m k n:Nat):Qk0 H (.ptr (.slc c m) k) n=(c.drop k).take n:=rfl
@[simp] theorem QAG (H:Ws) (i off len sz ver k n:Nat):Qem H (.ptr (.own i off len sz ver) k) n=(n<=(((Qe H i ver).drop off).drop k).length):=rfl
@[simp] theorem QxQ (H:Ws) (c:Wt) (m k n:Nat):Qem H (.ptr (.slc c m) k) n=(n<=(c.drop k).length):=rfl
variable (g:Od->SV) (H:Ws)
@[simp ↓] theorem QAd (x:Od):(pv (.mov x) g H).1=(True):=rfl
@[simp ↓] theorem QAZ (x:Od):(pv (.mov x) g H).2=g x:=rfl
@[simp ↓] theorem Qwi (c:Od) (a:Od) (b:Od):(pv (.pick c a b) g H).1=((g c).isB=true/\(if(g c).bool=true then(g a).isB=true else(g b).isB=true)):=by
 first
 |rfl
 | (apply propext; simp only[pv]; cases (g c).bool<;>simp)
@[simp ↓] theorem QzP (c:Od) (a:Od) (b:Od):(pv (.pick c a b) g H).2=bl (cond (g c).bool (g a).bool (g b).bool):=by
 first
 |rfl
 | (apply propext; simp only[pv]; cases (g c).bool<;>simp)
@[simp ↓] theorem Qw3 (k:IntKind) (x:Od):(pv (.neg k x) g H).1=((g x).isI k=true):=rfl
@[simp ↓] theorem QxE (k:IntKind) (x:Od):(pv (.neg k x) g H).2=.val (.int k (k.wrap (0-(g x).int))):=rfl
@[simp ↓] theorem QAC (x:Od):(pv (.not x) g H).1=((g x).isB=true):=rfl
@[simp ↓] theorem QA2 (x:Od):(pv (.not x) g H).2=bl (!(g x).bool):=rfl
@[simp ↓] theorem Qy6 (k:IntKind) (x:Od):(pv (.cvi k x) g H).1=((g x).isN=true):=rfl
@[simp ↓] theorem Qyy (k:IntKind) (x:Od):(pv (.cvi k x) g H).2=.val (.int k (k.wrap (g x).int)):=rfl
@[simp ↓] theorem QxX (p:Od):(pv (.ld1 p) g H).1=((g p).vd=true/\Qem H (g p).ug 1):=rfl
@[simp ↓] theorem QyD (p:Od):(pv (.ld1 p) g H).2=ldv H (g p).ug:=rfl
@[simp ↓] theorem QyP (n:Nat) (p:Od):(pv (.ldn n p) g H).1=((g p).vd=true/\Qem H (g p).ug n/\0<n):=rfl
@[simp ↓] theorem Qv7 (n:Nat) (p:Od):(pv (.ldn n p) g H).2=.agg (Qk0 H (g p).ug n):=rfl
@[simp ↓] theorem pv1_ia (sz:Nat) (s:Od) (j:Od):(pv (.ia sz s j) g H).1=((g s).vd=true/\(g s).ug.isSl=true/\(g j).isN=true/\0<=(g j).int/\(g j).int<(g s).ug.slen):=rfl
@[simp ↓] theorem pv2_ia (sz:Nat) (s:Od) (j:Od):(pv (.ia sz s j) g H).2=.ptr (g s).ug ((g j).int.toNat*sz):=rfl
@[simp ↓] theorem Qyl (s:Od) (j:Od):(pv (.ixs s j) g H).1=((g s).isS=true/\(g j).isN=true/\0<=(g j).int/\(g j).int<(g s).str.size):=rfl
@[simp ↓] theorem QAs (s:Od) (j:Od):(pv (.ixs s j) g H).2=.val (.int .u8 ((g s).str.data.toList.getD (g j).int.toNat 0).toNat):=rfl
@[simp ↓] theorem pv1_sl (sz:Nat) (x:Od) (lo:Option Od) (hi:Option Od):(pv (.sl sz x lo hi) g H).1=((g x).vd=true/\(g x).ug.isSl=true/\(g x).ug.szIs sz=true/\Qa3 (lo.map g)/\Qa3 (hi.map g)/\Qaa (lo.map g)<=Q6 (g x).ug.slen (hi.map g)/\Q6 (g x).ug.slen (hi.map g)<=(g x).ug.slen):=rfl
@[simp ↓] theorem pv2_sl (sz:Nat) (x:Od) (lo:Option Od) (hi:Option Od):(pv (.sl sz x lo hi) g H).2=(g x).ug.cut sz (Qaa (lo.map g)) (Q6 (g x).ug.slen (hi.map g)):=rfl
@[simp ↓] theorem QAf (x:Od) (lo:Option Od) (hi:Option Od):(pv (.sls x lo hi) g H).1=((g x).isS=true/\Qa3 (lo.map g)/\Qa3 (hi.map g)/\Qaa (lo.map g)<=Q6 (g x).str.size (hi.map g)/\Q6 (g x).str.size (hi.map g)<=(g x).str.size):=rfl
@[simp ↓] theorem QAB (x:Od) (lo:Option Od) (hi:Option Od):(pv (.sls x lo hi) g H).2=st ((g x).str.extract (Qaa (lo.map g)) (Q6 (g x).str.size (hi.map g))):=rfl
@[simp ↓] theorem Qv2 (n:Nat) (sz:Nat) (p:Od) (lo:Option Od) (hi:Option Od):(pv (.sla n sz p lo hi) g H).1=((g p).vd=true/\Qem H (g p).ug (n*sz)/\0<n*sz/\Qa3 (lo.map g)/\Qa3 (hi.map g)/\Qaa (lo.map g)<=Q6 n (hi.map g)/\Q6 n (hi.map g)<=n):=rfl
@[simp ↓] theorem Qyw (n:Nat) (sz:Nat) (p:Od) (lo:Option Od) (hi:Option Od):(pv (.sla n sz p lo hi) g H).2=(g p).ug.cutA sz (Qaa (lo.map g)) (Q6 n (hi.map g)):=rfl
@[simp ↓] theorem QwY (x:Od):(pv (.len x) g H).1=((g x).vd=true/\(g x).ug.isSl=true):=rfl
@[simp ↓] theorem QAL (x:Od):(pv (.len x) g H).2=i64 (g x).ug.slen:=rfl
@[simp ↓] theorem Qww (x:Od):(pv (.lens x) g H).1=((g x).isS=true):=rfl
@[simp ↓] theorem Qxg (x:Od):(pv (.lens x) g H).2=i64 (g x).str.size:=rfl
@[simp ↓] theorem pv1_mm (mx:Bool) (k:IntKind) (x:Od) (y:Od):(pv (.mm mx k x y) g H).1=((g x).isI k=true/\(g y).isI k=true):=rfl
@[simp ↓] theorem pv2_mm (mx:Bool) (k:IntKind) (x:Od) (y:Od):(pv (.mm mx k x y) g H).2=.val (.int k (if mx=true then max (g x).int (g y).int else min (g x).int (g y).int)):=rfl
@[simp ↓] theorem Qv5 (f:Fn) (first:List Od) (cap:List Od):(pv (.mkf f first cap) g H).1=(True):=rfl
@[simp ↓] theorem Qx0 (f:Fn) (first:List Od) (cap:List Od):(pv (.mkf f first cap) g H).2=.fn f (first.map g) (cap.map g):=rfl
@[simp ↓] theorem QyH (t:Ww) (x:Od):(pv (.mki t x) g H).1=(True):=rfl
@[simp ↓] theorem Qxp (t:Ww) (x:Od):(pv (.mki t x) g H).2=.ifc t (g x):=rfl
@[simp ↓] theorem QA8 (T:Ww) (sz len:Nat) (z:Wt) (parts:List (Nat×SV)):(pv (.kro T sz len z parts) g H).1=True:=rfl
@[simp ↓] theorem Qyk (T:Ww) (sz len:Nat) (z:Wt) (parts:List (Nat×SV)):(pv (.kro T sz len z parts) g H).2=.slc (Qah (List.replicate len z).flatten (parts.map λp=>(p.1*sz,p.2))) len:=rfl
@[simp ↓] theorem Qx9 (z:Wt) (parts:List (Nat×Nat×Od)):(pv (.bld z parts) g H).1=(∀ p∈parts.map (λp=>(p.1,p.2.1,g p.2.2)),Q9 p.2.1 p.2.2/\p.1+p.2.1<=z.length):=by
 first
 |rfl
 | (apply propext; simp only[pv,Z8])
@[simp ↓] theorem QBe (z:Wt) (parts:List (Nat×Nat×Od)):(pv (.bld z parts) g H).2=.agg (Qah z (parts.map λp=>(p.1,g p.2.2))):=by
 first
 |rfl
 | (apply propext; simp only[pv,Z8])
def SV.isPt:SV->Bool
 |.ptr _ _=>true
 |_=>false
def SV.isAg:SV->Bool
 |.agg _=>true
 |_=>false
def SV.isTu:SV->Bool
 |.tup _=>true
 |_=>false
def SV.isNc:SV->Bool
 |.ptr _ _=>true
 |.fn (.func _) _ _=>true
 |_=>false
def SV.els':SV->Wt
 |.agg l=>l
 |.tup l=>l
 |_=>[]
def SV.mv (off:Nat):SV->SV
 |.ptr s k=>.ptr s (k+off)
 |_=>.any
@[simp ↓] theorem pv1_fa (off:Nat) (p:Od):(pv (.fa off p) g H).1=((g p).ug.isPt=true/\(g p).vd=true):=by
 cases hu:(g p).ug<;>simp[pv,hu,SV.isPt]
@[simp ↓] theorem pv2_fa (off:Nat) (p:Od) (h:(g p).ug.isPt=true):(pv (.fa off p) g H).2=(g p).ug.mv off:=by
 cases hu:(g p).ug<;>simp[pv,hu,SV.isPt,SV.mv]at h ⊢
@[simp ↓] theorem QwI (len:Nat) (sz:Nat) (p:Od) (j:Od):(pv (.iap len sz p j) g H).1=((g p).ug.isPt=true/\(g p).vd=true/\(g j).isN=true/\0<=(g j).int/\(g j).int<len):=by
 cases hu:(g p).ug<;>simp[pv,hu,SV.isPt]
@[simp ↓] theorem QAk (len:Nat) (sz:Nat) (p:Od) (j:Od) (h:(g p).ug.isPt=true):(pv (.iap len sz p j) g H).2=(g p).ug.mv ((g j).int.toNat*sz):=by
 cases hu:(g p).ug<;>simp[pv,hu,SV.isPt,SV.mv]at h ⊢
@[simp ↓] theorem QyY (x:Od) (j:Nat):(pv (.ext x j) g H).1=((g x).ug.isTu=true/\(g x).vd=true/\j<(g x).ug.els'.length):=by
 cases hu:(g x).ug<;>simp[pv,hu,SV.isTu,SV.els']
@[simp ↓] theorem Qxh (x:Od) (j:Nat) (h:(g x).ug.isTu=true):(pv (.ext x j) g H).2=(g x).ug.els'.getD j .any:=by
 cases hu:(g x).ug<;>simp[pv,hu,SV.isTu,SV.els']at h ⊢
@[simp ↓] theorem QzI (x:Od):(pv (.nck x) g H).1=((g x).ug.isNc=true/\(g x).vd=true):=by
 cases hu:(g x).ug with
 |fn f a b=>cases f<;>simp[pv,hu,SV.isNc]
 |_=>simp[pv,hu,SV.isNc]
@[simp ↓] theorem QzX (x:Od) (h:(g x).ug.isNc=true):(pv (.nck x) g H).2=(g x).ug:=by
 cases hu:(g x).ug with
 |fn f a b=>rw[hu]at h; cases f<;>simp[pv,hu,SV.isNc]at h ⊢
 |_=>simp[hu,SV.isNc]at h ⊢ <;> simp[pv,hu]
@[simp ↓] theorem QyV (neg:Bool) (ks:List CK) (x y:Od):(pv (.eqf neg ks x y) g H).1=((g x).ug.isAg=true/\(g y).ug.isAg=true/\(g x).vd=true/\(g y).vd=true/\Qa0 ks (g x).ug.els' (g y).ug.els'):=by
 cases hu:(g x).ug<;>cases hv:(g y).ug<;>simp[pv,hu,hv,SV.isAg,SV.els']
@[simp ↓] theorem Qz4 (neg:Bool) (ks:List CK) (x y:Od) (h:((g x).ug.isAg&&(g y).ug.isAg)=true):(pv (.eqf neg ks x y) g H).2=bl (if neg=true then !QaU ks (g x).ug.els' (g y).ug.els' else QaU ks (g x).ug.els' (g y).ug.els'):=by
 cases hu:(g x).ug<;>cases hv:(g y).ug<;>simp[pv,hu,hv,SV.isAg,SV.els']at h ⊢
@[simp ↓] theorem QAF (k:IntKind) (x y:Od):(pv (.bin .add (.i k) x y) g H).1=((g x).isI k=true/\(g y).isI k=true):=rfl
@[simp ↓] theorem Qyp (k:IntKind) (x y:Od):(pv (.bin .add (.i k) x y) g H).2=.val (.int k (k.wrap ((g x).int+(g y).int))):=rfl
@[simp ↓] theorem Qx7 (k:IntKind) (x y:Od):(pv (.bin .sub (.i k) x y) g H).1=((g x).isI k=true/\(g y).isI k=true):=rfl
@[simp ↓] theorem Qx4 (k:IntKind) (x y:Od):(pv (.bin .sub (.i k) x y) g H).2=.val (.int k (k.wrap ((g x).int-(g y).int))):=rfl
@[simp ↓] theorem Qyi (k:IntKind) (x y:Od):(pv (.bin .mul (.i k) x y) g H).1=((g x).isI k=true/\(g y).isI k=true):=rfl
@[simp ↓] theorem QxB (k:IntKind) (x y:Od):(pv (.bin .mul (.i k) x y) g H).2=.val (.int k (k.wrap ((g x).int*(g y).int))):=rfl
@[simp ↓] theorem QwH (k:IntKind) (x y:Od):(pv (.bin .quo (.i k) x y) g H).1=((g x).isI k=true/\(g y).isI k=true/\(g y).int≠0):=rfl
@[simp ↓] theorem Qxo (k:IntKind) (x y:Od):(pv (.bin .quo (.i k) x y) g H).2=.val (.int k (k.wrap ((g x).int.tdiv (g y).int))):=rfl
@[simp ↓] theorem Qxa (k:IntKind) (x y:Od):(pv (.bin .rem (.i k) x y) g H).1=((g x).isI k=true/\(g y).isI k=true/\(g y).int≠0):=rfl
@[simp ↓] theorem QzA (k:IntKind) (x y:Od):(pv (.bin .rem (.i k) x y) g H).2=.val (.int k ((g x).int.tmod (g y).int)):=rfl
@[simp ↓] theorem Qzj (k:IntKind) (x y:Od):(pv (.bin .and (.i k) x y) g H).1=((g x).isI k=true/\(g y).isI k=true):=rfl
@[simp ↓] theorem QA9 (k:IntKind) (x y:Od):(pv (.bin .and (.i k) x y) g H).2=.val (.int k (Qcz .and k (g x).int (g y).int)):=rfl
@[simp ↓] theorem Qxk (k:IntKind) (x y:Od):(pv (.bin .or (.i k) x y) g H).1=((g x).isI k=true/\(g y).isI k=true):=rfl
@[simp ↓] theorem QzO (k:IntKind) (x y:Od):(pv (.bin .or (.i k) x y) g H).2=.val (.int k (Qcz .or k (g x).int (g y).int)):=rfl
@[simp ↓] theorem Qxm (k:IntKind) (x y:Od):(pv (.bin .xor (.i k) x y) g H).1=((g x).isI k=true/\(g y).isI k=true):=rfl
@[simp ↓] theorem Qwf (k:IntKind) (x y:Od):(pv (.bin .xor (.i k) x y) g H).2=.val (.int k (Qcz .xor k (g x).int (g y).int)):=rfl
@[simp ↓] theorem QyE (k:IntKind) (x y:Od):(pv (.bin .andNot (.i k) x y) g H).1=((g x).isI k=true/\(g y).isI k=true):=rfl
@[simp ↓] theorem QBa (k:IntKind) (x y:Od):(pv (.bin .andNot (.i k) x y) g H).2=.val (.int k (Qcz .andNot k (g x).int (g y).int)):=rfl
@[simp ↓] theorem QyZ (k:IntKind) (x y:Od):(pv (.bin .eql (.i k) x y) g H).1=((g x).isI k=true/\(g y).isI k=true):=rfl
@[simp ↓] theorem Qw6 (k:IntKind) (x y:Od):(pv (.bin .eql (.i k) x y) g H).2=bl (decide ((g x).int=(g y).int)):=rfl
@[simp ↓] theorem QyK (k:IntKind) (x y:Od):(pv (.bin .neq (.i k) x y) g H).1=((g x).isI k=true/\(g y).isI k=true):=rfl
@[simp ↓] theorem Qzq (k:IntKind) (x y:Od):(pv (.bin .neq (.i k) x y) g H).2=bl (!decide ((g x).int=(g y).int)):=rfl
@[simp ↓] theorem QzV (k:IntKind) (x y:Od):(pv (.bin .lss (.i k) x y) g H).1=((g x).isI k=true/\(g y).isI k=true):=rfl
@[simp ↓] theorem Qv1 (k:IntKind) (x y:Od):(pv (.bin .lss (.i k) x y) g H).2=bl (decide ((g x).int<(g y).int)):=rfl
@[simp ↓] theorem QAz (k:IntKind) (x y:Od):(pv (.bin .leq (.i k) x y) g H).1=((g x).isI k=true/\(g y).isI k=true):=rfl
@[simp ↓] theorem QxY (k:IntKind) (x y:Od):(pv (.bin .leq (.i k) x y) g H).2=bl (decide ((g x).int<=(g y).int)):=rfl
@[simp ↓] theorem QyW (k:IntKind) (x y:Od):(pv (.bin .gtr (.i k) x y) g H).1=((g x).isI k=true/\(g y).isI k=true):=rfl
@[simp ↓] theorem QA1 (k:IntKind) (x y:Od):(pv (.bin .gtr (.i k) x y) g H).2=bl (decide ((g y).int<(g x).int)):=rfl
@[simp ↓] theorem QzR (k:IntKind) (x y:Od):(pv (.bin .geq (.i k) x y) g H).1=((g x).isI k=true/\(g y).isI k=true):=rfl
@[simp ↓] theorem QwK (k:IntKind) (x y:Od):(pv (.bin .geq (.i k) x y) g H).2=bl (decide ((g y).int<=(g x).int)):=rfl
@[simp ↓] theorem Qv3 (x y:Od):(pv (.bin .eql .s x y) g H).1=((g x).isS=true/\(g y).isS=true):=rfl
@[simp ↓] theorem QAe (x y:Od):(pv (.bin .eql .s x y) g H).2=bl (decide ((g x).str.data.toList=(g y).str.data.toList)):=rfl
@[simp ↓] theorem QxI (x y:Od):(pv (.bin .neq .s x y) g H).1=((g x).isS=true/\(g y).isS=true):=rfl
@[simp ↓] theorem Qxd (x y:Od):(pv (.bin .neq .s x y) g H).2=bl (!decide ((g x).str.data.toList=(g y).str.data.toList)):=rfl
@[simp ↓] theorem QAA (x y:Od):(pv (.bin .add .s x y) g H).1=((g x).isS=true/\(g y).isS=true/\(g x).str.size+(g y).str.size<=9223372036854775807):=rfl
@[simp ↓] theorem Qxt (x y:Od):(pv (.bin .add .s x y) g H).2=st ((g x).str++(g y).str):=rfl
@[simp ↓] theorem QAi (x y:Od):(pv (.bin .eql .b x y) g H).1=((g x).isB=true/\(g y).isB=true):=rfl
@[simp ↓] theorem QwW (x y:Od):(pv (.bin .eql .b x y) g H).2=bl ((g x).bool==(g y).bool):=rfl
@[simp ↓] theorem QAj (x y:Od):(pv (.bin .neq .b x y) g H).1=((g x).isB=true/\(g y).isB=true):=rfl
@[simp ↓] theorem Qzv (x y:Od):(pv (.bin .neq .b x y) g H).2=bl ((g x).bool != (g y).bool):=rfl
@[simp ↓] theorem QwX (k len sz:Nat) (cs:Wt) (j:Od):(pv (.gix k len sz cs j) g H).1=((g j).isN=true/\0<=(g j).int/\(g j).int<len):=rfl
@[simp ↓] theorem Qw1 (k len sz:Nat) (cs:Wt) (j:Od):(pv (.gix k len sz cs j) g H).2=.ptr (.slc cs cs.length) ((g j).int.toNat*sz):=rfl
@[simp ↓] theorem QyR (neg right:Bool) (x:Od):(pv (.ifn neg right x) g H).1=((g x).vd=true/\(g x).ug.isIf=true):=rfl
@[simp ↓] theorem QxZ (neg right:Bool) (x:Od):(pv (.ifn neg right x) g H).2=bl (if(g x).ug.ifNil=true then !neg else neg):=rfl
@[simp ↓] theorem QyU (t:Ww) (ok:Bool) (z:SV) (x:Od):(pv (.tas t ok z x) g H).1=((g x).vd=true/\(g x).ug.isIf=true/\(ok=true\/(g x).ug.ifIs t=true)):=rfl
@[simp ↓] theorem QA7 (t:Ww) (ok:Bool) (z:SV) (x:Od):(pv (.tas t ok z x) g H).2=if ok=true then(if(g x).ug.ifIs t=true then .tup [(g x).ug.ifVal,bl true]else .tup [z,bl false])else(g x).ug.ifVal:=rfl
@[simp ↓] theorem pv_lkp (kk:KK) (ok:Bool) (z:SV) (m k:Od):pv (.lkp kk ok z m k) g H=(match (g m).ug.mapOf H with
 |some x=>((g m).vd=true/\(g k).isK kk=true/\x.1.all kk.is=true/\(∀ v∈(g k).key kk::x.1,kk.knows v),
  if ok=true then .tup [(lkm ((g k).key kk) x.1 x.2).getD z,bl (lkm ((g k).key kk) x.1 x.2).isSome]else(lkm ((g k).key kk) x.1 x.2).getD z)
 |none=>(False,.any)):=rfl
@[simp ↓] theorem pv_iav (sz:Nat) (s j:Od):pv (.iav sz s j) g H=(match (g s).ug with
 |.val (.slice (some a) len _)=>((g s).vd=true/\(g j).isN=true/\0<=(g j).int/\(g j).int<len,.val (.pointer (some (a.add ((g j).int.toNat*sz)))))
 |_=>(False,.any)):=rfl
@[simp ↓] theorem pv_lnv (x:Od):pv (.lnv x) g H=(match (g x).ug with
 |.val (.slice _ len _)=>((g x).vd=true,i64 len)
 |_=>(False,.any)):=rfl
@[simp ↓] theorem QAT (x:Od):(pv (.bys x) g H).1=((g x).vd=true/\(g x).ug.isSl=true/\QgW ((g x).ug.row H) (g x).ug.slen=true):=rfl
@[simp ↓] theorem Qxx (x:Od):(pv (.bys x) g H).2=.val (.string (Qgi (((g x).ug.row H).take (g x).ug.slen))):=rfl
@[simp ↓] theorem pv1_no:(pv .no g H).1=False:=rfl
@[simp ↓] theorem pv2_no:(pv .no g H).2=.any:=rfl
@[simp ↓] theorem Qxj (op:BinOp) (k yk:IntKind) (x y:Od):pv (.bin op (.sh k yk) x y) g H=Qcf op (.sh k yk) (g x) (g y):=rfl
@[simp ↓] theorem Qzs (op:BinOp) (r:Bool) (x y:Od):pv (.bin op (.pnil r) x y) g H=Qcf op (.pnil r) (g x) (g y):=rfl
@[simp] theorem Qyz (k yk:IntKind) (x y:SV):Qcf .shl (.sh k yk) x y=(x.isI k=true/\y.isI yk=true/\0<=y.int,.val (.int k (k.wrap (x.int*2 ^ (min y.int.toNat k.bits))))):=rfl
@[simp] theorem QAt (k yk:IntKind) (x y:SV):Qcf .shr (.sh k yk) x y=(x.isI k=true/\y.isI yk=true/\0<=y.int,.val (.int k (x.int.fdiv (2 ^ (min y.int.toNat k.bits))))):=rfl
@[simp] theorem QAl (op:BinOp) (r:Bool) (x y:SV):Qcf op (.pnil r) x y=(match op,(if r=true then x else y).ug with
 |.eql,.ptr _ _=>((if r=true then x else y).vd=true,bl false)
 |.neq,.ptr _ _=>((if r=true then x else y).vd=true,bl true)
 |.eql,.val (.pointer none)=>((if r=true then x else y).vd=true,bl true)
 |.neq,.val (.pointer none)=>((if r=true then x else y).vd=true,bl false)
 |_,_=>(False,.any)):=rfl
end
@[simp] theorem Qx1 (e:Env) (k t:Nat) (v:SV):Env.get ((k,v)::e) t=if k=t then v else Env.get e t:=rfl
@[simp] theorem Qwu (t:Nat):Env.get [] t=.any:=rfl
@[simp] theorem QxF (e:Env) (n:Nat):Env.ev e (.t n)=e.get n:=rfl
@[simp] theorem Qz1 (e:Env) (s:SV):Env.ev e (.c s)=s:=rfl
@[simp] theorem QAY (e:Env) (d:Nat) (v:SV):Env.put e (some d) v=(d,v)::e:=rfl
@[simp] theorem QAR (e:Env) (v:SV):Env.put e none v=e:=rfl
@[simp] theorem Qyx (e:Env):Env.keep e []=[]:=rfl
@[simp] theorem Qz8 (e:Env) (k:Nat) (r:List Nat):Env.keep e (k::r)=(k,e.get k)::Env.keep e r:=rfl
@[simp] theorem QwT (l:Wt):Qb2 l=(List.range l.length).zip l:=rfl
attribute [simp] List.range_succ QqI QqB Qtn Qt5 Qsu QrY Qvq Qqv QtB Qto
@[simp] theorem vd_any  : SV.vd .any=true:=rfl
@[simp] theorem ug_any  : SV.ug .any=.any:=rfl
@[simp] theorem QzF  : SV.isCell .any=false:=rfl
@[simp] theorem Qzh  : SV.flat .any=[.any]:=rfl
@[simp] theorem QwQ  : SV.isPt .any=false:=rfl
@[simp] theorem Qxf  : SV.isAg .any=false:=rfl
@[simp] theorem Qy0  : SV.isTu .any=false:=rfl
@[simp] theorem vd_val (v:Value):SV.vd (.val v)=true:=rfl
@[simp] theorem ug_val (v:Value):SV.ug (.val v)=(.val v):=rfl
@[simp] theorem QAS (v:Value):SV.flat (.val v)=[(.val v)]:=rfl
@[simp] theorem QwU (v:Value):SV.isPt (.val v)=false:=rfl
@[simp] theorem Qwn (v:Value):SV.isAg (.val v)=false:=rfl
@[simp] theorem Qy8 (v:Value):SV.isTu (.val v)=false:=rfl
@[simp] theorem QxA (n:Int):SV.isCell (i64 n)=true:=rfl
@[simp] theorem Qx8 (n:Int):SV.flat (i64 n)=[(i64 n)]:=rfl
@[simp] theorem Qx5 (n:Int):SV.isPt (i64 n)=false:=rfl
@[simp] theorem QAX (n:Int):SV.isAg (i64 n)=false:=rfl
@[simp] theorem Qyv (n:Int):SV.isTu (i64 n)=false:=rfl
@[simp] theorem Qzd (b:Bool):SV.isCell (bl b)=true:=rfl
@[simp] theorem QAh (b:Bool):SV.flat (bl b)=[(bl b)]:=rfl
@[simp] theorem QyG (b:Bool):SV.isPt (bl b)=false:=rfl
@[simp] theorem QyJ (b:Bool):SV.isAg (bl b)=false:=rfl
@[simp] theorem Qzm (b:Bool):SV.isTu (bl b)=false:=rfl
@[simp] theorem vd_st (s:ByteArray):SV.vd (st s)=true:=rfl
@[simp] theorem ug_st (s:ByteArray):SV.ug (st s)=(st s):=rfl
@[simp] theorem Qz0 (s:ByteArray):SV.isCell (st s)=true:=rfl
@[simp] theorem QwL (s:ByteArray):SV.flat (st s)=[(st s)]:=rfl
@[simp] theorem QAJ (s:ByteArray):SV.isPt (st s)=false:=rfl
@[simp] theorem Qym (s:ByteArray):SV.isAg (st s)=false:=rfl
@[simp] theorem QAE (s:ByteArray):SV.isTu (st s)=false:=rfl
@[simp] theorem vd_slc (c:Wt) (n:Nat):SV.vd (.slc c n)=true:=rfl
@[simp] theorem ug_slc (c:Wt) (n:Nat):SV.ug (.slc c n)=(.slc c n):=rfl
@[simp] theorem Qxb (c:Wt) (n:Nat):SV.isCell (.slc c n)=true:=rfl
@[simp] theorem QAU (c:Wt) (n:Nat):SV.flat (.slc c n)=[(.slc c n)]:=rfl
@[simp] theorem QAr (c:Wt) (n:Nat):SV.isPt (.slc c n)=false:=rfl
@[simp] theorem Qzo (c:Wt) (n:Nat):SV.isAg (.slc c n)=false:=rfl
@[simp] theorem Qwh (c:Wt) (n:Nat):SV.isTu (.slc c n)=false:=rfl
@[simp] theorem vd_own (i off len sz ver:Nat):SV.vd (.own i off len sz ver)=true:=rfl
@[simp] theorem ug_own (i off len sz ver:Nat):SV.ug (.own i off len sz ver)=(.own i off len sz ver):=rfl
@[simp] theorem Qzy (i off len sz ver:Nat):SV.isCell (.own i off len sz ver)=true:=rfl
@[simp] theorem Qyr (i off len sz ver:Nat):SV.flat (.own i off len sz ver)=[(.own i off len sz ver)]:=rfl
@[simp] theorem Qxe (i off len sz ver:Nat):SV.isPt (.own i off len sz ver)=false:=rfl
@[simp] theorem Qzw (i off len sz ver:Nat):SV.isAg (.own i off len sz ver)=false:=rfl
@[simp] theorem QzK (i off len sz ver:Nat):SV.isTu (.own i off len sz ver)=false:=rfl
@[simp] theorem vd_ptr (s:SV) (k:Nat):SV.vd (.ptr s k)=true:=rfl
@[simp] theorem ug_ptr (s:SV) (k:Nat):SV.ug (.ptr s k)=(.ptr s k):=rfl
@[simp] theorem QAa (s:SV) (k:Nat):SV.isCell (.ptr s k)=true:=rfl
@[simp] theorem QzT (s:SV) (k:Nat):SV.flat (.ptr s k)=[(.ptr s k)]:=rfl
@[simp] theorem QyM (s:SV) (k:Nat):SV.isPt (.ptr s k)=true:=rfl
@[simp] theorem QAK (s:SV) (k:Nat):SV.isAg (.ptr s k)=false:=rfl
@[simp] theorem QxR (s:SV) (k:Nat):SV.isTu (.ptr s k)=false:=rfl
@[simp] theorem vd_agg (l:Wt):SV.vd (.agg l)=true:=rfl
@[simp] theorem ug_agg (l:Wt):SV.ug (.agg l)=(.agg l):=rfl
@[simp] theorem Qy5 (l:Wt):SV.isCell (.agg l)=false:=rfl
@[simp] theorem QAv (l:Wt):SV.isPt (.agg l)=false:=rfl
@[simp] theorem Qyu (l:Wt):SV.isAg (.agg l)=true:=rfl
@[simp] theorem QxH (l:Wt):SV.isTu (.agg l)=false:=rfl
@[simp] theorem vd_tup (l:Wt):SV.vd (.tup l)=true:=rfl
@[simp] theorem ug_tup (l:Wt):SV.ug (.tup l)=(.tup l):=rfl
@[simp] theorem QAV (l:Wt):SV.isCell (.tup l)=false:=rfl
@[simp] theorem Qzx (l:Wt):SV.flat (.tup l)=[(.tup l)]:=rfl
@[simp] theorem QxV (l:Wt):SV.isPt (.tup l)=false:=rfl
@[simp] theorem QwG (l:Wt):SV.isAg (.tup l)=false:=rfl
@[simp] theorem QA5 (l:Wt):SV.isTu (.tup l)=true:=rfl
@[simp] theorem vd_fn (f:Fn) (a b:Wt):SV.vd (.fn f a b)=true:=rfl
@[simp] theorem ug_fn (f:Fn) (a b:Wt):SV.ug (.fn f a b)=(.fn f a b):=rfl
@[simp] theorem QAD (f:Fn) (a b:Wt):SV.isCell (.fn f a b)=true:=rfl
@[simp] theorem QAw (f:Fn) (a b:Wt):SV.flat (.fn f a b)=[(.fn f a b)]:=rfl
@[simp] theorem QA0 (f:Fn) (a b:Wt):SV.isPt (.fn f a b)=false:=rfl
@[simp] theorem Qyq (f:Fn) (a b:Wt):SV.isAg (.fn f a b)=false:=rfl
@[simp] theorem Qw2 (f:Fn) (a b:Wt):SV.isTu (.fn f a b)=false:=rfl
@[simp] theorem vd_ifc (t:Ww) (x:SV):SV.vd (.ifc t x)=true:=rfl
@[simp] theorem ug_ifc (t:Ww) (x:SV):SV.ug (.ifc t x)=(.ifc t x):=rfl
@[simp] theorem QyB (t:Ww) (x:SV):SV.isCell (.ifc t x)=true:=rfl
@[simp] theorem QwV (t:Ww) (x:SV):SV.flat (.ifc t x)=[(.ifc t x)]:=rfl
@[simp] theorem Qw5 (t:Ww) (x:SV):SV.isPt (.ifc t x)=false:=rfl
@[simp] theorem Qyg (t:Ww) (x:SV):SV.isAg (.ifc t x)=false:=rfl
@[simp] theorem QzS (t:Ww) (x:SV):SV.isTu (.ifc t x)=false:=rfl
@[simp] theorem Qwm (v:Value):SV.isCell (.val v)=v.oneCell':=rfl
@[simp] theorem Qxv (l:Wt):SV.flat (.agg l)=l:=rfl
@[simp] theorem vd_gd (b:Bool) (x:SV):SV.vd (.gd b x)=(b&&x.vd):=rfl
@[simp] theorem ug_gd (b:Bool) (x:SV):SV.ug (.gd b x)=x.ug:=rfl
@[simp] theorem isI_gd (k:IntKind) (b:Bool) (x:SV):SV.isI k (.gd b x)=(b&&x.isI k):=rfl
@[simp] theorem isN_gd (b:Bool) (x:SV):SV.isN (.gd b x)=(b&&x.isN):=rfl
@[simp] theorem isB_gd (b:Bool) (x:SV):SV.isB (.gd b x)=(b&&x.isB):=rfl
@[simp] theorem isS_gd (b:Bool) (x:SV):SV.isS (.gd b x)=(b&&x.isS):=rfl
@[simp] theorem int_gd (b:Bool) (x:SV):SV.int (.gd b x)=x.int:=rfl
@[simp] theorem QxM (b:Bool) (x:SV):SV.bool (.gd b x)=x.bool:=rfl
@[simp] theorem str_gd (b:Bool) (x:SV):SV.str (.gd b x)=x.str:=rfl
@[simp] theorem QzQ (k k':IntKind) (n:Int):SV.isI k (.val (.int k' n))=decide (k'=k):=rfl
@[simp] theorem QzY (k':IntKind) (n:Int):SV.isN (.val (.int k' n))=true:=rfl
@[simp] theorem Qze (k':IntKind) (n:Int):SV.int (.val (.int k' n))=n:=rfl
@[simp] theorem QxT (b:Bool):SV.isB (.val (.bool b))=true:=rfl
@[simp] theorem Qwo (b:Bool):SV.bool (.val (.bool b))=b:=rfl
@[simp] theorem isS_st (s:ByteArray):SV.isS (st s)=true:=rfl
@[simp] theorem str_st (s:ByteArray):SV.str (st s)=s:=rfl
@[simp] theorem on_bl (want b:Bool):SV.on want (bl b)=(b==want):=rfl
@[simp] theorem on_gd (want b:Bool) (x:SV):SV.on want (.gd b x)=(b&&x.on want):=rfl
@[simp] theorem QAy (b:Bool):SV.bish (bl b)=true:=rfl
@[simp] theorem Qyn (b:Bool) (x:SV):SV.bish (.gd b x)=x.bish:=rfl
@[simp] theorem mv_ptr (off:Nat) (s:SV) (k:Nat):SV.mv off (.ptr s k)=.ptr s (k+off):=rfl
@[simp] theorem QwJ (l:Wt):SV.els' (.agg l)=l:=rfl
@[simp] theorem QAP (l:Wt):SV.els' (.tup l)=l:=rfl
@[simp] theorem Qwj (s:SV) (k:Nat):SV.isNc (.ptr s k)=true:=rfl
@[simp] theorem QxK (f:Wz) (a b:Wt):SV.isNc (.fn (.func f) a b)=true:=rfl
@[simp] theorem QyO (c:Wt) (n:Nat):SV.slen (.slc c n)=n:=rfl
@[simp] theorem Qwr (i off len sz ver:Nat):SV.slen (.own i off len sz ver)=len:=rfl
@[simp] theorem Qy9 (c:Wt) (n:Nat):SV.isSl (.slc c n)=true:=rfl
@[simp] theorem Qxr (i off len sz ver:Nat):SV.isSl (.own i off len sz ver)=true:=rfl
@[simp] theorem Qzg (H:Ws) (c:Wt) (n:Nat):SV.row H (.slc c n)=c:=rfl
@[simp] theorem Qzb (H:Ws) (i off len sz ver:Nat):SV.row H (.own i off len sz ver)=(Qe H i ver).drop off:=rfl
@[simp] theorem Qoz (H:Ws) (s:SV) (k:Nat):SV.at H (.ptr s k)=(s.row H).drop k:=rfl
@[simp] theorem els_eq (H:Ws) (sz:Nat) (s:SV):SV.els H sz s=(s.row H).take (s.slen*sz):=rfl
@[simp] theorem QAx:SV.isNil (.val (.slice none 0 0))=true:=rfl
@[simp] theorem QyX (sz i off len s ver:Nat):SV.szIs sz (.own i off len s ver)=(s==sz):=rfl
@[simp] theorem QxJ (sz:Nat) (c:Wt) (n:Nat):SV.szIs sz (.slc c n)=true:=rfl
@[simp] theorem QxG (sz l h:Nat) (cs:Wt) (n:Nat):SV.cut sz l h (.slc cs n)=.slc ((cs.drop (l*sz)).take ((h-l)*sz)) (h-l):=rfl
@[simp] theorem Qzc (sz l h i off n s ver:Nat):SV.cut sz l h (.own i off n s ver)=.own i (off+l*sz) (h-l) s ver:=rfl
@[simp] theorem Qwc (x:SV):Qaa (some x)=x.int.toNat:=rfl
@[simp] theorem QyA:Qaa none=0:=rfl
@[simp] theorem QyF (n:Nat) (x:SV):Q6 n (some x)=x.int.toNat:=rfl
@[simp] theorem QxP (n:Nat):Q6 n none=n:=rfl
@[simp] theorem Qxy (x:SV):Qa3 (some x)=(x.isN=true/\0<=x.int):=rfl
@[simp] theorem Qwg:Qa3 none=True:=rfl
@[simp] theorem Qx3 (n:Nat) (l:Wt):Q9 n (.agg l)=(l.length=n):=by simp[Q9]
@[simp] theorem QAn (n:Nat) (k:Int):Q9 n (i64 k)=(n=1):=by
 show(n=1/\(i64 k).isCell=true/\true=true)=_;simp
@[simp] theorem Qz6 (n:Nat) (k:Bool):Q9 n (bl k)=(n=1):=by
 show(n=1/\(bl k).isCell=true/\true=true)=_;simp
@[simp] theorem Qwe (n:Nat) (c:Wt) (k:Nat):Q9 n (.slc c k)=(n=1):=by simp[Q9,SV.ug,SV.vd,SV.isCell]
@[simp] theorem QzW (n i off len sz ver:Nat):Q9 n (.own i off len sz ver)=(n=1):=by simp[Q9,SV.ug,SV.vd,SV.isCell]
@[simp] theorem QzL (n:Nat) (s:SV) (k:Nat):Q9 n (.ptr s k)=(n=1):=by simp[Q9,SV.ug,SV.vd,SV.isCell]
@[simp] theorem Qz2 (n:Nat) (f:Fn) (a b:Wt):Q9 n (.fn f a b)=(n=1):=by simp[Q9,SV.ug,SV.vd,SV.isCell]
@[simp] theorem Qy3 (n:Nat) (x:SV):Q9 n (.gd true x)=Q9 n x:=by simp[Q9,SV.ug,SV.vd]
@[simp] theorem QyT (z:Wt):Qah z []=z:=rfl
@[simp] theorem QzJ (z:Wt) (off:Nat) (v:SV) (r:List (Nat×SV)):Qah z ((off,v)::r)=Qah (z.take off++v.ug.flat++z.drop (off+v.ug.flat.length)) r:=rfl
@[simp] theorem QBc:Qy []=True:=by simp[Qy]
@[simp] theorem Qv9 (s:SV) (l:Wt):Qy (s::l)=(s.isCell=true/\Qy l):=by simp[Qy]
@[simp] theorem QzC (a b:Wt):Qy (a++b)=(Qy a/\Qy b):=by
 apply propext; constructor
 . intro h; exact⟨λs hs=>h s (by simp[hs]),λs hs=>h s (by simp[hs])⟩
 . rintro⟨h1,h2⟩ s hs; rcases Vj.1 hs with h|h
   . exact h1 s h
   . exact h2 s h
def Qa (l:List Int):Wt:=l.map i64
@[simp] theorem QAM (l:List Int):Qy (Qa l)=True:=by
 simp only[Qy,Qa,Vl,eq_iff_iff,iff_true]; rintro s ⟨n,_,rfl⟩; rfl
@[simp] theorem QBf (l:List Int):(Qa l).length=l.length:=by simp[Qa]
theorem Qoc (l:List Int) (n:Nat):(Qa l).take n=Qa (l.take n):=by simp[Qa]
theorem Qui (l:List Int) (n:Nat):(Qa l).drop n=Qa (l.drop n):=by simp[Qa]
@[simp] theorem Qzi (l:List Int):(Qa l).take l.length=Qa l:=by rw[Qoc,YE]
attribute [simp] QdM QfT QpA Qtq
@[simp] theorem QpE (o:AO) (r:Ws) (ver:Nat):Qe (o::r) 0 ver=if(o.live&&o.ver==ver)=true then o.cells else []:=by simp[Qe]
@[simp] theorem QrT (o:AO) (r:Ws) (k ver:Nat):Qe (o::r) (k+1) ver=Qe r k ver:=by simp[Qe]
@[simp] theorem Qwp (o:AO) (r:Ws) (f:AO->AO):setObj (o::r) 0 f=f o::r:=by simp[setObj]
@[simp] theorem QuG (o:AO) (r:Ws) (k:Nat) (f:AO->AO):setObj (o::r) (k+1) f=o::setObj r k f:=by
 simp only[setObj,VW]; cases r[k]? <;> simp
@[simp] theorem Qrc (H L:Ws) (k ver:Nat) (T:Ww) (m:Nat):Qb0 (H++L) (H.length+k) ver T m=Qb0 L k ver T m:=by
 unfold Qb0; rw[Vg (by omega)]; simp
@[simp] theorem QzE (H L:Ws) (ver:Nat) (T:Ww) (m:Nat):Qb0 (H++L) H.length ver T m=Qb0 L 0 ver T m:=Qrc H L 0 ver T m
@[simp] theorem QwF (o:AO) (r:Ws) (ver:Nat) (T:Ww) (m:Nat):Qb0 (o::r) 0 ver T m=(o.live=true/\o.ver=ver/\o.ty=T/\o.cells.length=m):=by simp[Qb0]
@[simp] theorem Qv4 (o:AO) (r:Ws) (k ver:Nat) (T:Ww) (m:Nat):Qb0 (o::r) (k+1) ver T m=Qb0 r k ver T m:=by simp[Qb0]
attribute [simp] AO.put AO.grow Qa0 QaU SV.under SV.underL QcN QbH QX
@[simp] theorem Qyh (n:Nat) (k:Int):SV.under n (i64 k)=true:=rfl
@[simp] theorem Qye (n:Nat) (b:Bool):SV.under n (bl b)=true:=rfl
@[simp] theorem QAO (n:Nat) (s:ByteArray):SV.under n (st s)=true:=rfl
@[simp] theorem Qk4 (n:Nat) (l:List Int):SV.underL n (Qa l)=true:=by
 rw[SV.underL_iff]; simp only[Qa,Vl]; rintro s ⟨k,_,rfl⟩; rfl
@[simp] theorem Qzf (n0:Nat) (rs:List RS) (r:SV) (H':Ws) (env:Env) (H1:Ws):Ab.Fin n0 rs (.ret r) H' .normal env H1=((∀ s∈rs,s.side env H1)/\Cv n0 (QaT env H1 rs) H1 r H'):=rfl
@[simp] theorem Qxl (n0:Nat) (rs:List RS) (r:SV) (H':Ws) (env:Env) (H1:Ws):Ab.Fin n0 rs (.ret r) H' .ret env H1=((∀ s∈rs,s.side env H1)/\Cv n0 (QaT env H1 rs) H1 r H'):=rfl
@[simp] theorem Qw8 (n0:Nat) (rs:List RS) (Pt:Out->Ws->Prop) (env:Env) (H1:Ws):Ab.FinP n0 rs Pt .normal env H1=((∀ s∈rs,s.side env H1)/\Qbu n0 Pt (QaT env H1 rs) H1):=rfl
@[simp] theorem Qz3 (n0:Nat) (rs:List RS) (Pt:Out->Ws->Prop) (env:Env) (H1:Ws):Ab.FinP n0 rs Pt .ret env H1=((∀ s∈rs,s.side env H1)/\Qbu n0 Pt (QaT env H1 rs) H1):=rfl
@[congr] theorem Qxw {n0:Nat} {Pt:Out->Ws->Prop} {v v':SV} {H H':Ws} (h:Ev v=v') (h1:Ev H=H'):Qbu n0 Pt v H=Qbu n0 Pt v' H':=by rw[QC h,QC h1]
@[simp] theorem QAN (n0:Nat) (rs:List RS) (x y:SV) (H':Ws) (env:Env) (H1:Ws):Ab.Fin n0 rs (.pan y) H' (.panic x) env H1=Cv n0 x H1 y H':=rfl
attribute [simp] RS.side RS.ev QaT
theorem Qg {n0:Nat} {H L:Ws} {r r1:SV} (d:Nat) (hcl:closed H) (hn:n0=H.length) (h:r1.fz H.length [] L d=r):Cv n0 r1 (H++L) r H:=by
 subst h; exact Qtz d rfl (by omega) hcl
theorem Qn {n0:Nat} {H:Ws} {r:SV}:Cv n0 r H r H:=λS v hS hsim hv=>⟨S.ρ,by subst hS; exact Ext.refl _ _,by subst hS; exact hsim,by subst hS; exact hv⟩
theorem Qao {n:Nat} {ks:List Nat} {L:Ws} {d:Nat} {s:SV} (h:s.under n=true):SV.fz n ks L (d+1) s=s:=by unfold SV.fz; rw[Wb h]
@[simp] theorem Qcd (n:Nat) (ks:List Nat) (L:Ws) (d:Nat) (k:Int):SV.fz n ks L (d+1) (i64 k)=i64 k:=Qao rfl
@[simp] theorem fz_bl (n:Nat) (ks:List Nat) (L:Ws) (d:Nat) (k:Bool):SV.fz n ks L (d+1) (bl k)=bl k:=Qao rfl
@[simp] theorem QAo (n:Nat) (ks:List Nat) (L:Ws) (d:Nat) (l:List Int):(Qa l).map (SV.fz n ks L (d+1))=Qa l:=by
 simp only[Qa,YS]; apply VA; intro k _; exact Qcd n ks L d k
end
end Go.Ab
namespace Go.Ab
variable [QK] [QE] [QF]
structure IsI (H:Ws) (x:SV) (l:List Int):Prop where
 vd:x.vd=true
 ug:x.ug=x
 sl:x.isSl=true
 cell:x.isCell=true
 sz:x.szIs 1=true
 len:x.slen=l.length
 und:x.under H.length=true
 row:(x.row H).take l.length=Qa l
 flat:x.flat=[x]
theorem Qd1 {H:Ws} {i ver:Nat} (L:Ws) (h:i<H.length):Qe (H++L) i ver=Qe H i ver:=by
 unfold Qe; rw[Vd h]
theorem Que {H:Ws} {x:SV} (L:Ws) (h:x.under H.length=true):x.row (H++L)=x.row H:=by
 cases x<;>try rfl
 rename_i i off len sz ver;simp only[SV.row]; rw[Qd1 L (by simpa[SV.under]using h)]
namespace IsI
variable {H:Ws} {x:SV} {l:List Int}
theorem app (h:IsI H x l) (L:Ws):IsI (H++L) x l :=
 ⟨h.vd,h.ug,h.sl,h.cell,h.sz,h.len,SV.under_mono (by simp) x h.und,by rw[Que L h.und]; exact h.row,h.flat⟩
theorem slc (H:Ws) (l:List Int):IsI H (.slc (Qa l) l.length) l :=
 ⟨rfl,rfl,rfl,rfl,rfl,rfl,by simp,by simp,rfl⟩
theorem rowlen (h:IsI H x l):l.length<=(x.row H).length:=by
 have:=Wj List.length h.row;simp at this; omega
theorem ldlen (h:IsI H x l) {k:Nat} (hk:k<l.length):k<(x.row H).length:=Zh hk h.rowlen
theorem ld (h:IsI H x l) {k:Nat} (hk:k<l.length):((x.row H).drop k).headD .any=i64 (l.getD k 0):=by
 have h1:=h.ldlen hk;have h2:((x.row H).take l.length)[k]? = (Qa l)[k]? := by rw[h.row]
 rw[Y0 hk]at h2;rw[Z4,List.head?_drop,h2];simp[Qa,hk]
theorem ok (h:IsI H x l) {k:Nat} (hk:k<l.length):Qem H (.ptr x k) 1:=by
 have:=h.ldlen hk;simp only[Qem,Qoz,ZD]; omega
theorem v (h:IsI H x l) {k:Nat} (hk:k<l.length):ldv H (.ptr x k)=i64 (l[k]'hk):=by
 have:=h.ld hk;simp only[ldv,Qoz,this,Vm,Vb hk,VQ]
theorem own0 (H:Ws) (L:Ws) (k ver:Nat) (l m:List Int) (T:Ww) (h:L[k]? = some ⟨Qa (l++m),T,ver,true⟩):IsI (H++L) (.own (H.length+k) 0 l.length 1 ver) l:=by
 refine⟨rfl,rfl,rfl,rfl,rfl,rfl,?_,?_,rfl⟩
 . have:k<L.length:=Qd h;simp; omega
 . simp only[SV.row,QdM,Y7];unfold Qe;rw[h];simp[Qa]
end IsI
theorem Qc {P:Wx} (hm:P.follows .mixedOrders=true) {N:Nat} {i j:IC} (e:i=j) {env:Env} {H:Ws} {K:Wr}
 (h:X P N Qb j env H λx env H=>match x with|.normal=>LI P N Qb i env H K|x=>K x env H):LI P N Qb i env H K:=by
 subst e; exact QuO hm h
@[congr] theorem Qwb {P:Wx} {N:Nat} {D:Array Oper->List Nat->List Ins->Bool} {i:IC} {env env':Env} {H H':Ws} {K:Wr} (h:Ev env=env') (h2:Ev H=H'):LI P N D i env H K=LI P N D i env' H' K:=by rw[QC h,QC h2]
@[simp] theorem Qzn (n k:Nat):(n+k<n)=False:=by simp
theorem Qck {n:Nat} (h:n<=9223372036854775807):IntKind.i64.wrap (n:Int)=n:=Qj (by omega) (by omega)
theorem QO {n:Nat} (h:n<9223372036854775807):IntKind.i64.wrap ((n:Int)+1)=(n:Int)+1:=Qj (by omega) (by omega)
theorem QaB {n:Nat} (h:n<9223372036854775807):IntKind.i64.wrap ((n:Int)+1)=((n+1:Nat):Int):=by rw[Qj (by omega) (by omega)]; rfl
@[simp] theorem ints_G {l:List Int} {k:Nat} (h:k<(Qa l).length):(Qa l)[k]=i64 (l[k]'(by simpa using h)):=by simp[Qa]
@[simp] theorem Qz9 {l:List Int} {n:Nat} (h:l.length<=n):(Qa l).take n=Qa l:=VB (by simpa using h)
theorem Qa7 {l:List Int} {k:Nat} (h:k<l.length) (v:Int):(Qa l).take k++i64 v::(Qa l).drop (k+1)=Qa (l.set k v):=by
 rw[YF,Wb h];simp[Qa]
def SV.strip:SV->SV
 |.gd true x=>x.strip
 |x=>x
theorem Qjg {S:St} {s:SV} {v:Value} (h:VR S s v):VR S s.strip v:=by
 induction h with
 |gd b x v h0 h ih =>
  cases b with
  |true=>exact ih rfl
  |false=>exact .gd false x v h0 h
 |any v=>exact .any v
 |val v=>exact .val v
 |nilslc=>exact .nilslc
 |slc cells len a cap us hc hl hi h ih=>exact .slc cells len a cap us hc hl hi h
 |own i off len sz ver a cap o ho hv hc hz h=>exact .own i off len sz ver a cap o ho hv hc hz h
 |ptrI cells len k a us hl hi h ih=>exact .ptrI cells len k a us hl hi h
 |ptrO i off len sz ver k a o ho hv h=>exact .ptrO i off len sz ver k a o ho hv h
 |agg l us hl h ih=>exact .agg l us hl h
 |tup l us hl h ih=>exact .tup l us hl h
 |fn f x y us vs hl h hl' h' ih ih'=>exact .fn f x y us vs hl h hl' h'
 |ifc t x v h ih=>exact .ifc t x v h
 |yl i l o ho h=>exact .yl i l o ho h
 |mp i ver l o ho hv h=>exact .mp i ver l o ho hv h
 |mpf vs l es cl us hb hn hu hl h ih=>exact .mpf vs l es cl us hb hn hu hl h
theorem Ok.strip {P:Wx} {f:Wz} {args:Wt} {H H':Ws} {out:Out} (h:Ok P f (args.map SV.strip) H out H'):Ok P f args H out H' :=
 ⟨h.1,λS vs hH hS hv=>h.2 S vs hH hS (hv.map λs v hs=>Qjg hs)⟩
theorem Qdc {P:Wx} {on:Bool} {k:Wz} {args:Wt} {H:Ws} {r:SV} {K:SV->Prop} (h:on=true->Ok P k (args.map SV.strip) H (.ret r) H) (hk:K r):QcY P on (.fn (.func k) [] []) args H K :=
 Q3 (λho=>(h ho).strip) hk
theorem IsI.whole {H L:Ws} {T:Ww} {l:List Int} {k n ver:Nat} (h:L[k]? = some ⟨Qa l,T,ver,true⟩) (hn:n=l.length):IsI (H++L) (.own (H.length+k) 0 n 1 ver) l:=by
 subst hn; exact IsI.own0 H L k ver l [] T (by simpa using h)
theorem Qub {l:List Int} {k:Nat} (h:k<l.length):(Qa l)[k]? = some (i64 (l.getD k 0)):=by simp[Qa,h]
section
variable (n:Nat) (ks:List Nat) (L:Ws) (d:Nat)
theorem Qc5 {l:Wt} (h:SV.underL n l=true):l.map (SV.fz n ks L (d+1))=l:=by
 rw[SV.underL_iff]at h;have:l.map (SV.fz n ks L (d+1))=l.map id:=VA λs hs=>Qao (h s hs);simpa using this
@[simp] theorem QkY (l:Wt):SV.fz n ks L (d+2) (.agg l)=.agg (l.map (SV.fz n ks L (d+1))):=by
 by_cases h:(SV.agg l).under n=true
 . rw[Qao h]; rw[Qc5 n ks L d (by simpa[SV.under]using h)]
 . conv=>lhs; unfold SV.fz
   rw[Wa h]
@[simp] theorem Qgo (l:Wt):SV.fz n ks L (d+2) (.tup l)=.tup (l.map (SV.fz n ks L (d+1))):=by
 by_cases h:(SV.tup l).under n=true
 . rw[Qao h]; rw[Qc5 n ks L d (by simpa[SV.under]using h)]
 . conv=>lhs; unfold SV.fz
   rw[Wa h]
@[simp] theorem fz_slc (l:Wt) (m:Nat):SV.fz n ks L (d+2) (.slc l m)=.slc (l.map (SV.fz n ks L (d+1))) m:=by
 by_cases h:(SV.slc l m).under n=true
 . rw[Qao h]; rw[Qc5 n ks L d (by simpa[SV.under]using h)]
 . conv=>lhs; unfold SV.fz
   rw[Wa h]
@[simp] theorem fz_val (v:Value):SV.fz n ks L (d+1) (.val v)=.val v:=Qao rfl
@[simp] theorem QdR (k off len sz ver:Nat):SV.fz n ks L (d+1) (.own (n+k) off len sz ver)=(match L[k]? with
     |some o =>
       match QX ks k with
       |some p=>if o.ver=ver then .own (n+p) off len sz 0 else .any
       |none=>if o.live=true/\o.ver=ver/\off+len*sz<=o.cells.length then .slc (((o.cells.drop off).take (len*sz)).map (SV.fz n ks L d)) len else .any
     |none=>.any):=by
 conv=>lhs; unfold SV.fz
 rw[Wa (by simp[SV.under])];have e:n+k-n=k:=by omega
 simp only[e]
 cases L[k]? with
 |none=>rfl
 |some o=>cases QX ks k<;>rfl
@[simp] theorem Qxq (off len sz ver:Nat):SV.fz n ks L (d+1) (.own n off len sz ver)=(match L[0]? with
     |some o =>
       match QX ks 0 with
       |some p=>if o.ver=ver then .own (n+p) off len sz 0 else .any
       |none=>if o.live=true/\o.ver=ver/\off+len*sz<=o.cells.length then .slc (((o.cells.drop off).take (len*sz)).map (SV.fz n ks L d)) len else .any
     |none=>.any):=QdR n ks L d 0 off len sz ver
end
end Go.Ab
namespace Go.Ab
section
variable [QK] [QE] [QF]
open Go.RowKit
def st0 (W:Wy):St:=⟨λ_=>none,[],W⟩
theorem sim0 (W:Wy) (hg:(st0 W).GL) (hk:QF.kn=[]):Sim (st0 W) :=
 ⟨λi o h=>by simp[st0]at h,λi o h=>by simp[st0]at h,λi j o o' b h=>by simp[st0]at h,λi o h=>by simp[st0]at h,hg,λp hp=>by rw[hk]at hp; cases hp⟩
theorem rw0 (W:Wy) (k:Nat):¬ (st0 W).rw k:=by
 rintro⟨i,o,h,_⟩; simp[st0]at h
theorem Qtg {W W':Wy} {ρ:Nat->Option Nat} {H:Ws} (h:Ext 0 (st0 W) ⟨ρ,H,W'⟩):Below W.heap.size W W' :=
 ⟨h.os,h.tape,h.output,h.size,λk hk=>(h.imm k hk (rw0 W k)).1⟩
theorem Quk [Qfs] {P:Wx} {f:Wz} {args:Wt} (h:Ok P f args [] (.ret (bl true)) []) {W:Wy} (hg:(st0 W).GL) {vs:Wu} (hv:VRs (st0 W) args vs) :
 Calls P f vs.toArray W λe W'=>e=.returned (.bool true)/\Below W.heap.size W W':=by
 refine(h.2 (st0 W) vs rfl (sim0 W hg Qfs.nokn) hv).mono ?_;rintro e W' ⟨v,ρ',hext,_,rfl,hv⟩;refine⟨?_,Qtg hext⟩;have:=hv.isB rfl;rw[this]; rfl
end
section
variable [QK] [QE] [QF] [Qfs] [Qil]
open Go.ChangeShapes Go.WideShapes Go.RowKit
inductive Sh where
 |int (k:IntKind)
 |bool
 |str
 |sl (e:Sh)
 |st (l:List Sh)
inductive Dt where
 |int (k:IntKind) (n:Int)
 |bool (b:Bool)
 |str (s:ByteArray)
 |sl (l:List Dt)
 |agg (l:List Dt)
 deriving Inhabited
mutual
def Dt.cells:Dt->Wt
 |.int k n=>[.val (.int k n)]
 |.bool b=>[bl b]
 |.str s=>[Ab.st s]
 |.sl l=>[.slc (Dt.cellsL l) l.length]
 |.agg l=>Dt.cellsL l
def Dt.cellsL:List Dt->Wt
 |[]=>[]
 |d::r=>d.cells++Dt.cellsL r
end
def Dt.sv:Dt->SV
 |.agg l=>.agg (Dt.cellsL l)
 |d=>d.cells.headD .any
mutual
def Sh.has:Sh->Dt->Prop
 |.int k,d=>∃ n,d=.int k n/\(Lit.int k n).wf=true
 |.bool,d=>∃ b,d=.bool b
 |.str,d=>∃ s,d=.str s/\s.size<=maxLen
 |.sl e,d=>∃ l,d=.sl l/\l.length<=maxLen/\∀ x∈l,e.has x
 |.st l,d=>∃ m,d=.agg m/\Sh.hasL l m
def Sh.hasL:List Sh->List Dt->Prop
 |[],m=>m=[]
 |s::r,m=>∃ d m',m=d::m'/\s.has d/\Sh.hasL r m'
end
mutual
def Sh.chk (P:Wx):Sh->Ww->Bool
 |.int k,t=>match P.underlying t with|some (.int k')=>decide (k'=k)|_=>false
 |.bool,t=>match P.underlying t with|some .bool=>true|_=>false
 |.str,t=>match P.underlying t with|some .string=>true|_=>false
 |.sl e,t=>match P.underlying t with|some (.slice e')=>e.chk P e'|_=>false
 |.st l,t=>match P.underlying t with|some (.struct fs)=>Sh.chkL P l fs.toList 0 (P.cellsOf t)|_=>false
def Sh.chkL (P:Wx):List Sh->List Field->Nat->Nat->Bool
 |[],fs,off,tot=>fs.isEmpty&&off==tot
 |s::r,fs,off,tot=>match fs with|[]=>false|f::fs=>f.offset==off&&s.chk P f.type&&Sh.chkL P r fs (off+P.cellsOf f.type) tot
end
section
variable {H:Type} {enc:Ww×Value->H} {P:Wx} {W:Wy} {base:Nat} {spare:Nat->Bool} {held:Bool}
theorem Qvk (a b:List Dt):Dt.cellsL (a++b)=Dt.cellsL a++Dt.cellsL b:=by
 induction a with
 |nil=>rfl
 |cons x r ih=>simp[Dt.cellsL,ih]
theorem QsO {e:Ww} {sh:Sh} {n:Nat} {a:Addr} {elems:List (DataW H×List MemPlace)}
 (ih:∀ cs x,DataW.trod enc P W base spare held n e cs=some x->∃ d,sh.has d/\VRs (st0 W) d.cells cs) :
 ∀ k,k<=elems.length->(∀ i,i<k->(W.cells? base (a.add (i*P.cellsOf e)) (P.cellsOf e)).bind (DataW.trod enc P W base spare held n e)=elems[i]?) ->
  ∃ (ds:List Dt) (us:Wu),ds.length=k/\(∀ x∈ds,sh.has x)/\VRs (st0 W) (Dt.cellsL ds) us/\us.length=k*P.cellsOf e/\∀ j u,us[j]? = some u->W.cell? (a.add j)=some u:=by
 intro k
 induction k with
 |zero=>intro _ _; exact⟨[],[],rfl,by simp,VRs.nil _,by simp,by simp⟩
 |succ k ihk =>
  intro hk hel;obtain⟨ds,us,h1,h2,h3,h4,h5⟩:=ihk (by omega) (λi hi=>hel i (by omega));have h6:=hel k (by omega);rw[Vb (by omega),Option.bind_eq_some_iff]at h6;obtain⟨cs,hcs,ht⟩:=h6;obtain⟨d,hd,hv⟩:=ih cs _ ht;obtain⟨_,hlen,hc⟩:=World.cells?_some hcs;refine⟨ds++[d],us++cs,by simp[h1],?_,?_,?_,?_⟩
  . intro x hx;rcases Vj.1 hx with hx|hx
    . exact h2 x hx
    . simp at hx; subst hx; exact hd
  . rw[Qvk]; simpa[Dt.cellsL]using h3.append hv
  . simp[h4,hlen,V0]
  . intro j u hj;by_cases hlt:j<us.length
    . rw[Vd hlt]at hj; exact h5 j u hj
    . rw[Vg (by omega)]at hj;have hj':j-us.length<cs.length:=Qd hj;have:=hc (j-us.length) (by omega);rw[hj,Qer]at this;rw[<-this]; congr 2; omega
mutual
theorem read (sh:Sh):∀ {t:Ww} {fuel:Nat} {cs:Wu} {x:DataW H×List MemPlace},sh.chk P t=true->DataW.trod enc P W base spare held fuel t cs=some x ->
 ∃ d,sh.has d/\VRs (st0 W) d.cells cs:=by
 intro t fuel cs x hc h
 cases sh with
 |int k =>
  simp only[Sh.chk]at hc;split at hc
  . rename_i k' ht;have:k'=k:=by simpa using hc
    subst this;obtain⟨n,rfl,_,hw⟩:=DataW.trod_int ht h;exact⟨.int k' n,⟨n,rfl,hw⟩,VRs.cons (.val _) (VRs.nil _)⟩
  . cases hc
 |bool =>
  simp only[Sh.chk]at hc;split at hc
  . rename_i ht;obtain⟨b,rfl⟩:∃ b,cs=[.bool b]:=by
     cases fuel with
     |zero=>simp[DataW.trod]at h
     |succ n =>
      unfold DataW.trod at h;rw[ht]at h;split at h<;>simp_all
    exact⟨.bool b,⟨b,rfl⟩,VRs.cons (.val _) (VRs.nil _)⟩
  . cases hc
 |str =>
  simp only[Sh.chk]at hc;split at hc
  . rename_i ht;obtain⟨s,rfl,_,hs⟩:=DataW.trod_string ht h;exact⟨.str s,⟨s,rfl,hs⟩,VRs.cons (.val _) (VRs.nil _)⟩
  . cases hc
 |sl e =>
  simp only[Sh.chk]at hc;split at hc
  . rename_i e' ht;rcases DataW.trod_slice ht h with ⟨rfl,_⟩|⟨a,len,cap,elems,rest,n,_,rfl,_,hb,hl,hm,hlen,hel,_,_⟩
    . exact⟨.sl [],⟨[],rfl,by simp,by simp⟩,VRs.cons .nilslc (VRs.nil _)⟩
    . obtain⟨ds,us,h1,h2,h3,h4,h5⟩:=QsO (sh:=e) (λcs x hx=>read e hc hx) len (by omega) hel;refine⟨.sl ds,⟨ds,rfl,by omega,h2⟩,VRs.cons ?_ (VRs.nil _)⟩;have:ds.length=len:=h1;subst this;exact .slc _ _ a cap us hl h3.1 ⟨h5,λ_=>rw0 W _,λhf=>absurd (Qil.old.symm.trans hf) (by decide)⟩ h3.2
  . cases hc
 |st l =>
  simp only[Sh.chk]at hc;split at hc
  . rename_i fs ht;obtain⟨xs,n,_,_,hl,hlen,hf⟩:=DataW.trod_struct ht h;obtain⟨m,hm,hv⟩:=Qna l (n:=n) (cs:=cs) (fs:=fs.toList) (off:=0) (xs:=xs) hc (λi f hi=>by
     have hlt:i<xs.length:=by rw[hlen]; simpa using Qd hi
     refine⟨xs[i],?_⟩;rw[hf i f (by simpa using hi),Vb hlt]) hl
    exact⟨.agg m,⟨m,rfl,hm⟩,by rw[Dt.cells]; simpa using hv⟩
  . cases hc
theorem Qna (l:List Sh):∀ {n:Nat} {cs:Wu} {fs:List Field} {off tot:Nat} {xs:List (DataW H×List MemPlace)},Sh.chkL P l fs off tot=true ->
 (∀ (i:Nat) (f:Field),fs[i]? = some f->∃ x,DataW.trod enc P W base spare held n f.type ((cs.drop f.offset).take (P.cellsOf f.type))=some x)->cs.length=tot ->
 ∃ m,Sh.hasL l m/\VRs (st0 W) (Dt.cellsL m) (cs.drop off):=by
 intro n cs fs off tot xs hc hf hl
 cases l with
 |nil =>
  simp only[Sh.chkL,Va,List.isEmpty_iff,Wc]at hc;refine⟨[],rfl,?_⟩;rw[ZM (by omega)];exact VRs.nil _
 |cons s r =>
  simp only[Sh.chkL]at hc;split at hc
  . cases hc
  . rename_i f fs';simp only[Va,Wc]at hc;obtain⟨⟨h1,h2⟩,h3⟩:=hc;obtain⟨x,hx⟩:=hf 0 f rfl;obtain⟨d,hd,hv⟩:=read s h2 hx;obtain⟨m,hm,hv'⟩:=Qna r (n:=n) (cs:=cs) (fs:=fs') (xs:=xs) h3 (λi f hi=>hf (i+1) f (by simpa using hi)) hl;refine⟨d::m,⟨d,m,rfl,hd,hm⟩,?_⟩;have:=hv.append hv';rw[h1,<- List.drop_drop,Yn]at this;simpa[Dt.cellsL]using this
end
end
end
section
variable [QK] [QE] [QF] [Qfs] [Qil]
open Go.ChangeShapes Go.WideShapes Go.ChangeAt Go.RowKit
def Sh.chkAll (P:Wx):List Sh->List Ww->Bool
 |[],[]=>true
 |s::r,t::ts=>s.chk P t&&Sh.chkAll P r ts
 |_,_=>false
section
variable {H:Type} {enc:Ww×Value->H} {P:Wx} {W:Wy} {base b0:Nat} {spare:Nat->Bool} {held:Bool} {r:Reach}
theorem Qp2 {sh:Sh} {t:Ww} {v:Value} {d:DataW H} {p:List MemPlace} (hc:sh.chk P t=true) (hval:Value.okWide P W r b0 t v) (hd:DataW.Trod enc P W base spare held t v d p) :
 ∃ dt,sh.has dt/\VR (st0 W) dt.sv v:=by
 obtain⟨fuel,hf⟩:=hd;obtain⟨dt,hh,hv⟩:=read sh hc hf;refine⟨dt,hh,?_⟩
 cases sh with
 |int k =>
  simp only[Sh.chk]at hc;split at hc
  . rename_i k' ht;obtain⟨n,rfl⟩:=okWide_int ht hval;obtain⟨m,rfl,_⟩:=hh;exact hv.2 0 _ _ rfl (by simp[Value.cells])
  . cases hc
 |bool =>
  simp only[Sh.chk]at hc;split at hc
  . rename_i ht;obtain⟨n,rfl⟩:=okWide_bool ht hval;obtain⟨m,rfl⟩:=hh;exact hv.2 0 _ _ rfl (by simp[Value.cells])
  . cases hc
 |str =>
  simp only[Sh.chk]at hc;split at hc
  . rename_i ht;obtain⟨n,rfl⟩:=okWide_string ht hval;obtain⟨m,rfl,_⟩:=hh;exact hv.2 0 _ _ rfl (by simp[Value.cells])
  . cases hc
 |sl e =>
  simp only[Sh.chk]at hc;split at hc
  . rename_i e' ht;obtain⟨a,len,cap,rfl⟩:=okWide_slice ht hval;obtain⟨m,rfl,_⟩:=hh;exact hv.2 0 _ _ rfl (by simp[Value.cells])
  . cases hc
 |st l =>
  simp only[Sh.chk]at hc;split at hc
  . rename_i fs ht;obtain⟨cs,rfl,_⟩:=okWide_struct ht hval;obtain⟨m,rfl,_⟩:=hh;have:VR (st0 W) (.agg (Dt.cellsL m)) (.agg cs.toList.toArray):=VR.of_agg (by rw[Dt.cells]at hv; simpa[Value.cells]using hv);simpa[Dt.sv]using this
  . cases hc
theorem QlU:∀ (shs:List Sh) {ts:List Ww} {vs:Wu} {ds:List (DataW H)} {p:List MemPlace},Sh.chkAll P shs ts=true ->
 (∀ (j:Nat) t v,ts[j]? = some t->vs[j]? = some v->Value.okWide P W r b0 t v)->DataW.TrodAll enc P W base spare held ts vs ds p ->
 ∃ dts,Sh.hasL shs dts/\VRs (st0 W) (dts.map Dt.sv) vs
 |[],ts,vs,ds,p,hc,hval,h=>by
  cases ts with
  |nil=>obtain⟨rfl,_,_⟩:=trodAll_nil h; exact⟨[],rfl,VRs.nil _⟩
  |cons t ts=>simp[Sh.chkAll]at hc
 |s::shs,ts,vs,ds,p,hc,hval,h=>by
  cases ts with
  |nil=>simp[Sh.chkAll]at hc
  |cons t ts =>
   simp only[Sh.chkAll,Va]at hc;obtain⟨v,vs',d,ds',p,q,rfl,rfl,rfl,h1,h2⟩:=trodAll_cons h;obtain⟨dt,g1,g2⟩:=Qp2 hc.1 (hval 0 t v rfl rfl) h1;obtain⟨dts,g3,g4⟩:=QlU shs hc.2 (λj t v ht hv=>hval (j+1) t v (by simpa using ht) (by simpa using hv)) h2;exact⟨dt::dts,⟨dt,dts,rfl,g1,g3⟩,VRs.cons g2 g4⟩
theorem Qmy (hl:laidOutB P=true) {W':Wy} (hb:Below W.heap.size W W'):∀ {ts:List Ww} {vs:Wu} {ds:List (DataW H)} {p:List MemPlace},
 (∀ t∈ts,P.readableRec t=true/\t<P.types.size)->DataW.TrodAll enc P W 0 (λ_=>true) true ts vs ds p->DataW.TrodAll enc P W' 0 (λb=>decide (b<W.heap.size)) true ts vs ds p
 |[],vs,ds,p,_,h=>by obtain⟨rfl,rfl,rfl⟩:=trodAll_nil h; exact trodAll_mk0
 |t::ts,vs,ds,p,hr,h=>by
  obtain⟨v,vs',d,ds',p,q,rfl,rfl,rfl,h1,h2⟩:=trodAll_cons h;have hlt:∀ x∈p,x.block<W.heap.size:=by obtain⟨m,hm⟩:=h1; exact DataW.trod_lt m _ _ _ hm
  exact trodAll_cons_mk (Below.trod hl (hr t (by simp)).1 (hr t (by simp)).2 h1 hb hlt) (Qmy hl hb (λt ht=>hr t (by simp[ht])) h2)
theorem QoC:∀ {ts:List Ww} {vs:Wu} {ds:List (DataW H)} {p:List MemPlace},DataW.TrodAll enc P W base spare held ts vs ds p->ds.length=ts.length
 |[],vs,ds,p,h=>by obtain⟨rfl,rfl,rfl⟩:=trodAll_nil h; rfl
 |t::ts,vs,ds,p,h=>by
  obtain⟨v,vs',d,ds',p,q,rfl,rfl,rfl,h1,h2⟩:=trodAll_cons h;simp[QoC h2]
theorem law_contract {f:Wz} {fn:Func} {s:ChangeSpec} (shs:List Sh) (hg:(st0 W).GL) (hl:laidOutB P=true) (hc:Sh.chkAll P shs fn.params.toList=true) (hr:∀ t∈fn.params.toList,P.readableRec t=true/\t<P.types.size)
 (hvars:s.vars=[]) (hfn:∀ ds:List (DataW H),ds.length=fn.params.size->s.fn H ds={ results:=[.lit (.bool true)],args:=ds }) {tb:Ww} (hres:fn.resultTypes = #[tb]) (htb:P.underlying tb=some .bool)
 (hok:∀ dts,Sh.hasL shs dts->Ok P f (dts.map Dt.sv) [] (.ret (bl true)) [])
 (args:Array Value) (ds gs:List (DataW H)) (before:List MemPlace)
 (hval:∀ (j:Nat) t v,fn.params[j]? = some t->args[j]? = some v->Value.okWide P W r b0 t v) (hW:DataW.Whole enc P fn.params.toList s.vars false W args.toList ds gs before) :
 Calls P f args W λe W'=>∃ v,e=.returned v/\s.post enc P fn false true false false W args v W':=by
 have hW':=hW;obtain⟨p,q,hA,hV,rfl,hfz,hnd⟩:=hW;rw[hvars]at hV;obtain⟨rfl,rfl⟩:=trodVars_none hV;obtain⟨dts,h1,h2⟩:=QlU shs hc (λj t v ht hv=>hval j t v (by simpa using ht) (by simpa using hv)) hA;have h3:=Quk (hok dts h1) hg h2;refine h3.mono λe W' ⟨he,bel⟩ => ?_;subst he;have hlen:ds.length=fn.params.size:=by rw[QoC hA]; simp
 have hf2:=hfn (ds++[]) (by simpa using hlen);refine⟨_,rfl,ds,[],_,[],p,[],hW',?_,?_,?_,bel.frame _,λh=>by cases h⟩
 . rw[hres,hf2];exact trodAll_mk1 (shut_bool htb true)
 . rw[hf2];simpa using Qmy hl bel hr hA
 . rw[hf2,hvars]; rfl
end
end
section
variable [QK] [QE] [QF]
theorem has_ints {d:Dt} (h:(Sh.sl (.int .i64)).has d):∃ l:List Int,d.cells=[.slc (Qa l) l.length]/\d.sv=.slc (Qa l) l.length/\l.length<=maxLen/\∀ n∈l,(Lit.int .i64 n).wf=true:=by
 simp only[Sh.has]at h;obtain⟨l,rfl,hl,hx⟩:=h;have:∃ ns:List Int,l=ns.map (Dt.int .i64)/\∀ n∈ns,(Lit.int .i64 n).wf=true:=by
  clear hl
  induction l with
  |nil=>exact⟨[],rfl,by simp⟩
  |cons x r ih =>
   obtain⟨ns,rfl,h2⟩:=ih λy hy=>hx y (by simp[hy]);obtain⟨n,rfl,hn⟩:=hx x (by simp);exact⟨n::ns,rfl,by simpa using ⟨hn,h2⟩⟩
 obtain⟨ns,rfl,h2⟩:=this;have hc:∀ ns:List Int,Dt.cellsL (ns.map (Dt.int .i64))=Qa ns:=by
  intro ns
  induction ns with
  |nil=>rfl
  |cons n r ih=>simp only[Vs,Dt.cellsL,ih,Dt.cells]; rfl
 refine⟨ns,?_,?_,by simpa using hl,h2⟩
 . simp only[Dt.cells,hc,Y2]
 . simp only[Dt.sv,Dt.cells,hc,Y2]; rfl
theorem has_i64 {d:Dt} (h:(Sh.int .i64).has d):∃ n:Int,d.cells=[i64 n]/\d.sv=i64 n /\ -9223372036854775808<=n/\n<=9223372036854775807:=by
 simp only[Sh.has]at h;obtain⟨n,rfl,hn⟩:=h;refine⟨n,rfl,rfl,?_⟩
 revert hn
 simp[Lit.wf,IntKind.min,IntKind.max,IntKind.signed,IntKind.bits]
theorem hasL_cons {s:Sh} {r:List Sh} {m:List Dt} (h:Sh.hasL (s::r) m):∃ d m',m=d::m'/\s.has d/\Sh.hasL r m':=by
 simpa only[Sh.hasL]using h
theorem hasL_nil {m:List Dt} (h:Sh.hasL [] m):m=[]:=by simpa only[Sh.hasL]using h
theorem sv_agg (m:List Dt):(Dt.agg m).sv=.agg (Dt.cellsL m):=rfl
theorem Qyb (m:List Dt):(Dt.agg m).cells=Dt.cellsL m:=by simp only[Dt.cells]
end
section
variable [QK] [QE] [QF]
def SV.gv (k ver:Nat) (cs:Wt):Nat->SV->SV
 |0,s=>s
 |d+1,s =>
  match s with
  |.own i off len sz v=>if i=k/\v=ver/\off+len*sz<=cs.length then .slc ((cs.drop off).take (len*sz)) len else .own i off len sz v
  |.agg l=>.agg (l.map (SV.gv k ver cs d))
  |.tup l=>.tup (l.map (SV.gv k ver cs d))
  |s=>s
section
variable {S:St} {k:Nat} {o:AO}
theorem Qkt (hS:Sim S) (ho:S.H[k]? = some o) (hl:o.live=true):∀ (d:Nat) (s:SV) (v:Value),VR S s v->VR ⟨S.ρ,S.H.set k o.dead,S.w⟩ (s.gv k o.ver o.cells d) v:=by
 have he:=Qhq ho;intro d
 induction d with
 |zero=>intro s v h; exact h.ext he
 |succ d ih =>
  intro s v h;unfold SV.gv;split
  . rename_i i off len sz ver;split
    . rename_i hc;obtain⟨rfl,rfl,hlen⟩:=hc;obtain⟨ad,cap,rfl,hcap,hz,hat⟩:=h.own_inv ho rfl;have h1:=hS.live i o ho hl;unfold St.OwnAt at hat
      cases hρ:S.ρ i with
      |none =>
       rw[hρ]at hat;obtain⟨rfl,rfl⟩:=hat
       cases ad with
       |none=>simpa using VR.nilslc
       |some a =>
        simp only[Yc,Yl];exact .slc [] 0 a 0 [] hcap rfl ⟨λj u hj=>by simp at hj,λhne=>absurd rfl hne,Qei⟩ λj s u hj=>by simp at hj
      |some b =>
       rw[hρ]at hat h1;obtain⟨us,rest,hh,hvr⟩:=h1;have hul:us.length=o.cells.length:=hvr.1;have him:(⟨S.ρ,S.H.set i o.dead,S.w⟩:St).Imm ⟨b,off,none⟩ ((us.drop off).take (len*sz)):=by
        refine⟨?_,?_,λ_ _=>.inl ⟨_,_,hh⟩⟩
        . intro j u hj;rw[VD]at hj;split at hj
          . rw[Vr]at hj;have hadd:(⟨b,off,none⟩:Addr).add j=⟨b,off+j,none⟩:=by unfold Addr.add; split<;>simp_all
            rw[hadd];show S.w.cell? _=_;unfold World.cell?;simp only[hh,YQ,VE,Wl];simp[Vd (Qd hj),hj]
          . cases hj
        . rintro hne ⟨j,p,hp,hpl,hpρ⟩;simp only at hp hpρ;by_cases hij:j=i
          . subst hij; rw[Vh (Qd ho)]at hp; cases hp; simp[AO.dead,AO.own]at hpl
          . rw[Ve (by omega)]at hp;exact hij (hS.inj j i p o b hp ho hpl (AO.own_live hl) hpρ hρ)
       have hvs:VRs (⟨S.ρ,S.H.set i o.dead,S.w⟩:St) ((o.cells.drop off).take (len*sz)) ((us.drop off).take (len*sz)):=((hvr.ext he).drop off).take (len*sz)
       cases ad with
       |none =>
        have h0:=hz rfl;subst h0;have hc0:cap=0:=by
         rcases hat with h2|⟨h2,_⟩
         . exact h2
         . cases h2
        subst hc0;simpa using VR.nilslc
       |some a =>
        rcases hat with h2|⟨h2,_⟩
        . have:len=0:=by omega
          subst this;simp only[Yc,Yl];exact .slc [] 0 a cap [] hcap rfl ⟨λj u hj=>by simp at hj,λhne=>absurd rfl hne,Qei⟩ λj s u hj=>by simp at hj
        . cases h2
          exact .slc _ len _ cap _ hcap hvs.1 him hvs.2
    . exact h.ext he
  . cases h with
    |agg _ us hl h=>exact VR.of_agg (VRs.map (S:=S) (us:=us) ⟨hl,h⟩ ih)
  . cases h with
    |tup _ us hl h=>exact VR.of_tup (VRs.map (S:=S) (us:=us) ⟨hl,h⟩ ih)
  . exact h.ext he
end
theorem Ok.give {P:Wx} {f:Wz} {args:Wt} {H H':Ws} {out:Out} (k:Nat) (d:Nat) {o:AO} (ho:H[k]? = some o) (hl:o.live=true)
 (h:Ok P f (args.map (SV.gv k o.ver o.cells d)) (setObj H k AO.dead) out H'):Ok P f args H out H':=by
 refine⟨h.1,?_⟩;intro S vs hH hS hvs;subst hH;have e:setObj S.H k AO.dead=S.H.set k o.dead:=by unfold setObj; rw[ho]
 have h1:=h.2 ⟨S.ρ,S.H.set k o.dead,S.w⟩ vs e.symm (QmF hS ho) (hvs.map (Qkt hS ho hl d));refine h1.mono ?_;rintro en w' ⟨v,ρ',hext,hsim,hout⟩;refine⟨v,ρ',(Qhq ho).trans (hext.mono (by simp)),hsim,hout⟩
@[simp] theorem QwO (o:AO):AO.dead o=⟨[],o.ty,o.ver+1,false⟩:=rfl
def AO.gv (k ver:Nat) (cs:Wt) (d:Nat) (p:AO):AO:={ p with cells:=p.cells.map (SV.gv k ver cs d) }
theorem QjP {k ver:Nat} {cs:Wt} {d:Nat} {p:AO} (h:(p.gv k ver cs d).own=true):p.own=true:=by
 simpa[AO.own,AO.gv]using h
theorem QpQ {k ver:Nat} {cs:Wt} {d:Nat} {s:SV} (h:s.isCell=true):(s.gv k ver cs d).isCell=true:=by
 cases d with
 |zero=>exact h
 |succ d =>
  unfold SV.gv;split
  . split
    . rfl
    . exact h
  . simp[SV.isCell]at h
  . simp[SV.isCell]at h
  . exact h
theorem Qkh {k ver n:Nat} {cs:Wt} (hn:n<=k):∀ (d:Nat) (s:SV),s.under n=true->s.gv k ver cs d=s:=by
 intro d
 induction d with
 |zero=>intro s _; rfl
 |succ d ih =>
  intro s h;have hm:∀ l:Wt,SV.underL n l=true->l.map (SV.gv k ver cs d)=l:=by
   intro l hl;rw[SV.underL_iff]at hl;have:l.map (SV.gv k ver cs d)=l.map id:=VA λs hs=>ih s (hl s hs);simpa using this
  unfold SV.gv;split
  . simp only[SV.under,Wd]at h;rw[Wa (by omega)]
  . simp only[SV.under]at h; rw[hm _ h]
  . simp only[SV.under]at h; rw[hm _ h]
  . rfl
section
variable (k ver:Nat) (cs:Wt) (d:Nat)
@[simp] theorem Qxu (s:SV):SV.gv k ver cs 0 s=s:=rfl
@[simp] theorem gv_i64 (n:Int):SV.gv k ver cs d (i64 n)=i64 n:=by cases d<;>rfl
@[simp] theorem gv_bl (b:Bool):SV.gv k ver cs d (bl b)=bl b:=by cases d<;>rfl
@[simp] theorem gv_st (s:ByteArray):SV.gv k ver cs d (st s)=st s:=by cases d<;>rfl
@[simp] theorem gv_val (v:Value):SV.gv k ver cs d (.val v)=.val v:=by cases d<;>rfl
@[simp] theorem Qll:SV.gv k ver cs d .any=.any:=by cases d<;>rfl
@[simp] theorem gv_slc (l:Wt) (n:Nat):SV.gv k ver cs d (.slc l n)=.slc l n:=by cases d<;>rfl
@[simp] theorem gv_ptr (s:SV) (n:Nat):SV.gv k ver cs d (.ptr s n)=.ptr s n:=by cases d<;>rfl
@[simp] theorem gv_fn (f:Fn) (a b:Wt):SV.gv k ver cs d (.fn f a b)=.fn f a b:=by cases d<;>rfl
@[simp] theorem gv_gd (b:Bool) (x:SV):SV.gv k ver cs d (.gd b x)=.gd b x:=by cases d<;>rfl
@[simp] theorem gv_agg (l:Wt):SV.gv k ver cs (d+1) (.agg l)=.agg (l.map (SV.gv k ver cs d)):=rfl
@[simp] theorem gv_tup (l:Wt):SV.gv k ver cs (d+1) (.tup l)=.tup (l.map (SV.gv k ver cs d)):=rfl
@[simp] theorem gv_own (i off len sz v:Nat):SV.gv k ver cs (d+1) (.own i off len sz v)=if i=k/\v=ver/\off+len*sz<=cs.length then .slc ((cs.drop off).take (len*sz)) len else .own i off len sz v:=rfl
end
theorem QlZ {P:Wx} {k:Wz} {args args':Wt} {H H':Ws} {out:Out} {K:Out->Ws->Prop} (i:Nat) (d:Nat) {o:AO} (ho:H[i]? = some o) (hl:o.live=true)
 (ha:args.map (SV.gv i o.ver o.cells d)=args') (h:Ok P k args' (setObj H i AO.dead) out H') (hk:K out H'):Qc4 P (.fn (.func k) [] []) args H K :=
 Qf (Ok.give i d ho hl (by rw[ha]; exact h)) hk
theorem Qrv {k ver n:Nat} {cs:Wt} (hc:SV.underL n cs=true):∀ (d:Nat) (s:SV),s.under n=true->(s.gv k ver cs d).under n=true:=by
 intro d
 induction d with
 |zero=>intro s h; exact h
 |succ d ih =>
  intro s h;have hm:∀ l:Wt,SV.underL n l=true->SV.underL n (l.map (SV.gv k ver cs d))=true:=by
   intro l hl;rw[SV.underL_iff]at hl ⊢;intro s hs;obtain⟨t,ht,rfl⟩:=Vl.1 hs;exact ih t (hl t ht)
  unfold SV.gv;split
  . split
    . rw[SV.under,SV.underL_iff];rw[SV.underL_iff]at hc;intro s hs;exact hc s (YR (V7 hs))
    . exact h
  . simp only[SV.under]at h ⊢; exact hm _ h
  . simp only[SV.under]at h ⊢; exact hm _ h
  . exact h
section
variable {S:St} {H0 L:Ws} {k d:Nat} {o:AO}
def QbC (S:St) (H0 L:Ws) (k d:Nat) (o:AO):St:=⟨S.ρ,H0++(L.set k o.dead).map (AO.gv (H0.length+k) o.ver o.cells d),S.w⟩
theorem Qe0 {i:Nat} {p:AO} (h:(QbC S H0 L k d o).H[i]? = some p) (ho:L[k]? = some o) :
 (i<H0.length/\H0[i]? = some p)\/(i=H0.length+k/\p=AO.gv (H0.length+k) o.ver o.cells d o.dead)\/(∃ p0 j,i=H0.length+j/\j≠k/\L[j]? = some p0/\p=AO.gv (H0.length+k) o.ver o.cells d p0):=by
 simp only[QbC]at h;by_cases hi:i<H0.length
 . rw[Vd hi]at h; exact .inl ⟨hi,h⟩
 . rw[Vg (by omega),Vn,V9]at h;obtain⟨p0,h1,rfl⟩:=h;right;by_cases hk:i-H0.length=k
   . left;rw[hk,Vh (Qd ho)]at h1
     cases h1
     exact⟨by omega,rfl⟩
   . right;rw[Ve (by omega)]at h1;exact⟨p0,i-H0.length,by omega,hk,h1,rfl⟩
theorem QhA (hH:S.H=H0++L) (ho:L[k]? = some o):Ext S.H.length S (QbC S H0 L k d o) where
 obj:=by
  intro i p hi hp;rw[hH]at hp hi;by_cases hlt:i<H0.length
  . rw[Vd hlt]at hp;exact⟨p,by simp only[QbC]; rw[Vd hlt]; exact hp,Vc _,λ_=>rfl⟩
  . rw[Vg (by omega)]at hp;by_cases hk:i-H0.length=k
    . rw[hk,ho]at hp; cases hp
      refine⟨AO.gv (H0.length+k) o.ver o.cells d o.dead,?_,by simp[AO.gv,AO.dead],λ_=>rfl⟩;simp only[QbC];rw[Vg (by omega),Vn,hk,Vh (Qd ho)]; rfl
    . refine⟨AO.gv (H0.length+k) o.ver o.cells d p,?_,Vc _,λ_=>rfl⟩;simp only[QbC];rw[Vg (by omega),Vn,Ve (by omega),hp]; rfl
 imm:=by
  intro b hb hn;refine⟨rfl,?_⟩;rintro⟨i,p,hp,hl,hρ⟩;rcases Qe0 hp ho with ⟨h1,h2⟩|⟨rfl,rfl⟩|⟨p0,j,rfl,h1,h2,rfl⟩
  . exact hn ⟨i,p,by rw[hH,Vd h1]; exact h2,hl,hρ⟩
  . simp[AO.gv,AO.dead,AO.own]at hl
  . exact hn ⟨H0.length+j,p0,by rw[hH,Vg (by omega)]; simpa using h2,QjP hl,hρ⟩
 size:=Vc _
 shape:=λ_ _ _ h=>h
 loops:=λ_ r h=>⟨r,h⟩
 os:=rfl
 tape:=rfl
 output:=rfl
theorem Qlm (hS:Sim S) (hH:S.H=H0++L) (ho:L[k]? = some o) (hl:o.live=true) (s:SV) (v:Value) (h:VR S s v):VR (QbC S H0 L k d o) (s.gv (H0.length+k) o.ver o.cells d) v:=by
 have ho':S.H[H0.length+k]? = some o:=by rw[hH,Vg (by omega)]; simpa using ho
 have h1:=Qkt hS ho' hl d s v h;refine h1.ext (S:=⟨S.ρ,S.H.set (H0.length+k) o.dead,S.w⟩) ?_;have hsz:(S.H.set (H0.length+k) o.dead).length=S.H.length:=by simp
 constructor
 . intro i p hi hp;simp only at hp hi;by_cases hik:i=H0.length+k
   . subst hik;rw[Vh (Qd ho')]at hp; cases hp
     refine⟨AO.gv (H0.length+k) o.ver o.cells d o.dead,?_,Vc _,λ_=>rfl⟩;simp only[QbC];rw[Vg (by omega),Vn,Z9,Vh (Qd ho)]; rfl
   . rw[Ve (by omega),hH]at hp;by_cases hlt:i<H0.length
     . rw[Vd hlt]at hp;exact⟨p,by simp only[QbC]; rw[Vd hlt]; exact hp,Vc _,λ_=>rfl⟩
     . rw[Vg (by omega)]at hp;refine⟨AO.gv (H0.length+k) o.ver o.cells d p,?_,Vc _,λ_=>rfl⟩;simp only[QbC];rw[Vg (by omega),Vn,Ve (by omega),hp]; rfl
 . intro b hb hn;refine⟨rfl,?_⟩;rintro⟨i,p,hp,hpl,hρ⟩;rcases Qe0 hp ho with ⟨h1,h2⟩|⟨rfl,rfl⟩|⟨p0,j,rfl,h1,h2,rfl⟩
   . refine hn ⟨i,p,?_,hpl,hρ⟩;simp only;rw[Ve (by omega),hH,Vd h1]; exact h2
   . simp[AO.gv,AO.dead,AO.own]at hpl
   . refine hn ⟨H0.length+j,p0,?_,QjP hpl,hρ⟩;simp only;rw[Ve (by omega),hH,Vg (by omega)]; simpa using h2
 . exact Vc _
 . exact λ_ _ _ h=>h
 . exact λ_ r h=>⟨r,h⟩
 . rfl
 . rfl
 . rfl
theorem Qr1 (hS:Sim S) (hH:S.H=H0++L) (hcl:closed H0) (ho:L[k]? = some o) (hl:o.live=true):Sim (QbC S H0 L k d o):=by
 have ho':S.H[H0.length+k]? = some o:=by rw[hH,Vg (by omega)]; simpa using ho
 have hlen:(QbC S H0 L k d o).H.length=S.H.length:=by simp[QbC,hH]
 have at0:∀ {i:Nat} {p:AO},H0[i]? = some p->S.H[i]? = some p:=by
  intro i p h; rw[hH,Vd (Qd h)]; exact h
 have at1:∀ {j:Nat} {p:AO},L[j]? = some p->S.H[H0.length+j]? = some p:=by
  intro j p h; rw[hH,Vg (by omega)]; simpa using h
 constructor
 . intro i p hp hpl;have key:∀ (p0:AO),S.H[i]? = some p0->p0.live=true->p.ty=p0.ty->(p.cells=p0.cells.map (SV.gv (H0.length+k) o.ver o.cells d)) ->
    match S.ρ i with
    |none=>p.cells=[]
    |some b=>∃ us rest,S.w.heap[b]? = some (.cells (us++rest).toArray p.ty (0,0))/\VRs (QbC S H0 L k d o) p.cells us:=by
    intro p0 h0 h0l hty hce;have h1:=hS.live i p0 h0 h0l
    cases hρ:S.ρ i with
    |none=>rw[hρ]at h1; simp only at h1 ⊢; rw[hce,h1]; rfl
    |some b =>
     rw[hρ]at h1;obtain⟨us,rest,h2,h3⟩:=h1;exact⟨us,rest,by rw[hty]; exact h2,by rw[hce]; exact h3.map λs v h=>Qlm hS hH ho hl s v h⟩
   show match S.ρ i with
    |none=>p.cells=[]
    |some b=>∃ us rest,S.w.heap[b]? = some (.cells (us++rest).toArray p.ty (0,0))/\VRs (QbC S H0 L k d o) p.cells us
   rcases Qe0 hp ho with ⟨h1,h2⟩|⟨rfl,rfl⟩|⟨p0,j,rfl,h1,h2,rfl⟩
   . refine key p (at0 h2) hpl rfl ?_;have:p.cells.map (SV.gv (H0.length+k) o.ver o.cells d)=p.cells.map id:=VA λs hs=>Qkh (Nat.le_add_right _ _) d s (hcl i p h2 s hs);rw[this]; simp
   . simp[AO.gv,AO.dead]at hpl
   . exact key p0 (at1 h2) hpl rfl rfl
 . intro i p hp s hs;rw[hlen];rcases Qe0 hp ho with ⟨h1,h2⟩|⟨rfl,rfl⟩|⟨p0,j,rfl,h1,h2,rfl⟩
   . exact hS.bel i p (at0 h2) s hs
   . simp[AO.gv,AO.dead]at hs
   . simp only[AO.gv,Vl]at hs;obtain⟨t,ht,rfl⟩:=hs;have h3:=hS.bel _ p0 (at1 h2) t ht;refine⟨Qrv ?_ d t h3.1,λhl=>QpQ (h3.2 hl)⟩;rw[SV.underL_iff];exact λu hu=>(hS.bel _ o ho' u hu).1
 . intro i j p q b hi hj hil hjl hρi hρj;have key:∀ {i:Nat} {p:AO},(QbC S H0 L k d o).H[i]? = some p->p.own=true->∃ p0,S.H[i]? = some p0/\p0.own=true:=by
    intro i p hp hpl;rcases Qe0 hp ho with ⟨h1,h2⟩|⟨rfl,rfl⟩|⟨p0,j,rfl,h1,h2,rfl⟩
    . exact⟨p,at0 h2,hpl⟩
    . simp[AO.gv,AO.dead,AO.own]at hpl
    . exact⟨p0,at1 h2,QjP hpl⟩
   obtain⟨p0,h1,h2⟩:=key hi hil;obtain⟨q0,h3,h4⟩:=key hj hjl;exact hS.inj i j p0 q0 b h1 h3 h2 h4 hρi hρj
 . intro i p hp hl' hne;rcases Qe0 hp ho with ⟨h1,h2⟩|⟨rfl,rfl⟩|⟨p0,j,rfl,h1,h2,rfl⟩
   . obtain⟨l,x,m,us,env,k1,k2,k3,k4,k6⟩:=hS.lp i p (at0 h2) hl' hne;exact⟨l,x,m,us,env,k1,k2,k3,k4,k6.ext (QhA hH ho)⟩
   . exact absurd rfl hne
   . have hne':p0.cells≠[]:=λe=>hne (by simp[AO.gv,e]);obtain⟨l,x,m,us,env,k1,k2,k3,k4,k6⟩:=hS.lp _ p0 (at1 h2) hl' hne';have hm:SV.gv (H0.length+k) o.ver o.cells d m=m:=by
      cases m<;>first|(simp[SpR]at k4; done)|(cases d<;>rfl)
     refine⟨l,x,m,us,env.map (SV.gv (H0.length+k) o.ver o.cells d),k1,?_,k3,k4,k6.map λs v h=>Qlm hS hH ho hl s v h⟩;simp only[AO.gv,k2,Vs,hm]
 . exact hS.gl.ext (QhA hH ho)
 . exact hS.kf.ext (QhA hH ho)
theorem Qly (e:Env) (f:SV->SV) (hf:f .any=.any) (t:Nat):Env.get (e.map λp=>(p.1,f p.2)) t=f (e.get t):=by
 induction e with
 |nil=>exact hf.symm
 |cons p r ih =>
  obtain⟨k,v⟩:=p;simp only[Vs,Env.get];split
  . rfl
  . exact ih
end
attribute [simp] AO.gv
@[simp] theorem dep_q (f:Od) (args:List Od):J.dep (.q f args)=true:=rfl
attribute [simp] List.filter_cons
end
end Go.Ab
