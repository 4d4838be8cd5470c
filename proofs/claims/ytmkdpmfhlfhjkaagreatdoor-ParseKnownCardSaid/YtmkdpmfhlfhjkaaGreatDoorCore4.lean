/-
  Steps of the proof: contracts of functions and plain facts that the statement rests on.
-/
import Derived.Test.YtmkdpmfhlfhjkaaGreatDoorCore3
import Derived.RecoverIn
import Derived.SizedLaws
set_option linter.all false
namespace Go.Ab
variable [GlobEnv] [FrEnv] [KnEnv]
section
variable {P:Program} {N:Nat} {D:Array Oper->List Nat->List Ins->Bool}
def place (n i:Nat):Nat:=n+i
@[simp] theorem rs_p (n:Nat) (d:Option Nat) (g:Option (Nat×Bool)) (i:I):Ins.rs n ⟨d,g,.p i⟩=⟨d,g,.p i⟩:=rfl
@[simp] theorem rs_e (n:Nat) (d:Option Nat) (g:Option (Nat×Bool)) (i:E):Ins.rs n ⟨d,g,.e i⟩=⟨d,g,.e (i.rs n)⟩:=rfl
@[simp] theorem rs_app (n:Nat) (T:TypeId) (sz b:Nat) (s x:Od):E.rs n (.app T sz b s x)=.app T sz b s x:=rfl
@[simp] theorem rs_call (n:Nat) (f:Od) (as:List Od):E.rs n (.call f as)=.call f as:=rfl
def xdl (P:Program) (l:List Ins) (env:Env) (H:List AO) (K:XE->Env->List AO->Prop):Prop:=xd P [] l env H K
@[congr] theorem xdl_congr {l l':List Ins} {env:Env} {H:List AO} {K:XE->Env->List AO->Prop} (h:Ev l=l'):xdl P l env H K=xdl P l' env H K:=by rw[Ev_to h]
@[simp] theorem xdl_go (l:List Ins) (env:Env) (H:List AO) (K:XE->Env->List AO->Prop):xdl P l env H K=xd P [] l env H K:=rfl
def s_drft (P:Program) (l:List Ins) (n:Nat) (env:Env) (H:List AO) (K:XE->Env->List AO->Prop):Prop:=xdl P (l.map (Ins.rs n)) env H K
@[congr] theorem s_drft_congr {l:List Ins} {n n':Nat} {env:Env} {H H':List AO} {K:XE->Env->List AO->Prop} (h:Ev n=n') (h2:Ev H=H'):s_drft P l n env H K=s_drft P l n' env H' K:=by rw[Ev_to h,Ev_to h2]
@[simp] theorem s_drft_go (l:List Ins) (n:Nat) (env:Env) (H:List AO) (K:XE->Env->List AO->Prop):s_drft P l n env H K=xdl P (l.map (Ins.rs n)) env H K:=rfl
@[simp ↓] theorem X_drq (Ts:List TypeId) (n0:Nat) (m:List Nat) (l:List Ins) (os:List (List Nat)) (tl:List Ins) (env:Env) (H:List AO) (K:XE->Env->List AO->Prop):X P N D (.drq Ts n0 m l os tl) env H K=s_drft P l H.length env (H++resd Ts) fun x env H' =>
 match x with
 | .normal=>xrt P n0 tl os env H' fun x e H=>K x (e.keep (dreK tl env)) H
 | x=>K x env H':=rfl
@[simp] theorem resd_nil:resd []=[]:=rfl
end
@[simp] theorem len_add1 (H:List AO) (k:Nat):H.length+k+1=H.length+(k+1):=rfl
theorem VRs.strip3 {S:St} {a l b:List SV} {us:List Value} (h:VRs S (a++l++b) us):VRs S (a++l.map SV.strip++b) us:=by
 refine⟨by simpa using h.1,fun j s u hs hu => ?_⟩
 have h1:=h.2 j
 by_cases j1:j<a.length
 · rw[List.append_assoc,List.getElem?_append_left j1]at hs
   exact h1 s u (by rw[List.append_assoc,List.getElem?_append_left j1]; exact hs) hu
 · by_cases j2:j-a.length<l.length
   · rw[List.append_assoc,List.getElem?_append_right (by omega),List.getElem?_append_left (by simpa using j2),List.getElem?_map]at hs
     cases hl:l[j-a.length]? with
     | none=>rw[hl]at hs; cases hs
     | some x =>
      rw[hl]at hs; cases hs
      exact vr_strip (h1 x u (by rw[List.append_assoc,List.getElem?_append_right (by omega),List.getElem?_append_left j2]; exact hl) hu)
   · rw[List.append_assoc,List.getElem?_append_right (by omega),List.getElem?_append_right (by simp; omega)]at hs
     exact h1 s u (by rw[List.append_assoc,List.getElem?_append_right (by omega),List.getElem?_append_right (by omega)]; simpa using hs) hu
theorem call_gd {P:Program} {f:SV} {args:List SV} {H:List AO} {Pt:Out->List AO->Prop} {K:Out->List AO->Prop} (h:OkCP P f (args.map SV.strip) H Pt) (hk:∀ out H',Pt out H'->K out H'):CallTo P (.gd true f) args H K:=by
 refine⟨Pt,⟨by simpa[SV.vd]using h.1,?_⟩,hk⟩
 have h2:=h.2
 show match f.ug with
  | .fn (.func k) first cap=>OkP P k (first++args++cap) H Pt
  | .yl i=>YlP P i args H Pt
  | _=>False
 split at h2
 · rename_i k first cap hug
   rw[hug]
   exact⟨h2.1,fun S vs h1 h3 h4=>h2.2 S vs h1 h3 h4.strip3⟩
 · rename_i i hug
   rw[hug]
   exact⟨h2.1,fun S vs l h1 h3 h4=>h2.2 S vs l h1 h3 (by simpa using (h4.map fun s v hs=>vr_strip hs:VRs S (args.map SV.strip) vs))⟩
 · exact h2.elim
section
variable (n:Nat) (L:List AO) (d:Nat)
@[simp] theorem fz_ptr (k off len sz ver p:Nat):SV.fz n [] L (d+1) (.ptr (.own (n+k) off len sz ver) p)=(match L[k]? with
     | some o=>if o.live=true∧o.ver=ver∧off<o.cells.length then .ptr (.slc ((o.cells.drop off).map (SV.fz n [] L d)) 0) p else .any
     | none=>.any):=by
 conv=>lhs; unfold SV.fz
 rw[if_neg (by simp[SV.under])]
 have e:n+k-n=k:=by omega
 simp only[e]
 cases L[k]? with
 | none=>rfl
 | some o=>rfl
@[simp] theorem fz_ptr0 (off len sz ver p:Nat):SV.fz n [] L (d+1) (.ptr (.own n off len sz ver) p)=(match L[0]? with
     | some o=>if o.live=true∧o.ver=ver∧off<o.cells.length then .ptr (.slc ((o.cells.drop off).map (SV.fz n [] L d)) 0) p else .any
     | none=>.any):=fz_ptr n L d 0 off len sz ver p
end
end Go.Ab
namespace Go.Ab
variable [GlobEnv] [FrEnv] [KnEnv]
section
variable {P:Program} {N:Nat}
def Rg (P:Program) (N:Nat) (D:Array Oper->List Nat->List Ins->Bool) (kk:Nat) (ps:List Nat) (ia ib:IC) (f:SV) (env:Env) (H:List AO) (K:XE->Env->List AO->Prop):Prop :=
 f.vd=true∧match f.ug with
  | .fn (.func k) first cap=>∃ Pt:Out->List AO->Prop,OkP P k (first++[.yl H.length]++cap) (H++[lpo P N D kk ps ia ib (env.vals N) .ready]) Pt ∧
   ∀ out H',Pt out H'->match out with
    | .ret _=>∃ k' ok st cs,H'[H.length]? = some ⟨.lp k' ok st::cs,0,0,false⟩∧st.out K env (H'.set H.length deadL)
    | .pan x=>K (.panic x) env H'
  | _=>False
@[congr] theorem Rg_congr {D:Array Oper->List Nat->List Ins->Bool} {kk:Nat} {ps:List Nat} {ia ib:IC} {f f':SV} {env env':Env} {H H':List AO} {K:XE->Env->List AO->Prop} (h1:Ev f=f') (h2:Ev env=env') (h3:Ev H=H') :
 Rg P N D kk ps ia ib f env H K=Rg P N D kk ps ia ib f' env' H' K:=by rw[Ev_to h1,Ev_to h2,Ev_to h3]
@[simp ↓] theorem X_rng (D:Array Oper->List Nat->List Ins->Bool) (kk:Nat) (g:Od) (ps:List Nat) (ia ib:IC) (env:Env) (H:List AO) (K:XE->Env->List AO->Prop):X P N D (.rng kk g ps ia ib) env H K=Rg P N D kk ps ia ib (env.ev g) env H K:=rfl
theorem rg_go {kk:Nat} {ps:List Nat} {ia ib:IC} {k:FuncId} {first cap:List SV} {env:Env} {H:List AO} {K:XE->Env->List AO->Prop} {Pt:Out->List AO->Prop}
 (h:OkP P k (first++[.yl H.length]++cap) (H++[lpo P N drawB kk ps ia ib (env.vals N) .ready]) Pt)
 (hk:∀ out H',Pt out H'->match out with
  | .ret _=>∃ st cs,H'[H.length]? = some (lpo P N drawB kk ps ia ib cs st)∧st.out K env (H'.set H.length deadL)
  | .pan x=>K (.panic x) env H'):Rg P N drawB kk ps ia ib (.fn (.func k) first cap) env H K:=⟨rfl,Pt,h,fun out H' hp=>by
 have:=hk out H' hp
 cases out with
 | ret r=>obtain⟨st,cs,h1,h2⟩:=this; exact⟨_,_,st,cs,h1,h2⟩
 | pan x=>exact this⟩
theorem call_yl {i:Nat} {args:List SV} {H:List AO} {Pt:Out->List AO->Prop} {K:Out->List AO->Prop} (h:YlP P i args H Pt) (hk:∀ out H',Pt out H'->K out H'):CallTo P (.yl i) args H K :=
 ⟨Pt,⟨rfl,h⟩,hk⟩
theorem YlP.mono {i:Nat} {args:List SV} {H:List AO} {Pt Pt':Out->List AO->Prop} (h:YlP P i args H Pt) (hk:∀ out H',Pt out H'->Pt' out H'):YlP P i args H Pt':=by
 refine⟨h.1,fun S vs l h1 h2 h3 h4 => ?_⟩
 obtain⟨r,k1,k2,k3⟩:=h.2 S vs l h1 h2 h3 h4
 exact⟨r,k1,k2,k3.mono fun e w' ⟨out,H',v,ρ',h5,h6⟩=>⟨out,H',v,ρ',hk _ _ h5,h6⟩⟩
attribute [simp] Env.puts LSt.out
end
end Go.Ab
namespace Go.Ab
variable [GlobEnv] [FrEnv] [KnEnv]
section
variable {S:St} {H0 H1 L:List AO} {ks:List Nat} {d:Nat}
structure Refz (H0 H1 L:List AO) (ks:List Nat) (d:Nat):Prop where
 len:H1.length=H0.length
 cell:∀ (i:Nat) (o':AO),H1[i]? = some o'->(H0[i]? = some o'∧∀ s∈o'.cells,s.under H0.length=true) ∨
  (∃ o k,H0[i]? = some o∧o.live=true∧o'=⟨(o.cells.map (SV.fz H0.length ks L d)).take k,o.ty,o.ver,true⟩∧cellsOk o'.cells)
def keptM (S:St) (H0 H1 L:List AO) (ks:List Nat) (d:Nat):St:=⟨keptρ S H0.length ks,H1++keptO H0.length ks L d,S.w⟩
theorem Refz.up (hz:Refz H0 H1 L ks d) {i:Nat} {o:AO} (h:H0[i]? = some o):∃ o',H1[i]? = some o'∧o'.ver=o.ver∧o'.own=o.own∧o'.ty=o.ty:=by
 have hi:i<H1.length:=by rw[hz.len]; exact getElem?_lt h
 have h1:H1[i]? = some H1[i]:=List.getElem?_eq_getElem hi
 rcases hz.cell i _ h1 with ⟨h2,_⟩ | ⟨o2,_,h2,h3,h4,_⟩
 · rw[h]at h2; cases h2
   exact⟨_,h1,rfl,rfl,rfl⟩
 · rw[h]at h2; cases h2
   refine⟨_,h1,by rw[h4],?_,by rw[h4]⟩
   rw[h4,AO.own_live h3]; exact AO.own_live rfl
theorem keptM_own (hz:Refz H0 H1 L ks d) {i:Nat} {o':AO} (h:(keptM S H0 H1 L ks d).H[i]? = some o'):∃ o,(keptS S H0 L ks d).H[i]? = some o∧o.ver=o'.ver∧o.own=o'.own∧o.ty=o'.ty:=by
 simp only[keptM]at h
 simp only[keptS]
 by_cases hi:i<H0.length
 · rw[List.getElem?_append_left (by rw[hz.len]; exact hi)]at h
   rw[List.getElem?_append_left hi]
   obtain⟨o2,h1,h2,h3,h4⟩:=hz.up (List.getElem?_eq_getElem hi)
   rw[h]at h1; cases h1
   exact⟨_,List.getElem?_eq_getElem hi,h2.symm,h3.symm,h4.symm⟩
 · rw[List.getElem?_append_right (by rw[hz.len]; omega),hz.len]at h
   rw[List.getElem?_append_right (by omega)]
   exact⟨_,h,rfl,rfl,rfl⟩
theorem ext_M (hz:Refz H0 H1 L ks d):Ext (keptS S H0 L ks d).H.length (keptS S H0 L ks d) (keptM S H0 H1 L ks d) where
 obj:=by
  intro i o hi ho
  have hl:(keptM S H0 H1 L ks d).H.length=(keptS S H0 L ks d).H.length:=by simp[keptM,keptS,hz.len]
  have h1:(keptM S H0 H1 L ks d).H[i]? = some ((keptM S H0 H1 L ks d).H[i]'(by omega)):=List.getElem?_eq_getElem _
  obtain⟨o2,h2,h3,_⟩:=keptM_own hz h1
  rw[ho]at h2; cases h2
  exact⟨_,h1,by omega,fun _=>rfl⟩
 imm:=by
  refine fun k _ hnr=>⟨rfl,?_⟩
  rintro⟨i,o,ho,hl,hρ⟩
  obtain⟨o2,h2,h3,h4,_⟩:=keptM_own hz ho
  exact hnr ⟨i,o2,h2,by rw[h4]; exact hl,hρ⟩
 size:=Nat.le_refl _
 shape:=fun _ _ _ h=>h
 loops:=fun _ r h=>⟨r,h⟩
 os:=rfl
 tape:=rfl
 output:=rfl
theorem fzM_rel (hsim:Sim S) (hS:S.H=H0++L) (hz:Refz H0 H1 L ks d) (hk:keptOk H0.length ks L d ks) (s:SV) (v:Value) (h:VR S s v):VR (keptM S H0 H1 L ks d) (s.fz H0.length ks L d) v :=
 (fz_rel hsim hS hk d (Nat.le_refl _) s v h).ext (ext_M hz)
theorem keptM_at (hz:Refz H0 H1 L ks d) (hk:keptOk H0.length ks L d ks) {i:Nat} {o:AO} (h:(keptM S H0 H1 L ks d).H[i]? = some o) :
 (i<H0.length∧(keptM S H0 H1 L ks d).ρ i=S.ρ i∧((H0[i]? = some o∧∀ s∈o.cells,s.under H0.length=true) ∨
  ∃ o' k,H0[i]? = some o'∧o'.live=true∧o=⟨(o'.cells.map (SV.fz H0.length ks L d)).take k,o'.ty,o'.ver,true⟩∧cellsOk o.cells)) ∨
 (∃ p k o',i=H0.length+p∧ks[p]? = some k∧L[k]? = some o'∧o'.live=true∧cellsOk o.cells ∧
  o={ cells:=o'.cells.map (SV.fz H0.length ks L d),ty:=o'.ty,ver:=0,live:=true }∧(keptM S H0 H1 L ks d).ρ i=S.ρ (H0.length+k)):=by
 by_cases hi:i<H0.length
 · simp only[keptM]at h
   rw[List.getElem?_append_left (by rw[hz.len]; exact hi)]at h
   exact .inl ⟨hi,by simp[keptM,keptρ,hi],hz.cell i o h⟩
 · have h':(keptS S H0 L ks d).H[i]? = some o:=by
    simp only[keptM]at h
    rw[List.getElem?_append_right (by rw[hz.len]; omega),hz.len]at h
    simp only[keptS]
    rw[List.getElem?_append_right (by omega)]; exact h
   rcases keptS_at hk h' with ⟨h1,_⟩ | h1
   · exact absurd h1 hi
   · exact .inr h1
theorem sim_M (hsim:Sim S) (hS:S.H=H0++L) (hz:Refz H0 H1 L ks d) (hk:keptOk H0.length ks L d ks):Sim (keptM S H0 H1 L ks d):=by
 have hat:∀ {i:Nat} {o:AO},H0[i]? = some o->S.H[i]? = some o:=fun h=>by rw[hS,List.getElem?_append_left (getElem?_lt h)]; exact h
 have hext:Ext H0.length S (keptM S H0 H1 L ks d):=(ext_kept hS hk).trans ((ext_M hz).mono (by simp[keptS]))
 have hlive:∀ (i:Nat) (o:AO),(keptM S H0 H1 L ks d).H[i]? = some o->o.live=true →
  match (keptM S H0 H1 L ks d).ρ i with
  | none=>o.cells=[]
  | some b=>∃ us rest,S.w.heap[b]? = some (.cells (us++rest).toArray o.ty (0,0))∧VRs (keptM S H0 H1 L ks d) o.cells us:=by
  intro i o ho hl
  rcases keptM_at (S:=S) hz hk ho with ⟨h1,h2,⟨h3,h4⟩ | ⟨o',m,h3,h4,rfl,h5⟩⟩ | ⟨p,k,o',rfl,h1,h2,h3,_,rfl,h5⟩
  · rw[h2]
    have h6:=hsim.live i o (hat h3) hl
    cases hρ:S.ρ i with
    | none=>rw[hρ]at h6; exact h6
    | some b =>
     rw[hρ]at h6
     obtain⟨us,rest,h7,h8⟩:=h6
     exact⟨us,rest,h7,h8.extB hext ((SV.underL_iff _ _).2 h4)⟩
  · rw[h2]
    have h6:=hsim.live i o' (hat h3) h4
    cases hρ:S.ρ i with
    | none=>rw[hρ]at h6; simp only; rw[h6]; simp
    | some b =>
     rw[hρ]at h6
     obtain⟨us,rest,h7,h8⟩:=h6
     refine⟨us.take m,us.drop m++rest,?_,(h8.map (fzM_rel hsim hS hz hk)).take m⟩
     rw[←List.append_assoc,List.take_append_drop]; exact h7
  · rw[h5]
    have h4:=hsim.live (H0.length+k) o' (by rw[hS,List.getElem?_append_right (by omega)]; simpa using h2) h3
    cases hρ:S.ρ (H0.length+k)with
    | none=>rw[hρ]at h4; simp only; rw[h4]; rfl
    | some b =>
     rw[hρ]at h4
     obtain⟨us,rest,h6,h7⟩:=h4
     exact⟨us,rest,h6,h7.map (fzM_rel hsim hS hz hk)⟩
 have hlen:H0.length≤(keptM S H0 H1 L ks d).H.length:=by simp[keptM,hz.len]
 have hbel:∀ (i:Nat) (o:AO),(keptM S H0 H1 L ks d).H[i]? = some o->o.live=true->∀ s∈o.cells,s.under (keptM S H0 H1 L ks d).H.length=true:=by
  intro i o ho hl s hs
  have h8:=hlive _ _ ho hl
  split at h8
  · rw[h8]at hs; cases hs
  · obtain⟨us,rest,h9,h10⟩:=h8
    obtain⟨j,hj⟩:=List.getElem?_of_mem hs
    obtain⟨u,_,h11⟩:=h10.get hj
    exact h11.under
 refine⟨hlive,?_,?_,?_,hsim.gl.ext hext,hsim.kf.ext hext⟩
 · intro i o ho s hs
   rcases keptM_at (S:=S) hz hk ho with ⟨h1,h2,⟨h3,h4⟩ | ⟨o',m,h3,h4,h6,h5⟩⟩ | ⟨p,k,o',h0,h1,h2,h3,h6,h7,h5⟩
   · exact⟨SV.under_mono hlen s (h4 s hs),(hsim.bel i o (hat h3) s hs).2⟩
   · exact⟨hbel i o ho (by rw[h6]) s hs,fun _=>h5 s hs⟩
   · exact⟨hbel i o ho (by rw[h7]) s hs,fun _=>h6 s hs⟩
 · intro i j o o' b hi hj hl hl' hρ hρ'
   have key:∀ {i:Nat} {o:AO},(keptM S H0 H1 L ks d).H[i]? = some o->o.own=true->∃ i0 o0,S.H[i0]? = some o0∧o0.own=true∧(keptM S H0 H1 L ks d).ρ i=S.ρ i0∧((i<H0.length∧i0=i)∨∃ p k,i=H0.length+p∧ks[p]? = some k∧i0=H0.length+k):=by
    intro i o ho hl
    rcases keptM_at (S:=S) hz hk ho with ⟨h1,h2,⟨h3,h4⟩ | ⟨o',m,h3,h4,h6,h5⟩⟩ | ⟨p,k,o',rfl,h1,h2,h3,_,rfl,h5⟩
    · exact⟨i,o,hat h3,hl,h2,.inl ⟨h1,rfl⟩⟩
    · exact⟨i,o',hat h3,AO.own_live h4,h2,.inl ⟨h1,rfl⟩⟩
    · exact⟨H0.length+k,o',by rw[hS,List.getElem?_append_right (by omega)]; simpa using h2,AO.own_live h3,h5,.inr ⟨p,k,rfl,h1,rfl⟩⟩
   obtain⟨i0,o0,a1,a2,a3,a4⟩:=key hi hl
   obtain⟨j0,o1,b1,b2,b3,b4⟩:=key hj hl'
   have e:=hsim.inj i0 j0 o0 o1 b a1 b1 a2 b2 (by rw[←a3]; exact hρ) (by rw[←b3]; exact hρ')
   rcases a4 with ⟨a4,rfl⟩ | ⟨p,k,rfl,a4,rfl⟩<;>rcases b4 with ⟨b4,rfl⟩ | ⟨q,k',rfl,b4,rfl⟩
   · exact e
   · omega
   · omega
   · have:k=k':=by omega
     subst this
     rw[keptOk_inj hk a4 b4]
 · intro i o ho hl hne
   rcases keptM_at (S:=S) hz hk ho with ⟨h1,h2,⟨h3,h4⟩ | ⟨o',m,h3,h4,rfl,h5⟩⟩ | ⟨p,k,o',rfl,h1,h2,h3,h6,rfl,h5⟩
   · obtain⟨l,x,m,us,env,k1,k2,k3,k4,k6⟩:=hsim.lp i o (hat h3) hl hne
     rw[k2]at h4
     exact⟨l,x,m,us,env,h2.trans k1,k2,k3,k4,k6.extB hext ((SV.underL_iff _ _).2 fun s hs=>h4 s (by simp[hs]))⟩
   · cases hl
   · cases hl
theorem cv_keepM {n0:Nat} {Hx:List AO} {r:SV} (d:Nat) (ks:List Nat) (h:Hx=H0++L) (hn:n0≤H0.length) (hz:Refz H0 H1 L ks d) (hk:keptOk H0.length ks L d ks) :
 Cv n0 r Hx (r.fz H0.length ks L d) (H1++keptO H0.length ks L d):=by
 intro S v hS hsim hv
 subst h
 exact⟨_,((ext_kept hS hk).trans ((ext_M hz).mono (by simp[keptS]))).mono hn,sim_M hsim hS hz hk,fzM_rel hsim hS hz hk r v hv⟩
theorem cv_noneM {n0:Nat} {Hx:List AO} {r:SV} (d:Nat) (h:Hx=H0++L) (hn:n0≤H0.length) (hz:Refz H0 H1 L [] d):Cv n0 r Hx (r.fz H0.length [] L d) H1:=by
 have:=cv_keepM (r:=r) d [] h hn hz trivial
 simpa[keptO]using this
end
theorem OkP.give {P:Program} {f:FuncId} {args:List SV} {H:List AO} {Pt:Out->List AO->Prop} (k:Nat) (d:Nat) {o:AO} (ho:H[k]? = some o) (hl:o.live=true)
 (h:OkP P f (args.map (SV.gv k o.ver o.cells d)) (H.set k o.dead) Pt):OkP P f args H Pt:=by
 refine⟨h.1,?_⟩
 intro S vs hH hS hvs
 subst hH
 have h1:=h.2 ⟨S.ρ,S.H.set k o.dead,S.w⟩ vs rfl (sim_kill hS ho) (hvs.map (gv_rel hS ho hl d))
 refine h1.mono ?_
 rintro en w' ⟨out,H',v,ρ',hp,hext,hsim,hout⟩
 exact⟨out,H',v,ρ',hp,(ext_kill ho).trans (hext.mono (by simp)),hsim,hout⟩
section
variable {S:St}
theorem ext_retell {j:Nat} {o:AO} (ho:S.H[j]? = some o) (hl:o.live=true) (cs:List SV):Ext S.H.length S ⟨S.ρ,S.H.set j ⟨cs,o.ty,o.ver,true⟩,S.w⟩ where
 obj:=by
  intro i p hi hp
  by_cases e:i=j
  · subst e; rw[ho]at hp; cases hp
    exact⟨⟨cs,o.ty,o.ver,true⟩,by show(S.H.set i _)[i]? = _; rw[List.getElem?_set_self hi],Nat.le_refl _,fun _=>rfl⟩
  · exact⟨p,by show(S.H.set j _)[i]? = _; rw[List.getElem?_set_ne (by omega)]; exact hp,Nat.le_refl _,fun _=>rfl⟩
 imm:=by
  refine fun k _ hnr=>⟨rfl,?_⟩
  rintro⟨i,p,hp,hw,hρ⟩
  by_cases e:i=j
  · subst e
    exact hnr ⟨i,o,ho,AO.own_live hl,hρ⟩
  · refine hnr ⟨i,p,?_,hw,hρ⟩
    have hp':(S.H.set j ⟨cs,o.ty,o.ver,true⟩)[i]? = some p:=hp
    rw[List.getElem?_set_ne (by omega)]at hp'; exact hp'
 size:=Nat.le_refl _
 shape:=fun _ _ _ h=>h
 loops:=fun _ r h=>⟨r,h⟩
 os:=rfl
 tape:=rfl
 output:=rfl
def St.lies (S:St) (j:Nat) (T:TypeId) (us:List Value):Prop:=match S.ρ j with
 | none=>us=[]
 | some b=>∃ rest,S.w.heap[b]? = some (.cells (us++rest).toArray T (0,0))
theorem sim_retellR (hS:Sim S) {j:Nat} {o:AO} (ho:S.H[j]? = some o) (hl:o.live=true) {cs:List SV} (hok:cellsOk cs) (hc:∀ us,S.lies j o.ty us->VRs S o.cells us->∃ k,VRs S cs (us.take k)) :
 Sim ⟨S.ρ,S.H.set j ⟨cs,o.ty,o.ver,true⟩,S.w⟩:=by
 have he:=ext_retell ho hl cs
 have hat:∀ {i:Nat} {p:AO},(S.H.set j ⟨cs,o.ty,o.ver,true⟩)[i]? = some p->(i=j∧p=⟨cs,o.ty,o.ver,true⟩)∨(i≠j∧S.H[i]? = some p):=by
  intro i p hp
  by_cases e:i=j
  · subst e; rw[List.getElem?_set_self (getElem?_lt ho)]at hp; cases hp; exact .inl ⟨rfl,rfl⟩
  · rw[List.getElem?_set_ne (by omega)]at hp; exact .inr ⟨e,hp⟩
 have hlive:∀ (i:Nat) (p:AO),(S.H.set j ⟨cs,o.ty,o.ver,true⟩)[i]? = some p->p.live=true →
  match S.ρ i with
  | none=>p.cells=[]
  | some b=>∃ us rest,S.w.heap[b]? = some (.cells (us++rest).toArray p.ty (0,0))∧VRs ⟨S.ρ,S.H.set j ⟨cs,o.ty,o.ver,true⟩,S.w⟩ p.cells us:=by
  intro i p hp hpl
  rcases hat hp with ⟨rfl,rfl⟩ | ⟨hne,hp⟩
  · have h1:=hS.live i o ho hl
    cases hρ:S.ρ i with
    | none =>
     rw[hρ]at h1
     obtain⟨k,h2⟩:=hc [] (by unfold St.lies; rw[hρ]) (by rw[h1]; exact VRs.nil S)
     exact List.eq_nil_of_length_eq_zero (by have:=h2.1; simpa using this.symm)
    | some b =>
     rw[hρ]at h1
     obtain⟨us,rest,h2,h3⟩:=h1
     obtain⟨k,h4⟩:=hc us (by unfold St.lies; rw[hρ]; exact⟨rest,h2⟩) h3
     refine⟨us.take k,us.drop k++rest,?_,h4.ext he⟩
     rw[←List.append_assoc,List.take_append_drop]; exact h2
  · have h1:=hS.live i p hp hpl
    cases hρ:S.ρ i with
    | none=>rw[hρ]at h1; exact h1
    | some b =>
     rw[hρ]at h1
     obtain⟨us,rest,h2,h3⟩:=h1
     exact⟨us,rest,h2,h3.ext he⟩
 refine⟨hlive,?_,?_,?_,hS.gl.ext he,hS.kf.ext he⟩
 · intro i p hp s hs
   rcases hat hp with ⟨rfl,rfl⟩ | ⟨hne,hp'⟩
   · refine⟨?_,fun _=>hok s hs⟩
     have h8:=hlive _ _ hp rfl
     split at h8
     · rw[h8]at hs; cases hs
     · obtain⟨us,rest,h9,h10⟩:=h8
       obtain⟨q,hq⟩:=List.getElem?_of_mem hs
       obtain⟨u,_,h11⟩:=h10.get hq
       exact h11.under
   · have:=hS.bel i p hp' s hs
     exact⟨by show s.under (S.H.set j _).length=true; simpa using this.1,this.2⟩
 · intro i i' p p' b hp hp' hw hw' hρ hρ'
   have key:∀ {i:Nat} {p:AO},(S.H.set j ⟨cs,o.ty,o.ver,true⟩)[i]? = some p->p.own=true->∃ q,S.H[i]? = some q∧q.own=true:=by
    intro i p hp hw
    rcases hat hp with ⟨rfl,rfl⟩ | ⟨_,hp⟩
    · exact⟨o,ho,AO.own_live hl⟩
    · exact⟨p,hp,hw⟩
   obtain⟨q,h1,h2⟩:=key hp hw
   obtain⟨q',h3,h4⟩:=key hp' hw'
   exact hS.inj i i' q q' b h1 h3 h2 h4 hρ hρ'
 · intro i p hp hpl hne
   rcases hat hp with ⟨rfl,rfl⟩ | ⟨_,hp⟩
   · cases hpl
   · obtain⟨l,x,m,us,env,k1,k2,k3,k4,k6⟩:=hS.lp i p hp hpl hne
     exact⟨l,x,m,us,env,k1,k2,k3,k4,k6.ext he⟩
theorem sim_retell (hS:Sim S) {j:Nat} {o:AO} (ho:S.H[j]? = some o) (hl:o.live=true) {cs:List SV} (hok:cellsOk cs) (hc:∀ us,VRs S o.cells us->∃ k,VRs S cs (us.take k)) :
 Sim ⟨S.ρ,S.H.set j ⟨cs,o.ty,o.ver,true⟩,S.w⟩:=sim_retellR hS ho hl hok fun us _ h=>hc us h
end
def Tell (env:Env) (H:List AO) (env':Env) (H':List AO):Prop :=
 ∀ (S:St) (tmps:Array Value),S.H=H->Sim S->EnvR S env tmps->∃ ρ',Ext S.H.length S ⟨ρ',H',S.w⟩∧Sim ⟨ρ',H',S.w⟩∧EnvR ⟨ρ',H',S.w⟩ env' tmps
theorem LI.tell {P:Program} {N:Nat} {D:Array Oper->List Nat->List Ins->Bool} {i:IC} {env env':Env} {H H':List AO} {K:XE->Env->List AO->Prop} (ht:Tell env H env' H')
 (h:LI P N D i env' H' K):LI P N D i env H K:=by
 intro c hc db S a hH hS he hN hd
 obtain⟨ρ',h1,h2,h3⟩:=ht S a.tmps hH hS he
 exact loopIn_mono (h c hc db ⟨ρ',H',S.w⟩ a rfl h2 h3 hN (hd.ext hS h1)) fun e a w hp=>Post.trans h1 hp
theorem Tell.own0 {env:Env} {H:List AO} {j p:Nat} {o:AO} (ho:H[j]? = some o) (hl:o.live=true) (hp:o.cells[p]? = some (.val (.slice none 0 0))) (T:TypeId) (sz:Nat) :
 Tell env H env (H.set j ⟨o.cells.set p (.own H.length 0 0 sz 0),o.ty,o.ver,true⟩++[⟨[],T,0,true⟩]):=by
 intro S tmps hH hS he
 subst hH
 have h1:=ext_newNil S T
 have h2:=sim_newNil hS T
 have hj:=getElem?_lt ho
 have ho':(S.newNil T).H[j]? = some o:=by show(S.H++_)[j]? = _; rw[List.getElem?_append_left hj]; exact ho
 have hn:(S.newNil T).H[S.H.length]? = some ⟨[],T,0,true⟩:=by show(S.H++_)[S.H.length]? = _; simp
 have hval:VR (S.newNil T) (.own S.H.length 0 0 sz 0) (.slice none 0 0):=by
  refine .own _ _ _ _ _ none 0 _ hn (Nat.le_refl _) (Nat.le_refl _) (fun _=>rfl) fun _ => ?_
  unfold St.OwnAt
  have:(S.newNil T).ρ S.H.length=none:=upd_same _ _ _
  rw[this]; exact⟨rfl,rfl⟩
 have hcell:cellsOk (o.cells.set p (.own S.H.length 0 0 sz 0)):=by
  intro s hs
  rcases List.mem_or_eq_of_mem_set hs with h | rfl
  · exact(hS.bel j o ho s h).2 hl
  · rfl
 have h3:=ext_retell ho' hl (o.cells.set p (.own S.H.length 0 0 sz 0))
 have h4:=sim_retell h2 ho' hl hcell (fun us hus=>⟨us.length,by
  rw[List.take_length]
  obtain⟨u,hu1,hu2⟩:=hus.get hp
  have:u=.slice none 0 0:=by cases hu2; rfl
  subst this
  have:=hus.set p hval
  have e:us.set p (.slice none 0 0)=us:=by
   apply List.ext_getElem?
   intro i
   rw[List.getElem?_set]
   split
   · rename_i e; subst e
     split
     · exact hu1.symm
     · rename_i hlt; rw[List.getElem?_eq_none (by omega)]
   · rfl
  rw[e]at this; exact this⟩)
 have e:(S.newNil T).H.set j ⟨o.cells.set p (.own S.H.length 0 0 sz 0),o.ty,o.ver,true⟩=S.H.set j ⟨o.cells.set p (.own S.H.length 0 0 sz 0),o.ty,o.ver,true⟩++[⟨[],T,0,true⟩]:=by
  show(S.H++_).set j _=_
  rw[List.set_append_left _ _ hj]
 rw[e]at h3 h4
 exact⟨_,h1.trans (h3.mono (by simp[St.newNil])),h4,(he.ext h1).ext h3⟩
theorem Tell.trunc {env:Env} {H:List AO} {j:Nat} {o:AO} (ho:H[j]? = some o) (hl:o.live=true) (k:Nat):Tell env H env (H.set j ⟨o.cells.take k,o.ty,o.ver,true⟩):=by
 intro S tmps hH hS he
 subst hH
 have h3:=ext_retell ho hl (o.cells.take k)
 exact⟨_,h3,sim_retell hS ho hl (fun s hs=>(hS.bel j o ho s (List.mem_of_mem_take hs)).2 hl) (fun us hus=>⟨k,hus.take k⟩),he.ext h3⟩
theorem Tell.give {env:Env} {H0 L:List AO} (hcl:closed H0) (k d:Nat) {o:AO} (ho:L[k]? = some o) (hl:o.live=true) :
 Tell env (H0++L) (env.map fun p=>(p.1,p.2.gv (H0.length+k) o.ver o.cells d)) (H0++(L.set k o.dead).map (AO.gv (H0.length+k) o.ver o.cells d)):=by
 intro S tmps hH hS he
 refine⟨_,giv_ext hH ho,giv_sim hS hH hcl ho hl,⟨fun t => ?_⟩⟩
 rw[get_map env (SV.gv (H0.length+k) o.ver o.cells d) (gv_any _ _ _ _)]
 exact giv_rel hS hH ho hl _ _ (he.get t)
end Go.Ab
namespace Go.Ab
variable [GlobEnv] [FrEnv] [KnEnv]
def rws {α:Type} (f:α->List SV):List α->List SV
 | []=>[]
 | x::r=>f x++rws f r
section
variable {α:Type} {f:α->List SV} {sz:Nat}
theorem rws_app (a b:List α):rws f (a++b)=rws f a++rws f b:=by
 induction a with
 | nil=>rfl
 | cons x r ih=>simp[rws,ih]
theorem rws_len (hf:∀ x,(f x).length=sz) (l:List α):(rws f l).length=l.length*sz:=by
 induction l with
 | nil=>simp[rws]
 | cons x r ih=>simp only[rws,List.length_append,hf,ih,List.length_cons]; rw[Nat.succ_mul]; omega
theorem rws_drop (hf:∀ x,(f x).length=sz) (l:List α) (k:Nat) (hk:k≤l.length):(rws f l).drop (k*sz)=rws f (l.drop k):=by
 have e:rws f l=rws f (l.take k)++rws f (l.drop k):=by rw[←rws_app,List.take_append_drop]
 have h:(rws f (l.take k)).length=k*sz:=by rw[rws_len hf,List.length_take,Nat.min_eq_left hk]
 rw[e,List.drop_append_of_le_length (by omega),List.drop_of_length_le (by omega),List.nil_append]
theorem rws_at (hf:∀ x,(f x).length=sz) {l:List α} {k:Nat} (hk:k<l.length):(rws f l).drop (k*sz)=f l[k]++rws f (l.drop (k+1)):=by
 rw[rws_drop hf l k (by omega),List.drop_eq_getElem_cons hk]; rfl
theorem rws_under {n:Nat} (h:∀ x,SV.underL n (f x)=true) (l:List α):SV.underL n (rws f l)=true:=by
 induction l with
 | nil=>rfl
 | cons x r ih=>rw[rws,SV.underL_append,h,ih]; rfl
end
theorem set_same {H:List AO} {j:Nat} {o:AO} (h:H[j]? = some o):H.set j o=H:=by
 apply List.ext_getElem?
 intro i
 rw[List.getElem?_set]; split
 · rename_i e; subst e; rw[if_pos (getElem?_lt h),h]
 · rfl
def SV.le (s s':SV):Prop:=∀ (S:St) (v:Value),VR S s v->VR S s' v
theorem SV.le.refl (s:SV):s.le s:=fun _ _ h=>h
theorem le_nil:SV.le (.val (.slice none 0 0)) (.slc [] 0):=by
 intro S v h; cases h; exact .nilslc
def leL (l l':List SV):Prop:=l.length=l'.length∧∀ (j:Nat) (s s':SV),l[j]? = some s->l'[j]? = some s'->s.le s'
theorem leL.nil:leL [] []:=⟨rfl,fun j s s' h=>by simp at h⟩
theorem leL.cons {s s':SV} {l l':List SV} (h:s.le s') (hl:leL l l'):leL (s::l) (s'::l'):=by
 refine⟨by simp[hl.1],fun j a b h1 h2 => ?_⟩
 cases j with
 | zero=>simp at h1 h2; subst h1 h2; exact h
 | succ j=>simp at h1 h2; exact hl.2 j a b h1 h2
theorem leL.vrs {S:St} {l l':List SV} {us:List Value} (h:leL l l') (hv:VRs S l us):VRs S l' us:=by
 refine⟨by rw[hv.1,h.1],fun j s u h1 h2 => ?_⟩
 have hj:j<l.length:=by rw[h.1]; rcases Nat.lt_or_ge j l'.length with h3 | h3; exact h3; rw[List.getElem?_eq_none h3]at h1; cases h1
 exact h.2 j _ _ (List.getElem?_eq_getElem hj) h1 S u (hv.2 j _ u (List.getElem?_eq_getElem hj) h2)
theorem le_slc {l l':List SV} (h:leL l l') (n:Nat):SV.le (.slc l n) (.slc l' n):=by
 intro S v hv
 cases hv with
 | nilslc =>
  have:l'=[]:=List.eq_nil_of_length_eq_zero (by rw[←h.1]; rfl)
  subst this; exact .nilslc
 | slc _ _ a cap us hc hl hi hh =>
  have:=h.vrs ⟨hl,hh⟩
  exact .slc _ _ a cap us hc this.1 hi this.2
theorem le_agg {l l':List SV} (h:leL l l'):SV.le (.agg l) (.agg l'):=by
 intro S v hv
 cases hv with
 | agg _ us hl hh=>have:=h.vrs ⟨hl,hh⟩; exact .agg _ _ this.1 this.2
theorem OkP.le {P:Program} {f:FuncId} {args args':List SV} {H:List AO} {Pt:Out->List AO->Prop} (hle:leL args args') (h:OkP P f args' H Pt):OkP P f args H Pt :=
 ⟨h.1,fun S vs hH hS hv=>h.2 S vs hH hS (hle.vrs hv)⟩
theorem LI.cong {P:Program} {N:Nat} {D:Array Oper->List Nat->List Ins->Bool} {i:IC} {env:Env} {H H':List AO} {K:XE->Env->List AO->Prop} (e:H'=H) (h:LI P N D i env H' K):LI P N D i env H K:=by rw[←e]; exact h
theorem OkP.cast {P:Program} {f:FuncId} {args args':List SV} {H H':List AO} {Pt:Out->List AO->Prop} (ha:args=args') (hH:H=H') (h:OkP P f args' H' Pt):OkP P f args H Pt:=by subst ha hH; exact h
theorem set_app {α:Type} (a b:List α) (k:Nat) (x:α):(a++b).set (a.length+k) x=a++b.set k x:=by rw[List.set_append_right _ _ (by omega)]; simp
theorem get_app {α:Type} (a b:List α) (k:Nat):(a++b)[a.length+k]? = b[k]? := by rw[List.getElem?_append_right (by omega)]; simp
theorem Cv.le {n0:Nat} {r1 r r':SV} {H1 H':List AO} (h:Cv n0 r1 H1 r H') (hle:r.le r'):Cv n0 r1 H1 r' H':=by
 intro S v hS hsim hv
 obtain⟨ρ,h1,h2,h3⟩:=h S v hS hsim hv
 exact⟨ρ,h1,h2,hle _ _ h3⟩
theorem Refz.one {H0 L:List AO} {ks:List Nat} {d j:Nat} {o:AO} (hu:∀ (i:Nat) (o:AO),i≠j->H0[i]? = some o->∀ s∈o.cells,s.under H0.length=true) (ho:H0[j]? = some o) (hl:o.live=true)
 (hc:cellsOk (o.cells.map (SV.fz H0.length ks L d))):Refz H0 (H0.set j ⟨o.cells.map (SV.fz H0.length ks L d),o.ty,o.ver,true⟩) L ks d:=by
 refine⟨by simp,fun i o' h => ?_⟩
 by_cases e:i=j
 · subst e
   rw[List.getElem?_set_self (getElem?_lt ho)]at h; cases h
   exact .inr ⟨o,(o.cells.map (SV.fz H0.length ks L d)).length,ho,hl,by rw[List.take_length],hc⟩
 · rw[List.getElem?_set_ne (by omega)]at h
   exact .inl ⟨h,hu i o' e h⟩
end Go.Ab
namespace Go.Ab
variable [GlobEnv] [FrEnv] [KnEnv]
namespace IsL
variable {α:Type} {f:α->SV} {H:List AO} {x:SV} {l:List α}
end IsL
def u8 (n:Int):SV:=.val (.int .u8 n)
@[simp] theorem u8_eq (n:Int):SV.val (.int .u8 n)=u8 n:=rfl
section
variable (n:Int)
@[simp] theorem isI_u8 (k:IntKind):SV.isI k (u8 n)=decide (IntKind.u8=k):=rfl
@[simp] theorem isN_u8:SV.isN (u8 n)=true:=rfl
@[simp] theorem int_u8:SV.int (u8 n)=n:=rfl
@[simp] theorem ug_u8:SV.ug (u8 n)=u8 n:=rfl
@[simp] theorem vd_u8:SV.vd (u8 n)=true:=rfl
@[simp] theorem isCell_u8:SV.isCell (u8 n)=true:=rfl
@[simp] theorem flat_u8:SV.flat (u8 n)=[u8 n]:=rfl
@[simp] theorem isPt_u8:SV.isPt (u8 n)=false:=rfl
@[simp] theorem isAg_u8:SV.isAg (u8 n)=false:=rfl
@[simp] theorem isTu_u8:SV.isTu (u8 n)=false:=rfl
@[simp] theorem under_u8 (m:Nat):SV.under m (u8 n)=true:=rfl
@[simp] theorem gv_u8 (k ver:Nat) (cs:List SV) (d:Nat):SV.gv k ver cs d (u8 n)=u8 n:=by cases d<;>rfl
@[simp] theorem strip_u8:(u8 n).strip=u8 n:=rfl
end
theorem OkP.tell {P:Program} {f:FuncId} {args:List SV} {H H':List AO} {Pt:Out->List AO->Prop} (ht:Tell [] H [] H') (hl:H.length≤H'.length) (h:OkP P f args H' Pt):OkP P f args H Pt:=by
 refine⟨h.1,?_⟩
 intro S vs hH hS hvs
 obtain⟨ρ',h1,h2,_⟩:=ht S #[] hH hS ⟨fun t=>.any _⟩
 have h3:=h.2 ⟨ρ',H',S.w⟩ vs rfl h2 (hvs.ext h1)
 refine h3.mono ?_
 rintro en w' ⟨out,H2,v,ρ2,hp,hext,hsim,hout⟩
 exact⟨out,H2,v,ρ2,hp,h1.trans (hext.mono (by subst hH; exact hl)),hsim,hout⟩
theorem yl_go {P:Program} {N:Nat} (hm:P.follows .mixedOrders=true) {i kk:Nat} {ps:List Nat} {ia ib ia' ib':IC} {env:Env} {args:List SV} {H:List AO} {Pt:Out->List AO->Prop} (hia:ia=ia') (hib:ib=ib')
 (ho:H[i]? = some (lpo P N drawB kk ps ia ib (env.vals N) .ready)) (he:(env.all fun p=>decide (p.1<N))=true) (hp:(ps.all fun p=>decide (p<N))=true) (hl:args.length=ps.length)
 (hx:closed H->X P N drawB ia' (env.puts ps args) H fun x env1 H1=>x=.normal∧∃ cs,H1[i]? = some (lpo P N drawB kk ps ia ib cs .ready)∧X P N drawB ib' env1 (H1.set i (lpo P N drawB kk ps ia ib cs .busy)) (FinR P N kk ps ia ib i H.length Pt)) :
 YlP P i args H Pt:=by
 subst hia hib
 exact yl_ok hm ho he hp hl hx
theorem cv_idq {n0:Nat} {v:SV} {H1 H':List AO} (h:H1=H'):Cv n0 v H1 v H':=by subst h; exact cv_id
theorem le_tup {l l':List SV} (h:leL l l'):SV.le (.tup l) (.tup l'):=by
 intro S v hv
 cases hv with
 | tup _ us hl hh=>have:=h.vrs ⟨hl,hh⟩; exact .tup _ _ this.1 this.2
@[simp] theorem objCells_nS (H L:List AO) (j:Nat) (o:AO) (k ver:Nat):objCells (H.set j o++L) (H.length+k) ver=objCells L k ver:=by
 have:=objCells_new (H:=H.set j o) (L:=L) (k:=k) (ver:=ver); simpa using this
@[simp] theorem objCells_nS0 (H L:List AO) (j:Nat) (o:AO) (ver:Nat):objCells (H.set j o++L) H.length ver=objCells L 0 ver:=objCells_nS H L j o 0 ver
theorem setObj_app (A B:List AO) (k:Nat) (f:AO->AO):setObj (A++B) (A.length+k) f=A++setObj B k f:=by
 unfold setObj
 rw[get_app]
 cases h:B[k]? with
 | none=>rfl
 | some o=>simp only; rw[set_app]
@[simp] theorem setObj_nS (H L:List AO) (j:Nat) (o:AO) (k:Nat) (f:AO->AO):setObj (H.set j o++L) (H.length+k) f=H.set j o++setObj L k f:=by
 have:=setObj_app (H.set j o) L k f; simpa using this
@[simp] theorem setObj_nS0 (H L:List AO) (j:Nat) (o:AO) (f:AO->AO):setObj (H.set j o++L) H.length f=H.set j o++setObj L 0 f:=setObj_nS H L j o 0 f
@[simp] theorem get_nS {α:Type} (H L:List α) (j:Nat) (o:α) (k:Nat):(H.set j o++L)[H.length+k]? = L[k]? := by
 have:=get_app (H.set j o) L k; simpa using this
@[simp] theorem objIs_nS (H L:List AO) (j:Nat) (o:AO) (k ver:Nat) (T:TypeId) (m:Nat):objIs (H.set j o++L) (H.length+k) ver T m=objIs L k ver T m:=by
 unfold objIs; rw[get_nS]
theorem closed_set {H:List AO} (hcl:closed H) (j:Nat) {o:AO} (hu:SV.underL H.length o.cells=true):closed (H.set j o):=by
 intro i p hp s hs
 rw[List.length_set]
 by_cases e:j=i
 · subst e
   have hj:=getElem?_lt hp
   rw[List.getElem?_set_self (by simpa using hj)]at hp
   cases hp
   exact(SV.underL_iff _ _).1 hu s hs
 · rw[List.getElem?_set_ne e]at hp
   exact hcl i p hp s hs
end Go.Ab
namespace Go.Ab
variable [GlobEnv] [FrEnv] [KnEnv]
section
variable {P:Program}
theorem turned_mark {n0 D:Nat} {w w':World} (h1:n0≤D) (h2:w.heap[D]? = some (Obj.deferred (some []))) (ht:Turned n0 (w.putObj D (.deferred none)) w'):Turned n0 w w':=by
 refine⟨by rw[ht.size]; simp,fun k => ?_,ht.os,ht.tape,ht.output⟩
 by_cases hk:k=D
 · subst hk
   right
   refine⟨h1,h2,?_⟩
   rcases ht.at_ k with h3 | ⟨_,h3,h4⟩
   · exact h3.trans (World.putObj_heap_same (lt_heap h2))
   · exact h4
 · rcases ht.at_ k with h3 | ⟨h3,h4,h5⟩
   · exact .inl (h3.trans (World.putObj_heap_other hk))
   · exact .inr ⟨h3,(World.putObj_heap_other hk).symm.trans h4,h5⟩
theorem turned_refl (n0:Nat) (w:World):Turned n0 w w:=⟨rfl,fun _=>.inl rfl,rfl,rfl,rfl⟩
theorem marks_steps {n0:Nat}:∀ (ms:List Nat) (w:World) (fr:Frame) (cs:List Frame),fr.mode≠.run->fr.defers=ms.map mark->ms.Nodup->(∀ D∈ms,n0≤D∧w.heap[D]? = some (Obj.deferred (some []))) →
 ∃ w',Turned n0 w w'∧StepsIn (Machine.fenced P (Fr none)) P (lone fr cs w) (lone { fr with defers:=[] } cs w')
 | [],w,fr,cs,hm,hd,_,_=>by
  refine⟨w,turned_refl _ _,?_⟩
  have:({ fr with defers:=[] }:Frame)=fr:=by cases fr; simp_all
  rw[this]
  exact StepsIn.refl _
 | D::ms,w,fr,cs,hm,hd,hnd,hms=>by
  rw[List.nodup_cons]at hnd
  obtain⟨h1,h2⟩:=hms D (by simp)
  have hs:=step_collected (P:=P) (cs:=cs) (d:=mark D) (ds:=ms.map mark) hm hd rfl (run_takeDeferred h2)
  have i1:(lone fr cs w).fenced P (Fr none):=fenced_out (n:=0) trivial (fr_room _ _) hm hd (fun g hg=>trivial)
  obtain⟨w',ht,hst⟩:=marks_steps ms (w.putObj D (.deferred none)) { fr with defers:=ms.map mark } cs hm rfl hnd.2 (fun D' hD'=>by
   refine⟨(hms D' (by simp[hD'])).1,?_⟩
   have hne:D'≠D:=fun e=>hnd.1 (e ▸ hD')
   exact(World.putObj_heap_other hne).trans (hms D' (by simp[hD'])).2)
  exact⟨w',turned_mark h1 h2 ht,.head i1 hs hst⟩
def MD (S:St):Option SV->FrameMode->Prop
 | none,u=>u=.returning
 | some x,u=>∃ v,u=.panicking [{ v:=v,recovered:=false }]∧VR S x v
def rvD:Option SV->SV
 | none=>.val .nilIface
 | some x=>x
def OkD (P:Program) (f:FuncId) (args:List SV) (H:List AO) (m:Option SV) (Pt:List AO->Prop):Prop :=
 (∀ (vs:Array Value) (w:World),(callFunc f vs).run P w=.ok (.enter f vs) w) ∧
 ∀ (S:St) (vs:List Value) (u:FrameMode),S.H=H->Sim S->VRs S args vs->MD S m u →
  CallsDIn (Fr none) 0 P f vs.toArray u S.w fun e u' w'=>∃ (v:Value) (H':List AO) (ρ':Nat->Option Nat),e=.returned v∧settle u'=.returning∧Pt H'∧Ext S.H.length S ⟨ρ',H',w'⟩∧Sim ⟨ρ',H',w'⟩
theorem run_recover {o:Oper} (ho:o.op=.call { callee:=.builtin .recover,args := #[],argTypes := #[] }) (ρ:Operand->Value) (w:World):(execOp ρ o).run P w=.ok .recover w:=by
 simp[execOp,ho,resolve,invoke,builtin]
variable {D:Array Oper->List Nat->List Ins->Bool}
theorem okD_of (hD:DOk P D) {f:FuncId} {fn:Func} {rid d:Nat} {ops:Array Oper} {o:Oper} {c2:Code} {insR:List Ins} {i2:IC} {args:List SV} {H:List AO} {m:Option SV} {Pt:List AO->Prop}
 (hf : P.funcs[f]? = some fn) (hb : fn.body = some (.seq (.region rid ops false) c2)) (hname : (fn.name == "runtime.NumGoroutine") = false) (hn : args.length ≤ fn.ntmps) (hr : chkRes P fn.results.toList [] = true)
 (hop:ops[0]? = some o) (ho:o.op=.call { callee:=.builtin .recover,args := #[],argTypes := #[] }) (hg:o.guard=none) (hdst:o.dst=some d) (hd:d<fn.ntmps) (hnd:ndB ops=true)
 (hl:chkL P fn.ntmps ops (ops.toList.drop 1) insR=true) (hc:chkC P fn.ntmps D c2 i2=true)
 (hx:closed H->xops P insR ((argsEnv args).put (some d) (rvD m)) H fun x env H1=>x=.normal∧X P fn.ntmps D i2 env H1 fun x _ H2=>(x=.normal∨x=.ret)∧∃ H',Pt H'∧Cv H.length (.tup []) H2 (.tup []) H'):OkD P f args H m Pt:=by
 refine⟨fun vs w=>Go.MuLone.run_callFunc_enter hf hname hb vs w,?_⟩
 intro S vs u hH hS hvs hmd
 subst hH
 refine⟨trivial,fun c₀ cs hu hroom => ?_⟩
 obtain⟨b,hbk,hbr,hbf,henter⟩:∃ b:Frame,b.kind=.deferred∧b.roundOf=none∧b.fn=f∧Frame.enter P f vs.toArray .deferred=b.atR { tmps:=vs.toArray++Array.replicate (fn.ntmps-vs.toArray.size) undef,defers:=[] } [.code (.seq (.region rid ops false) c2)] :=
  ⟨{ (default:Frame)with fn:=f,kind:=.deferred,roundOf:=none },rfl,rfl,rfl,by simp[Frame.enter,Frame.atR,hf,hb]⟩
 rw[henter]
 have hlen:vs.length=args.length:=hvs.1
 generalize ha0:({ tmps:=vs.toArray++Array.replicate (fn.ntmps-vs.toArray.size) undef,defers:=[] }:Act)=a0
 have hN0:a0.tmps.size=fn.ntmps:=by subst ha0; simp; omega
 have hd0:a0.defers=[]:=by subst ha0; rfl
 have he0:EnvR S (argsEnv args) a0.tmps:=by subst ha0; exact argsEnv_rel hvs _
 have t1:StepsIn (Machine.fenced P (Fr none)) P (lone (b.atR a0 [.code (.seq (.region rid ops false) c2)]) (c₀::cs) S.w) (lone (b.atR a0 (.inRegion ops (List.range ops.size)::[.code c2])) (c₀::cs) S.w) :=
  .head (fr_calm rfl) stepR_seq (.one (fr_calm rfl) stepR_region)
 have hsz:0<ops.size:=by
  rcases Nat.lt_or_ge 0 ops.size with h | h
  · exact h
  · rw[Array.getElem?_eq_none h]at hop; cases hop
 have hrange:List.range ops.size=0::List.range' 1 (ops.size-1):=by
  rw[List.range_eq_range']
  obtain⟨k,hk⟩:∃ k,ops.size=k+1:=⟨ops.size-1,by omega⟩
  rw[hk,List.range'_succ]; simp
 rw[hrange]at t1
 obtain⟨rv,u1,hstep,hset,hvr⟩:∃ (rv:Value) (u1:FrameMode),step P (lone (b.atR a0 (.inRegion ops (0::List.range' 1 (ops.size-1))::[.code c2])) (c₀::cs) S.w) =
  .next (lone (b.atR (a0.put o.dst rv) (.inRegion ops (List.range' 1 (ops.size-1))::[.code c2])) ({ c₀ with mode:=u1 }::cs) S.w)∧settle u1=.returning∧VR S (rvD m) rv:=by
  have hw:Region.wanted o (yielded ops a0.tmps)=true:=by simp[Region.wanted,hg]
  have hgs:=stepGR_op (P:=P) (b:=b) (a:=a0) (k:=[.code c2]) (cs:=c₀::cs) (w:=S.w) (rest:=List.range' 1 (ops.size-1)) hop hw
  rw[hbr,Oper.semAt_none]at hgs
  have hfin:∀ v,(b.atR a0 (.inRegion ops (0::List.range' 1 (ops.size-1))::[.code c2])).finish v=b.atR (a0.put o.dst v) (.inRegion ops (List.range' 1 (ops.size-1))::[.code c2]):=by
   intro v; rw[Frame.finish_atR,hop]; rfl
  have hk:(b.atR a0 (.inRegion ops (0::List.range' 1 (ops.size-1))::[.code c2])).kind=.deferred:=hbk
  have htr:=tryRecover_deferred hk (c₀::cs)
  have hrun:=run_recover (P:=P) ho a0.eval S.w
  cases m with
  | none =>
   have hu':u=.returning:=hmd
   subst hu'
   refine⟨.nilIface,.returning,?_,rfl,.val _⟩
   have hc0:({ c₀ with mode:=.returning }:Frame)=c₀:=by cases c₀; simp_all
   rw[hc0]
   have hrec:recoverD (c₀::cs)=none:=by simp[recoverD,hu]
   refine step_lone_go ?_
   rw[hgs,<- hfin]
   simp only[Frame.atR,hbr]at htr ⊢
   simp[stepG.apply,hrun,htr,hrec]
  | some x =>
   obtain⟨v,rfl,hv⟩:=hmd
   refine⟨v,.panicking [{ v:=v,recovered:=true }],?_,rfl,hv⟩
   have hrec:recoverD (c₀::cs)=some (v,{ c₀ with mode:=.panicking [{ v:=v,recovered:=true }] }::cs):=by simp[recoverD,hu]
   refine step_lone_go ?_
   rw[hgs,<- hfin]
   simp only[Frame.atR,hbr]at htr ⊢
   simp[stepG.apply,hrun,htr,hrec]
 have t2:=t1.trans (.one (fenced_oper (n:=0) trivial (fr_room _ _) hop (fun f _=>trivial)) hstep)
 generalize hcc:({ c₀ with mode:=u1 }::cs:List Frame)=cc at t2
 have hlt':∀ t,o.dst=some t->t<a0.tmps.size:=by intro t ht; rw[hdst]at ht; cases ht; rw[hN0]; exact hd
 have he1:EnvR S ((argsEnv args).put (some d) (rvD m)) (a0.put o.dst rv).tmps:=by
  have:=he0.put hlt' hvr
  rwa [hdst]at this ⊢
 have hdb:(⟨S.w.heap.size,[],none⟩:DB).Ok S.w (a0.put o.dst rv).defers:=by
  rw[put_defers,hd0]
  exact⟨Nat.le_refl _,⟨[],rfl,List.nodup_nil,fun D hD=>by simp at hD⟩,fun l h=>by cases h⟩
 have hwl:=xops_sound (d:=⟨S.w.heap.size,[],none⟩) (ops:=ops) (ops.toList.drop 1) insR hS he1 (by rw[put_size,hN0]) hdb hl (hx hS.closed)
 have hlen2:(ops.toList.drop 1).length=ops.size-1:=by simp
 have heq:=wpOps_eq_wpList (P:=P) (ops:=ops) (Q:=Post S fn.ntmps ⟨S.w.heap.size,[],none⟩ fun x env H1=>x=.normal∧X P fn.ntmps D i2 env H1 fun x _ H2=>(x=.normal∨x=.ret)∧∃ H',Pt H'∧Cv S.H.length (.tup []) H2 (.tup []) H') (ops.toList.drop 1) 1 (fun j=>by rw[List.getElem?_drop]; simp)
 rw[←heq,hlen2]at hwl
 obtain⟨e1,a1,w1,hq1,harr1⟩:=wp_opsIn _ _ _ (opsIn_of hnd none _ _ _ hwl) b [.code c2] cc hbr trivial (fr_room _ _)
 obtain⟨x1,env1,ρ1,H1,g1,g2,g3,g4,g5,g6,hx1,g7⟩:=hq1
 subst hx1
 cases e1<;>simp only[ER]at g1
 have t3:=t2.trans harr1
 obtain⟨e2,a2,w2,hq2,harr2⟩:=X_sound hD i2 hc g7 ⟨S.w.heap.size,[],none⟩ ⟨ρ1,H1,w1⟩ a1 rfl g3 g4 g5 g6 b [] cc hbr trivial (fr_room _ _)
 obtain⟨x2,env2,ρ2,H2,k1,k2,k3,k4,k5,k6,hx2,H',hpt,hcv⟩:=hq2
 obtain⟨ms,m1,m2,m3⟩:=k6.ms
 simp only[List.append_nil]at m1
 have hfinal:∃ todo,StepsIn (Machine.fenced P (Fr none)) P (lone (b.atR a0 [.code (.seq (.region rid ops false) c2)]) (c₀::cs) S.w) (lone { b.atR a2 todo with mode:=.returning } cc w2):=by
  rcases hx2 with rfl | rfl
  · cases e2<;>simp only[ER]at k1
    exact⟨[],t3.trans (StepsIn.trans harr2 (.one (fr_calm rfl) (stepR_end hbr)))⟩
  · cases e2<;>simp only[ER]at k1
    obtain⟨todo,hs⟩:=harr2.1 hbr
    exact⟨todo,t3.trans hs⟩
 obtain⟨todo,t4⟩:=hfinal
 obtain⟨w3,ht,t5⟩:=marks_steps (P:=P) (n0:=S.w.heap.size) ms w2 { b.atR a2 todo with mode:=.returning } cc (by simp) m1 m2 m3
 have hS2:=turned_sim ht k3
 have hE2:EnvR ⟨ρ2,H2,w3⟩ env2 a2.tmps:=⟨fun t=>(k4.get t).extV (turned_extV ht) (.inl rfl)⟩
 obtain⟨v,h3,h4⟩:=run_results (P:=P) (S:=⟨ρ2,H2,w3⟩) (rs:=[]) hS2 hE2 hr (fun s hs=>by simp at hs)
 obtain⟨ρ',h5,h6,_⟩:=hcv ⟨ρ2,H2,w3⟩ v rfl hS2 h4
 subst hcc
 refine⟨.returned v,u1,w3,_,⟨v,H',ρ',rfl,hset,hpt,?_,h6⟩,t4.trans t5,hbk,hbf,rfl,rfl,fn,by rw[show({ b.atR a2 todo with mode:=.returning,defers:=[] }:Frame).fn=f from hbf]; exact hf,h3⟩
 exact(turned_ext ht (g2.trans (k2.mono (g2.len (Nat.le_refl _)))) (Nat.le_refl _)).trans h5
theorem marks_leave2 {fn:Func} {tmps:Array Value} {R:Ending->World->Prop} {n0:Nat} {u:FrameMode} {ds:List Deferred} (hu:u≠.run):∀ (ms:List Nat) (w:World),ms.Nodup->(∀ D∈ms,n0≤D∧w.heap[D]? = some (Obj.deferred (some []))) →
 (∀ w',Turned n0 w w'->LeavesInM (Fr none) 0 P fn tmps R ds u w')->LeavesInM (Fr none) 0 P fn tmps R (ms.map mark++ds) u w
 | [],w,_,_,h=>h w (turned_refl _ _)
 | D::ms,w,hnd,hms,h=>by
  rw[List.nodup_cons]at hnd
  obtain⟨h1,h2⟩:=hms D (by simp)
  refine⟨hu,.inl ⟨D,_,rfl,run_takeDeferred h2,?_⟩⟩
  refine marks_leave2 hu ms _ hnd.2 (fun D' hD'=>⟨(hms D' (by simp[hD'])).1,?_⟩) fun w' ht=>h w' (turned_mark h1 h2 ht)
  have hne:D'≠D:=fun e=>hnd.1 (e ▸ hD')
  exact(World.putObj_heap_other hne).trans (hms D' (by simp[hD'])).2
def FinD (P:Program) (n0:Nat) (rs:List RS) (Pt:Out->List AO->Prop) (k:FuncId) (cap:List SV) (x:XE) (env:Env) (H1:List AO):Prop :=
 match x with
 | .normal=>∃ Pd,OkD P k cap H1 none Pd∧∀ H4,Pd H4->(∀ s∈rs,s.side env H4)∧FinQ n0 Pt (resV env H4 rs) H4
 | .ret=>∃ Pd,OkD P k cap H1 none Pd∧∀ H4,Pd H4->(∀ s∈rs,s.side env H4)∧FinQ n0 Pt (resV env H4 rs) H4
 | .panic y=>∃ Pd,OkD P k cap H1 (some y) Pd∧∀ H4,Pd H4->(∀ s∈rs,s.side env H4)∧FinQ n0 Pt (resV env H4 rs) H4
 | _=>False
end
def chkRc (P:Program) (D:Array Oper->List Nat->List Ins->Bool) (fn:Func) (d:Nat) (insR:List Ins) (i2:IC):Bool :=
 (match fn.body with
  | some (.seq (.region _ ops false) c2) =>
    (match ops.toList with
     | o::r=>(match o.op with | .call { callee:=.builtin .recover,args:=as,argTypes:=ts }=>as.isEmpty&&ts.isEmpty | _=>false)&&(o.guard.isNone&&(o.dst==some d&&(decide (d<fn.ntmps)&&(ndB ops&&(chkL P fn.ntmps ops r insR&&chkC P fn.ntmps D c2 i2)))))
     | _=>false)
  | _ => false) && !(fn.name == "runtime.NumGoroutine") && chkRes P fn.results.toList [] && decide (fn.params.size + fn.nfree ≤ fn.ntmps)
theorem okD_rc {P:Program} (hm:P.follows .mixedOrders=true) {f:FuncId} {fn:Func} {d:Nat} {insR:List Ins} {i2:IC} (hf:P.funcs[f]? = some fn) (hc:chkRc P drawB fn d insR i2=true)
 {args:List SV} {H:List AO} {m:Option SV} {Pt:List AO->Prop} (hn:args.length=fn.params.size+fn.nfree)
 (hx:closed H->xops P insR ((argsEnv args).put (some d) (rvD m)) H fun x env H1=>x=.normal∧X P fn.ntmps drawB i2 env H1 fun x _ H2=>(x=.normal∨x=.ret)∧∃ H',Pt H'∧Cv H.length (.tup []) H2 (.tup []) H'):OkD P f args H m Pt:=by
 unfold chkRc at hc
 rw[Bool.and_eq_true,Bool.and_eq_true,Bool.and_eq_true]at hc
 obtain⟨⟨⟨h1,h2⟩,h3⟩,h4⟩:=hc
 split at h1
 · rename_i rid ops c2 hb
   split at h1
   · rename_i o r hops
     simp only[Bool.and_eq_true,beq_iff_eq,decide_eq_true_eq]at h1
     obtain⟨k1,k2,k3,k4,k5,k6,k7⟩:=h1
     split at k1
     · rename_i as ts ho
       simp only[Bool.and_eq_true,Array.isEmpty_iff]at k1
       obtain⟨rfl,rfl⟩:=k1
       have h0:ops[0]? = some o:=by rw[←Array.getElem?_toList,hops]; rfl
       refine okD_of (draw_ok hm) hf hb (by simpa using h2) (by rw[hn]; simpa using h4) h3 h0 ho (by simpa using k2) k3 k4 k5 ?_ k7 hx
       rw[hops]; exact k6
     · cases k1
   · cases h1
 · cases h1
end Go.Ab
namespace Go.Ab
variable [GlobEnv] [FrEnv] [KnEnv]
section
variable {P:Program} {D:Array Oper->List Nat->List Ins->Bool}
theorem defer_rest (hD:DOk P D) {fn:Func} {cb:Code} {rid:Nat} {o1 od:Oper} {f':Operand} {fo:Od} {ib:IC} {ins1:Ins} {rs:List RS} {Pt:Out->List AO->Prop}
 (hr:chkRes P fn.results.toList rs=true)
 (ho1:chkIns P fn.ntmps #[o1,od] o1 ins1=true) (hnd1:∀ c,o1.op≠.defer c) (hod:od.op=.defer { callee:=.value f',args := #[],argTypes := #[] }) (hog:od.guard=none) (hdst:od.dst=none) (hfo:chkOd f' fo=true)
 (hcb:chkC P fn.ntmps D cb ib=true) {S:St} {a1:Act} {w1:World} {env1:Env} {ρ1:Nat->Option Nat} {H1:List AO}
 (g2:Ext S.H.length S ⟨ρ1,H1,w1⟩) (g3:Sim ⟨ρ1,H1,w1⟩) (g4:EnvR ⟨ρ1,H1,w1⟩ env1 a1.tmps) (g5:a1.tmps.size=fn.ntmps) (g6:(⟨S.w.heap.size,[],none⟩:DB).Ok w1 a1.defers)
 (g7:xo P ins1 env1 H1 fun x env2 H2=>x=.normal∧(env2.ev fo).vd=true∧∃ k cap,(env2.ev fo).ug=.fn (.func k) [] cap∧X P fn.ntmps D ib env2 H2 (FinD P S.H.length rs Pt k cap)) :
 (Code.seq (.region rid #[o1,od] false) cb).wpIn (Fr none) 0 P (bodyPostM (Fr none) 0 P fn (fun e w'=>∃ (out:Out) (H':List AO) (v:Value) (ρ':Nat->Option Nat),Pt out H'∧Ext S.H.length S ⟨ρ',H',w'⟩∧Sim ⟨ρ',H',w'⟩ ∧
  match out with
  | .ret r=>e=.returned v∧VR ⟨ρ',H',w'⟩ r v
  | .pan x=>e=.panicked [{ v:=v,recovered:=false }]∧VR ⟨ρ',H',w'⟩ x v)) a1 w1:=by
 refine wpIn_seq ?_
 refine wpIn_region ?_
 have hstep:=xo_sound (d:=⟨S.w.heap.size,[],none⟩) (N:=fn.ntmps) g3 g4 g5 g6 (ops := #[o1,od]) ho1 g7
  (next:=wpOpsIn (Fr none) 0 P #[o1,od] (Exit.then (cb.wpIn (Fr none) 0 P (bodyPostM (Fr none) 0 P fn fun e w'=>∃ (out:Out) (H':List AO) (v:Value) (ρ':Nat->Option Nat),Pt out H'∧Ext S.H.length S ⟨ρ',H',w'⟩∧Sim ⟨ρ',H',w'⟩ ∧
   match out with
   | .ret r=>e=.returned v∧VR ⟨ρ',H',w'⟩ r v
   | .pan x=>e=.panicked [{ v:=v,recovered:=false }]∧VR ⟨ρ',H',w'⟩ x v)) (bodyPostM (Fr none) 0 P fn fun e w'=>∃ (out:Out) (H':List AO) (v:Value) (ρ':Nat->Option Nat),Pt out H'∧Ext S.H.length S ⟨ρ',H',w'⟩∧Sim ⟨ρ',H',w'⟩ ∧
   match out with
   | .ret r=>e=.returned v∧VR ⟨ρ',H',w'⟩ r v
   | .pan x=>e=.panicked [{ v:=v,recovered:=false }]∧VR ⟨ρ',H',w'⟩ x v)) [1])
  (Q:=Exit.then (cb.wpIn (Fr none) 0 P (bodyPostM (Fr none) 0 P fn fun e w'=>∃ (out:Out) (H':List AO) (v:Value) (ρ':Nat->Option Nat),Pt out H'∧Ext S.H.length S ⟨ρ',H',w'⟩∧Sim ⟨ρ',H',w'⟩ ∧
   match out with
   | .ret r=>e=.returned v∧VR ⟨ρ',H',w'⟩ r v
   | .pan x=>e=.panicked [{ v:=v,recovered:=false }]∧VR ⟨ρ',H',w'⟩ x v)) (bodyPostM (Fr none) 0 P fn fun e w'=>∃ (out:Out) (H':List AO) (v:Value) (ρ':Nat->Option Nat),Pt out H'∧Ext S.H.length S ⟨ρ',H',w'⟩∧Sim ⟨ρ',H',w'⟩ ∧
   match out with
   | .ret r=>e=.returned v∧VR ⟨ρ',H',w'⟩ r v
   | .pan x=>e=.panicked [{ v:=v,recovered:=false }]∧VR ⟨ρ',H',w'⟩ x v)) ?_ ?_
 · -- the two operations
   show wpOpsIn (Fr none) 0 P #[o1,od] _ [0,1] a1 w1
   simp only[wpOpsIn]
   have e0:(#[o1,od]:Array Oper)[0]? = some o1:=rfl
   simp only[e0]
   unfold StepOf at hstep
   split
   · rename_i hw
     rw[if_pos hw]at hstep
     exact⟨fun _ _=>trivial,hstep⟩
   · rename_i hw
     rw[if_neg hw]at hstep
     exact⟨fun _ _=>trivial,hstep⟩
 · -- the deferred call is laid down; the rest
   rintro a2 w2 ⟨x2,env2,ρ2,H2,k1,k2,k3,k4,k5,k6,hx2,hvd,k,cap,hug,k7⟩
   subst hx2
   have hfv:=(chkOd_spec hfo k4).ug hvd
   rw[hug]at hfv
   obtain⟨us,cs,hv,hus,hcs⟩:=hfv.fn_inv
   have hus0:us=[]:=by have:=hus.1; simpa using this
   subst hus0
   obtain⟨ms1,m1,m2,m3⟩:=k6.ms
   simp only[List.append_nil]at m1
   simp only[wpOpsIn]
   have e1:(#[o1,od]:Array Oper)[1]? = some od:=rfl
   simp only[e1]
   have hw:Region.wanted od (yielded #[o1,od] a2.tmps)=true:=by simp[Region.wanted,hog]
   rw[if_pos hw]
   refine⟨fun _ _=>trivial,?_⟩
   have hrun:(od.semAt (Fr none).round a2.eval).run P w2=.ok (.defer { target:=.fn (.func k) cs.toArray,args := #[] }) w2:=by
    show(od.semAt none a2.eval).run P w2=_
    rw[Oper.semAt_none]
    simp[execOp,hod,resolve,hv,Deferred.ofValue]
   rw[hrun,Oper.uponIn_defer]
   have hput:({ a2 with defers:={ target:=.fn (.func k) cs.toArray,args := #[] }::a2.defers }:Act).put od.dst undef={ a2 with defers:={ target:=.fn (.func k) cs.toArray,args := #[] }::a2.defers }:=by rw[hdst]; rfl
   rw[hput]
   show cb.wpIn _ _ _ _ _ _
   have hwb:=X_sound hD ib hcb k7 ⟨w2.heap.size,{ target:=.fn (.func k) cs.toArray,args := #[] }::ms1.map mark,none⟩ ⟨ρ2,H2,w2⟩ { a2 with defers:={ target:=.fn (.func k) cs.toArray,args := #[] }::a2.defers } rfl k3 k4 k5 ⟨Nat.le_refl _,⟨[],by simp[m1],List.nodup_nil,fun D hD=>by simp at hD⟩,fun l h=>by cases h⟩
   refine wq_mono hwb ?_
   rintro e3 a3 w3 ⟨x3,env3,ρ3,H3,q1,q2,q3,q4,q5,q6,q7⟩
   obtain⟨ms3,n1,n2,n3⟩:=q6.ms
   have hE0:Ext S.H.length S ⟨ρ3,H3,w3⟩:=(g2.trans (k2.mono (g2.len (Nat.le_refl _)))).trans (q2.mono ((g2.trans (k2.mono (g2.len (Nat.le_refl _)))).len (Nat.le_refl _)))
   have hdb1:(⟨S.w.heap.size,[],none⟩:DB).Ok w2 (ms1.map mark):=⟨k6.le,⟨ms1,by simp,m2,m3⟩,fun l h=>by cases h⟩
   have main:∀ (m:Option SV) (u:FrameMode) (Pd:List AO->Prop),u≠.run->MD ⟨ρ3,H3,w3⟩ m u->OkD P k cap H3 m Pd->(∀ H4,Pd H4->(∀ s∈rs,s.side env3 H4)∧FinQ S.H.length Pt (resV env3 H4 rs) H4) →
    LeavesInM (Fr none) 0 P fn a3.tmps (fun e w'=>∃ (out:Out) (H':List AO) (v:Value) (ρ':Nat->Option Nat),Pt out H'∧Ext S.H.length S ⟨ρ',H',w'⟩∧Sim ⟨ρ',H',w'⟩ ∧
     match out with
     | .ret r=>e=.returned v∧VR ⟨ρ',H',w'⟩ r v
     | .pan x=>e=.panicked [{ v:=v,recovered:=false }]∧VR ⟨ρ',H',w'⟩ x v) a3.defers u w3:=by
    intro m u Pd hu hmd hok hres
    rw[n1]
    refine marks_leave2 hu ms3 w3 n2 n3 fun w4 ht => ?_
    have hS4:=turned_sim ht q3
    have hE4:=turned_ext ht hE0 (g2.trans (k2.mono (g2.len (Nat.le_refl _)))).size
    have hcs4:VRs ⟨ρ3,H3,w4⟩ cap cs:=⟨hcs.1,fun j s u h1 h2=>((hcs.2 j s u h1 h2).extV q2.v (.inl rfl)).extV (turned_extV ht) (.inl rfl)⟩
    have hmd4:MD ⟨ρ3,H3,w4⟩ m u:=by
     cases m with
     | none=>exact hmd
     | some y=>obtain⟨v,h1,h2⟩:=hmd; exact⟨v,h1,h2.extV (turned_extV ht) (.inl rfl)⟩
    refine⟨hu,.inr ⟨fr_one,.func k,cs.toArray,k,cs.toArray,rfl,?_,fun g hg=>trivial,?_⟩⟩
    · simp only[invoke]
      have:=hok.1 cs.toArray w4
      simpa using this
    · refine(hok.2 ⟨ρ3,H3,w4⟩ cs u rfl hS4 hcs4 hmd4).mono ?_
      rintro e5 u5 w5 ⟨v5,H5,ρ5,rfl,hset,hpd,hext5,hsim5⟩
      obtain⟨r1,r2⟩:=hres H5 hpd
      show LeavesInM _ _ _ _ _ _ (ms1.map mark) (settle u5) w5
      rw[hset]
      have hdb3:=hdb1.ext (S:=⟨ρ2,H2,w2⟩) (S':=⟨ρ3,H3,w3⟩) k3 q2
      have hdb4:(⟨S.w.heap.size,[],none⟩:DB).Ok w4 (ms1.map mark):=by
       refine⟨by rw[ht.size]; exact hdb3.le,⟨ms1,by simp,m2,fun D hD=>⟨(m3 D hD).1,?_⟩⟩,fun l h=>by cases h⟩
       have h1:=lt_heap (m3 D hD).2
       have h2:w3.heap[D]? = some (Obj.deferred (some [])):=by
        have h4:=(m3 D hD).2
        refine((q2.imm D (lt_heap h4) ?_).1).trans h4
        rintro⟨i,o,ho,hl,hρ⟩
        rcases k3.own ho hl hρ with ⟨c,h5⟩ | ⟨r,h5⟩ | ⟨es,cl,h5⟩<;>(rw[h4]at h5; cases h5)
       rcases ht.at_ D with h3 | ⟨h3,_,_⟩
       · exact h3.trans h2
       · exact absurd (Nat.lt_of_lt_of_le h1 h3) (Nat.lt_irrefl _)
      have hdb5:=hdb4.ext (S:=⟨ρ3,H3,w4⟩) (S':=⟨ρ5,H5,w5⟩) hS4 hext5
      obtain⟨ms5,j1,j2,j3⟩:=hdb5.ms
      have hE5:Ext S.H.length S ⟨ρ5,H5,w5⟩:=hE4.trans (hext5.mono (hE4.len (Nat.le_refl _)))
      have hEnv5:EnvR ⟨ρ5,H5,w5⟩ env3 a3.tmps:=EnvR.ext (S:=⟨ρ3,H3,w4⟩) ⟨fun t=>(q4.get t).extV (turned_extV ht) (.inl rfl)⟩ hext5
      rw[j1]
      simp only[List.append_nil]
      refine marks_leave (by simp) ms5 w5 j2 j3 fun w6 ht6 => ?_
      obtain⟨v,h3,h4⟩:=run_results (P:=P) (S:=⟨ρ5,H5,w6⟩) (turned_sim ht6 hsim5) ⟨fun t=>(hEnv5.get t).extV (turned_extV ht6) (.inl rfl)⟩ hr r1
      obtain⟨r,H',hp,h2⟩:=r2
      obtain⟨ρ',h5,h6,h7⟩:=h2 ⟨ρ5,H5,w6⟩ v rfl (turned_sim ht6 hsim5) h4
      exact⟨v,h3,.ret r,H',v,ρ',hp,(turned_ext ht6 hE5 (Nat.le_refl _)).trans h5,h6,rfl,h7⟩
   cases x3<;>cases e3<;>simp only[ER]at q1
   · obtain⟨Pd,y1,y2⟩:=q7
     exact main none .returning Pd (by simp) rfl y1 y2
   · exact q7.elim
   · exact q7.elim
   · obtain⟨Pd,y1,y2⟩:=q7
     exact main none .returning Pd (by simp) rfl y1 y2
   · obtain⟨Pd,y1,y2⟩:=q7
     obtain⟨v,rfl,hv⟩:=q1
     exact main (some _) (.panicking [{ v:=v,recovered:=false }]) Pd (by simp) ⟨v,rfl,hv⟩ y1 y2
 · rintro ch a' w' ⟨x2,env2,ρ2,H2,k1,k2,k3,k4,k5,k6,hx2,_⟩
   subst hx2
   simp[ER]at k1
def XL (P:Program) (N:Nat) (D:Array Oper->List Nat->List Ins->Bool):List IC->Env->List AO->(XE->Env->List AO->Prop)->Prop
 | [],env,H,K=>K .normal env H
 | i::r,env,H,K=>X P N D i env H fun x env H=>match x with
  | .normal=>XL P N D r env H K
  | x=>K x env H
def chkDp (P:Program) (N:Nat) (D:Array Oper->List Nat->List Ins->Bool) (k:Code->Bool):List IC->Code->Bool
 | [],c=>k c
 | i::r,.seq a b=>chkC P N D a i&&chkDp P N D k r b
 | _,_=>false
def FinE (P:Program) (n0:Nat) (rs:List RS) (Pt:Out->List AO->Prop) (nx:Env->List AO->Prop) (x:XE) (env:Env) (H:List AO):Prop :=
 match x with
 | .normal=>nx env H
 | .ret=>(∀ s∈rs,s.side env H)∧FinQ n0 Pt (resV env H rs) H
 | _=>False
theorem defer_pre (hD:DOk P D) {fn:Func} {rs:List RS} {Pt:Out->List AO->Prop} (hr:chkRes P fn.results.toList rs=true) {kk:Code->Bool} {nx:Env->List AO->Prop} {S:St}
 (hk:∀ c,kk c=true->∀ (a1:Act) (w1:World) (env1:Env) (ρ1:Nat->Option Nat) (H1:List AO),Ext S.H.length S ⟨ρ1,H1,w1⟩->Sim ⟨ρ1,H1,w1⟩->EnvR ⟨ρ1,H1,w1⟩ env1 a1.tmps->a1.tmps.size=fn.ntmps->(⟨S.w.heap.size,[],none⟩:DB).Ok w1 a1.defers->nx env1 H1 →
  c.wpIn (Fr none) 0 P (bodyPostM (Fr none) 0 P fn (fun e w'=>∃ (out:Out) (H':List AO) (v:Value) (ρ':Nat->Option Nat),Pt out H'∧Ext S.H.length S ⟨ρ',H',w'⟩∧Sim ⟨ρ',H',w'⟩ ∧
  match out with
  | .ret r=>e=.returned v∧VR ⟨ρ',H',w'⟩ r v
  | .pan x=>e=.panicked [{ v:=v,recovered:=false }]∧VR ⟨ρ',H',w'⟩ x v)) a1 w1) :
 ∀ (ias:List IC) (c:Code) (a1:Act) (w1:World) (env1:Env) (ρ1:Nat->Option Nat) (H1:List AO),chkDp P fn.ntmps D kk ias c=true->Ext S.H.length S ⟨ρ1,H1,w1⟩->Sim ⟨ρ1,H1,w1⟩->EnvR ⟨ρ1,H1,w1⟩ env1 a1.tmps->a1.tmps.size=fn.ntmps →
  (⟨S.w.heap.size,[],none⟩:DB).Ok w1 a1.defers->XL P fn.ntmps D ias env1 H1 (FinE P S.H.length rs Pt nx) →
  c.wpIn (Fr none) 0 P (bodyPostM (Fr none) 0 P fn (fun e w'=>∃ (out:Out) (H':List AO) (v:Value) (ρ':Nat->Option Nat),Pt out H'∧Ext S.H.length S ⟨ρ',H',w'⟩∧Sim ⟨ρ',H',w'⟩ ∧
  match out with
  | .ret r=>e=.returned v∧VR ⟨ρ',H',w'⟩ r v
  | .pan x=>e=.panicked [{ v:=v,recovered:=false }]∧VR ⟨ρ',H',w'⟩ x v)) a1 w1:=by
 intro ias
 induction ias with
 | nil=>exact fun c a1 w1 env1 ρ1 H1 hc g2 g3 g4 g5 g6 hx=>hk c hc a1 w1 env1 ρ1 H1 g2 g3 g4 g5 g6 hx
 | cons i r ih =>
  intro c a1 w1 env1 ρ1 H1 hc g2 g3 g4 g5 g6 hx
  cases c<;>simp only[chkDp,Bool.false_eq_true,Bool.and_eq_true]at hc
  rename_i ca cb
  have hwa:=X_sound hD i hc.1 hx ⟨S.w.heap.size,[],none⟩ ⟨ρ1,H1,w1⟩ a1 rfl g3 g4 g5 g6
  refine wpIn_seq (wq_mono hwa ?_)
  rintro e2 a2 w2 ⟨x,env2,ρ2,H2,k1,k2,k3,k4,k5,k6,k7⟩
  have hE:Ext S.H.length S ⟨ρ2,H2,w2⟩:=g2.trans (k2.mono (g2.len (Nat.le_refl _)))
  cases x<;>cases e2<;>simp only[ER]at k1
  · exact ih cb a2 w2 env2 ρ2 H2 hc.2 hE k3 k4 k5 k6 k7
  all_goals first | exact k7.elim | skip
  obtain⟨r1,r2⟩:=k7
  obtain⟨ms,m1,m2,m3⟩:=k6.ms
  simp only[List.append_nil]at m1
  show LeavesInM (Fr none) 0 P fn a2.tmps _ a2.defers .returning w2
  rw[m1]
  refine marks_leave (by simp) ms w2 m2 m3 fun w6 ht6 => ?_
  obtain⟨v,h3,h4⟩:=run_results (P:=P) (S:=⟨ρ2,H2,w6⟩) (turned_sim ht6 k3) ⟨fun t=>(k4.get t).extV (turned_extV ht6) (.inl rfl)⟩ hr r1
  obtain⟨r,H',hp,h2⟩:=r2
  obtain⟨ρ',h5,h6,h7⟩:=h2 ⟨ρ2,H2,w6⟩ v rfl (turned_sim ht6 k3) h4
  exact⟨v,h3,.ret r,H',v,ρ',hp,(turned_ext ht6 hE (Nat.le_refl _)).trans h5,h6,rfl,h7⟩
def chkDq (P:Program) (D:Array Oper->List Nat->List Ins->Bool) (fn:Func) (ins1:Ins) (fo:Od) (ib:IC):Code->Bool
 | .seq (.region _ ops false) cb =>
  (match ops.toList with
   | [o1,od]=>chkIns P fn.ntmps ops o1 ins1&&((match o1.op with | .defer _=>false | _=>true)&&((match od.op with | .defer { callee:=.value f',args:=as,argTypes:=ts }=>as.isEmpty&&(ts.isEmpty&&chkOd f' fo) | _=>false) &&
    (od.guard.isNone&&(od.dst.isNone&&chkC P fn.ntmps D cb ib))))
   | _=>false)
 | _=>false
def chkDs (P:Program) (D:Array Oper->List Nat->List Ins->Bool) (fn:Func) (ias:List IC) (ins1:Ins) (fo:Od) (ib:IC) (rs:List RS):Bool :=
 (match fn.body with
  | some c=>chkDp P fn.ntmps D (chkDq P D fn ins1 fo ib) ias c
  | none => false) && !(fn.name == "runtime.NumGoroutine") && chkRes P fn.results.toList rs && decide (fn.params.size + fn.nfree ≤ fn.ntmps)
theorem okP_ds {P:Program} (hm:P.follows .mixedOrders=true) {f:FuncId} {fn:Func} {ias:List IC} {ib:IC} {ins1:Ins} {fo:Od} {rs:List RS} (hf:P.funcs[f]? = some fn) (hc:chkDs P drawB fn ias ins1 fo ib rs=true)
 {args:List SV} {H:List AO} {Pt:Out->List AO->Prop} (hn:args.length=fn.params.size+fn.nfree)
 (hx:closed H->XL P fn.ntmps drawB ias (argsEnv args) H (FinE P H.length rs Pt fun env1 H1=>xo P ins1 env1 H1 fun x env2 H2=>x=.normal∧(env2.ev fo).vd=true∧∃ k cap,(env2.ev fo).ug=.fn (.func k) [] cap∧X P fn.ntmps drawB ib env2 H2 (FinD P H.length rs Pt k cap))):OkP P f args H Pt:=by
 unfold chkDs at hc
 rw[Bool.and_eq_true,Bool.and_eq_true,Bool.and_eq_true]at hc
 obtain⟨⟨⟨h1,h2⟩,h3⟩,h4⟩:=hc
 split at h1
 · rename_i c hb
   refine⟨fun vs w=>Go.MuLone.run_callFunc_enter hf (by simpa using h2) hb vs w,?_⟩
   intro S vs hH hS hvs
   subst hH
   refine callsIn_wide.1 (callsIn_of_wp_marks (F:=Fr none) (n:=0) hf hb trivial ?_)
   have hl:vs.length=args.length:=hvs.1
   have h4:args.length≤fn.ntmps:=by rw[hn]; simpa using h4
   refine defer_pre (draw_ok hm) h3 (kk:=chkDq P drawB fn ins1 fo ib) (nx:=_) ?_ ias c ⟨vs.toArray++Array.replicate (fn.ntmps-vs.toArray.size) undef,[]⟩ S.w (argsEnv args) S.ρ S.H h1 (Ext.refl _ _) hS (argsEnv_rel hvs _) (by simp; omega) ⟨Nat.le_refl _,⟨[],rfl,List.nodup_nil,fun D hD=>by simp at hD⟩,fun l h=>by cases h⟩ (hx hS.closed)
   intro c hc a1 w1 env1 ρ1 H1 g2 g3 g4 g5 g6 g7
   unfold chkDq at hc
   split at hc
   · rename_i rid ops cb
     split at hc
     · rename_i o1 od hops
       simp only[Bool.and_eq_true]at hc
       obtain⟨k2,k3,k4,k5,k6,k7⟩:=hc
       have e:ops = #[o1,od]:=by apply Array.ext'; simpa using hops
       subst e
       split at k4
       · rename_i f' as ts hod
         simp only[Bool.and_eq_true,Array.isEmpty_iff]at k4
         obtain⟨rfl,rfl,k4⟩:=k4
         exact defer_rest (draw_ok hm) h3 k2 (fun c e=>by rw[e]at k3; cases k3) hod (by simpa using k5) (by simpa using k6) k4 k7 g2 g3 g4 g5 g6 g7
       · cases k4
     · cases hc
   · cases hc
 · cases h1
end
end Go.Ab
namespace Go.Ab
variable [GlobEnv] [FrEnv] [KnEnv]
set_option linter.unusedSectionVars false
section
variable {P:Program} {N:Nat} {D:Array Oper->List Nat->List Ins->Bool}
theorem WI.of_X (hD:DOk P D) {i:IC} {env:Env} {H:List AO} {K:XE->Env->List AO->Prop} (h:X P N D i env H K):WI P N D i env H K:=fun _ hc=>X_sound hD i hc h
theorem WI.seq (hD:DOk P D) {a b:IC} {env:Env} {H:List AO} {K:XE->Env->List AO->Prop} (h:X P N D a env H fun x env H=>match x with | .normal=>WI P N D b env H K | x=>K x env H):WI P N D (.seq a b) env H K:=by
 intro c hc
 cases c<;>simp only[chkC,Bool.false_eq_true,Bool.and_eq_true]at hc
 refine W.seq ((X_sound hD a hc.1 h).mono ?_)
 intro x env H hk
 cases x<;>first | exact hk | exact hk _ hc.2
theorem WI.tell {i:IC} {env env':Env} {H H':List AO} {K:XE->Env->List AO->Prop} (ht:Tell env H env' H') (h:WI P N D i env' H' K):WI P N D i env H K:=by
 intro c hc db S a hH hS he hN hd
 obtain⟨ρ',h1,h2,h3⟩:=ht S a.tmps hH hS he
 exact wq_mono (h c hc db ⟨ρ',H',S.w⟩ a rfl h2 h3 hN (hd.ext hS h1)) fun e a w h=>Post.trans h1 h
theorem WI.cong {i:IC} {env:Env} {H H':List AO} {K:XE->Env->List AO->Prop} (e:H'=H) (h:WI P N D i env H' K):WI P N D i env H K:=by rw[←e]; exact h
theorem ok_WI {P:Program} (hm:P.follows .mixedOrders=true) {f:FuncId} {fn:Func} {i:IC} {rs:List RS} (hf:P.funcs[f]? = some fn) (hc:chkF P drawB fn i rs=true)
 {args:List SV} {H:List AO} {out:Out} {H':List AO} (hn:args.length=fn.params.size+fn.nfree)
 (hx:closed H->WI P fn.ntmps drawB i (argsEnv args) H (Fin H.length rs out H')):Ok P f args H out H':=by
 unfold chkF at hc
 rw[Bool.and_eq_true,Bool.and_eq_true,Bool.and_eq_true]at hc
 obtain⟨⟨⟨h1,h2⟩,h3⟩,h4⟩:=hc
 split at h1
 · rename_i c hb
   exact(okP_W hf hb (by simpa using h2) (by rw[hn]; simpa using h4) h3 fun hcl=>(hx hcl c h1).mono fun x env H h=>fin_P h).toOk
 · cases h1
end
end Go.Ab
namespace Go.Ab
def IC.tl:Nat->IC->IC
 | 0,a=>a
 | k+1,.seq _ b=>IC.tl k b
 | _,a=>a
def IC.nth:Nat->IC->IC
 | 0,.seq a _=>a
 | k+1,.seq _ b=>IC.nth k b
 | _,a=>a
end Go.Ab
namespace Go.Ab
section
variable [GlobEnv] [FrEnv]
theorem Sim.to (G0 G:KnEnv) {S:St} (h : @Sim _ _ G0 S) (hk : @St.KF _ G S) : @Sim _ _ G S := @Sim.mk _ _ G S (@Sim.live _ _ G0 S h) (@Sim.bel _ _ G0 S h) (@Sim.inj _ _ G0 S h) (@Sim.lp _ _ G0 S h) (@Sim.gl _ _ G0 S h) hk
variable [G0:KnEnv]
theorem LI.learn {P:Program} {N:Nat} {D:Array Oper->List Nat->List Ins->Bool} {i:IC} {env:Env} {H:List AO} {K:XE->Env->List AO->Prop} (j p:Nat) {o:AO} {cells:List SV} {len:Nat}
 (ho:H[j]? = some o) (hl:o.live=true) (hp:o.cells[p]? = some (.slc cells len)) (hne:cells≠[]) (hu:SV.underL 0 cells=true)
 (h:∀ (a:Addr) (cap:Nat),@LI _ _ ⟨(.slc cells len,.slice (some a) len cap)::KnEnv.kn⟩ P N D i env (H.set j ⟨o.cells.set p (.val (.slice (some a) len cap)),o.ty,o.ver,true⟩) K) :
 LI P N D i env H K:=by
 intro c hc db S a hH hS he hN hd
 subst hH
 have h1:=hS.live j o ho hl
 cases hρ:S.ρ j with
 | none=>rw[hρ]at h1; rw[h1]at hp; simp at hp
 | some b =>
  rw[hρ]at h1
  obtain⟨us,rest,h2,h3⟩:=h1
  obtain⟨u,hu1,hu2⟩:=h3.get hp
  obtain⟨ad,cap,rfl⟩:∃ ad cap,u=.slice (some ad) len cap:=by
   cases hu2 with
   | nilslc=>exact absurd rfl hne
   | slc cells len a cap us hc hl hi h=>exact⟨a,cap,rfl⟩
  have hS':Sim ⟨S.ρ,S.H.set j ⟨o.cells.set p (.val (.slice (some ad) len cap)),o.ty,o.ver,true⟩,S.w⟩:=by
   refine sim_retellR hS ho hl ?_ ?_
   · intro s hs
     rcases List.mem_or_eq_of_mem_set hs with hs | rfl
     · exact(hS.bel j o ho s hs).2 hl
     · rfl
   · intro us' hl' hv'
     have e:us'.length=us.length:=hv'.1.trans h3.1.symm
     have:us'=us:=by
      unfold St.lies at hl'
      rw[hρ]at hl'
      obtain⟨rest',h4⟩:=hl'
      rw[h2]at h4
      have h5:us++rest=us'++rest':=by simpa using h4
      exact(List.append_inj h5 e.symm).1.symm
     subst this
     refine⟨us'.length,?_⟩
     rw[List.take_length]
     refine⟨by simpa using h3.1,fun k s v hs hv => ?_⟩
     by_cases hk:k=p
     · subst hk
       rw[hu1]at hv; cases hv
       rw[List.getElem?_set_self (getElem?_lt hp)]at hs; cases hs
       exact .val _
     · rw[List.getElem?_set_ne (by omega)]at hs
       exact h3.2 k s v hs hv
  have hx:=ext_retell ho hl (o.cells.set p (.val (.slice (some ad) len cap)))
  have hkf : @St.KF _ ⟨(.slc cells len,.slice (some ad) len cap)::KnEnv.kn⟩ ⟨S.ρ,S.H.set j ⟨o.cells.set p (.val (.slice (some ad) len cap)),o.ty,o.ver,true⟩,S.w⟩:=by
   intro q hq
   rcases List.mem_cons.1 hq with rfl | hq
   · exact⟨by simpa[SV.under]using hu,hu2.ext hx⟩
   · exact hS'.kf q hq
  have hd':=hd.ext hS hx
  refine loopIn_mono (h ad cap c hc db ⟨S.ρ,S.H.set j ⟨o.cells.set p (.val (.slice (some ad) len cap)),o.ty,o.ver,true⟩,S.w⟩ a rfl (Sim.to G0 ⟨(.slc cells len,.slice (some ad) len cap)::KnEnv.kn⟩ hS' hkf) (he.ext hx) hN hd') fun e a' w hp => ?_
  obtain⟨x,env',ρ,H',k1,k2,k3,k4,k5,k6,k7⟩:=hp
  refine⟨x,env',ρ,H',k1,hx.trans (k2.mono (hx.len (Nat.le_refl _))),Sim.to ⟨(.slc cells len,.slice (some ad) len cap)::KnEnv.kn⟩ G0 k3 (fun q hq => @Sim.kf _ _ ⟨(.slc cells len,.slice (some ad) len cap)::KnEnv.kn⟩ _ k3 q (List.mem_cons_of_mem _ hq)),k4,k5,k6,k7⟩
end
end Go.Ab
namespace Go.Ab
variable [GlobEnv] [FrEnv] [KnEnv] [KnNo] [KnOld]
open Go.ChangeShapes Go.WideShapes Go.ChangeAt Go.RowKit
mutual
def Sh.by:Sh->Nat
 | .int k=>k.bits / 8
 | .bool=>1
 | .str=>16
 | .sl _=>24
 | .st l=>Sh.byL l
def Sh.byL:List Sh->Nat
 | []=>0
 | s::r=>s.by+Sh.byL r
end
section
variable {H:Type} {enc:TypeId×Value->H} {P:Program} {W:World} {base:Nat} {spare:Nat->Bool} {held:Bool}
def wOk (l:List Nat):Prop:=∀ n∈l,n≤reachBytes
theorem wOk_app {a b:List Nat}:wOk (a++b)↔wOk a∧wOk b:=by
 unfold wOk
 constructor
 · intro h; exact⟨fun n hn=>h n (by simp[hn]),fun n hn=>h n (by simp[hn])⟩
 · rintro⟨h1,h2⟩ n hn
   rcases List.mem_append.1 hn with hn | hn
   · exact h1 n hn
   · exact h2 n hn
end
end Go.Ab
namespace Go.Ab
variable [GlobEnv] [FrEnv] [KnEnv] [KnNo] [KnOld]
open Go.ChangeShapes Go.WideShapes Go.ChangeAt Go.RowKit
mutual
def Dt.ty (P:Program):Dt->TypeId->Prop
 | .int k n,t=>P.underlying t=some (.int k)∧(Lit.int k n).wf=true
 | .bool _,t=>P.underlying t=some .bool
 | .str s,t=>P.underlying t=some .string∧s.size≤reachBytes
 | .sl l,t=>∃ e,P.underlying t=some (.slice e)∧l.length≤reachBytes∧Dt.tyA P l e
 | .agg l,t=>∃ fs,P.underlying t=some (.struct fs)∧Dt.tyL P l (fs.toList.map (·.type))
def Dt.tyA (P:Program):List Dt->TypeId->Prop
 | [],_=>True
 | d::r,t=>d.ty P t∧Dt.tyA P r t
def Dt.tyL (P:Program):List Dt->List TypeId->Prop
 | [],ts=>ts=[]
 | d::r,ts=>match ts with | []=>False | t::ts=>d.ty P t∧Dt.tyL P r ts
end
mutual
def Dt.blk:Dt->Nat
 | .int _ _=>1
 | .bool _=>1
 | .str s=>s.size+1
 | .sl l=>Dt.blkL l+1
 | .agg l=>Dt.blkL l+1
def Dt.blkL:List Dt->Nat
 | []=>0
 | d::r=>d.blk+Dt.blkL r
end
end Go.Ab
namespace Go.Ab
open Go.ChangeShapes Go.WideShapes Go.ChangeAt Go.RowKit
section
theorem wOk_app' {a b:List Nat}:wOk (a++b)↔wOk a∧wOk b:=by
 letI:GlobEnv:=⟨fun _=>none⟩
 exact wOk_app
variable {H:Type} {enc:TypeId×Value->H} {P:Program} {W:World} {base:Nat} {spare:Nat->Bool} {held:Bool}
theorem trodAll_len' {ts:List TypeId} {vs:List Value} {ds:List (DataW H)} {p:List MemPlace} (h:DataW.TrodAll enc P W base spare held ts vs ds p):ds.length=ts.length:=by
 letI:GlobEnv:=⟨fun _=>none⟩
 exact trodAll_len h
theorem below_all' (hl:laidOutB P=true) {W':World} (hb:Below W.heap.size W W') {ts:List TypeId} {vs:List Value} {ds:List (DataW H)} {p:List MemPlace}
 (hr:∀ t∈ts,P.readableRec t=true∧t<P.types.size) (h:DataW.TrodAll enc P W 0 (fun _=>true) true ts vs ds p):DataW.TrodAll enc P W' 0 (fun b=>decide (b<W.heap.size)) true ts vs ds p:=by
 letI:GlobEnv:=⟨fun _=>none⟩
 exact below_all hl hb hr h
end
section
variable [GlobEnv] [FrEnv] [KnEnv]
def flatOk (P:Program) (t:TypeId):Bool:=match P.underlying t with
 | some (.int _)=>true
 | some .bool=>true
 | some .string=>true
 | _=>false
variable {H:Type} {enc:TypeId×Value->H} {P:Program} {W:World} {base b0:Nat} {spare:Nat->Bool} {held:Bool} {r:Reach}
theorem readF_one {t:TypeId} (hc:flatOk P t=true) {v:Value} {d:DataW H} {p:List MemPlace} (hval:Value.okWide P W r b0 t v) (hd:DataW.Trod enc P W base spare held t v d p) (hw:wOk (d.weights P t)) :
 ∃ dt:Dt,dt.ty P t∧VR (st0 W) dt.sv v:=by
 obtain⟨fuel,h⟩:=hd
 unfold flatOk at hc
 split at hc
 · rename_i k ht
   obtain⟨n,rfl⟩:=okWide_int ht hval
   obtain⟨m,he,_,hwf⟩:=DataW.trod_int ht h
   have he:n=m:=by simpa[Value.cells]using he
   subst he
   exact⟨.int k n,⟨ht,hwf⟩,.val _⟩
 · rename_i ht
   obtain⟨b,rfl⟩:=okWide_bool ht hval
   exact⟨.bool b,ht,.val _⟩
 · rename_i ht
   obtain⟨s,rfl⟩:=okWide_string ht hval
   obtain⟨s',he,hd,hs⟩:=DataW.trod_string ht h
   have he:s=s':=by simpa[Value.cells]using he
   subst he
   have hd:d=.lit (.string s.data.toList):=by simpa using congrArg Prod.fst hd
   subst hd
   refine⟨.str s,⟨ht,?_⟩,.val _⟩
   have:=hw s.data.toList.length (by simp[DataW.weights])
   simpa using this
 · cases hc
theorem readF_args:∀ {ts:List TypeId} {vs:List Value} {ds:List (DataW H)} {p:List MemPlace},(∀ t∈ts,flatOk P t=true) →
 (∀ (j:Nat) t v,ts[j]? = some t->vs[j]? = some v->Value.okWide P W r b0 t v)->DataW.TrodAll enc P W base spare held ts vs ds p->wOk (DataW.weightsEach P ts ds) →
 ∃ dts,Dt.tyL P dts ts∧VRs (st0 W) (dts.map Dt.sv) vs
 | [],vs,ds,p,hb,hval,h,hw=>by
  obtain⟨rfl,_,_⟩:=trodAll_nil h; exact⟨[],rfl,VRs.nil _⟩
 | t::ts,vs,ds,p,hb,hval,h,hw=>by
  obtain⟨v,vs',d,ds',p,q,rfl,rfl,rfl,h1,h2⟩:=trodAll_cons h
  rw[DataW.weightsEach,wOk_app']at hw
  obtain⟨dt,g1,g2⟩:=readF_one (hb t (by simp)) (hval 0 t v rfl rfl) h1 hw.1
  obtain⟨dts,g3,g4⟩:=readF_args (fun t ht=>hb t (by simp[ht])) (fun j t v ht hv=>hval (j+1) t v (by simpa using ht) (by simpa using hv)) h2 hw.2
  exact⟨dt::dts,⟨g1,g3⟩,VRs.cons g2 g4⟩
theorem law_contract_flat [KnNo] {f:FuncId} {fn:Func} {s:ChangeSpec} (hS:(fn.params.toList.all fun t=>flatOk P t)=true) (hg:(st0 W).GL) (hl:laidOutB P=true) (hr:∀ t∈fn.params.toList,P.readableRec t=true∧t<P.types.size)
 (hvars:s.vars=[]) (hfn:∀ ds:List (DataW H),ds.length=fn.params.size->s.fn H ds={ results:=[.lit (.bool true)],args:=ds }) {tb:TypeId} (hres:fn.resultTypes = #[tb]) (htb:P.underlying tb=some .bool)
 (hok:∀ dts,Dt.tyL P dts fn.params.toList->Ok P f (dts.map Dt.sv) [] (.ret (bl true)) [])
 (args:Array Value) (ds gs:List (DataW H)) (before:List MemPlace)
 (hval:∀ (j:Nat) t v,fn.params[j]? = some t->args[j]? = some v->Value.okWide P W r b0 t v) (hW:DataW.Whole enc P fn.params.toList s.vars false W args.toList ds gs before)
 (hsz:(DataW.weightsEach P (fn.params.toList++s.plain.varTypes P) (ds++gs)).all (· ≤ reachBytes)=true) :
 Calls P f args W fun e W'=>∃ v,e=.returned v∧s.post enc P fn false true false false W args v W':=by
 have hW':=hW
 obtain⟨p,q,hA,hV,rfl,hfz,hnd⟩:=hW
 rw[hvars]at hV
 obtain⟨rfl,rfl⟩:=trodVars_none hV
 have hwk:∀ (ts:List TypeId) (us:List TypeId) (ds:List (DataW H)),ds.length=ts.length->(DataW.weightsEach P (ts++us) (ds++[])).all (· ≤ reachBytes)=true->wOk (DataW.weightsEach P ts ds):=by
  intro ts us ds
  induction ts generalizing ds with
  | nil=>intro h _; cases ds with | nil=>intro n hn; simp[DataW.weightsEach]at hn | cons d r=>simp at h
  | cons t ts ih =>
   intro h h2
   cases ds with
   | nil=>simp at h
   | cons d r =>
    simp only[List.cons_append,DataW.weightsEach,List.all_append,Bool.and_eq_true]at h2
    rw[DataW.weightsEach,wOk_app']
    exact⟨fun n hn=>by simpa using List.all_eq_true.1 h2.1 n hn,ih r (by simpa using h) h2.2⟩
 have hS':∀ t∈fn.params.toList,flatOk P t=true:=fun t ht=>List.all_eq_true.1 hS t ht
 obtain⟨dts,h1,h2⟩:=readF_args hS' (fun j t v ht hv=>hval j t v (by simpa using ht) (by simpa using hv)) hA (hwk _ _ _ (trodAll_len' hA) hsz)
 have h3:=ok_calls (hok dts h1) hg h2
 refine h3.mono fun e W' ⟨he,bel⟩ => ?_
 subst he
 have hlen:ds.length=fn.params.size:=by rw[trodAll_len' hA]; simp
 have hf2:=hfn (ds++[]) (by simpa using hlen)
 refine⟨_,rfl,ds,[],_,[],p,[],hW',?_,?_,?_,bel.frame _,fun h=>by cases h⟩
 · rw[hres,hf2]
   exact trodAll_mk1 (shut_bool htb true)
 · rw[hf2]
   simpa using below_all' hl bel hr hA
 · rw[hf2,hvars]; rfl
end
end Go.Ab
