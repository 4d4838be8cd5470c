/-
  Steps of the proof: contracts of functions and plain facts that the statement rests on.
-/
import Derived.Test.YtogjmpkehjfecaaGreatDoorCore4
import Derived.RecoverIn
set_option linter.all false
namespace Go.Ab
variable [GlobEnv] [FrEnv] [KnEnv]
section
variable {P:Program} {N:Nat} {D:Array Oper->List Nat->List Ins->Bool}
def place (n i:Nat):Nat:=n+i
@[simp] theorem place_zero (n:Nat):place n 0=n:=rfl
@[simp] theorem place_add (a k i:Nat):place (a+k) (i+1)=place (a+(k+1)) i:=by simp only[place]; omega
@[simp] theorem rs_p (n:Nat) (d:Option Nat) (g:Option (Nat×Bool)) (i:I):Ins.rs n ⟨d,g,.p i⟩=⟨d,g,.p i⟩:=rfl
@[simp] theorem rs_q (n:Nat) (d:Option Nat) (g:Option (Nat×Bool)) (f:Od) (as:List Od):Ins.rs n ⟨d,g,.q f as⟩=⟨d,g,.q f as⟩:=rfl
@[simp] theorem rs_e (n:Nat) (d:Option Nat) (g:Option (Nat×Bool)) (i:E):Ins.rs n ⟨d,g,.e i⟩=⟨d,g,.e (i.rs n)⟩:=rfl
@[simp] theorem rs_flo (n i:Nat) (T:TypeId) (sz b:Nat) (z:List SV) (l c:Od):E.rs n (.flo i T sz b z l c)=.flo (place n i) T sz b z l c:=rfl
@[simp] theorem rs_st (n m:Nat) (p x:Od):E.rs n (.st m p x)=.st m p x:=rfl
@[simp] theorem rs_stw (n m:Nat) (ws:List Nat) (p x:Od):E.rs n (.stw ws m p x)=.stw ws m p x:=rfl
@[simp] theorem rs_app (n:Nat) (T:TypeId) (sz b:Nat) (s x:Od):E.rs n (.app T sz b s x)=.app T sz b s x:=rfl
@[simp] theorem rs_aps (n:Nat) (T:TypeId) (s x:Od):E.rs n (.aps T s x)=.aps T s x:=rfl
@[simp] theorem rs_call (n:Nat) (f:Od) (as:List Od):E.rs n (.call f as)=.call f as:=rfl
@[simp] theorem rs_alc (n:Nat) (T:TypeId) (z:List SV):E.rs n (.alc T z)=.alc T z:=rfl
@[simp] theorem rs_box (n:Nat) (T:TypeId) (x:Od):E.rs n (.box T x)=.box T x:=rfl
def xdl (P:Program) (l:List Ins) (env:Env) (H:List AO) (K:XE->Env->List AO->Prop):Prop:=xd P [] l env H K
@[congr] theorem xdl_congr {l l':List Ins} {env:Env} {H:List AO} {K:XE->Env->List AO->Prop} (h:Ev l=l'):xdl P l env H K=xdl P l' env H K:=by rw[Ev_to h]
@[simp] theorem xdl_go (l:List Ins) (env:Env) (H:List AO) (K:XE->Env->List AO->Prop):xdl P l env H K=xd P [] l env H K:=rfl
def s_drf (P:Program) (l:List Ins) (n:Nat) (env:Env) (H:List AO) (K:XE->Env->List AO->Prop):Prop:=xdl P (l.map (Ins.rs n)) env H K
@[congr] theorem s_drf_congr {l:List Ins} {n n':Nat} {env:Env} {H H':List AO} {K:XE->Env->List AO->Prop} (h:Ev n=n') (h2:Ev H=H'):s_drf P l n env H K=s_drf P l n' env H' K:=by rw[Ev_to h,Ev_to h2]
@[simp] theorem s_drf_go (l:List Ins) (n:Nat) (env:Env) (H:List AO) (K:XE->Env->List AO->Prop):s_drf P l n env H K=xdl P (l.map (Ins.rs n)) env H K:=rfl
@[simp ↓] theorem X_drf (Ts:List TypeId) (m:List Nat) (l:List Ins) (env:Env) (H:List AO) (K:XE->Env->List AO->Prop):X P N D (.drf Ts m l) env H K=s_drf P l H.length env (H++resd Ts) fun x e H' =>
 match x with
 | .normal=>K .normal e H'
 | x=>K x (offE l env) H':=rfl
def s_drft (P:Program) (l:List Ins) (n:Nat) (env:Env) (H:List AO) (K:XE->Env->List AO->Prop):Prop:=xdl P (l.map (Ins.rs n)) env H K
@[congr] theorem s_drft_congr {l:List Ins} {n n':Nat} {env:Env} {H H':List AO} {K:XE->Env->List AO->Prop} (h:Ev n=n') (h2:Ev H=H'):s_drft P l n env H K=s_drft P l n' env H' K:=by rw[Ev_to h,Ev_to h2]
@[simp] theorem s_drft_go (l:List Ins) (n:Nat) (env:Env) (H:List AO) (K:XE->Env->List AO->Prop):s_drft P l n env H K=xdl P (l.map (Ins.rs n)) env H K:=rfl
@[simp ↓] theorem X_drft (Ts:List TypeId) (n0:Nat) (m:List Nat) (l tl:List Ins) (env:Env) (H:List AO) (K:XE->Env->List AO->Prop):X P N D (.drft Ts n0 m l tl) env H K=s_drft P l H.length env (H++resd Ts) fun x env H' =>
 match x with
 | .normal=>xops P tl env H' K
 | x=>K x env H':=rfl
@[simp ↓] theorem X_drq (Ts:List TypeId) (n0:Nat) (m:List Nat) (l:List Ins) (os:List (List Nat)) (tl:List Ins) (env:Env) (H:List AO) (K:XE->Env->List AO->Prop):X P N D (.drq Ts n0 m l os tl) env H K=s_drft P l H.length env (H++resd Ts) fun x env H' =>
 match x with
 | .normal=>xrt P n0 tl os env H' fun x e H=>K x (e.keep (dreK tl env)) H
 | x=>K x env H':=rfl
@[simp] theorem resd_nil:resd []=[]:=rfl
@[simp] theorem resd_cons (T:TypeId) (r:List TypeId):resd (T::r)=⟨[],T,0,false⟩::resd r:=rfl
def objD (H:List AO) (i:Nat) (T:TypeId):Prop:=H[i]? = some ⟨[],T,0,false⟩
@[simp] theorem objD_new (H L:List AO) (k:Nat) (T:TypeId):objD (H++L) (H.length+k) T=objD L k T:=by
 unfold objD; rw[List.getElem?_append_right (by omega)]; simp
@[simp] theorem objD_new0 (H L:List AO) (T:TypeId):objD (H++L) H.length T=objD L 0 T:=objD_new H L 0 T
@[simp] theorem objD_zero (o:AO) (L:List AO) (T:TypeId):objD (o::L) 0 T=(o=⟨[],T,0,false⟩):=by simp[objD]
@[simp] theorem objD_succ (o:AO) (L:List AO) (k:Nat) (T:TypeId):objD (o::L) (k+1) T=objD L k T:=by simp[objD]
theorem set_setObj {H:List AO} {i:Nat} {T:TypeId} {o:AO} {K:List AO->Prop}:(H[i]? = some ⟨[],T,0,false⟩∧K (H.set i o))=(objD H i T∧K (Ab.setObj H i fun _=>o)):=by
 apply propext
 constructor
 · rintro⟨h,hk⟩; exact⟨h,by rw[setObj_some h]; exact hk⟩
 · rintro⟨h,hk⟩
   have h':H[i]? = some ⟨[],T,0,false⟩:=h
   exact⟨h,by rw[setObj_some h']at hk; exact hk⟩
def s_flo (i:Nat) (T:TypeId) (sz bytes:Nat) (z:List SV) (len cap:SV) (H:List AO) (K:SV->List AO->Prop):Prop :=
 len.isN=true∧cap.isN=true∧0≤len.int∧len.int≤cap.int∧bytes*cap.int≤140737488355328∧cap.int≤140737488355328 ∧
  objD H i T∧Ke K (.own i 0 len.int.toNat sz 1) (Ab.setObj H i fun _=>⟨(List.replicate len.int.toNat z).flatten,T,1,true⟩)
@[congr] theorem s_flo_congr {i i':Nat} {T:TypeId} {sz bytes:Nat} {z:List SV} {len len' cap cap':SV} {H H':List AO} {K:SV->List AO->Prop} (h:Ev i=i') (h0:Ev len=len') (h1:Ev cap=cap') (h9:Ev H=H') :
 s_flo i T sz bytes z len cap H K=s_flo i' T sz bytes z len' cap' H' K:=by rw[Ev_to h,Ev_to h0,Ev_to h1,Ev_to h9]
@[simp ↓] theorem xo_flo (d:Option Nat) (i:Nat) (T:TypeId) (sz bytes:Nat) (z:List SV) (len cap:Od) (env:Env) (H:List AO) (K:XE->Env->List AO->Prop) :
 xo P ⟨d,none,.e (.flo i T sz bytes z len cap)⟩ env H K=s_flo i T sz bytes z (env.ev len) (env.ev cap) H fun v H'=>K .normal (env.put d v) H':=by
 simp only[xo,xj,xe,s_flo,Ke]
 rw[set_setObj (K:=fun H'=>K .normal (env.put d (.own i 0 (env.ev len).int.toNat sz 1)) H')]
@[simp] theorem s_flo_go (i:Nat) (T:TypeId) (sz bytes:Nat) (z:List SV) (len cap:SV) (H:List AO) (K:SV->List AO->Prop):s_flo i T sz bytes z len cap H K=(
 len.isN=true∧cap.isN=true∧0≤len.int∧len.int≤cap.int∧bytes*cap.int≤140737488355328∧cap.int≤140737488355328 ∧
  objD H i T∧Ke K (.own i 0 len.int.toNat sz 1) (Ab.setObj H i fun _=>⟨(List.replicate len.int.toNat z).flatten,T,1,true⟩)):=rfl
end
@[simp] theorem len_add1 (H:List AO) (k:Nat):H.length+k+1=H.length+(k+1):=rfl
@[simp] theorem s_app_nil (T:TypeId) (sz bytes:Nat) (x:SV) (H:List AO) (K:SV->List AO->Prop):s_app T sz bytes (.val (.slice none 0 0)) x H K=(x.vd=true∧x.ug.isSl=true∧x.ug.slen*sz≤(x.ug.row H).length∧cellsOk (x.ug.els H sz) ∧
     x.ug.slen*bytes≤140737488355328∧x.ug.slen≤140737488355328∧Ke K (.own H.length 0 x.ug.slen sz 1) (H++[⟨x.ug.els H sz,T,1,true⟩])):=by
 simp[s_app,SV.vd,SV.ug,SV.slen,SV.isNil,Ke]
theorem setObj_old {M:List AO} {p:Nat} {o:AO} (h:M[p]? = some o) (X:List AO) (f:AO->AO):Ab.setObj (M++X) p f=M.set p (f o)++X:=by
 rw[setObj_some (o:=o) (by rw[List.getElem?_append_left (getElem?_lt h)]; exact h),List.set_append_left _ _ (getElem?_lt h)]
theorem objCells_set0 {M:List AO} {p:Nat} (o:AO) (X:List AO) (v:Nat):objCells (M.set p o++X) M.length v=objCells X 0 v:=by
 have:=objCells_new0 (M.set p o) X v
 rwa [List.length_set]at this
theorem objCells_setk {M:List AO} {p:Nat} (o:AO) (X:List AO) (k v:Nat):objCells (M.set p o++X) (M.length+k) v=objCells X k v:=by
 have:=objCells_new (M.set p o) X k v
 rwa [List.length_set]at this
theorem objIs_old {M:List AO} {p:Nat} {o:AO} (h:M[p]? = some o) (X:List AO) (ver:Nat) (T:TypeId) (m:Nat):objIs (M++X) p ver T m=(o.live=true∧o.ver=ver∧o.ty=T∧o.cells.length=m):=by
 unfold objIs
 rw[List.getElem?_append_left (getElem?_lt h),h]
 simp
theorem OkP.strip {P:Program} {k:FuncId} {args:List SV} {H:List AO} {Pt:Out->List AO->Prop} (h:OkP P k (args.map SV.strip) H Pt):OkP P k args H Pt :=
 ⟨h.1,fun S vs hH hS hv=>h.2 S vs hH hS (hv.map fun s v hs=>vr_strip hs)⟩
theorem VRs.strip3 {S:St} {a l b:List SV} {us:List Value} (h:VRs S (a++l++b) us):VRs S (a++l.map SV.strip++b) us:=by
 refine⟨by simpa using h.1,fun j s u hs hu => ?_⟩
 have h1:=h.2 j
 by_cases j1:j<a.length
 · rw[List.append_assoc,List.getElem?_append_left j1]at hs
   exact h1 s u (by rw[List.append_assoc,List.getElem?_append_left j1]; exact hs) hu
 · by_cases j2:j-a.length<l.length
   · rw[List.append_assoc,List.getElem?_append_right (by omega),List.getElem?_append_left (by simpa using j2),List.getElem?_map]at hs
     cases hl:l[j-a.length]? with
     | none=>rw[hl]at hs; cases hs
     | some x =>
      rw[hl]at hs; cases hs
      exact vr_strip (h1 x u (by rw[List.append_assoc,List.getElem?_append_right (by omega),List.getElem?_append_left j2]; exact hl) hu)
   · rw[List.append_assoc,List.getElem?_append_right (by omega),List.getElem?_append_right (by simp; omega)]at hs
     exact h1 s u (by rw[List.append_assoc,List.getElem?_append_right (by omega),List.getElem?_append_right (by omega)]; simpa using hs) hu
theorem call_gd {P:Program} {f:SV} {args:List SV} {H:List AO} {Pt:Out->List AO->Prop} {K:Out->List AO->Prop} (h:OkCP P f (args.map SV.strip) H Pt) (hk:∀ out H',Pt out H'->K out H'):CallTo P (.gd true f) args H K:=by
 refine⟨Pt,⟨by simpa[SV.vd]using h.1,?_⟩,hk⟩
 have h2:=h.2
 show match f.ug with
  | .fn (.func k) first cap=>OkP P k (first++args++cap) H Pt
  | .yl i=>YlP P i args H Pt
  | _=>False
 split at h2
 · rename_i k first cap hug
   rw[hug]
   exact⟨h2.1,fun S vs h1 h3 h4=>h2.2 S vs h1 h3 h4.strip3⟩
 · rename_i i hug
   rw[hug]
   exact⟨h2.1,fun S vs l h1 h3 h4=>h2.2 S vs l h1 h3 (by simpa using (h4.map fun s v hs=>vr_strip hs:VRs S (args.map SV.strip) vs))⟩
 · exact h2.elim
section
variable (n:Nat) (L:List AO) (d:Nat)
@[simp] theorem fz_ptr (k off len sz ver p:Nat):SV.fz n [] L (d+1) (.ptr (.own (n+k) off len sz ver) p)=(match L[k]? with
     | some o=>if o.live=true∧o.ver=ver∧off<o.cells.length then .ptr (.slc ((o.cells.drop off).map (SV.fz n [] L d)) 0) p else .any
     | none=>.any):=by
 conv=>lhs; unfold SV.fz
 rw[if_neg (by simp[SV.under])]
 have e:n+k-n=k:=by omega
 simp only[e]
 cases L[k]? with
 | none=>rfl
 | some o=>rfl
end
end Go.Ab
namespace Go.Ab
variable [GlobEnv] [FrEnv] [KnEnv]
section
variable {P:Program} {N:Nat}
def Rg (P:Program) (N:Nat) (D:Array Oper->List Nat->List Ins->Bool) (kk:Nat) (ps:List Nat) (ia ib:IC) (f:SV) (env:Env) (H:List AO) (K:XE->Env->List AO->Prop):Prop :=
 f.vd=true∧match f.ug with
  | .fn (.func k) first cap=>∃ Pt:Out->List AO->Prop,OkP P k (first++[.yl H.length]++cap) (H++[lpo P N D kk ps ia ib (env.vals N) .ready]) Pt ∧
   ∀ out H',Pt out H'->match out with
    | .ret _=>∃ k' ok st cs,H'[H.length]? = some ⟨.lp k' ok st::cs,0,0,false⟩∧st.out K env (H'.set H.length deadL)
    | .pan x=>K (.panic x) env H'
  | _=>False
@[congr] theorem Rg_congr {D:Array Oper->List Nat->List Ins->Bool} {kk:Nat} {ps:List Nat} {ia ib:IC} {f f':SV} {env env':Env} {H H':List AO} {K:XE->Env->List AO->Prop} (h1:Ev f=f') (h2:Ev env=env') (h3:Ev H=H') :
 Rg P N D kk ps ia ib f env H K=Rg P N D kk ps ia ib f' env' H' K:=by rw[Ev_to h1,Ev_to h2,Ev_to h3]
@[simp ↓] theorem X_rng (D:Array Oper->List Nat->List Ins->Bool) (kk:Nat) (g:Od) (ps:List Nat) (ia ib:IC) (env:Env) (H:List AO) (K:XE->Env->List AO->Prop):X P N D (.rng kk g ps ia ib) env H K=Rg P N D kk ps ia ib (env.ev g) env H K:=rfl
attribute [simp] LSt.out
end
end Go.Ab
namespace Go.Ab
variable [GlobEnv] [FrEnv] [KnEnv]
def Tell (env:Env) (H:List AO) (env':Env) (H':List AO):Prop :=
 ∀ (S:St) (tmps:Array Value),S.H=H->Sim S->EnvR S env tmps->∃ ρ',Ext S.H.length S ⟨ρ',H',S.w⟩∧Sim ⟨ρ',H',S.w⟩∧EnvR ⟨ρ',H',S.w⟩ env' tmps
theorem LI.tell {P:Program} {N:Nat} {D:Array Oper->List Nat->List Ins->Bool} {i:IC} {env env':Env} {H H':List AO} {K:XE->Env->List AO->Prop} (ht:Tell env H env' H')
 (h:LI P N D i env' H' K):LI P N D i env H K:=by
 intro c hc db S a hH hS he hN hd
 obtain⟨ρ',h1,h2,h3⟩:=ht S a.tmps hH hS he
 exact loopIn_mono (h c hc db ⟨ρ',H',S.w⟩ a rfl h2 h3 hN (hd.ext hS h1)) fun e a w hp=>Post.trans h1 hp
theorem Tell.give {env:Env} {H0 L:List AO} (hcl:closed H0) (k d:Nat) {o:AO} (ho:L[k]? = some o) (hl:o.live=true) :
 Tell env (H0++L) (env.map fun p=>(p.1,p.2.gv (H0.length+k) o.ver o.cells d)) (H0++(L.set k o.dead).map (AO.gv (H0.length+k) o.ver o.cells d)):=by
 intro S tmps hH hS he
 refine⟨_,giv_ext hH ho,giv_sim hS hH hcl ho hl,⟨fun t => ?_⟩⟩
 rw[get_map env (SV.gv (H0.length+k) o.ver o.cells d) (gv_any _ _ _ _)]
 exact giv_rel hS hH ho hl _ _ (he.get t)
end Go.Ab
namespace Go.Ab
variable [GlobEnv] [FrEnv] [KnEnv]
def rws {α:Type} (f:α->List SV):List α->List SV
 | []=>[]
 | x::r=>f x++rws f r
section
variable {α:Type} {f:α->List SV} {sz:Nat}
theorem rws_app (a b:List α):rws f (a++b)=rws f a++rws f b:=by
 induction a with
 | nil=>rfl
 | cons x r ih=>simp[rws,ih]
theorem rws_len (hf:∀ x,(f x).length=sz) (l:List α):(rws f l).length=l.length*sz:=by
 induction l with
 | nil=>simp[rws]
 | cons x r ih=>simp only[rws,List.length_append,hf,ih,List.length_cons]; rw[Nat.succ_mul]; omega
theorem rws_drop (hf:∀ x,(f x).length=sz) (l:List α) (k:Nat) (hk:k≤l.length):(rws f l).drop (k*sz)=rws f (l.drop k):=by
 have e:rws f l=rws f (l.take k)++rws f (l.drop k):=by rw[←rws_app,List.take_append_drop]
 have h:(rws f (l.take k)).length=k*sz:=by rw[rws_len hf,List.length_take,Nat.min_eq_left hk]
 rw[e,List.drop_append_of_le_length (by omega),List.drop_of_length_le (by omega),List.nil_append]
theorem rws_at (hf:∀ x,(f x).length=sz) {l:List α} {k:Nat} (hk:k<l.length):(rws f l).drop (k*sz)=f l[k]++rws f (l.drop (k+1)):=by
 rw[rws_drop hf l k (by omega),List.drop_eq_getElem_cons hk]; rfl
theorem rws_le (hf:∀ x,(f x).length=sz) {l:List α} {k:Nat} (hk:k<l.length):k*sz+sz≤(rws f l).length:=by
 rw[rws_len hf]
 have:=Nat.mul_le_mul_right sz (show k+1≤l.length from hk)
 rw[Nat.succ_mul]at this; exact this
theorem rws_ge (hf:∀ x,(f x).length=sz) {l:List α} {k:Nat} (hk:k<l.length):sz≤(rws f l).length-k*sz:=by have:=rws_le hf hk; omega
theorem rws_min (hf:∀ x,(f x).length=sz) {l:List α} {k:Nat} (hk:k<l.length):min sz ((rws f l).length-k*sz)=sz:=by have:=rws_ge hf hk; omega
theorem rws_under {n:Nat} (h:∀ x,SV.underL n (f x)=true) (l:List α):SV.underL n (rws f l)=true:=by
 induction l with
 | nil=>rfl
 | cons x r ih=>rw[rws,SV.underL_append,h,ih]; rfl
end
theorem objCells_set {H:List AO} {j:Nat} (hj:j<H.length) (c:List SV) (T:TypeId) (v:Nat):objCells (H.set j ⟨c,T,v,true⟩) j v=c:=by
 unfold objCells; rw[List.getElem?_set_self hj]; simp
def SV.le (s s':SV):Prop:=∀ (S:St) (v:Value),VR S s v->VR S s' v
theorem SV.le.refl (s:SV):s.le s:=fun _ _ h=>h
theorem le_nil:SV.le (.val (.slice none 0 0)) (.slc [] 0):=by
 intro S v h; cases h; exact .nilslc
def leL (l l':List SV):Prop:=l.length=l'.length∧∀ (j:Nat) (s s':SV),l[j]? = some s->l'[j]? = some s'->s.le s'
theorem leL.nil:leL [] []:=⟨rfl,fun j s s' h=>by simp at h⟩
theorem leL.refl (l:List SV):leL l l:=⟨rfl,fun j s s' h h'=>by rw[h]at h'; cases h'; exact SV.le.refl s⟩
theorem leL.cons {s s':SV} {l l':List SV} (h:s.le s') (hl:leL l l'):leL (s::l) (s'::l'):=by
 refine⟨by simp[hl.1],fun j a b h1 h2 => ?_⟩
 cases j with
 | zero=>simp at h1 h2; subst h1 h2; exact h
 | succ j=>simp at h1 h2; exact hl.2 j a b h1 h2
theorem leL.vrs {S:St} {l l':List SV} {us:List Value} (h:leL l l') (hv:VRs S l us):VRs S l' us:=by
 refine⟨by rw[hv.1,h.1],fun j s u h1 h2 => ?_⟩
 have hj:j<l.length:=by rw[h.1]; rcases Nat.lt_or_ge j l'.length with h3 | h3; exact h3; rw[List.getElem?_eq_none h3]at h1; cases h1
 exact h.2 j _ _ (List.getElem?_eq_getElem hj) h1 S u (hv.2 j _ u (List.getElem?_eq_getElem hj) h2)
theorem le_slc {l l':List SV} (h:leL l l') (n:Nat):SV.le (.slc l n) (.slc l' n):=by
 intro S v hv
 cases hv with
 | nilslc =>
  have:l'=[]:=List.eq_nil_of_length_eq_zero (by rw[←h.1]; rfl)
  subst this; exact .nilslc
 | slc _ _ a cap us hc hl hi hh =>
  have:=h.vrs ⟨hl,hh⟩
  exact .slc _ _ a cap us hc this.1 hi this.2
theorem le_agg {l l':List SV} (h:leL l l'):SV.le (.agg l) (.agg l'):=by
 intro S v hv
 cases hv with
 | agg _ us hl hh=>have:=h.vrs ⟨hl,hh⟩; exact .agg _ _ this.1 this.2
theorem Ok.le {P:Program} {f:FuncId} {args args':List SV} {H H':List AO} {out:Out} (hle:leL args args') (h:Ok P f args' H out H'):Ok P f args H out H' :=
 ⟨h.1,fun S vs hH hS hv=>h.2 S vs hH hS (hle.vrs hv)⟩
@[simp] theorem objCells_next2 (o:AO) (r:List AO) (a b k ver:Nat):objCells (o::r) (a+(b+(k+1))) ver=objCells r (a+(b+k)) ver:=objCells_next o r (a+(b+k)) ver
@[simp] theorem setObj_next2 (o:AO) (r:List AO) (a b k:Nat) (f:AO->AO):setObj (o::r) (a+(b+(k+1))) f=o::setObj r (a+(b+k)) f:=setObj_next o r (a+(b+k)) f
theorem LI.cong {P:Program} {N:Nat} {D:Array Oper->List Nat->List Ins->Bool} {i:IC} {env:Env} {H H':List AO} {K:XE->Env->List AO->Prop} (e:H'=H) (h:LI P N D i env H' K):LI P N D i env H K:=by rw[←e]; exact h
def Cl (n:Nat) (l:List AO):Prop:=∀ o∈l,∀ s∈o.cells,s.under n=true
theorem Cl.nil (n:Nat):Cl n []:=fun o h=>by simp at h
theorem Cl.cons {n:Nat} {o:AO} {l:List AO} (h:SV.underL n o.cells=true) (hl:Cl n l):Cl n (o::l):=by
 intro p hp
 rcases List.mem_cons.1 hp with rfl | hp
 · exact(SV.underL_iff _ _).1 h
 · exact hl p hp
theorem Cl.app {n:Nat} {a b:List AO} (h:Cl n a) (h':Cl n b):Cl n (a++b):=by
 intro p hp
 rcases List.mem_append.1 hp with hp | hp
 · exact h p hp
 · exact h' p hp
theorem closed_iff {H:List AO}:closed H↔Cl H.length H:=by
 refine⟨fun h o ho s hs => ?_,fun h i o ho s hs=>h o (List.mem_of_getElem? ho) s hs⟩
 obtain⟨i,hi⟩:=List.getElem?_of_mem ho
 exact h i o hi s hs
theorem AO.gv_cl {k ver d n:Nat} {cs:List SV} (hn:n≤k) {l:List AO} (h:Cl n l):l.map (AO.gv k ver cs d)=l:=by
 have:l.map (AO.gv k ver cs d)=l.map id:=List.map_congr_left fun o ho=>by
  show AO.mk _ _ _ _=o
  have:o.cells.map (SV.gv k ver cs d)=o.cells.map id:=List.map_congr_left fun s hs=>gv_under hn d s (h o ho s hs)
  rw[this,List.map_id]
 rw[this,List.map_id]
theorem OkP.cast {P:Program} {f:FuncId} {args args':List SV} {H H':List AO} {Pt:Out->List AO->Prop} (ha:args=args') (hH:H=H') (h:OkP P f args' H' Pt):OkP P f args H Pt:=by subst ha hH; exact h
theorem set_app {α:Type} (a b:List α) (k:Nat) (x:α):(a++b).set (a.length+k) x=a++b.set k x:=by rw[List.set_append_right _ _ (by omega)]; simp
theorem get_app {α:Type} (a b:List α) (k:Nat):(a++b)[a.length+k]? = b[k]? := by rw[List.getElem?_append_right (by omega)]; simp
theorem Cv.le {n0:Nat} {r1 r r':SV} {H1 H':List AO} (h:Cv n0 r1 H1 r H') (hle:r.le r'):Cv n0 r1 H1 r' H':=by
 intro S v hS hsim hv
 obtain⟨ρ,h1,h2,h3⟩:=h S v hS hsim hv
 exact⟨ρ,h1,h2,hle _ _ h3⟩
end Go.Ab
namespace Go.Ab
variable [GlobEnv] [FrEnv] [KnEnv]
namespace IsL
variable {α:Type} {f:α->SV} {H:List AO} {x:SV} {l:List α}
end IsL
def u8 (n:Int):SV:=.val (.int .u8 n)
@[simp] theorem u8_eq (n:Int):SV.val (.int .u8 n)=u8 n:=rfl
section
variable (n:Int)
@[simp] theorem isI_u8 (k:IntKind):SV.isI k (u8 n)=decide (IntKind.u8=k):=rfl
@[simp] theorem isN_u8:SV.isN (u8 n)=true:=rfl
@[simp] theorem int_u8:SV.int (u8 n)=n:=rfl
@[simp] theorem ug_u8:SV.ug (u8 n)=u8 n:=rfl
@[simp] theorem vd_u8:SV.vd (u8 n)=true:=rfl
@[simp] theorem isCell_u8:SV.isCell (u8 n)=true:=rfl
@[simp] theorem flat_u8:SV.flat (u8 n)=[u8 n]:=rfl
@[simp] theorem isPt_u8:SV.isPt (u8 n)=false:=rfl
@[simp] theorem isAg_u8:SV.isAg (u8 n)=false:=rfl
@[simp] theorem isTu_u8:SV.isTu (u8 n)=false:=rfl
@[simp] theorem under_u8 (m:Nat):SV.under m (u8 n)=true:=rfl
@[simp] theorem gv_u8 (k ver:Nat) (cs:List SV) (d:Nat):SV.gv k ver cs d (u8 n)=u8 n:=by cases d<;>rfl
@[simp] theorem strip_u8:(u8 n).strip=u8 n:=rfl
end
theorem le_tup {l l':List SV} (h:leL l l'):SV.le (.tup l) (.tup l'):=by
 intro S v hv
 cases hv with
 | tup _ us hl hh=>have:=h.vrs ⟨hl,hh⟩; exact .tup _ _ this.1 this.2
@[simp] theorem objCells_nS (H L:List AO) (j:Nat) (o:AO) (k ver:Nat):objCells (H.set j o++L) (H.length+k) ver=objCells L k ver:=by
 have:=objCells_new (H:=H.set j o) (L:=L) (k:=k) (ver:=ver); simpa using this
@[simp] theorem objCells_nS0 (H L:List AO) (j:Nat) (o:AO) (ver:Nat):objCells (H.set j o++L) H.length ver=objCells L 0 ver:=objCells_nS H L j o 0 ver
theorem setObj_app (A B:List AO) (k:Nat) (f:AO->AO):setObj (A++B) (A.length+k) f=A++setObj B k f:=by
 unfold setObj
 rw[get_app]
 cases h:B[k]? with
 | none=>rfl
 | some o=>simp only; rw[set_app]
theorem objCells_hS {H:List AO} {j:Nat} (hj:j<H.length) (L:List AO) (c:List SV) (T:TypeId) (v:Nat):objCells (H.set j ⟨c,T,v,true⟩++L) j v=c:=by
 rw[objCells_app L (by simpa using hj)]; exact objCells_set hj c T v
theorem get_hS {H:List AO} {j:Nat} (hj:j<H.length) (L:List AO) (o:AO):(H.set j o++L)[j]? = some o:=by
 rw[List.getElem?_append_left (by simpa using hj),List.getElem?_set_self hj]
theorem setObj_hS {H:List AO} {j:Nat} (hj:j<H.length) (L:List AO) (o:AO) (f:AO->AO):setObj (H.set j o++L) j f=H.set j (f o)++L:=by
 unfold setObj
 rw[get_hS hj]
 simp only
 rw[List.set_append_left _ _ (by simpa using hj),List.set_set]
theorem closed_set {H:List AO} (hcl:closed H) (j:Nat) {o:AO} (hu:SV.underL H.length o.cells=true):closed (H.set j o):=by
 intro i p hp s hs
 rw[List.length_set]
 by_cases e:j=i
 · subst e
   have hj:=getElem?_lt hp
   rw[List.getElem?_set_self (by simpa using hj)]at hp
   cases hp
   exact(SV.underL_iff _ _).1 hu s hs
 · rw[List.getElem?_set_ne e]at hp
   exact hcl i p hp s hs
end Go.Ab
namespace Go.Ab
variable [GlobEnv] [FrEnv] [KnEnv]
section
variable {P:Program}
theorem turned_mark {n0 D:Nat} {w w':World} (h1:n0≤D) (h2:w.heap[D]? = some (Obj.deferred (some []))) (ht:Turned n0 (w.putObj D (.deferred none)) w'):Turned n0 w w':=by
 refine⟨by rw[ht.size]; simp,fun k => ?_,ht.os,ht.tape,ht.output⟩
 by_cases hk:k=D
 · subst hk
   right
   refine⟨h1,h2,?_⟩
   rcases ht.at_ k with h3 | ⟨_,h3,h4⟩
   · exact h3.trans (World.putObj_heap_same (lt_heap h2))
   · exact h4
 · rcases ht.at_ k with h3 | ⟨h3,h4,h5⟩
   · exact .inl (h3.trans (World.putObj_heap_other hk))
   · exact .inr ⟨h3,(World.putObj_heap_other hk).symm.trans h4,h5⟩
theorem turned_refl (n0:Nat) (w:World):Turned n0 w w:=⟨rfl,fun _=>.inl rfl,rfl,rfl,rfl⟩
theorem marks_steps {n0:Nat}:∀ (ms:List Nat) (w:World) (fr:Frame) (cs:List Frame),fr.mode≠.run->fr.defers=ms.map mark->ms.Nodup->(∀ D∈ms,n0≤D∧w.heap[D]? = some (Obj.deferred (some []))) →
 ∃ w',Turned n0 w w'∧StepsIn (Machine.fenced P (Fr none)) P (lone fr cs w) (lone { fr with defers:=[] } cs w')
 | [],w,fr,cs,hm,hd,_,_=>by
  refine⟨w,turned_refl _ _,?_⟩
  have:({ fr with defers:=[] }:Frame)=fr:=by cases fr; simp_all
  rw[this]
  exact StepsIn.refl _
 | D::ms,w,fr,cs,hm,hd,hnd,hms=>by
  rw[List.nodup_cons]at hnd
  obtain⟨h1,h2⟩:=hms D (by simp)
  have hs:=step_collected (P:=P) (cs:=cs) (d:=mark D) (ds:=ms.map mark) hm hd rfl (run_takeDeferred h2)
  have i1:(lone fr cs w).fenced P (Fr none):=fenced_out (n:=0) trivial (fr_room _ _) hm hd (fun g hg=>trivial)
  obtain⟨w',ht,hst⟩:=marks_steps ms (w.putObj D (.deferred none)) { fr with defers:=ms.map mark } cs hm rfl hnd.2 (fun D' hD'=>by
   refine⟨(hms D' (by simp[hD'])).1,?_⟩
   have hne:D'≠D:=fun e=>hnd.1 (e ▸ hD')
   exact(World.putObj_heap_other hne).trans (hms D' (by simp[hD'])).2)
  exact⟨w',turned_mark h1 h2 ht,.head i1 hs hst⟩
def MD (S:St):Option SV->FrameMode->Prop
 | none,u=>u=.returning
 | some x,u=>∃ v,u=.panicking [{ v:=v,recovered:=false }]∧VR S x v
def rvD:Option SV->SV
 | none=>.val .nilIface
 | some x=>x
def OkD (P:Program) (f:FuncId) (args:List SV) (H:List AO) (m:Option SV) (Pt:List AO->Prop):Prop :=
 (∀ (vs:Array Value) (w:World),(callFunc f vs).run P w=.ok (.enter f vs) w) ∧
 ∀ (S:St) (vs:List Value) (u:FrameMode),S.H=H->Sim S->VRs S args vs->MD S m u →
  CallsDIn (Fr none) 0 P f vs.toArray u S.w fun e u' w'=>∃ (v:Value) (H':List AO) (ρ':Nat->Option Nat),e=.returned v∧settle u'=.returning∧Pt H'∧Ext S.H.length S ⟨ρ',H',w'⟩∧Sim ⟨ρ',H',w'⟩
theorem run_recover {o:Oper} (ho:o.op=.call { callee:=.builtin .recover,args := #[],argTypes := #[] }) (ρ:Operand->Value) (w:World):(execOp ρ o).run P w=.ok .recover w:=by
 simp[execOp,ho,resolve,invoke,builtin]
variable {D:Array Oper->List Nat->List Ins->Bool}
theorem okD_of (hD:DOk P D) {f:FuncId} {fn:Func} {rid d:Nat} {ops:Array Oper} {o:Oper} {c2:Code} {insR:List Ins} {i2:IC} {args:List SV} {H:List AO} {m:Option SV} {Pt:List AO->Prop}
 (hf : P.funcs[f]? = some fn) (hb : fn.body = some (.seq (.region rid ops false) c2)) (hname : (fn.name == "runtime.NumGoroutine") = false) (hn : args.length ≤ fn.ntmps) (hr : chkRes P fn.results.toList [] = true)
 (hop:ops[0]? = some o) (ho:o.op=.call { callee:=.builtin .recover,args := #[],argTypes := #[] }) (hg:o.guard=none) (hdst:o.dst=some d) (hd:d<fn.ntmps) (hnd:ndB ops=true)
 (hl:chkL P fn.ntmps ops (ops.toList.drop 1) insR=true) (hc:chkC P fn.ntmps D c2 i2=true)
 (hx:closed H->xops P insR ((argsEnv args).put (some d) (rvD m)) H fun x env H1=>x=.normal∧X P fn.ntmps D i2 env H1 fun x _ H2=>(x=.normal∨x=.ret)∧∃ H',Pt H'∧Cv H.length (.tup []) H2 (.tup []) H'):OkD P f args H m Pt:=by
 refine⟨fun vs w=>Go.MuLone.run_callFunc_enter hf hname hb vs w,?_⟩
 intro S vs u hH hS hvs hmd
 subst hH
 refine⟨trivial,fun c₀ cs hu hroom => ?_⟩
 obtain⟨b,hbk,hbr,hbf,henter⟩:∃ b:Frame,b.kind=.deferred∧b.roundOf=none∧b.fn=f∧Frame.enter P f vs.toArray .deferred=b.atR { tmps:=vs.toArray++Array.replicate (fn.ntmps-vs.toArray.size) undef,defers:=[] } [.code (.seq (.region rid ops false) c2)] :=
  ⟨{ (default:Frame)with fn:=f,kind:=.deferred,roundOf:=none },rfl,rfl,rfl,by simp[Frame.enter,Frame.atR,hf,hb]⟩
 rw[henter]
 have hlen:vs.length=args.length:=hvs.1
 generalize ha0:({ tmps:=vs.toArray++Array.replicate (fn.ntmps-vs.toArray.size) undef,defers:=[] }:Act)=a0
 have hN0:a0.tmps.size=fn.ntmps:=by subst ha0; simp; omega
 have hd0:a0.defers=[]:=by subst ha0; rfl
 have he0:EnvR S (argsEnv args) a0.tmps:=by subst ha0; exact argsEnv_rel hvs _
 have t1:StepsIn (Machine.fenced P (Fr none)) P (lone (b.atR a0 [.code (.seq (.region rid ops false) c2)]) (c₀::cs) S.w) (lone (b.atR a0 (.inRegion ops (List.range ops.size)::[.code c2])) (c₀::cs) S.w) :=
  .head (fr_calm rfl) stepR_seq (.one (fr_calm rfl) stepR_region)
 have hsz:0<ops.size:=by
  rcases Nat.lt_or_ge 0 ops.size with h | h
  · exact h
  · rw[Array.getElem?_eq_none h]at hop; cases hop
 have hrange:List.range ops.size=0::List.range' 1 (ops.size-1):=by
  rw[List.range_eq_range']
  obtain⟨k,hk⟩:∃ k,ops.size=k+1:=⟨ops.size-1,by omega⟩
  rw[hk,List.range'_succ]; simp
 rw[hrange]at t1
 obtain⟨rv,u1,hstep,hset,hvr⟩:∃ (rv:Value) (u1:FrameMode),step P (lone (b.atR a0 (.inRegion ops (0::List.range' 1 (ops.size-1))::[.code c2])) (c₀::cs) S.w) =
  .next (lone (b.atR (a0.put o.dst rv) (.inRegion ops (List.range' 1 (ops.size-1))::[.code c2])) ({ c₀ with mode:=u1 }::cs) S.w)∧settle u1=.returning∧VR S (rvD m) rv:=by
  have hw:Region.wanted o (yielded ops a0.tmps)=true:=by simp[Region.wanted,hg]
  have hgs:=stepGR_op (P:=P) (b:=b) (a:=a0) (k:=[.code c2]) (cs:=c₀::cs) (w:=S.w) (rest:=List.range' 1 (ops.size-1)) hop hw
  rw[hbr,Oper.semAt_none]at hgs
  have hfin:∀ v,(b.atR a0 (.inRegion ops (0::List.range' 1 (ops.size-1))::[.code c2])).finish v=b.atR (a0.put o.dst v) (.inRegion ops (List.range' 1 (ops.size-1))::[.code c2]):=by
   intro v; rw[Frame.finish_atR,hop]; rfl
  have hk:(b.atR a0 (.inRegion ops (0::List.range' 1 (ops.size-1))::[.code c2])).kind=.deferred:=hbk
  have htr:=tryRecover_deferred hk (c₀::cs)
  have hrun:=run_recover (P:=P) ho a0.eval S.w
  cases m with
  | none =>
   have hu':u=.returning:=hmd
   subst hu'
   refine⟨.nilIface,.returning,?_,rfl,.val _⟩
   have hc0:({ c₀ with mode:=.returning }:Frame)=c₀:=by cases c₀; simp_all
   rw[hc0]
   have hrec:recoverD (c₀::cs)=none:=by simp[recoverD,hu]
   refine step_lone_go ?_
   rw[hgs,<- hfin]
   simp only[Frame.atR,hbr]at htr ⊢
   simp[stepG.apply,hrun,htr,hrec]
  | some x =>
   obtain⟨v,rfl,hv⟩:=hmd
   refine⟨v,.panicking [{ v:=v,recovered:=true }],?_,rfl,hv⟩
   have hrec:recoverD (c₀::cs)=some (v,{ c₀ with mode:=.panicking [{ v:=v,recovered:=true }] }::cs):=by simp[recoverD,hu]
   refine step_lone_go ?_
   rw[hgs,<- hfin]
   simp only[Frame.atR,hbr]at htr ⊢
   simp[stepG.apply,hrun,htr,hrec]
 have t2:=t1.trans (.one (fenced_oper (n:=0) trivial (fr_room _ _) hop (fun f _=>trivial)) hstep)
 generalize hcc:({ c₀ with mode:=u1 }::cs:List Frame)=cc at t2
 have hlt':∀ t,o.dst=some t->t<a0.tmps.size:=by intro t ht; rw[hdst]at ht; cases ht; rw[hN0]; exact hd
 have he1:EnvR S ((argsEnv args).put (some d) (rvD m)) (a0.put o.dst rv).tmps:=by
  have:=he0.put hlt' hvr
  rwa [hdst]at this ⊢
 have hdb:(⟨S.w.heap.size,[],none⟩:DB).Ok S.w (a0.put o.dst rv).defers:=by
  rw[put_defers,hd0]
  exact⟨Nat.le_refl _,⟨[],rfl,List.nodup_nil,fun D hD=>by simp at hD⟩,fun l h=>by cases h⟩
 have hwl:=xops_sound (d:=⟨S.w.heap.size,[],none⟩) (ops:=ops) (ops.toList.drop 1) insR hS he1 (by rw[put_size,hN0]) hdb hl (hx hS.closed)
 have hlen2:(ops.toList.drop 1).length=ops.size-1:=by simp
 have heq:=wpOps_eq_wpList (P:=P) (ops:=ops) (Q:=Post S fn.ntmps ⟨S.w.heap.size,[],none⟩ fun x env H1=>x=.normal∧X P fn.ntmps D i2 env H1 fun x _ H2=>(x=.normal∨x=.ret)∧∃ H',Pt H'∧Cv S.H.length (.tup []) H2 (.tup []) H') (ops.toList.drop 1) 1 (fun j=>by rw[List.getElem?_drop]; simp)
 rw[←heq,hlen2]at hwl
 obtain⟨e1,a1,w1,hq1,harr1⟩:=wp_opsIn _ _ _ (opsIn_of hnd none _ _ _ hwl) b [.code c2] cc hbr trivial (fr_room _ _)
 obtain⟨x1,env1,ρ1,H1,g1,g2,g3,g4,g5,g6,hx1,g7⟩:=hq1
 subst hx1
 cases e1<;>simp only[ER]at g1
 have t3:=t2.trans harr1
 obtain⟨e2,a2,w2,hq2,harr2⟩:=X_sound hD i2 hc g7 ⟨S.w.heap.size,[],none⟩ ⟨ρ1,H1,w1⟩ a1 rfl g3 g4 g5 g6 b [] cc hbr trivial (fr_room _ _)
 obtain⟨x2,env2,ρ2,H2,k1,k2,k3,k4,k5,k6,hx2,H',hpt,hcv⟩:=hq2
 obtain⟨ms,m1,m2,m3⟩:=k6.ms
 simp only[List.append_nil]at m1
 have hfinal:∃ todo,StepsIn (Machine.fenced P (Fr none)) P (lone (b.atR a0 [.code (.seq (.region rid ops false) c2)]) (c₀::cs) S.w) (lone { b.atR a2 todo with mode:=.returning } cc w2):=by
  rcases hx2 with rfl | rfl
  · cases e2<;>simp only[ER]at k1
    exact⟨[],t3.trans (StepsIn.trans harr2 (.one (fr_calm rfl) (stepR_end hbr)))⟩
  · cases e2<;>simp only[ER]at k1
    obtain⟨todo,hs⟩:=harr2.1 hbr
    exact⟨todo,t3.trans hs⟩
 obtain⟨todo,t4⟩:=hfinal
 obtain⟨w3,ht,t5⟩:=marks_steps (P:=P) (n0:=S.w.heap.size) ms w2 { b.atR a2 todo with mode:=.returning } cc (by simp) m1 m2 m3
 have hS2:=turned_sim ht k3
 have hE2:EnvR ⟨ρ2,H2,w3⟩ env2 a2.tmps:=⟨fun t=>(k4.get t).extV (turned_extV ht) (.inl rfl)⟩
 obtain⟨v,h3,h4⟩:=run_results (P:=P) (S:=⟨ρ2,H2,w3⟩) (rs:=[]) hS2 hE2 hr (fun s hs=>by simp at hs)
 obtain⟨ρ',h5,h6,_⟩:=hcv ⟨ρ2,H2,w3⟩ v rfl hS2 h4
 subst hcc
 refine⟨.returned v,u1,w3,_,⟨v,H',ρ',rfl,hset,hpt,?_,h6⟩,t4.trans t5,hbk,hbf,rfl,rfl,fn,by rw[show({ b.atR a2 todo with mode:=.returning,defers:=[] }:Frame).fn=f from hbf]; exact hf,h3⟩
 exact(turned_ext ht (g2.trans (k2.mono (g2.len (Nat.le_refl _)))) (Nat.le_refl _)).trans h5
theorem marks_leave2 {fn:Func} {tmps:Array Value} {R:Ending->World->Prop} {n0:Nat} {u:FrameMode} {ds:List Deferred} (hu:u≠.run):∀ (ms:List Nat) (w:World),ms.Nodup->(∀ D∈ms,n0≤D∧w.heap[D]? = some (Obj.deferred (some []))) →
 (∀ w',Turned n0 w w'->LeavesInM (Fr none) 0 P fn tmps R ds u w')->LeavesInM (Fr none) 0 P fn tmps R (ms.map mark++ds) u w
 | [],w,_,_,h=>h w (turned_refl _ _)
 | D::ms,w,hnd,hms,h=>by
  rw[List.nodup_cons]at hnd
  obtain⟨h1,h2⟩:=hms D (by simp)
  refine⟨hu,.inl ⟨D,_,rfl,run_takeDeferred h2,?_⟩⟩
  refine marks_leave2 hu ms _ hnd.2 (fun D' hD'=>⟨(hms D' (by simp[hD'])).1,?_⟩) fun w' ht=>h w' (turned_mark h1 h2 ht)
  have hne:D'≠D:=fun e=>hnd.1 (e ▸ hD')
  exact(World.putObj_heap_other hne).trans (hms D' (by simp[hD'])).2
def FinD (P:Program) (n0:Nat) (rs:List RS) (Pt:Out->List AO->Prop) (k:FuncId) (cap:List SV) (x:XE) (env:Env) (H1:List AO):Prop :=
 match x with
 | .normal=>∃ Pd,OkD P k cap H1 none Pd∧∀ H4,Pd H4->(∀ s∈rs,s.side env H4)∧FinQ n0 Pt (resV env H4 rs) H4
 | .ret=>∃ Pd,OkD P k cap H1 none Pd∧∀ H4,Pd H4->(∀ s∈rs,s.side env H4)∧FinQ n0 Pt (resV env H4 rs) H4
 | .panic y=>∃ Pd,OkD P k cap H1 (some y) Pd∧∀ H4,Pd H4->(∀ s∈rs,s.side env H4)∧FinQ n0 Pt (resV env H4 rs) H4
 | _=>False
end
def chkRc (P:Program) (D:Array Oper->List Nat->List Ins->Bool) (fn:Func) (d:Nat) (insR:List Ins) (i2:IC):Bool :=
 (match fn.body with
  | some (.seq (.region _ ops false) c2) =>
    (match ops.toList with
     | o::r=>(match o.op with | .call { callee:=.builtin .recover,args:=as,argTypes:=ts }=>as.isEmpty&&ts.isEmpty | _=>false)&&(o.guard.isNone&&(o.dst==some d&&(decide (d<fn.ntmps)&&(ndB ops&&(chkL P fn.ntmps ops r insR&&chkC P fn.ntmps D c2 i2)))))
     | _=>false)
  | _ => false) && !(fn.name == "runtime.NumGoroutine") && chkRes P fn.results.toList [] && decide (fn.params.size + fn.nfree ≤ fn.ntmps)
theorem okD_rc {P:Program} (hm:P.follows .mixedOrders=true) {f:FuncId} {fn:Func} {d:Nat} {insR:List Ins} {i2:IC} (hf:P.funcs[f]? = some fn) (hc:chkRc P drawB fn d insR i2=true)
 {args:List SV} {H:List AO} {m:Option SV} {Pt:List AO->Prop} (hn:args.length=fn.params.size+fn.nfree)
 (hx:closed H->xops P insR ((argsEnv args).put (some d) (rvD m)) H fun x env H1=>x=.normal∧X P fn.ntmps drawB i2 env H1 fun x _ H2=>(x=.normal∨x=.ret)∧∃ H',Pt H'∧Cv H.length (.tup []) H2 (.tup []) H'):OkD P f args H m Pt:=by
 unfold chkRc at hc
 rw[Bool.and_eq_true,Bool.and_eq_true,Bool.and_eq_true]at hc
 obtain⟨⟨⟨h1,h2⟩,h3⟩,h4⟩:=hc
 split at h1
 · rename_i rid ops c2 hb
   split at h1
   · rename_i o r hops
     simp only[Bool.and_eq_true,beq_iff_eq,decide_eq_true_eq]at h1
     obtain⟨k1,k2,k3,k4,k5,k6,k7⟩:=h1
     split at k1
     · rename_i as ts ho
       simp only[Bool.and_eq_true,Array.isEmpty_iff]at k1
       obtain⟨rfl,rfl⟩:=k1
       have h0:ops[0]? = some o:=by rw[←Array.getElem?_toList,hops]; rfl
       refine okD_of (draw_ok hm) hf hb (by simpa using h2) (by rw[hn]; simpa using h4) h3 h0 ho (by simpa using k2) k3 k4 k5 ?_ k7 hx
       rw[hops]; exact k6
     · cases k1
   · cases h1
 · cases h1
end Go.Ab
namespace Go.Ab
variable [GlobEnv] [FrEnv] [KnEnv]
set_option linter.unusedSectionVars false
def WF (P:Program) (N:Nat) (c:Code) (ts:List Nat) (env:Env) (H:List AO) (K:XE->Env->List AO->Prop):Prop :=
 ∀ (db:DB) (S:St) (a:Act),S.H=H->Sim S->EnvR S env a.tmps->a.tmps.size=N->db.Ok S.w a.defers →
  c.wq db.ro P (fun e a' w=>Post S N db K e a' w∧∀ t∈ts,a'.tmps.getD t undef=a.tmps.getD t undef) a S.w
end Go.Ab
namespace Go.Ab
def IC.tl:Nat->IC->IC
 | 0,a=>a
 | k+1,.seq _ b=>IC.tl k b
 | _,a=>a
end Go.Ab
namespace Go.Ab
variable [GlobEnv] [FrEnv] [KnEnv]
section
variable {P:Program} {D:Array Oper->List Nat->List Ins->Bool}
theorem defer_rest (hD:DOk P D) {fn:Func} {cb:Code} {rid:Nat} {o1 od:Oper} {f':Operand} {fo:Od} {ib:IC} {ins1:Ins} {rs:List RS} {Pt:Out->List AO->Prop}
 (hr:chkRes P fn.results.toList rs=true)
 (ho1:chkIns P fn.ntmps #[o1,od] o1 ins1=true) (hnd1:∀ c,o1.op≠.defer c) (hod:od.op=.defer { callee:=.value f',args := #[],argTypes := #[] }) (hog:od.guard=none) (hdst:od.dst=none) (hfo:chkOd f' fo=true)
 (hcb:chkC P fn.ntmps D cb ib=true) {S:St} {a1:Act} {w1:World} {env1:Env} {ρ1:Nat->Option Nat} {H1:List AO}
 (g2:Ext S.H.length S ⟨ρ1,H1,w1⟩) (g3:Sim ⟨ρ1,H1,w1⟩) (g4:EnvR ⟨ρ1,H1,w1⟩ env1 a1.tmps) (g5:a1.tmps.size=fn.ntmps) (g6:(⟨S.w.heap.size,[],none⟩:DB).Ok w1 a1.defers)
 (g7:xo P ins1 env1 H1 fun x env2 H2=>x=.normal∧(env2.ev fo).vd=true∧∃ k cap,(env2.ev fo).ug=.fn (.func k) [] cap∧X P fn.ntmps D ib env2 H2 (FinD P S.H.length rs Pt k cap)) :
 (Code.seq (.region rid #[o1,od] false) cb).wpIn (Fr none) 0 P (bodyPostM (Fr none) 0 P fn (fun e w'=>∃ (out:Out) (H':List AO) (v:Value) (ρ':Nat->Option Nat),Pt out H'∧Ext S.H.length S ⟨ρ',H',w'⟩∧Sim ⟨ρ',H',w'⟩ ∧
  match out with
  | .ret r=>e=.returned v∧VR ⟨ρ',H',w'⟩ r v
  | .pan x=>e=.panicked [{ v:=v,recovered:=false }]∧VR ⟨ρ',H',w'⟩ x v)) a1 w1:=by
 refine wpIn_seq ?_
 refine wpIn_region ?_
 have hstep:=xo_sound (d:=⟨S.w.heap.size,[],none⟩) (N:=fn.ntmps) g3 g4 g5 g6 (ops := #[o1,od]) ho1 g7
  (next:=wpOpsIn (Fr none) 0 P #[o1,od] (Exit.then (cb.wpIn (Fr none) 0 P (bodyPostM (Fr none) 0 P fn fun e w'=>∃ (out:Out) (H':List AO) (v:Value) (ρ':Nat->Option Nat),Pt out H'∧Ext S.H.length S ⟨ρ',H',w'⟩∧Sim ⟨ρ',H',w'⟩ ∧
   match out with
   | .ret r=>e=.returned v∧VR ⟨ρ',H',w'⟩ r v
   | .pan x=>e=.panicked [{ v:=v,recovered:=false }]∧VR ⟨ρ',H',w'⟩ x v)) (bodyPostM (Fr none) 0 P fn fun e w'=>∃ (out:Out) (H':List AO) (v:Value) (ρ':Nat->Option Nat),Pt out H'∧Ext S.H.length S ⟨ρ',H',w'⟩∧Sim ⟨ρ',H',w'⟩ ∧
   match out with
   | .ret r=>e=.returned v∧VR ⟨ρ',H',w'⟩ r v
   | .pan x=>e=.panicked [{ v:=v,recovered:=false }]∧VR ⟨ρ',H',w'⟩ x v)) [1])
  (Q:=Exit.then (cb.wpIn (Fr none) 0 P (bodyPostM (Fr none) 0 P fn fun e w'=>∃ (out:Out) (H':List AO) (v:Value) (ρ':Nat->Option Nat),Pt out H'∧Ext S.H.length S ⟨ρ',H',w'⟩∧Sim ⟨ρ',H',w'⟩ ∧
   match out with
   | .ret r=>e=.returned v∧VR ⟨ρ',H',w'⟩ r v
   | .pan x=>e=.panicked [{ v:=v,recovered:=false }]∧VR ⟨ρ',H',w'⟩ x v)) (bodyPostM (Fr none) 0 P fn fun e w'=>∃ (out:Out) (H':List AO) (v:Value) (ρ':Nat->Option Nat),Pt out H'∧Ext S.H.length S ⟨ρ',H',w'⟩∧Sim ⟨ρ',H',w'⟩ ∧
   match out with
   | .ret r=>e=.returned v∧VR ⟨ρ',H',w'⟩ r v
   | .pan x=>e=.panicked [{ v:=v,recovered:=false }]∧VR ⟨ρ',H',w'⟩ x v)) ?_ ?_
 · -- the two operations
   show wpOpsIn (Fr none) 0 P #[o1,od] _ [0,1] a1 w1
   simp only[wpOpsIn]
   have e0:(#[o1,od]:Array Oper)[0]? = some o1:=rfl
   simp only[e0]
   unfold StepOf at hstep
   split
   · rename_i hw
     rw[if_pos hw]at hstep
     exact⟨fun _ _=>trivial,hstep⟩
   · rename_i hw
     rw[if_neg hw]at hstep
     exact⟨fun _ _=>trivial,hstep⟩
 · -- the deferred call is laid down; the rest
   rintro a2 w2 ⟨x2,env2,ρ2,H2,k1,k2,k3,k4,k5,k6,hx2,hvd,k,cap,hug,k7⟩
   subst hx2
   have hfv:=(chkOd_spec hfo k4).ug hvd
   rw[hug]at hfv
   obtain⟨us,cs,hv,hus,hcs⟩:=hfv.fn_inv
   have hus0:us=[]:=by have:=hus.1; simpa using this
   subst hus0
   obtain⟨ms1,m1,m2,m3⟩:=k6.ms
   simp only[List.append_nil]at m1
   simp only[wpOpsIn]
   have e1:(#[o1,od]:Array Oper)[1]? = some od:=rfl
   simp only[e1]
   have hw:Region.wanted od (yielded #[o1,od] a2.tmps)=true:=by simp[Region.wanted,hog]
   rw[if_pos hw]
   refine⟨fun _ _=>trivial,?_⟩
   have hrun:(od.semAt (Fr none).round a2.eval).run P w2=.ok (.defer { target:=.fn (.func k) cs.toArray,args := #[] }) w2:=by
    show(od.semAt none a2.eval).run P w2=_
    rw[Oper.semAt_none]
    simp[execOp,hod,resolve,hv,Deferred.ofValue]
   rw[hrun,Oper.uponIn_defer]
   have hput:({ a2 with defers:={ target:=.fn (.func k) cs.toArray,args := #[] }::a2.defers }:Act).put od.dst undef={ a2 with defers:={ target:=.fn (.func k) cs.toArray,args := #[] }::a2.defers }:=by rw[hdst]; rfl
   rw[hput]
   show cb.wpIn _ _ _ _ _ _
   have hwb:=X_sound hD ib hcb k7 ⟨w2.heap.size,{ target:=.fn (.func k) cs.toArray,args := #[] }::ms1.map mark,none⟩ ⟨ρ2,H2,w2⟩ { a2 with defers:={ target:=.fn (.func k) cs.toArray,args := #[] }::a2.defers } rfl k3 k4 k5 ⟨Nat.le_refl _,⟨[],by simp[m1],List.nodup_nil,fun D hD=>by simp at hD⟩,fun l h=>by cases h⟩
   refine wq_mono hwb ?_
   rintro e3 a3 w3 ⟨x3,env3,ρ3,H3,q1,q2,q3,q4,q5,q6,q7⟩
   obtain⟨ms3,n1,n2,n3⟩:=q6.ms
   have hE0:Ext S.H.length S ⟨ρ3,H3,w3⟩:=(g2.trans (k2.mono (g2.len (Nat.le_refl _)))).trans (q2.mono ((g2.trans (k2.mono (g2.len (Nat.le_refl _)))).len (Nat.le_refl _)))
   have hdb1:(⟨S.w.heap.size,[],none⟩:DB).Ok w2 (ms1.map mark):=⟨k6.le,⟨ms1,by simp,m2,m3⟩,fun l h=>by cases h⟩
   have main:∀ (m:Option SV) (u:FrameMode) (Pd:List AO->Prop),u≠.run->MD ⟨ρ3,H3,w3⟩ m u->OkD P k cap H3 m Pd->(∀ H4,Pd H4->(∀ s∈rs,s.side env3 H4)∧FinQ S.H.length Pt (resV env3 H4 rs) H4) →
    LeavesInM (Fr none) 0 P fn a3.tmps (fun e w'=>∃ (out:Out) (H':List AO) (v:Value) (ρ':Nat->Option Nat),Pt out H'∧Ext S.H.length S ⟨ρ',H',w'⟩∧Sim ⟨ρ',H',w'⟩ ∧
     match out with
     | .ret r=>e=.returned v∧VR ⟨ρ',H',w'⟩ r v
     | .pan x=>e=.panicked [{ v:=v,recovered:=false }]∧VR ⟨ρ',H',w'⟩ x v) a3.defers u w3:=by
    intro m u Pd hu hmd hok hres
    rw[n1]
    refine marks_leave2 hu ms3 w3 n2 n3 fun w4 ht => ?_
    have hS4:=turned_sim ht q3
    have hE4:=turned_ext ht hE0 (g2.trans (k2.mono (g2.len (Nat.le_refl _)))).size
    have hcs4:VRs ⟨ρ3,H3,w4⟩ cap cs:=⟨hcs.1,fun j s u h1 h2=>((hcs.2 j s u h1 h2).extV q2.v (.inl rfl)).extV (turned_extV ht) (.inl rfl)⟩
    have hmd4:MD ⟨ρ3,H3,w4⟩ m u:=by
     cases m with
     | none=>exact hmd
     | some y=>obtain⟨v,h1,h2⟩:=hmd; exact⟨v,h1,h2.extV (turned_extV ht) (.inl rfl)⟩
    refine⟨hu,.inr ⟨fr_one,.func k,cs.toArray,k,cs.toArray,rfl,?_,fun g hg=>trivial,?_⟩⟩
    · simp only[invoke]
      have:=hok.1 cs.toArray w4
      simpa using this
    · refine(hok.2 ⟨ρ3,H3,w4⟩ cs u rfl hS4 hcs4 hmd4).mono ?_
      rintro e5 u5 w5 ⟨v5,H5,ρ5,rfl,hset,hpd,hext5,hsim5⟩
      obtain⟨r1,r2⟩:=hres H5 hpd
      show LeavesInM _ _ _ _ _ _ (ms1.map mark) (settle u5) w5
      rw[hset]
      have hdb3:=hdb1.ext (S:=⟨ρ2,H2,w2⟩) (S':=⟨ρ3,H3,w3⟩) k3 q2
      have hdb4:(⟨S.w.heap.size,[],none⟩:DB).Ok w4 (ms1.map mark):=by
       refine⟨by rw[ht.size]; exact hdb3.le,⟨ms1,by simp,m2,fun D hD=>⟨(m3 D hD).1,?_⟩⟩,fun l h=>by cases h⟩
       have h1:=lt_heap (m3 D hD).2
       have h2:w3.heap[D]? = some (Obj.deferred (some [])):=by
        have h4:=(m3 D hD).2
        refine((q2.imm D (lt_heap h4) ?_).1).trans h4
        rintro⟨i,o,ho,hl,hρ⟩
        rcases k3.own ho hl hρ with ⟨c,h5⟩ | ⟨r,h5⟩ | ⟨es,cl,h5⟩<;>(rw[h4]at h5; cases h5)
       rcases ht.at_ D with h3 | ⟨h3,_,_⟩
       · exact h3.trans h2
       · exact absurd (Nat.lt_of_lt_of_le h1 h3) (Nat.lt_irrefl _)
      have hdb5:=hdb4.ext (S:=⟨ρ3,H3,w4⟩) (S':=⟨ρ5,H5,w5⟩) hS4 hext5
      obtain⟨ms5,j1,j2,j3⟩:=hdb5.ms
      have hE5:Ext S.H.length S ⟨ρ5,H5,w5⟩:=hE4.trans (hext5.mono (hE4.len (Nat.le_refl _)))
      have hEnv5:EnvR ⟨ρ5,H5,w5⟩ env3 a3.tmps:=EnvR.ext (S:=⟨ρ3,H3,w4⟩) ⟨fun t=>(q4.get t).extV (turned_extV ht) (.inl rfl)⟩ hext5
      rw[j1]
      simp only[List.append_nil]
      refine marks_leave (by simp) ms5 w5 j2 j3 fun w6 ht6 => ?_
      obtain⟨v,h3,h4⟩:=run_results (P:=P) (S:=⟨ρ5,H5,w6⟩) (turned_sim ht6 hsim5) ⟨fun t=>(hEnv5.get t).extV (turned_extV ht6) (.inl rfl)⟩ hr r1
      obtain⟨r,H',hp,h2⟩:=r2
      obtain⟨ρ',h5,h6,h7⟩:=h2 ⟨ρ5,H5,w6⟩ v rfl (turned_sim ht6 hsim5) h4
      exact⟨v,h3,.ret r,H',v,ρ',hp,(turned_ext ht6 hE5 (Nat.le_refl _)).trans h5,h6,rfl,h7⟩
   cases x3<;>cases e3<;>simp only[ER]at q1
   · obtain⟨Pd,y1,y2⟩:=q7
     exact main none .returning Pd (by simp) rfl y1 y2
   · exact q7.elim
   · exact q7.elim
   · obtain⟨Pd,y1,y2⟩:=q7
     exact main none .returning Pd (by simp) rfl y1 y2
   · obtain⟨Pd,y1,y2⟩:=q7
     obtain⟨v,rfl,hv⟩:=q1
     exact main (some _) (.panicking [{ v:=v,recovered:=false }]) Pd (by simp) ⟨v,rfl,hv⟩ y1 y2
 · rintro ch a' w' ⟨x2,env2,ρ2,H2,k1,k2,k3,k4,k5,k6,hx2,_⟩
   subst hx2
   simp[ER]at k1
def XL (P:Program) (N:Nat) (D:Array Oper->List Nat->List Ins->Bool):List IC->Env->List AO->(XE->Env->List AO->Prop)->Prop
 | [],env,H,K=>K .normal env H
 | i::r,env,H,K=>X P N D i env H fun x env H=>match x with
  | .normal=>XL P N D r env H K
  | x=>K x env H
def chkDp (P:Program) (N:Nat) (D:Array Oper->List Nat->List Ins->Bool) (k:Code->Bool):List IC->Code->Bool
 | [],c=>k c
 | i::r,.seq a b=>chkC P N D a i&&chkDp P N D k r b
 | _,_=>false
def FinE (P:Program) (n0:Nat) (rs:List RS) (Pt:Out->List AO->Prop) (nx:Env->List AO->Prop) (x:XE) (env:Env) (H:List AO):Prop :=
 match x with
 | .normal=>nx env H
 | .ret=>(∀ s∈rs,s.side env H)∧FinQ n0 Pt (resV env H rs) H
 | _=>False
theorem defer_pre (hD:DOk P D) {fn:Func} {rs:List RS} {Pt:Out->List AO->Prop} (hr:chkRes P fn.results.toList rs=true) {kk:Code->Bool} {nx:Env->List AO->Prop} {S:St}
 (hk:∀ c,kk c=true->∀ (a1:Act) (w1:World) (env1:Env) (ρ1:Nat->Option Nat) (H1:List AO),Ext S.H.length S ⟨ρ1,H1,w1⟩->Sim ⟨ρ1,H1,w1⟩->EnvR ⟨ρ1,H1,w1⟩ env1 a1.tmps->a1.tmps.size=fn.ntmps->(⟨S.w.heap.size,[],none⟩:DB).Ok w1 a1.defers->nx env1 H1 →
  c.wpIn (Fr none) 0 P (bodyPostM (Fr none) 0 P fn (fun e w'=>∃ (out:Out) (H':List AO) (v:Value) (ρ':Nat->Option Nat),Pt out H'∧Ext S.H.length S ⟨ρ',H',w'⟩∧Sim ⟨ρ',H',w'⟩ ∧
  match out with
  | .ret r=>e=.returned v∧VR ⟨ρ',H',w'⟩ r v
  | .pan x=>e=.panicked [{ v:=v,recovered:=false }]∧VR ⟨ρ',H',w'⟩ x v)) a1 w1) :
 ∀ (ias:List IC) (c:Code) (a1:Act) (w1:World) (env1:Env) (ρ1:Nat->Option Nat) (H1:List AO),chkDp P fn.ntmps D kk ias c=true->Ext S.H.length S ⟨ρ1,H1,w1⟩->Sim ⟨ρ1,H1,w1⟩->EnvR ⟨ρ1,H1,w1⟩ env1 a1.tmps->a1.tmps.size=fn.ntmps →
  (⟨S.w.heap.size,[],none⟩:DB).Ok w1 a1.defers->XL P fn.ntmps D ias env1 H1 (FinE P S.H.length rs Pt nx) →
  c.wpIn (Fr none) 0 P (bodyPostM (Fr none) 0 P fn (fun e w'=>∃ (out:Out) (H':List AO) (v:Value) (ρ':Nat->Option Nat),Pt out H'∧Ext S.H.length S ⟨ρ',H',w'⟩∧Sim ⟨ρ',H',w'⟩ ∧
  match out with
  | .ret r=>e=.returned v∧VR ⟨ρ',H',w'⟩ r v
  | .pan x=>e=.panicked [{ v:=v,recovered:=false }]∧VR ⟨ρ',H',w'⟩ x v)) a1 w1:=by
 intro ias
 induction ias with
 | nil=>exact fun c a1 w1 env1 ρ1 H1 hc g2 g3 g4 g5 g6 hx=>hk c hc a1 w1 env1 ρ1 H1 g2 g3 g4 g5 g6 hx
 | cons i r ih =>
  intro c a1 w1 env1 ρ1 H1 hc g2 g3 g4 g5 g6 hx
  cases c<;>simp only[chkDp,Bool.false_eq_true,Bool.and_eq_true]at hc
  rename_i ca cb
  have hwa:=X_sound hD i hc.1 hx ⟨S.w.heap.size,[],none⟩ ⟨ρ1,H1,w1⟩ a1 rfl g3 g4 g5 g6
  refine wpIn_seq (wq_mono hwa ?_)
  rintro e2 a2 w2 ⟨x,env2,ρ2,H2,k1,k2,k3,k4,k5,k6,k7⟩
  have hE:Ext S.H.length S ⟨ρ2,H2,w2⟩:=g2.trans (k2.mono (g2.len (Nat.le_refl _)))
  cases x<;>cases e2<;>simp only[ER]at k1
  · exact ih cb a2 w2 env2 ρ2 H2 hc.2 hE k3 k4 k5 k6 k7
  all_goals first | exact k7.elim | skip
  obtain⟨r1,r2⟩:=k7
  obtain⟨ms,m1,m2,m3⟩:=k6.ms
  simp only[List.append_nil]at m1
  show LeavesInM (Fr none) 0 P fn a2.tmps _ a2.defers .returning w2
  rw[m1]
  refine marks_leave (by simp) ms w2 m2 m3 fun w6 ht6 => ?_
  obtain⟨v,h3,h4⟩:=run_results (P:=P) (S:=⟨ρ2,H2,w6⟩) (turned_sim ht6 k3) ⟨fun t=>(k4.get t).extV (turned_extV ht6) (.inl rfl)⟩ hr r1
  obtain⟨r,H',hp,h2⟩:=r2
  obtain⟨ρ',h5,h6,h7⟩:=h2 ⟨ρ2,H2,w6⟩ v rfl (turned_sim ht6 k3) h4
  exact⟨v,h3,.ret r,H',v,ρ',hp,(turned_ext ht6 hE (Nat.le_refl _)).trans h5,h6,rfl,h7⟩
def chkDq (P:Program) (D:Array Oper->List Nat->List Ins->Bool) (fn:Func) (ins1:Ins) (fo:Od) (ib:IC):Code->Bool
 | .seq (.region _ ops false) cb =>
  (match ops.toList with
   | [o1,od]=>chkIns P fn.ntmps ops o1 ins1&&((match o1.op with | .defer _=>false | _=>true)&&((match od.op with | .defer { callee:=.value f',args:=as,argTypes:=ts }=>as.isEmpty&&(ts.isEmpty&&chkOd f' fo) | _=>false) &&
    (od.guard.isNone&&(od.dst.isNone&&chkC P fn.ntmps D cb ib))))
   | _=>false)
 | _=>false
def chkDs (P:Program) (D:Array Oper->List Nat->List Ins->Bool) (fn:Func) (ias:List IC) (ins1:Ins) (fo:Od) (ib:IC) (rs:List RS):Bool :=
 (match fn.body with
  | some c=>chkDp P fn.ntmps D (chkDq P D fn ins1 fo ib) ias c
  | none => false) && !(fn.name == "runtime.NumGoroutine") && chkRes P fn.results.toList rs && decide (fn.params.size + fn.nfree ≤ fn.ntmps)
theorem okP_ds {P:Program} (hm:P.follows .mixedOrders=true) {f:FuncId} {fn:Func} {ias:List IC} {ib:IC} {ins1:Ins} {fo:Od} {rs:List RS} (hf:P.funcs[f]? = some fn) (hc:chkDs P drawB fn ias ins1 fo ib rs=true)
 {args:List SV} {H:List AO} {Pt:Out->List AO->Prop} (hn:args.length=fn.params.size+fn.nfree)
 (hx:closed H->XL P fn.ntmps drawB ias (argsEnv args) H (FinE P H.length rs Pt fun env1 H1=>xo P ins1 env1 H1 fun x env2 H2=>x=.normal∧(env2.ev fo).vd=true∧∃ k cap,(env2.ev fo).ug=.fn (.func k) [] cap∧X P fn.ntmps drawB ib env2 H2 (FinD P H.length rs Pt k cap))):OkP P f args H Pt:=by
 unfold chkDs at hc
 rw[Bool.and_eq_true,Bool.and_eq_true,Bool.and_eq_true]at hc
 obtain⟨⟨⟨h1,h2⟩,h3⟩,h4⟩:=hc
 split at h1
 · rename_i c hb
   refine⟨fun vs w=>Go.MuLone.run_callFunc_enter hf (by simpa using h2) hb vs w,?_⟩
   intro S vs hH hS hvs
   subst hH
   refine callsIn_wide.1 (callsIn_of_wp_marks (F:=Fr none) (n:=0) hf hb trivial ?_)
   have hl:vs.length=args.length:=hvs.1
   have h4:args.length≤fn.ntmps:=by rw[hn]; simpa using h4
   refine defer_pre (draw_ok hm) h3 (kk:=chkDq P drawB fn ins1 fo ib) (nx:=_) ?_ ias c ⟨vs.toArray++Array.replicate (fn.ntmps-vs.toArray.size) undef,[]⟩ S.w (argsEnv args) S.ρ S.H h1 (Ext.refl _ _) hS (argsEnv_rel hvs _) (by simp; omega) ⟨Nat.le_refl _,⟨[],rfl,List.nodup_nil,fun D hD=>by simp at hD⟩,fun l h=>by cases h⟩ (hx hS.closed)
   intro c hc a1 w1 env1 ρ1 H1 g2 g3 g4 g5 g6 g7
   unfold chkDq at hc
   split at hc
   · rename_i rid ops cb
     split at hc
     · rename_i o1 od hops
       simp only[Bool.and_eq_true]at hc
       obtain⟨k2,k3,k4,k5,k6,k7⟩:=hc
       have e:ops = #[o1,od]:=by apply Array.ext'; simpa using hops
       subst e
       split at k4
       · rename_i f' as ts hod
         simp only[Bool.and_eq_true,Array.isEmpty_iff]at k4
         obtain⟨rfl,rfl,k4⟩:=k4
         exact defer_rest (draw_ok hm) h3 k2 (fun c e=>by rw[e]at k3; cases k3) hod (by simpa using k5) (by simpa using k6) k4 k7 g2 g3 g4 g5 g6 g7
       · cases k4
     · cases hc
   · cases hc
 · cases h1
end
end Go.Ab
namespace Go.Ab
variable [GlobEnv] [FrEnv] [KnEnv]
section
variable {S:St}
theorem dead_at {L:List AO} {i:Nat} {o:AO} (ho:(L.map AO.dead)[i]? = some o):o.live=false∧o.cells=[]:=by
 rw[List.getElem?_map,Option.map_eq_some_iff]at ho
 obtain⟨p,_,rfl⟩:=ho
 exact⟨rfl,rfl⟩
theorem thawed {w':World} {ρ:Nat->Option Nat} {H':List AO} {ρ':Nat->Option Nat} (hS:Sim S) (he:Ext S.H.length ⟨ρ,S.H.map AO.dead,S.w⟩ ⟨ρ',H',w'⟩) :
 Ext S.H.length S ⟨S.ρ,S.H,w'⟩∧Sim ⟨S.ρ,S.H,w'⟩:=by
 have hrw:∀ b,¬ (⟨ρ,S.H.map AO.dead,S.w⟩:St).rw b:=by
  rintro b ⟨i,o,ho,hl,_⟩
  simp[AO.own,(dead_at ho).1,(dead_at ho).2]at hl
 have hk:∀ k,k<S.w.heap.size->w'.heap[k]? = S.w.heap[k]? := fun k h=>(he.imm k h (hrw k)).1
 have hE:Ext S.H.length S ⟨S.ρ,S.H,w'⟩:=⟨fun i o _ ho=>⟨o,ho,Nat.le_refl _,fun _=>rfl⟩,fun k h hn=>⟨hk k h,hn⟩,he.size,he.shape,fun k r h=>⟨r,by show w'.heap[k]? = _; rw[hk k (lt_heap h)]; exact h⟩,he.os,he.tape,he.output⟩
 refine⟨hE,?_,hS.bel,hS.inj,?_,hS.gl.ext hE,hS.kf.ext hE⟩
 · intro i o ho hl
   have h4:=hS.live i o ho hl
   show match S.ρ i with
    | none=>o.cells=[]
    | some b=>_
   cases hρ:S.ρ i with
   | none=>rw[hρ]at h4; exact h4
   | some b =>
    rw[hρ]at h4
    obtain⟨us,rest,h5,h6⟩:=h4
    exact⟨us,rest,by show w'.heap[b]? = _; rw[hk b (lt_heap h5)]; exact h5,h6.ext hE⟩
 · intro i o ho hl hne
   obtain⟨l,x,m,us,env,k1,k2,k3,k4,k6⟩:=hS.lp i o ho hl hne
   exact⟨l,x,m,us,env,k1,k2,by show w'.heap[l]? = _; rw[hk l (lt_heap k3)]; exact k3,k4,k6.ext hE⟩
theorem Ok.fz {P:Program} {f:FuncId} {args:List SV} {H:List AO} {v:Value} (d:Nat) (h:Ok P f (args.map (SV.fz 0 [] H d)) (H.map AO.dead) (.ret (.val v)) (H.map AO.dead)):Ok P f args H (.ret (.val v)) H:=by
 refine⟨h.1,fun S vs hH hS hvs => ?_⟩
 subst hH
 obtain⟨ρ,he,hs,hv⟩:=frozen hS d
 refine(h.2 ⟨ρ,S.H.map AO.dead,S.w⟩ vs rfl hs (hvs.map hv)).mono ?_
 rintro e w' ⟨u,ρ',h1,h2,h3,h4⟩
 obtain⟨g1,g2⟩:=thawed hS (he:=h1.mono (by simp))
 refine⟨u,S.ρ,g1,g2,h3,?_⟩
 cases h4
 exact .val _
end
end Go.Ab
