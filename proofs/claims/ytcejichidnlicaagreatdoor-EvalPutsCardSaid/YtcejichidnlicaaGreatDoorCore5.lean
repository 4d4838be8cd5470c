/-
  Steps of the proof: contracts of functions and plain facts that the statement rests on.
-/
import Derived.Test.YtcejichidnlicaaGreatDoorCore4
import Derived.RecoverIn
import Derived.SizedLaws
set_option linter.all false
namespace Go.Ab
variable [GlobEnv] [FrEnv] [KnEnv]
section
variable {S:St}
theorem ext_retell {j:Nat} {o:AO} (ho:S.H[j]? = some o) (hl:o.live=true) (cs:List SV):Ext S.H.length S ⟨S.ρ,S.H.set j ⟨cs,o.ty,o.ver,true⟩,S.w⟩ where
 obj:=by
  intro i p hi hp
  by_cases e:i=j
  · subst e; rw[ho]at hp; cases hp
    exact⟨⟨cs,o.ty,o.ver,true⟩,by show(S.H.set i _)[i]? = _; rw[List.getElem?_set_self hi],Nat.le_refl _,fun _=>rfl⟩
  · exact⟨p,by show(S.H.set j _)[i]? = _; rw[List.getElem?_set_ne (by omega)]; exact hp,Nat.le_refl _,fun _=>rfl⟩
 imm:=by
  refine fun k _ hnr=>⟨rfl,?_⟩
  rintro⟨i,p,hp,hw,hρ⟩
  by_cases e:i=j
  · subst e
    exact hnr ⟨i,o,ho,AO.own_live hl,hρ⟩
  · refine hnr ⟨i,p,?_,hw,hρ⟩
    have hp':(S.H.set j ⟨cs,o.ty,o.ver,true⟩)[i]? = some p:=hp
    rw[List.getElem?_set_ne (by omega)]at hp'; exact hp'
 size:=Nat.le_refl _
 shape:=fun _ _ _ h=>h
 loops:=fun _ r h=>⟨r,h⟩
 os:=rfl
 tape:=rfl
 output:=rfl
def St.lies (S:St) (j:Nat) (T:TypeId) (us:List Value):Prop:=match S.ρ j with
 | none=>us=[]
 | some b=>∃ rest,S.w.heap[b]? = some (.cells (us++rest).toArray T (0,0))
theorem sim_retellR (hS:Sim S) {j:Nat} {o:AO} (ho:S.H[j]? = some o) (hl:o.live=true) {cs:List SV} (hok:cellsOk cs) (hc:∀ us,S.lies j o.ty us->VRs S o.cells us->∃ k,VRs S cs (us.take k)) :
 Sim ⟨S.ρ,S.H.set j ⟨cs,o.ty,o.ver,true⟩,S.w⟩:=by
 have he:=ext_retell ho hl cs
 have hat:∀ {i:Nat} {p:AO},(S.H.set j ⟨cs,o.ty,o.ver,true⟩)[i]? = some p->(i=j∧p=⟨cs,o.ty,o.ver,true⟩)∨(i≠j∧S.H[i]? = some p):=by
  intro i p hp
  by_cases e:i=j
  · subst e; rw[List.getElem?_set_self (getElem?_lt ho)]at hp; cases hp; exact .inl ⟨rfl,rfl⟩
  · rw[List.getElem?_set_ne (by omega)]at hp; exact .inr ⟨e,hp⟩
 have hlive:∀ (i:Nat) (p:AO),(S.H.set j ⟨cs,o.ty,o.ver,true⟩)[i]? = some p->p.live=true →
  match S.ρ i with
  | none=>p.cells=[]
  | some b=>∃ us rest,S.w.heap[b]? = some (.cells (us++rest).toArray p.ty (0,0))∧VRs ⟨S.ρ,S.H.set j ⟨cs,o.ty,o.ver,true⟩,S.w⟩ p.cells us:=by
  intro i p hp hpl
  rcases hat hp with ⟨rfl,rfl⟩ | ⟨hne,hp⟩
  · have h1:=hS.live i o ho hl
    cases hρ:S.ρ i with
    | none =>
     rw[hρ]at h1
     obtain⟨k,h2⟩:=hc [] (by unfold St.lies; rw[hρ]) (by rw[h1]; exact VRs.nil S)
     exact List.eq_nil_of_length_eq_zero (by have:=h2.1; simpa using this.symm)
    | some b =>
     rw[hρ]at h1
     obtain⟨us,rest,h2,h3⟩:=h1
     obtain⟨k,h4⟩:=hc us (by unfold St.lies; rw[hρ]; exact⟨rest,h2⟩) h3
     refine⟨us.take k,us.drop k++rest,?_,h4.ext he⟩
     rw[←List.append_assoc,List.take_append_drop]; exact h2
  · have h1:=hS.live i p hp hpl
    cases hρ:S.ρ i with
    | none=>rw[hρ]at h1; exact h1
    | some b =>
     rw[hρ]at h1
     obtain⟨us,rest,h2,h3⟩:=h1
     exact⟨us,rest,h2,h3.ext he⟩
 refine⟨hlive,?_,?_,?_,hS.gl.ext he,hS.kf.ext he⟩
 · intro i p hp s hs
   rcases hat hp with ⟨rfl,rfl⟩ | ⟨hne,hp'⟩
   · refine⟨?_,fun _=>hok s hs⟩
     have h8:=hlive _ _ hp rfl
     split at h8
     · rw[h8]at hs; cases hs
     · obtain⟨us,rest,h9,h10⟩:=h8
       obtain⟨q,hq⟩:=List.getElem?_of_mem hs
       obtain⟨u,_,h11⟩:=h10.get hq
       exact h11.under
   · have:=hS.bel i p hp' s hs
     exact⟨by show s.under (S.H.set j _).length=true; simpa using this.1,this.2⟩
 · intro i i' p p' b hp hp' hw hw' hρ hρ'
   have key:∀ {i:Nat} {p:AO},(S.H.set j ⟨cs,o.ty,o.ver,true⟩)[i]? = some p->p.own=true->∃ q,S.H[i]? = some q∧q.own=true:=by
    intro i p hp hw
    rcases hat hp with ⟨rfl,rfl⟩ | ⟨_,hp⟩
    · exact⟨o,ho,AO.own_live hl⟩
    · exact⟨p,hp,hw⟩
   obtain⟨q,h1,h2⟩:=key hp hw
   obtain⟨q',h3,h4⟩:=key hp' hw'
   exact hS.inj i i' q q' b h1 h3 h2 h4 hρ hρ'
 · intro i p hp hpl hne
   rcases hat hp with ⟨rfl,rfl⟩ | ⟨_,hp⟩
   · cases hpl
   · obtain⟨l,x,m,us,env,k1,k2,k3,k4,k6⟩:=hS.lp i p hp hpl hne
     exact⟨l,x,m,us,env,k1,k2,k3,k4,k6.ext he⟩
theorem sim_retell (hS:Sim S) {j:Nat} {o:AO} (ho:S.H[j]? = some o) (hl:o.live=true) {cs:List SV} (hok:cellsOk cs) (hc:∀ us,VRs S o.cells us->∃ k,VRs S cs (us.take k)) :
 Sim ⟨S.ρ,S.H.set j ⟨cs,o.ty,o.ver,true⟩,S.w⟩:=sim_retellR hS ho hl hok fun us _ h=>hc us h
end
def Tell (env:Env) (H:List AO) (env':Env) (H':List AO):Prop :=
 ∀ (S:St) (tmps:Array Value),S.H=H->Sim S->EnvR S env tmps->∃ ρ',Ext S.H.length S ⟨ρ',H',S.w⟩∧Sim ⟨ρ',H',S.w⟩∧EnvR ⟨ρ',H',S.w⟩ env' tmps
theorem LI.tell {P:Program} {N:Nat} {D:Array Oper->List Nat->List Ins->Bool} {i:IC} {env env':Env} {H H':List AO} {K:XE->Env->List AO->Prop} (ht:Tell env H env' H')
 (h:LI P N D i env' H' K):LI P N D i env H K:=by
 intro c hc db S a hH hS he hN hd
 obtain⟨ρ',h1,h2,h3⟩:=ht S a.tmps hH hS he
 exact loopIn_mono (h c hc db ⟨ρ',H',S.w⟩ a rfl h2 h3 hN (hd.ext hS h1)) fun e a w hp=>Post.trans h1 hp
theorem Tell.own0 {env:Env} {H:List AO} {j p:Nat} {o:AO} (ho:H[j]? = some o) (hl:o.live=true) (hp:o.cells[p]? = some (.val (.slice none 0 0))) (T:TypeId) (sz:Nat) :
 Tell env H env (H.set j ⟨o.cells.set p (.own H.length 0 0 sz 0),o.ty,o.ver,true⟩++[⟨[],T,0,true⟩]):=by
 intro S tmps hH hS he
 subst hH
 have h1:=ext_newNil S T
 have h2:=sim_newNil hS T
 have hj:=getElem?_lt ho
 have ho':(S.newNil T).H[j]? = some o:=by show(S.H++_)[j]? = _; rw[List.getElem?_append_left hj]; exact ho
 have hn:(S.newNil T).H[S.H.length]? = some ⟨[],T,0,true⟩:=by show(S.H++_)[S.H.length]? = _; simp
 have hval:VR (S.newNil T) (.own S.H.length 0 0 sz 0) (.slice none 0 0):=by
  refine .own _ _ _ _ _ none 0 _ hn (Nat.le_refl _) (Nat.le_refl _) (fun _=>rfl) fun _ => ?_
  unfold St.OwnAt
  have:(S.newNil T).ρ S.H.length=none:=upd_same _ _ _
  rw[this]; exact⟨rfl,rfl⟩
 have hcell:cellsOk (o.cells.set p (.own S.H.length 0 0 sz 0)):=by
  intro s hs
  rcases List.mem_or_eq_of_mem_set hs with h | rfl
  · exact(hS.bel j o ho s h).2 hl
  · rfl
 have h3:=ext_retell ho' hl (o.cells.set p (.own S.H.length 0 0 sz 0))
 have h4:=sim_retell h2 ho' hl hcell (fun us hus=>⟨us.length,by
  rw[List.take_length]
  obtain⟨u,hu1,hu2⟩:=hus.get hp
  have:u=.slice none 0 0:=by cases hu2; rfl
  subst this
  have:=hus.set p hval
  have e:us.set p (.slice none 0 0)=us:=by
   apply List.ext_getElem?
   intro i
   rw[List.getElem?_set]
   split
   · rename_i e; subst e
     split
     · exact hu1.symm
     · rename_i hlt; rw[List.getElem?_eq_none (by omega)]
   · rfl
  rw[e]at this; exact this⟩)
 have e:(S.newNil T).H.set j ⟨o.cells.set p (.own S.H.length 0 0 sz 0),o.ty,o.ver,true⟩=S.H.set j ⟨o.cells.set p (.own S.H.length 0 0 sz 0),o.ty,o.ver,true⟩++[⟨[],T,0,true⟩]:=by
  show(S.H++_).set j _=_
  rw[List.set_append_left _ _ hj]
 rw[e]at h3 h4
 exact⟨_,h1.trans (h3.mono (by simp[St.newNil])),h4,(he.ext h1).ext h3⟩
theorem Tell.trunc {env:Env} {H:List AO} {j:Nat} {o:AO} (ho:H[j]? = some o) (hl:o.live=true) (k:Nat):Tell env H env (H.set j ⟨o.cells.take k,o.ty,o.ver,true⟩):=by
 intro S tmps hH hS he
 subst hH
 have h3:=ext_retell ho hl (o.cells.take k)
 exact⟨_,h3,sim_retell hS ho hl (fun s hs=>(hS.bel j o ho s (List.mem_of_mem_take hs)).2 hl) (fun us hus=>⟨k,hus.take k⟩),he.ext h3⟩
theorem Tell.give {env:Env} {H0 L:List AO} (hcl:closed H0) (k d:Nat) {o:AO} (ho:L[k]? = some o) (hl:o.live=true) :
 Tell env (H0++L) (env.map fun p=>(p.1,p.2.gv (H0.length+k) o.ver o.cells d)) (H0++(L.set k o.dead).map (AO.gv (H0.length+k) o.ver o.cells d)):=by
 intro S tmps hH hS he
 refine⟨_,giv_ext hH ho,giv_sim hS hH hcl ho hl,⟨fun t => ?_⟩⟩
 rw[get_map env (SV.gv (H0.length+k) o.ver o.cells d) (gv_any _ _ _ _)]
 exact giv_rel hS hH ho hl _ _ (he.get t)
end Go.Ab
namespace Go.Ab
variable [GlobEnv] [FrEnv] [KnEnv]
def rws {α:Type} (f:α->List SV):List α->List SV
 | []=>[]
 | x::r=>f x++rws f r
section
variable {α:Type} {f:α->List SV} {sz:Nat}
theorem rws_app (a b:List α):rws f (a++b)=rws f a++rws f b:=by
 induction a with
 | nil=>rfl
 | cons x r ih=>simp[rws,ih]
theorem rws_len (hf:∀ x,(f x).length=sz) (l:List α):(rws f l).length=l.length*sz:=by
 induction l with
 | nil=>simp[rws]
 | cons x r ih=>simp only[rws,List.length_append,hf,ih,List.length_cons]; rw[Nat.succ_mul]; omega
theorem rws_drop (hf:∀ x,(f x).length=sz) (l:List α) (k:Nat) (hk:k≤l.length):(rws f l).drop (k*sz)=rws f (l.drop k):=by
 have e:rws f l=rws f (l.take k)++rws f (l.drop k):=by rw[←rws_app,List.take_append_drop]
 have h:(rws f (l.take k)).length=k*sz:=by rw[rws_len hf,List.length_take,Nat.min_eq_left hk]
 rw[e,List.drop_append_of_le_length (by omega),List.drop_of_length_le (by omega),List.nil_append]
theorem rws_at (hf:∀ x,(f x).length=sz) {l:List α} {k:Nat} (hk:k<l.length):(rws f l).drop (k*sz)=f l[k]++rws f (l.drop (k+1)):=by
 rw[rws_drop hf l k (by omega),List.drop_eq_getElem_cons hk]; rfl
theorem rws_get (hf:∀ x,(f x).length=sz) {l:List α} {k t:Nat} (hk:k<l.length) (ht:t<sz):(rws f l)[k*sz+t]? = (f l[k])[t]? := by
 have:(rws f l)[k*sz+t]? = ((rws f l).drop (k*sz))[t]? := by rw[List.getElem?_drop]
 rw[this,rws_at hf hk,List.getElem?_append_left (by rw[hf]; exact ht)]
end
theorem set_same {H:List AO} {j:Nat} {o:AO} (h:H[j]? = some o):H.set j o=H:=by
 apply List.ext_getElem?
 intro i
 rw[List.getElem?_set]; split
 · rename_i e; subst e; rw[if_pos (getElem?_lt h),h]
 · rfl
def SV.le (s s':SV):Prop:=∀ (S:St) (v:Value),VR S s v->VR S s' v
theorem SV.le.refl (s:SV):s.le s:=fun _ _ h=>h
theorem le_nil:SV.le (.val (.slice none 0 0)) (.slc [] 0):=by
 intro S v h; cases h; exact .nilslc
def leL (l l':List SV):Prop:=l.length=l'.length∧∀ (j:Nat) (s s':SV),l[j]? = some s->l'[j]? = some s'->s.le s'
theorem leL.nil:leL [] []:=⟨rfl,fun j s s' h=>by simp at h⟩
theorem leL.refl (l:List SV):leL l l:=⟨rfl,fun j s s' h h'=>by rw[h]at h'; cases h'; exact SV.le.refl s⟩
theorem leL.cons {s s':SV} {l l':List SV} (h:s.le s') (hl:leL l l'):leL (s::l) (s'::l'):=by
 refine⟨by simp[hl.1],fun j a b h1 h2 => ?_⟩
 cases j with
 | zero=>simp at h1 h2; subst h1 h2; exact h
 | succ j=>simp at h1 h2; exact hl.2 j a b h1 h2
theorem leL.app {a a' b b':List SV} (h:leL a a') (h':leL b b'):leL (a++b) (a'++b'):=by
 induction a generalizing a' with
 | nil=>cases a' with
  | nil=>exact h'
  | cons x r=>have:=h.1; simp at this
 | cons x r ih=>cases a' with
  | nil=>have:=h.1; simp at this
  | cons x' r'=>exact leL.cons (h.2 0 x x' rfl rfl) (ih ⟨by have:=h.1; simpa using this,fun j s s' h1 h2=>h.2 (j+1) s s' (by simpa using h1) (by simpa using h2)⟩)
theorem leL.vrs {S:St} {l l':List SV} {us:List Value} (h:leL l l') (hv:VRs S l us):VRs S l' us:=by
 refine⟨by rw[hv.1,h.1],fun j s u h1 h2 => ?_⟩
 have hj:j<l.length:=by rw[h.1]; rcases Nat.lt_or_ge j l'.length with h3 | h3; exact h3; rw[List.getElem?_eq_none h3]at h1; cases h1
 exact h.2 j _ _ (List.getElem?_eq_getElem hj) h1 S u (hv.2 j _ u (List.getElem?_eq_getElem hj) h2)
theorem le_slc {l l':List SV} (h:leL l l') (n:Nat):SV.le (.slc l n) (.slc l' n):=by
 intro S v hv
 cases hv with
 | nilslc =>
  have:l'=[]:=List.eq_nil_of_length_eq_zero (by rw[←h.1]; rfl)
  subst this; exact .nilslc
 | slc _ _ a cap us hc hl hi hh =>
  have:=h.vrs ⟨hl,hh⟩
  exact .slc _ _ a cap us hc this.1 hi this.2
theorem le_agg {l l':List SV} (h:leL l l'):SV.le (.agg l) (.agg l'):=by
 intro S v hv
 cases hv with
 | agg _ us hl hh=>have:=h.vrs ⟨hl,hh⟩; exact .agg _ _ this.1 this.2
theorem Ok.le {P:Program} {f:FuncId} {args args':List SV} {H H':List AO} {out:Out} (hle:leL args args') (h:Ok P f args' H out H'):Ok P f args H out H' :=
 ⟨h.1,fun S vs hH hS hv=>h.2 S vs hH hS (hle.vrs hv)⟩
@[simp] theorem objCells_next2 (o:AO) (r:List AO) (a b k ver:Nat):objCells (o::r) (a+(b+(k+1))) ver=objCells r (a+(b+k)) ver:=objCells_next o r (a+(b+k)) ver
theorem LI.cong {P:Program} {N:Nat} {D:Array Oper->List Nat->List Ins->Bool} {i:IC} {env:Env} {H H':List AO} {K:XE->Env->List AO->Prop} (e:H'=H) (h:LI P N D i env H' K):LI P N D i env H K:=by rw[←e]; exact h
theorem set_app {α:Type} (a b:List α) (k:Nat) (x:α):(a++b).set (a.length+k) x=a++b.set k x:=by rw[List.set_append_right _ _ (by omega)]; simp
theorem get_app {α:Type} (a b:List α) (k:Nat):(a++b)[a.length+k]? = b[k]? := by rw[List.getElem?_append_right (by omega)]; simp
theorem Cv.le {n0:Nat} {r1 r r':SV} {H1 H':List AO} (h:Cv n0 r1 H1 r H') (hle:r.le r'):Cv n0 r1 H1 r' H':=by
 intro S v hS hsim hv
 obtain⟨ρ,h1,h2,h3⟩:=h S v hS hsim hv
 exact⟨ρ,h1,h2,hle _ _ h3⟩
end Go.Ab
namespace Go.Ab
variable [GlobEnv] [FrEnv] [KnEnv]
namespace IsL
variable {α:Type} {f:α->SV} {H:List AO} {x:SV} {l:List α}
end IsL
def u8 (n:Int):SV:=.val (.int .u8 n)
@[simp] theorem u8_eq (n:Int):SV.val (.int .u8 n)=u8 n:=rfl
section
variable (n:Int)
@[simp] theorem isI_u8 (k:IntKind):SV.isI k (u8 n)=decide (IntKind.u8=k):=rfl
@[simp] theorem isN_u8:SV.isN (u8 n)=true:=rfl
@[simp] theorem int_u8:SV.int (u8 n)=n:=rfl
@[simp] theorem ug_u8:SV.ug (u8 n)=u8 n:=rfl
@[simp] theorem vd_u8:SV.vd (u8 n)=true:=rfl
@[simp] theorem isCell_u8:SV.isCell (u8 n)=true:=rfl
@[simp] theorem flat_u8:SV.flat (u8 n)=[u8 n]:=rfl
@[simp] theorem isPt_u8:SV.isPt (u8 n)=false:=rfl
@[simp] theorem isAg_u8:SV.isAg (u8 n)=false:=rfl
@[simp] theorem isTu_u8:SV.isTu (u8 n)=false:=rfl
@[simp] theorem under_u8 (m:Nat):SV.under m (u8 n)=true:=rfl
@[simp] theorem gv_u8 (k ver:Nat) (cs:List SV) (d:Nat):SV.gv k ver cs d (u8 n)=u8 n:=by cases d<;>rfl
@[simp] theorem strip_u8:(u8 n).strip=u8 n:=rfl
end
theorem cv_idq {n0:Nat} {v:SV} {H1 H':List AO} (h:H1=H'):Cv n0 v H1 v H':=by subst h; exact cv_id
theorem le_tup {l l':List SV} (h:leL l l'):SV.le (.tup l) (.tup l'):=by
 intro S v hv
 cases hv with
 | tup _ us hl hh=>have:=h.vrs ⟨hl,hh⟩; exact .tup _ _ this.1 this.2
@[simp] theorem objCells_nS (H L:List AO) (j:Nat) (o:AO) (k ver:Nat):objCells (H.set j o++L) (H.length+k) ver=objCells L k ver:=by
 have:=objCells_new (H:=H.set j o) (L:=L) (k:=k) (ver:=ver); simpa using this
@[simp] theorem objCells_nS0 (H L:List AO) (j:Nat) (o:AO) (ver:Nat):objCells (H.set j o++L) H.length ver=objCells L 0 ver:=objCells_nS H L j o 0 ver
theorem setObj_app (A B:List AO) (k:Nat) (f:AO->AO):setObj (A++B) (A.length+k) f=A++setObj B k f:=by
 unfold setObj
 rw[get_app]
 cases h:B[k]? with
 | none=>rfl
 | some o=>simp only; rw[set_app]
@[simp] theorem setObj_nS (H L:List AO) (j:Nat) (o:AO) (k:Nat) (f:AO->AO):setObj (H.set j o++L) (H.length+k) f=H.set j o++setObj L k f:=by
 have:=setObj_app (H.set j o) L k f; simpa using this
@[simp] theorem setObj_nS0 (H L:List AO) (j:Nat) (o:AO) (f:AO->AO):setObj (H.set j o++L) H.length f=H.set j o++setObj L 0 f:=setObj_nS H L j o 0 f
@[simp] theorem get_nS {α:Type} (H L:List α) (j:Nat) (o:α) (k:Nat):(H.set j o++L)[H.length+k]? = L[k]? := by
 have:=get_app (H.set j o) L k; simpa using this
@[simp] theorem objIs_nS (H L:List AO) (j:Nat) (o:AO) (k ver:Nat) (T:TypeId) (m:Nat):objIs (H.set j o++L) (H.length+k) ver T m=objIs L k ver T m:=by
 unfold objIs; rw[get_nS]
theorem closed_set {H:List AO} (hcl:closed H) (j:Nat) {o:AO} (hu:SV.underL H.length o.cells=true):closed (H.set j o):=by
 intro i p hp s hs
 rw[List.length_set]
 by_cases e:j=i
 · subst e
   have hj:=getElem?_lt hp
   rw[List.getElem?_set_self (by simpa using hj)]at hp
   cases hp
   exact(SV.underL_iff _ _).1 hu s hs
 · rw[List.getElem?_set_ne e]at hp
   exact hcl i p hp s hs
end Go.Ab
namespace Go.Ab
variable [GlobEnv] [FrEnv] [KnEnv]
section
variable {P:Program}
theorem turned_mark {n0 D:Nat} {w w':World} (h1:n0≤D) (h2:w.heap[D]? = some (Obj.deferred (some []))) (ht:Turned n0 (w.putObj D (.deferred none)) w'):Turned n0 w w':=by
 refine⟨by rw[ht.size]; simp,fun k => ?_,ht.os,ht.tape,ht.output⟩
 by_cases hk:k=D
 · subst hk
   right
   refine⟨h1,h2,?_⟩
   rcases ht.at_ k with h3 | ⟨_,h3,h4⟩
   · exact h3.trans (World.putObj_heap_same (lt_heap h2))
   · exact h4
 · rcases ht.at_ k with h3 | ⟨h3,h4,h5⟩
   · exact .inl (h3.trans (World.putObj_heap_other hk))
   · exact .inr ⟨h3,(World.putObj_heap_other hk).symm.trans h4,h5⟩
theorem turned_refl (n0:Nat) (w:World):Turned n0 w w:=⟨rfl,fun _=>.inl rfl,rfl,rfl,rfl⟩
theorem marks_steps {n0:Nat}:∀ (ms:List Nat) (w:World) (fr:Frame) (cs:List Frame),fr.mode≠.run->fr.defers=ms.map mark->ms.Nodup->(∀ D∈ms,n0≤D∧w.heap[D]? = some (Obj.deferred (some []))) →
 ∃ w',Turned n0 w w'∧StepsIn (Machine.fenced P (Fr none)) P (lone fr cs w) (lone { fr with defers:=[] } cs w')
 | [],w,fr,cs,hm,hd,_,_=>by
  refine⟨w,turned_refl _ _,?_⟩
  have:({ fr with defers:=[] }:Frame)=fr:=by cases fr; simp_all
  rw[this]
  exact StepsIn.refl _
 | D::ms,w,fr,cs,hm,hd,hnd,hms=>by
  rw[List.nodup_cons]at hnd
  obtain⟨h1,h2⟩:=hms D (by simp)
  have hs:=step_collected (P:=P) (cs:=cs) (d:=mark D) (ds:=ms.map mark) hm hd rfl (run_takeDeferred h2)
  have i1:(lone fr cs w).fenced P (Fr none):=fenced_out (n:=0) trivial (fr_room _ _) hm hd (fun g hg=>trivial)
  obtain⟨w',ht,hst⟩:=marks_steps ms (w.putObj D (.deferred none)) { fr with defers:=ms.map mark } cs hm rfl hnd.2 (fun D' hD'=>by
   refine⟨(hms D' (by simp[hD'])).1,?_⟩
   have hne:D'≠D:=fun e=>hnd.1 (e ▸ hD')
   exact(World.putObj_heap_other hne).trans (hms D' (by simp[hD'])).2)
  exact⟨w',turned_mark h1 h2 ht,.head i1 hs hst⟩
def MD (S:St):Option SV->FrameMode->Prop
 | none,u=>u=.returning
 | some x,u=>∃ v,u=.panicking [{ v:=v,recovered:=false }]∧VR S x v
def rvD:Option SV->SV
 | none=>.val .nilIface
 | some x=>x
def OkD (P:Program) (f:FuncId) (args:List SV) (H:List AO) (m:Option SV) (Pt:List AO->Prop):Prop :=
 (∀ (vs:Array Value) (w:World),(callFunc f vs).run P w=.ok (.enter f vs) w) ∧
 ∀ (S:St) (vs:List Value) (u:FrameMode),S.H=H->Sim S->VRs S args vs->MD S m u →
  CallsDIn (Fr none) 0 P f vs.toArray u S.w fun e u' w'=>∃ (v:Value) (H':List AO) (ρ':Nat->Option Nat),e=.returned v∧settle u'=.returning∧Pt H'∧Ext S.H.length S ⟨ρ',H',w'⟩∧Sim ⟨ρ',H',w'⟩
theorem run_recover {o:Oper} (ho:o.op=.call { callee:=.builtin .recover,args := #[],argTypes := #[] }) (ρ:Operand->Value) (w:World):(execOp ρ o).run P w=.ok .recover w:=by
 simp[execOp,ho,resolve,invoke,builtin]
variable {D:Array Oper->List Nat->List Ins->Bool}
theorem okD_of (hD:DOk P D) {f:FuncId} {fn:Func} {rid d:Nat} {ops:Array Oper} {o:Oper} {c2:Code} {insR:List Ins} {i2:IC} {args:List SV} {H:List AO} {m:Option SV} {Pt:List AO->Prop}
 (hf : P.funcs[f]? = some fn) (hb : fn.body = some (.seq (.region rid ops false) c2)) (hname : (fn.name == "runtime.NumGoroutine") = false) (hn : args.length ≤ fn.ntmps) (hr : chkRes P fn.results.toList [] = true)
 (hop:ops[0]? = some o) (ho:o.op=.call { callee:=.builtin .recover,args := #[],argTypes := #[] }) (hg:o.guard=none) (hdst:o.dst=some d) (hd:d<fn.ntmps) (hnd:ndB ops=true)
 (hl:chkL P fn.ntmps ops (ops.toList.drop 1) insR=true) (hc:chkC P fn.ntmps D c2 i2=true)
 (hx:closed H->xops P insR ((argsEnv args).put (some d) (rvD m)) H fun x env H1=>x=.normal∧X P fn.ntmps D i2 env H1 fun x _ H2=>(x=.normal∨x=.ret)∧∃ H',Pt H'∧Cv H.length (.tup []) H2 (.tup []) H'):OkD P f args H m Pt:=by
 refine⟨fun vs w=>Go.MuLone.run_callFunc_enter hf hname hb vs w,?_⟩
 intro S vs u hH hS hvs hmd
 subst hH
 refine⟨trivial,fun c₀ cs hu hroom => ?_⟩
 obtain⟨b,hbk,hbr,hbf,henter⟩:∃ b:Frame,b.kind=.deferred∧b.roundOf=none∧b.fn=f∧Frame.enter P f vs.toArray .deferred=b.atR { tmps:=vs.toArray++Array.replicate (fn.ntmps-vs.toArray.size) undef,defers:=[] } [.code (.seq (.region rid ops false) c2)] :=
  ⟨{ (default:Frame)with fn:=f,kind:=.deferred,roundOf:=none },rfl,rfl,rfl,by simp[Frame.enter,Frame.atR,hf,hb]⟩
 rw[henter]
 have hlen:vs.length=args.length:=hvs.1
 generalize ha0:({ tmps:=vs.toArray++Array.replicate (fn.ntmps-vs.toArray.size) undef,defers:=[] }:Act)=a0
 have hN0:a0.tmps.size=fn.ntmps:=by subst ha0; simp; omega
 have hd0:a0.defers=[]:=by subst ha0; rfl
 have he0:EnvR S (argsEnv args) a0.tmps:=by subst ha0; exact argsEnv_rel hvs _
 have t1:StepsIn (Machine.fenced P (Fr none)) P (lone (b.atR a0 [.code (.seq (.region rid ops false) c2)]) (c₀::cs) S.w) (lone (b.atR a0 (.inRegion ops (List.range ops.size)::[.code c2])) (c₀::cs) S.w) :=
  .head (fr_calm rfl) stepR_seq (.one (fr_calm rfl) stepR_region)
 have hsz:0<ops.size:=by
  rcases Nat.lt_or_ge 0 ops.size with h | h
  · exact h
  · rw[Array.getElem?_eq_none h]at hop; cases hop
 have hrange:List.range ops.size=0::List.range' 1 (ops.size-1):=by
  rw[List.range_eq_range']
  obtain⟨k,hk⟩:∃ k,ops.size=k+1:=⟨ops.size-1,by omega⟩
  rw[hk,List.range'_succ]; simp
 rw[hrange]at t1
 obtain⟨rv,u1,hstep,hset,hvr⟩:∃ (rv:Value) (u1:FrameMode),step P (lone (b.atR a0 (.inRegion ops (0::List.range' 1 (ops.size-1))::[.code c2])) (c₀::cs) S.w) =
  .next (lone (b.atR (a0.put o.dst rv) (.inRegion ops (List.range' 1 (ops.size-1))::[.code c2])) ({ c₀ with mode:=u1 }::cs) S.w)∧settle u1=.returning∧VR S (rvD m) rv:=by
  have hw:Region.wanted o (yielded ops a0.tmps)=true:=by simp[Region.wanted,hg]
  have hgs:=stepGR_op (P:=P) (b:=b) (a:=a0) (k:=[.code c2]) (cs:=c₀::cs) (w:=S.w) (rest:=List.range' 1 (ops.size-1)) hop hw
  rw[hbr,Oper.semAt_none]at hgs
  have hfin:∀ v,(b.atR a0 (.inRegion ops (0::List.range' 1 (ops.size-1))::[.code c2])).finish v=b.atR (a0.put o.dst v) (.inRegion ops (List.range' 1 (ops.size-1))::[.code c2]):=by
   intro v; rw[Frame.finish_atR,hop]; rfl
  have hk:(b.atR a0 (.inRegion ops (0::List.range' 1 (ops.size-1))::[.code c2])).kind=.deferred:=hbk
  have htr:=tryRecover_deferred hk (c₀::cs)
  have hrun:=run_recover (P:=P) ho a0.eval S.w
  cases m with
  | none =>
   have hu':u=.returning:=hmd
   subst hu'
   refine⟨.nilIface,.returning,?_,rfl,.val _⟩
   have hc0:({ c₀ with mode:=.returning }:Frame)=c₀:=by cases c₀; simp_all
   rw[hc0]
   have hrec:recoverD (c₀::cs)=none:=by simp[recoverD,hu]
   refine step_lone_go ?_
   rw[hgs,<- hfin]
   simp only[Frame.atR,hbr]at htr ⊢
   simp[stepG.apply,hrun,htr,hrec]
  | some x =>
   obtain⟨v,rfl,hv⟩:=hmd
   refine⟨v,.panicking [{ v:=v,recovered:=true }],?_,rfl,hv⟩
   have hrec:recoverD (c₀::cs)=some (v,{ c₀ with mode:=.panicking [{ v:=v,recovered:=true }] }::cs):=by simp[recoverD,hu]
   refine step_lone_go ?_
   rw[hgs,<- hfin]
   simp only[Frame.atR,hbr]at htr ⊢
   simp[stepG.apply,hrun,htr,hrec]
 have t2:=t1.trans (.one (fenced_oper (n:=0) trivial (fr_room _ _) hop (fun f _=>trivial)) hstep)
 generalize hcc:({ c₀ with mode:=u1 }::cs:List Frame)=cc at t2
 have hlt':∀ t,o.dst=some t->t<a0.tmps.size:=by intro t ht; rw[hdst]at ht; cases ht; rw[hN0]; exact hd
 have he1:EnvR S ((argsEnv args).put (some d) (rvD m)) (a0.put o.dst rv).tmps:=by
  have:=he0.put hlt' hvr
  rwa [hdst]at this ⊢
 have hdb:(⟨S.w.heap.size,[],none⟩:DB).Ok S.w (a0.put o.dst rv).defers:=by
  rw[put_defers,hd0]
  exact⟨Nat.le_refl _,⟨[],rfl,List.nodup_nil,fun D hD=>by simp at hD⟩,fun l h=>by cases h⟩
 have hwl:=xops_sound (d:=⟨S.w.heap.size,[],none⟩) (ops:=ops) (ops.toList.drop 1) insR hS he1 (by rw[put_size,hN0]) hdb hl (hx hS.closed)
 have hlen2:(ops.toList.drop 1).length=ops.size-1:=by simp
 have heq:=wpOps_eq_wpList (P:=P) (ops:=ops) (Q:=Post S fn.ntmps ⟨S.w.heap.size,[],none⟩ fun x env H1=>x=.normal∧X P fn.ntmps D i2 env H1 fun x _ H2=>(x=.normal∨x=.ret)∧∃ H',Pt H'∧Cv S.H.length (.tup []) H2 (.tup []) H') (ops.toList.drop 1) 1 (fun j=>by rw[List.getElem?_drop]; simp)
 rw[←heq,hlen2]at hwl
 obtain⟨e1,a1,w1,hq1,harr1⟩:=wp_opsIn _ _ _ (opsIn_of hnd none _ _ _ hwl) b [.code c2] cc hbr trivial (fr_room _ _)
 obtain⟨x1,env1,ρ1,H1,g1,g2,g3,g4,g5,g6,hx1,g7⟩:=hq1
 subst hx1
 cases e1<;>simp only[ER]at g1
 have t3:=t2.trans harr1
 obtain⟨e2,a2,w2,hq2,harr2⟩:=X_sound hD i2 hc g7 ⟨S.w.heap.size,[],none⟩ ⟨ρ1,H1,w1⟩ a1 rfl g3 g4 g5 g6 b [] cc hbr trivial (fr_room _ _)
 obtain⟨x2,env2,ρ2,H2,k1,k2,k3,k4,k5,k6,hx2,H',hpt,hcv⟩:=hq2
 obtain⟨ms,m1,m2,m3⟩:=k6.ms
 simp only[List.append_nil]at m1
 have hfinal:∃ todo,StepsIn (Machine.fenced P (Fr none)) P (lone (b.atR a0 [.code (.seq (.region rid ops false) c2)]) (c₀::cs) S.w) (lone { b.atR a2 todo with mode:=.returning } cc w2):=by
  rcases hx2 with rfl | rfl
  · cases e2<;>simp only[ER]at k1
    exact⟨[],t3.trans (StepsIn.trans harr2 (.one (fr_calm rfl) (stepR_end hbr)))⟩
  · cases e2<;>simp only[ER]at k1
    obtain⟨todo,hs⟩:=harr2.1 hbr
    exact⟨todo,t3.trans hs⟩
 obtain⟨todo,t4⟩:=hfinal
 obtain⟨w3,ht,t5⟩:=marks_steps (P:=P) (n0:=S.w.heap.size) ms w2 { b.atR a2 todo with mode:=.returning } cc (by simp) m1 m2 m3
 have hS2:=turned_sim ht k3
 have hE2:EnvR ⟨ρ2,H2,w3⟩ env2 a2.tmps:=⟨fun t=>(k4.get t).extV (turned_extV ht) (.inl rfl)⟩
 obtain⟨v,h3,h4⟩:=run_results (P:=P) (S:=⟨ρ2,H2,w3⟩) (rs:=[]) hS2 hE2 hr (fun s hs=>by simp at hs)
 obtain⟨ρ',h5,h6,_⟩:=hcv ⟨ρ2,H2,w3⟩ v rfl hS2 h4
 subst hcc
 refine⟨.returned v,u1,w3,_,⟨v,H',ρ',rfl,hset,hpt,?_,h6⟩,t4.trans t5,hbk,hbf,rfl,rfl,fn,by rw[show({ b.atR a2 todo with mode:=.returning,defers:=[] }:Frame).fn=f from hbf]; exact hf,h3⟩
 exact(turned_ext ht (g2.trans (k2.mono (g2.len (Nat.le_refl _)))) (Nat.le_refl _)).trans h5
theorem marks_leave2 {fn:Func} {tmps:Array Value} {R:Ending->World->Prop} {n0:Nat} {u:FrameMode} {ds:List Deferred} (hu:u≠.run):∀ (ms:List Nat) (w:World),ms.Nodup->(∀ D∈ms,n0≤D∧w.heap[D]? = some (Obj.deferred (some []))) →
 (∀ w',Turned n0 w w'->LeavesInM (Fr none) 0 P fn tmps R ds u w')->LeavesInM (Fr none) 0 P fn tmps R (ms.map mark++ds) u w
 | [],w,_,_,h=>h w (turned_refl _ _)
 | D::ms,w,hnd,hms,h=>by
  rw[List.nodup_cons]at hnd
  obtain⟨h1,h2⟩:=hms D (by simp)
  refine⟨hu,.inl ⟨D,_,rfl,run_takeDeferred h2,?_⟩⟩
  refine marks_leave2 hu ms _ hnd.2 (fun D' hD'=>⟨(hms D' (by simp[hD'])).1,?_⟩) fun w' ht=>h w' (turned_mark h1 h2 ht)
  have hne:D'≠D:=fun e=>hnd.1 (e ▸ hD')
  exact(World.putObj_heap_other hne).trans (hms D' (by simp[hD'])).2
def FinD (P:Program) (n0:Nat) (rs:List RS) (Pt:Out->List AO->Prop) (k:FuncId) (cap:List SV) (x:XE) (env:Env) (H1:List AO):Prop :=
 match x with
 | .normal=>∃ Pd,OkD P k cap H1 none Pd∧∀ H4,Pd H4->(∀ s∈rs,s.side env H4)∧FinQ n0 Pt (resV env H4 rs) H4
 | .ret=>∃ Pd,OkD P k cap H1 none Pd∧∀ H4,Pd H4->(∀ s∈rs,s.side env H4)∧FinQ n0 Pt (resV env H4 rs) H4
 | .panic y=>∃ Pd,OkD P k cap H1 (some y) Pd∧∀ H4,Pd H4->(∀ s∈rs,s.side env H4)∧FinQ n0 Pt (resV env H4 rs) H4
 | _=>False
theorem okP_defer (hD:DOk P D) {f:FuncId} {fn:Func} {ca cb:Code} {rid:Nat} {o1 od:Oper} {f':Operand} {fo:Od} {ia ib:IC} {ins1:Ins} {rs:List RS} {args:List SV} {H:List AO} {Pt:Out->List AO->Prop}
 (hf : P.funcs[f]? = some fn) (hb : fn.body = some (.seq ca (.seq (.region rid #[o1, od] false) cb))) (hname : (fn.name == "runtime.NumGoroutine") = false) (hn : args.length ≤ fn.ntmps) (hr : chkRes P fn.results.toList rs = true)
 (hca:chkC P fn.ntmps D ca ia=true) (ho1:chkIns P fn.ntmps #[o1,od] o1 ins1=true) (hnd1:∀ c,o1.op≠.defer c) (hod:od.op=.defer { callee:=.value f',args := #[],argTypes := #[] }) (hog:od.guard=none) (hdst:od.dst=none) (hfo:chkOd f' fo=true)
 (hcb:chkC P fn.ntmps D cb ib=true)
 (hx:closed H->X P fn.ntmps D ia (argsEnv args) H fun x env1 H1=>x=.normal∧xo P ins1 env1 H1 fun x env2 H2=>x=.normal∧(env2.ev fo).vd=true∧∃ k cap,(env2.ev fo).ug=.fn (.func k) [] cap∧X P fn.ntmps D ib env2 H2 (FinD P H.length rs Pt k cap)):OkP P f args H Pt:=by
 refine⟨fun vs w=>Go.MuLone.run_callFunc_enter hf hname hb vs w,?_⟩
 intro S vs hH hS hvs
 subst hH
 refine callsIn_wide.1 (callsIn_of_wp_marks (F:=Fr none) (n:=0) hf hb trivial ?_)
 have hl:vs.length=args.length:=hvs.1
 have hwa:=X_sound hD ia hca (hx hS.closed) ⟨S.w.heap.size,[],none⟩ S ⟨vs.toArray++Array.replicate (fn.ntmps-vs.toArray.size) undef,[]⟩ rfl hS (argsEnv_rel hvs _) (by simp; omega) ⟨Nat.le_refl _,⟨[],rfl,List.nodup_nil,fun D hD=>by simp at hD⟩,fun l h=>by cases h⟩
 refine wpIn_seq (wq_mono hwa ?_)
 rintro e1 a1 w1 ⟨x,env1,ρ1,H1,g1,g2,g3,g4,g5,g6,hx1,g7⟩
 subst hx1
 cases e1<;>simp only[ER]at g1
 refine wpIn_seq ?_
 refine wpIn_region ?_
 have hstep:=xo_sound (d:=⟨S.w.heap.size,[],none⟩) (N:=fn.ntmps) g3 g4 g5 g6 (ops := #[o1,od]) ho1 g7
  (next:=wpOpsIn (Fr none) 0 P #[o1,od] (Exit.then (cb.wpIn (Fr none) 0 P (bodyPostM (Fr none) 0 P fn fun e w'=>∃ (out:Out) (H':List AO) (v:Value) (ρ':Nat->Option Nat),Pt out H'∧Ext S.H.length S ⟨ρ',H',w'⟩∧Sim ⟨ρ',H',w'⟩ ∧
   match out with
   | .ret r=>e=.returned v∧VR ⟨ρ',H',w'⟩ r v
   | .pan x=>e=.panicked [{ v:=v,recovered:=false }]∧VR ⟨ρ',H',w'⟩ x v)) (bodyPostM (Fr none) 0 P fn fun e w'=>∃ (out:Out) (H':List AO) (v:Value) (ρ':Nat->Option Nat),Pt out H'∧Ext S.H.length S ⟨ρ',H',w'⟩∧Sim ⟨ρ',H',w'⟩ ∧
   match out with
   | .ret r=>e=.returned v∧VR ⟨ρ',H',w'⟩ r v
   | .pan x=>e=.panicked [{ v:=v,recovered:=false }]∧VR ⟨ρ',H',w'⟩ x v)) [1])
  (Q:=Exit.then (cb.wpIn (Fr none) 0 P (bodyPostM (Fr none) 0 P fn fun e w'=>∃ (out:Out) (H':List AO) (v:Value) (ρ':Nat->Option Nat),Pt out H'∧Ext S.H.length S ⟨ρ',H',w'⟩∧Sim ⟨ρ',H',w'⟩ ∧
   match out with
   | .ret r=>e=.returned v∧VR ⟨ρ',H',w'⟩ r v
   | .pan x=>e=.panicked [{ v:=v,recovered:=false }]∧VR ⟨ρ',H',w'⟩ x v)) (bodyPostM (Fr none) 0 P fn fun e w'=>∃ (out:Out) (H':List AO) (v:Value) (ρ':Nat->Option Nat),Pt out H'∧Ext S.H.length S ⟨ρ',H',w'⟩∧Sim ⟨ρ',H',w'⟩ ∧
   match out with
   | .ret r=>e=.returned v∧VR ⟨ρ',H',w'⟩ r v
   | .pan x=>e=.panicked [{ v:=v,recovered:=false }]∧VR ⟨ρ',H',w'⟩ x v)) ?_ ?_
 · -- the two operations
   show wpOpsIn (Fr none) 0 P #[o1,od] _ [0,1] a1 w1
   simp only[wpOpsIn]
   have e0:(#[o1,od]:Array Oper)[0]? = some o1:=rfl
   simp only[e0]
   unfold StepOf at hstep
   split
   · rename_i hw
     rw[if_pos hw]at hstep
     exact⟨fun _ _=>trivial,hstep⟩
   · rename_i hw
     rw[if_neg hw]at hstep
     exact⟨fun _ _=>trivial,hstep⟩
 · -- the deferred call is laid down; the rest
   rintro a2 w2 ⟨x2,env2,ρ2,H2,k1,k2,k3,k4,k5,k6,hx2,hvd,k,cap,hug,k7⟩
   subst hx2
   have hfv:=(chkOd_spec hfo k4).ug hvd
   rw[hug]at hfv
   obtain⟨us,cs,hv,hus,hcs⟩:=hfv.fn_inv
   have hus0:us=[]:=by have:=hus.1; simpa using this
   subst hus0
   obtain⟨ms1,m1,m2,m3⟩:=k6.ms
   simp only[List.append_nil]at m1
   simp only[wpOpsIn]
   have e1:(#[o1,od]:Array Oper)[1]? = some od:=rfl
   simp only[e1]
   have hw:Region.wanted od (yielded #[o1,od] a2.tmps)=true:=by simp[Region.wanted,hog]
   rw[if_pos hw]
   refine⟨fun _ _=>trivial,?_⟩
   have hrun:(od.semAt (Fr none).round a2.eval).run P w2=.ok (.defer { target:=.fn (.func k) cs.toArray,args := #[] }) w2:=by
    show(od.semAt none a2.eval).run P w2=_
    rw[Oper.semAt_none]
    simp[execOp,hod,resolve,hv,Deferred.ofValue]
   rw[hrun,Oper.uponIn_defer]
   have hput:({ a2 with defers:={ target:=.fn (.func k) cs.toArray,args := #[] }::a2.defers }:Act).put od.dst undef={ a2 with defers:={ target:=.fn (.func k) cs.toArray,args := #[] }::a2.defers }:=by rw[hdst]; rfl
   rw[hput]
   show cb.wpIn _ _ _ _ _ _
   have hwb:=X_sound hD ib hcb k7 ⟨w2.heap.size,{ target:=.fn (.func k) cs.toArray,args := #[] }::ms1.map mark,none⟩ ⟨ρ2,H2,w2⟩ { a2 with defers:={ target:=.fn (.func k) cs.toArray,args := #[] }::a2.defers } rfl k3 k4 k5 ⟨Nat.le_refl _,⟨[],by simp[m1],List.nodup_nil,fun D hD=>by simp at hD⟩,fun l h=>by cases h⟩
   refine wq_mono hwb ?_
   rintro e3 a3 w3 ⟨x3,env3,ρ3,H3,q1,q2,q3,q4,q5,q6,q7⟩
   obtain⟨ms3,n1,n2,n3⟩:=q6.ms
   have hE0:Ext S.H.length S ⟨ρ3,H3,w3⟩:=(g2.trans (k2.mono (g2.len (Nat.le_refl _)))).trans (q2.mono ((g2.trans (k2.mono (g2.len (Nat.le_refl _)))).len (Nat.le_refl _)))
   have hdb1:(⟨S.w.heap.size,[],none⟩:DB).Ok w2 (ms1.map mark):=⟨k6.le,⟨ms1,by simp,m2,m3⟩,fun l h=>by cases h⟩
   have main:∀ (m:Option SV) (u:FrameMode) (Pd:List AO->Prop),u≠.run->MD ⟨ρ3,H3,w3⟩ m u->OkD P k cap H3 m Pd->(∀ H4,Pd H4->(∀ s∈rs,s.side env3 H4)∧FinQ S.H.length Pt (resV env3 H4 rs) H4) →
    LeavesInM (Fr none) 0 P fn a3.tmps (fun e w'=>∃ (out:Out) (H':List AO) (v:Value) (ρ':Nat->Option Nat),Pt out H'∧Ext S.H.length S ⟨ρ',H',w'⟩∧Sim ⟨ρ',H',w'⟩ ∧
     match out with
     | .ret r=>e=.returned v∧VR ⟨ρ',H',w'⟩ r v
     | .pan x=>e=.panicked [{ v:=v,recovered:=false }]∧VR ⟨ρ',H',w'⟩ x v) a3.defers u w3:=by
    intro m u Pd hu hmd hok hres
    rw[n1]
    refine marks_leave2 hu ms3 w3 n2 n3 fun w4 ht => ?_
    have hS4:=turned_sim ht q3
    have hE4:=turned_ext ht hE0 (g2.trans (k2.mono (g2.len (Nat.le_refl _)))).size
    have hcs4:VRs ⟨ρ3,H3,w4⟩ cap cs:=⟨hcs.1,fun j s u h1 h2=>((hcs.2 j s u h1 h2).extV q2.v (.inl rfl)).extV (turned_extV ht) (.inl rfl)⟩
    have hmd4:MD ⟨ρ3,H3,w4⟩ m u:=by
     cases m with
     | none=>exact hmd
     | some y=>obtain⟨v,h1,h2⟩:=hmd; exact⟨v,h1,h2.extV (turned_extV ht) (.inl rfl)⟩
    refine⟨hu,.inr ⟨fr_one,.func k,cs.toArray,k,cs.toArray,rfl,?_,fun g hg=>trivial,?_⟩⟩
    · simp only[invoke]
      have:=hok.1 cs.toArray w4
      simpa using this
    · refine(hok.2 ⟨ρ3,H3,w4⟩ cs u rfl hS4 hcs4 hmd4).mono ?_
      rintro e5 u5 w5 ⟨v5,H5,ρ5,rfl,hset,hpd,hext5,hsim5⟩
      obtain⟨r1,r2⟩:=hres H5 hpd
      show LeavesInM _ _ _ _ _ _ (ms1.map mark) (settle u5) w5
      rw[hset]
      have hdb3:=hdb1.ext (S:=⟨ρ2,H2,w2⟩) (S':=⟨ρ3,H3,w3⟩) k3 q2
      have hdb4:(⟨S.w.heap.size,[],none⟩:DB).Ok w4 (ms1.map mark):=by
       refine⟨by rw[ht.size]; exact hdb3.le,⟨ms1,by simp,m2,fun D hD=>⟨(m3 D hD).1,?_⟩⟩,fun l h=>by cases h⟩
       have h1:=lt_heap (m3 D hD).2
       have h2:w3.heap[D]? = some (Obj.deferred (some [])):=by
        have h4:=(m3 D hD).2
        refine((q2.imm D (lt_heap h4) ?_).1).trans h4
        rintro⟨i,o,ho,hl,hρ⟩
        rcases k3.own ho hl hρ with ⟨c,h5⟩ | ⟨r,h5⟩ | ⟨es,cl,h5⟩<;>(rw[h4]at h5; cases h5)
       rcases ht.at_ D with h3 | ⟨h3,_,_⟩
       · exact h3.trans h2
       · exact absurd (Nat.lt_of_lt_of_le h1 h3) (Nat.lt_irrefl _)
      have hdb5:=hdb4.ext (S:=⟨ρ3,H3,w4⟩) (S':=⟨ρ5,H5,w5⟩) hS4 hext5
      obtain⟨ms5,j1,j2,j3⟩:=hdb5.ms
      have hE5:Ext S.H.length S ⟨ρ5,H5,w5⟩:=hE4.trans (hext5.mono (hE4.len (Nat.le_refl _)))
      have hEnv5:EnvR ⟨ρ5,H5,w5⟩ env3 a3.tmps:=EnvR.ext (S:=⟨ρ3,H3,w4⟩) ⟨fun t=>(q4.get t).extV (turned_extV ht) (.inl rfl)⟩ hext5
      rw[j1]
      simp only[List.append_nil]
      refine marks_leave (by simp) ms5 w5 j2 j3 fun w6 ht6 => ?_
      obtain⟨v,h3,h4⟩:=run_results (P:=P) (S:=⟨ρ5,H5,w6⟩) (turned_sim ht6 hsim5) ⟨fun t=>(hEnv5.get t).extV (turned_extV ht6) (.inl rfl)⟩ hr r1
      obtain⟨r,H',hp,h2⟩:=r2
      obtain⟨ρ',h5,h6,h7⟩:=h2 ⟨ρ5,H5,w6⟩ v rfl (turned_sim ht6 hsim5) h4
      exact⟨v,h3,.ret r,H',v,ρ',hp,(turned_ext ht6 hE5 (Nat.le_refl _)).trans h5,h6,rfl,h7⟩
   cases x3<;>cases e3<;>simp only[ER]at q1
   · obtain⟨Pd,y1,y2⟩:=q7
     exact main none .returning Pd (by simp) rfl y1 y2
   · exact q7.elim
   · exact q7.elim
   · obtain⟨Pd,y1,y2⟩:=q7
     exact main none .returning Pd (by simp) rfl y1 y2
   · obtain⟨Pd,y1,y2⟩:=q7
     obtain⟨v,rfl,hv⟩:=q1
     exact main (some _) (.panicking [{ v:=v,recovered:=false }]) Pd (by simp) ⟨v,rfl,hv⟩ y1 y2
 · rintro ch a' w' ⟨x2,env2,ρ2,H2,k1,k2,k3,k4,k5,k6,hx2,_⟩
   subst hx2
   simp[ER]at k1
end
def chkDf (P:Program) (D:Array Oper->List Nat->List Ins->Bool) (fn:Func) (ia:IC) (ins1:Ins) (fo:Od) (ib:IC) (rs:List RS):Bool :=
 (match fn.body with
  | some (.seq ca (.seq (.region _ ops false) cb)) =>
    (match ops.toList with
     | [o1,od]=>chkC P fn.ntmps D ca ia&&(chkIns P fn.ntmps ops o1 ins1&&((match o1.op with | .defer _=>false | _=>true)&&((match od.op with | .defer { callee:=.value f',args:=as,argTypes:=ts }=>as.isEmpty&&(ts.isEmpty&&chkOd f' fo) | _=>false) &&
         (od.guard.isNone&&(od.dst.isNone&&chkC P fn.ntmps D cb ib)))))
     | _=>false)
  | _ => false) && !(fn.name == "runtime.NumGoroutine") && chkRes P fn.results.toList rs && decide (fn.params.size + fn.nfree ≤ fn.ntmps)
theorem okP_df {P:Program} (hm:P.follows .mixedOrders=true) {f:FuncId} {fn:Func} {ia ib:IC} {ins1:Ins} {fo:Od} {rs:List RS} (hf:P.funcs[f]? = some fn) (hc:chkDf P drawB fn ia ins1 fo ib rs=true)
 {args:List SV} {H:List AO} {Pt:Out->List AO->Prop} (hn:args.length=fn.params.size+fn.nfree)
 (hx:closed H->X P fn.ntmps drawB ia (argsEnv args) H fun x env1 H1=>x=.normal∧xo P ins1 env1 H1 fun x env2 H2=>x=.normal∧(env2.ev fo).vd=true∧∃ k cap,(env2.ev fo).ug=.fn (.func k) [] cap∧X P fn.ntmps drawB ib env2 H2 (FinD P H.length rs Pt k cap)):OkP P f args H Pt:=by
 unfold chkDf at hc
 rw[Bool.and_eq_true,Bool.and_eq_true,Bool.and_eq_true]at hc
 obtain⟨⟨⟨h1,h2⟩,h3⟩,h4⟩:=hc
 split at h1
 · rename_i ca rid ops cb hb
   split at h1
   · rename_i o1 od hops
     simp only[Bool.and_eq_true]at h1
     obtain⟨k1,k2,k3,k4,k5,k6,k7⟩:=h1
     have e:ops = #[o1,od]:=by apply Array.ext'; simpa using hops
     subst e
     split at k4
     · rename_i f' as ts hod
       simp only[Bool.and_eq_true,Array.isEmpty_iff]at k4
       obtain⟨rfl,rfl,k4⟩:=k4
       refine okP_defer (draw_ok hm) hf hb (by simpa using h2) (by rw[hn]; simpa using h4) h3 k1 k2 (fun c e=>by rw[e]at k3; cases k3) hod (by simpa using k5) (by simpa using k6) k4 k7 hx
     · cases k4
   · cases h1
 · cases h1
def chkRc (P:Program) (D:Array Oper->List Nat->List Ins->Bool) (fn:Func) (d:Nat) (insR:List Ins) (i2:IC):Bool :=
 (match fn.body with
  | some (.seq (.region _ ops false) c2) =>
    (match ops.toList with
     | o::r=>(match o.op with | .call { callee:=.builtin .recover,args:=as,argTypes:=ts }=>as.isEmpty&&ts.isEmpty | _=>false)&&(o.guard.isNone&&(o.dst==some d&&(decide (d<fn.ntmps)&&(ndB ops&&(chkL P fn.ntmps ops r insR&&chkC P fn.ntmps D c2 i2)))))
     | _=>false)
  | _ => false) && !(fn.name == "runtime.NumGoroutine") && chkRes P fn.results.toList [] && decide (fn.params.size + fn.nfree ≤ fn.ntmps)
theorem okD_rc {P:Program} (hm:P.follows .mixedOrders=true) {f:FuncId} {fn:Func} {d:Nat} {insR:List Ins} {i2:IC} (hf:P.funcs[f]? = some fn) (hc:chkRc P drawB fn d insR i2=true)
 {args:List SV} {H:List AO} {m:Option SV} {Pt:List AO->Prop} (hn:args.length=fn.params.size+fn.nfree)
 (hx:closed H->xops P insR ((argsEnv args).put (some d) (rvD m)) H fun x env H1=>x=.normal∧X P fn.ntmps drawB i2 env H1 fun x _ H2=>(x=.normal∨x=.ret)∧∃ H',Pt H'∧Cv H.length (.tup []) H2 (.tup []) H'):OkD P f args H m Pt:=by
 unfold chkRc at hc
 rw[Bool.and_eq_true,Bool.and_eq_true,Bool.and_eq_true]at hc
 obtain⟨⟨⟨h1,h2⟩,h3⟩,h4⟩:=hc
 split at h1
 · rename_i rid ops c2 hb
   split at h1
   · rename_i o r hops
     simp only[Bool.and_eq_true,beq_iff_eq,decide_eq_true_eq]at h1
     obtain⟨k1,k2,k3,k4,k5,k6,k7⟩:=h1
     split at k1
     · rename_i as ts ho
       simp only[Bool.and_eq_true,Array.isEmpty_iff]at k1
       obtain⟨rfl,rfl⟩:=k1
       have h0:ops[0]? = some o:=by rw[←Array.getElem?_toList,hops]; rfl
       refine okD_of (draw_ok hm) hf hb (by simpa using h2) (by rw[hn]; simpa using h4) h3 h0 ho (by simpa using k2) k3 k4 k5 ?_ k7 hx
       rw[hops]; exact k6
     · cases k1
   · cases h1
 · cases h1
end Go.Ab
namespace Go.Ab
variable [GlobEnv] [FrEnv] [KnEnv]
set_option linter.unusedSectionVars false
section
variable {P:Program} {N:Nat} {D:Array Oper->List Nat->List Ins->Bool}
theorem WI.of_X (hD:DOk P D) {i:IC} {env:Env} {H:List AO} {K:XE->Env->List AO->Prop} (h:X P N D i env H K):WI P N D i env H K:=fun _ hc=>X_sound hD i hc h
theorem WI.seq (hD:DOk P D) {a b:IC} {env:Env} {H:List AO} {K:XE->Env->List AO->Prop} (h:X P N D a env H fun x env H=>match x with | .normal=>WI P N D b env H K | x=>K x env H):WI P N D (.seq a b) env H K:=by
 intro c hc
 cases c<;>simp only[chkC,Bool.false_eq_true,Bool.and_eq_true]at hc
 refine W.seq ((X_sound hD a hc.1 h).mono ?_)
 intro x env H hk
 cases x<;>first | exact hk | exact hk _ hc.2
theorem WI.tell {i:IC} {env env':Env} {H H':List AO} {K:XE->Env->List AO->Prop} (ht:Tell env H env' H') (h:WI P N D i env' H' K):WI P N D i env H K:=by
 intro c hc db S a hH hS he hN hd
 obtain⟨ρ',h1,h2,h3⟩:=ht S a.tmps hH hS he
 exact wq_mono (h c hc db ⟨ρ',H',S.w⟩ a rfl h2 h3 hN (hd.ext hS h1)) fun e a w h=>Post.trans h1 h
theorem ok_WI {P:Program} (hm:P.follows .mixedOrders=true) {f:FuncId} {fn:Func} {i:IC} {rs:List RS} (hf:P.funcs[f]? = some fn) (hc:chkF P drawB fn i rs=true)
 {args:List SV} {H:List AO} {out:Out} {H':List AO} (hn:args.length=fn.params.size+fn.nfree)
 (hx:closed H->WI P fn.ntmps drawB i (argsEnv args) H (Fin H.length rs out H')):Ok P f args H out H':=by
 unfold chkF at hc
 rw[Bool.and_eq_true,Bool.and_eq_true,Bool.and_eq_true]at hc
 obtain⟨⟨⟨h1,h2⟩,h3⟩,h4⟩:=hc
 split at h1
 · rename_i c hb
   exact(okP_W hf hb (by simpa using h2) (by rw[hn]; simpa using h4) h3 fun hcl=>(hx hcl c h1).mono fun x env H h=>fin_P h).toOk
 · cases h1
end
end Go.Ab
namespace Go.Ab
section
variable [GlobEnv] [FrEnv]
theorem Sim.to (G0 G:KnEnv) {S:St} (h : @Sim _ _ G0 S) (hk : @St.KF _ G S) : @Sim _ _ G S := @Sim.mk _ _ G S (@Sim.live _ _ G0 S h) (@Sim.bel _ _ G0 S h) (@Sim.inj _ _ G0 S h) (@Sim.lp _ _ G0 S h) (@Sim.gl _ _ G0 S h) hk
variable [G0:KnEnv]
theorem LI.learn {P:Program} {N:Nat} {D:Array Oper->List Nat->List Ins->Bool} {i:IC} {env:Env} {H:List AO} {K:XE->Env->List AO->Prop} (j p:Nat) {o:AO} {cells:List SV} {len:Nat}
 (ho:H[j]? = some o) (hl:o.live=true) (hp:o.cells[p]? = some (.slc cells len)) (hne:cells≠[]) (hu:SV.underL 0 cells=true)
 (h:∀ (a:Addr) (cap:Nat),@LI _ _ ⟨(.slc cells len,.slice (some a) len cap)::KnEnv.kn⟩ P N D i env (H.set j ⟨o.cells.set p (.val (.slice (some a) len cap)),o.ty,o.ver,true⟩) K) :
 LI P N D i env H K:=by
 intro c hc db S a hH hS he hN hd
 subst hH
 have h1:=hS.live j o ho hl
 cases hρ:S.ρ j with
 | none=>rw[hρ]at h1; rw[h1]at hp; simp at hp
 | some b =>
  rw[hρ]at h1
  obtain⟨us,rest,h2,h3⟩:=h1
  obtain⟨u,hu1,hu2⟩:=h3.get hp
  obtain⟨ad,cap,rfl⟩:∃ ad cap,u=.slice (some ad) len cap:=by
   cases hu2 with
   | nilslc=>exact absurd rfl hne
   | slc cells len a cap us hc hl hi h=>exact⟨a,cap,rfl⟩
  have hS':Sim ⟨S.ρ,S.H.set j ⟨o.cells.set p (.val (.slice (some ad) len cap)),o.ty,o.ver,true⟩,S.w⟩:=by
   refine sim_retellR hS ho hl ?_ ?_
   · intro s hs
     rcases List.mem_or_eq_of_mem_set hs with hs | rfl
     · exact(hS.bel j o ho s hs).2 hl
     · rfl
   · intro us' hl' hv'
     have e:us'.length=us.length:=hv'.1.trans h3.1.symm
     have:us'=us:=by
      unfold St.lies at hl'
      rw[hρ]at hl'
      obtain⟨rest',h4⟩:=hl'
      rw[h2]at h4
      have h5:us++rest=us'++rest':=by simpa using h4
      exact(List.append_inj h5 e.symm).1.symm
     subst this
     refine⟨us'.length,?_⟩
     rw[List.take_length]
     refine⟨by simpa using h3.1,fun k s v hs hv => ?_⟩
     by_cases hk:k=p
     · subst hk
       rw[hu1]at hv; cases hv
       rw[List.getElem?_set_self (getElem?_lt hp)]at hs; cases hs
       exact .val _
     · rw[List.getElem?_set_ne (by omega)]at hs
       exact h3.2 k s v hs hv
  have hx:=ext_retell ho hl (o.cells.set p (.val (.slice (some ad) len cap)))
  have hkf : @St.KF _ ⟨(.slc cells len,.slice (some ad) len cap)::KnEnv.kn⟩ ⟨S.ρ,S.H.set j ⟨o.cells.set p (.val (.slice (some ad) len cap)),o.ty,o.ver,true⟩,S.w⟩:=by
   intro q hq
   rcases List.mem_cons.1 hq with rfl | hq
   · exact⟨by simpa[SV.under]using hu,hu2.ext hx⟩
   · exact hS'.kf q hq
  have hd':=hd.ext hS hx
  refine loopIn_mono (h ad cap c hc db ⟨S.ρ,S.H.set j ⟨o.cells.set p (.val (.slice (some ad) len cap)),o.ty,o.ver,true⟩,S.w⟩ a rfl (Sim.to G0 ⟨(.slc cells len,.slice (some ad) len cap)::KnEnv.kn⟩ hS' hkf) (he.ext hx) hN hd') fun e a' w hp => ?_
  obtain⟨x,env',ρ,H',k1,k2,k3,k4,k5,k6,k7⟩:=hp
  refine⟨x,env',ρ,H',k1,hx.trans (k2.mono (hx.len (Nat.le_refl _))),Sim.to ⟨(.slc cells len,.slice (some ad) len cap)::KnEnv.kn⟩ G0 k3 (fun q hq => @Sim.kf _ _ ⟨(.slc cells len,.slice (some ad) len cap)::KnEnv.kn⟩ _ k3 q (List.mem_cons_of_mem _ hq)),k4,k5,k6,k7⟩
theorem LI.fact {P:Program} {N:Nat} {D:Array Oper->List Nat->List Ins->Bool} {i:IC} {env:Env} {H:List AO} {K:XE->Env->List AO->Prop} {R:Prop} (hr:∀ S,Sim S->S.H=H->R) (h:R->LI P N D i env H K):LI P N D i env H K:=by
 intro c hc db S a hH hS he hN hd
 exact h (hr S hS hH) c hc db S a hH hS he hN hd
theorem know_same {S:St} (hS:Sim S) {a:Addr} {c1 c2:List SV} {n1 n2 k1 k2:Nat} (h1:(SV.slc c1 n1,Value.slice (some a) n1 k1)∈KnEnv.kn) (h2:(SV.slc c2 n2,Value.slice (some a) n2 k2)∈KnEnv.kn)
 {j:Nat} {s t:Value} (hs:c1[j]? = some (.val s)) (ht:c2[j]? = some (.val t)):s=t:=by
 have v1:=(hS.kf _ h1).2
 have v2:=(hS.kf _ h2).2
 cases v1 with
 | slc _ _ _ _ us1 _ l1 i1 g1 =>
  cases v2 with
  | slc _ _ _ _ us2 _ l2 i2 g2 =>
   have hl1:j<us1.length:=by rw[l1]; exact getElem?_lt hs
   have hl2:j<us2.length:=by rw[l2]; exact getElem?_lt ht
   have e1:=i1.1 j _ (List.getElem?_eq_getElem hl1)
   have e2:=i2.1 j _ (List.getElem?_eq_getElem hl2)
   have q1:=g1 j _ _ hs (List.getElem?_eq_getElem hl1)
   have q2:=g2 j _ _ ht (List.getElem?_eq_getElem hl2)
   rw[e1]at e2
   have e3:=Option.some.inj e2
   rw[e3]at q1
   generalize us2[j]=u at q1 q2
   cases q1; cases q2; rfl
theorem Tell.known {env:Env} {H:List AO} {j p:Nat} {o:AO} (ho:H[j]? = some o) (hl:o.live=true) {a:Addr} {len cap:Nat} (hp:o.cells[p]? = some (.val (.slice (some a) len cap))) {cells:List SV} (hk:(SV.slc cells len,Value.slice (some a) len cap)∈KnEnv.kn) :
 Tell env H env (H.set j ⟨o.cells.set p (.slc cells len),o.ty,o.ver,true⟩):=by
 intro S tmps hH hS he
 subst hH
 have hx:=ext_retell ho hl (o.cells.set p (.slc cells len))
 refine⟨S.ρ,hx,sim_retell hS ho hl ?_ (fun us h=>⟨us.length,?_⟩),he.ext hx⟩
 · intro s hs
   rcases List.mem_or_eq_of_mem_set hs with hs | rfl
   · exact(hS.bel j o ho s hs).2 hl
   · rfl
 · rw[List.take_length]
   refine⟨by simpa using h.1,fun k s v hs hv => ?_⟩
   by_cases hk':k=p
   · subst hk'
     rw[List.getElem?_set_self (getElem?_lt hp)]at hs; cases hs
     have:=h.2 _ _ _ hp hv
     cases this
     exact(hS.kf _ hk).2
   · rw[List.getElem?_set_ne (by omega)]at hs
     exact h.2 k s v hs hv
end
end Go.Ab
namespace Go.Ab
@[simp] theorem vd_pn (x:SV):SV.vd (.pn x)=x.vd:=rfl
@[simp] theorem ug_pn (x:SV):SV.ug (.pn x)=x.ug:=rfl
@[simp] theorem isCell_pn (c:List SV) (n:Nat):SV.isCell (.pn (.slc c n))=true:=rfl
@[simp] theorem flat_pn (x:SV):SV.flat (.pn x)=[.pn x]:=rfl
@[simp] theorem isPt_pn (x:SV):SV.isPt (.pn x)=false:=rfl
@[simp] theorem isAg_pn (x:SV):SV.isAg (.pn x)=false:=rfl
@[simp] theorem isTu_pn (x:SV):SV.isTu (.pn x)=false:=rfl
@[simp] theorem pnW_slc (c:List SV) (n:Nat):SV.pnW (.slc c n)=.pn (.slc c n):=rfl
class KnFresh [FrEnv]:Prop where
 fr:FrEnv.fresh=true
section
variable [GlobEnv] [FrEnv]
variable [G0:KnEnv]
theorem LI.learnP {P:Program} {N:Nat} {D:Array Oper->List Nat->List Ins->Bool} {i:IC} {env:Env} {H:List AO} {K:XE->Env->List AO->Prop} (j p:Nat) {o:AO} {cells:List SV} {len:Nat}
 (ho:H[j]? = some o) (hl:o.live=true) (hp:o.cells[p]? = some (.pn (.slc cells len))) (hne:cells≠[]) (hu:SV.underL 0 cells=true)
 (h:∀ (a:Addr) (cap:Nat),@LI _ _ ⟨(.slc cells len,.slice (some a) len cap)::(.pn (.slc cells len),.slice (some a) len cap)::KnEnv.kn⟩ P N D i env (H.set j ⟨o.cells.set p (.val (.slice (some a) len cap)),o.ty,o.ver,true⟩) K) :
 LI P N D i env H K:=by
 intro c hc db S a hH hS he hN hd
 subst hH
 have h1:=hS.live j o ho hl
 cases hρ:S.ρ j with
 | none=>rw[hρ]at h1; rw[h1]at hp; simp at hp
 | some b =>
  rw[hρ]at h1
  obtain⟨us,rest,h2,h3⟩:=h1
  obtain⟨u,hu1,hup⟩:=h3.get hp
  have hu2:VR S (.slc cells len) u:=by cases hup with | pn x v h hr hp=>exact h
  obtain⟨ad,cap,rfl⟩:∃ ad cap,u=.slice (some ad) len cap:=by
   cases hu2 with
   | nilslc=>exact absurd rfl hne
   | slc cells len a cap us hc hl hi h=>exact⟨a,cap,rfl⟩
  have hS':Sim ⟨S.ρ,S.H.set j ⟨o.cells.set p (.val (.slice (some ad) len cap)),o.ty,o.ver,true⟩,S.w⟩:=by
   refine sim_retellR hS ho hl ?_ ?_
   · intro s hs
     rcases List.mem_or_eq_of_mem_set hs with hs | rfl
     · exact(hS.bel j o ho s hs).2 hl
     · rfl
   · intro us' hl' hv'
     have e:us'.length=us.length:=hv'.1.trans h3.1.symm
     have:us'=us:=by
      unfold St.lies at hl'
      rw[hρ]at hl'
      obtain⟨rest',h4⟩:=hl'
      rw[h2]at h4
      have h5:us++rest=us'++rest':=by simpa using h4
      exact(List.append_inj h5 e.symm).1.symm
     subst this
     refine⟨us'.length,?_⟩
     rw[List.take_length]
     refine⟨by simpa using h3.1,fun k s v hs hv => ?_⟩
     by_cases hk:k=p
     · subst hk
       rw[hu1]at hv; cases hv
       rw[List.getElem?_set_self (getElem?_lt hp)]at hs; cases hs
       exact .val _
     · rw[List.getElem?_set_ne (by omega)]at hs
       exact h3.2 k s v hs hv
  have hx:=ext_retell ho hl (o.cells.set p (.val (.slice (some ad) len cap)))
  have hkf : @St.KF _ ⟨(.slc cells len,.slice (some ad) len cap)::(.pn (.slc cells len),.slice (some ad) len cap)::KnEnv.kn⟩ ⟨S.ρ,S.H.set j ⟨o.cells.set p (.val (.slice (some ad) len cap)),o.ty,o.ver,true⟩,S.w⟩:=by
   intro q hq
   rcases List.mem_cons.1 hq with rfl | hq
   · exact⟨by simpa[SV.under]using hu,hu2.ext hx⟩
   · rcases List.mem_cons.1 hq with rfl | hq
     · exact⟨by simpa[SV.under]using hu,hup.ext hx⟩
     · exact hS'.kf q hq
  have hd':=hd.ext hS hx
  refine loopIn_mono (h ad cap c hc db ⟨S.ρ,S.H.set j ⟨o.cells.set p (.val (.slice (some ad) len cap)),o.ty,o.ver,true⟩,S.w⟩ a rfl (Sim.to G0 ⟨(.slc cells len,.slice (some ad) len cap)::(.pn (.slc cells len),.slice (some ad) len cap)::KnEnv.kn⟩ hS' hkf) (he.ext hx) hN hd') fun e a' w hp => ?_
  obtain⟨x,env',ρ,H',k1,k2,k3,k4,k5,k6,k7⟩:=hp
  refine⟨x,env',ρ,H',k1,hx.trans (k2.mono (hx.len (Nat.le_refl _))),Sim.to ⟨(.slc cells len,.slice (some ad) len cap)::(.pn (.slc cells len),.slice (some ad) len cap)::KnEnv.kn⟩ G0 k3 (fun q hq => @Sim.kf _ _ ⟨(.slc cells len,.slice (some ad) len cap)::(.pn (.slc cells len),.slice (some ad) len cap)::KnEnv.kn⟩ _ k3 q (List.mem_cons_of_mem _ (List.mem_cons_of_mem _ hq))),k4,k5,k6,k7⟩
theorem Tell.knownP {env:Env} {H:List AO} {j p:Nat} {o:AO} (ho:H[j]? = some o) (hl:o.live=true) {a:Addr} {len cap:Nat} (hp:o.cells[p]? = some (.val (.slice (some a) len cap))) {s:SV} (hs':s.isCell=true) (hk:(s,Value.slice (some a) len cap)∈KnEnv.kn) :
 Tell env H env (H.set j ⟨o.cells.set p s,o.ty,o.ver,true⟩):=by
 intro S tmps hH hS he
 subst hH
 have hx:=ext_retell ho hl (o.cells.set p s)
 refine⟨S.ρ,hx,sim_retell hS ho hl ?_ (fun us h=>⟨us.length,?_⟩),he.ext hx⟩
 · intro s2 hs
   rcases List.mem_or_eq_of_mem_set hs with hs | rfl
   · exact(hS.bel j o ho s2 hs).2 hl
   · exact hs'
 · rw[List.take_length]
   refine⟨by simpa using h.1,fun k s2 v hs hv => ?_⟩
   by_cases hk':k=p
   · subst hk'
     rw[List.getElem?_set_self (getElem?_lt hp)]at hs; cases hs
     have:=h.2 _ _ _ hp hv
     cases this
     exact(hS.kf _ hk).2
   · rw[List.getElem?_set_ne (by omega)]at hs
     exact h.2 k s2 v hs hv
theorem le_pn {i off len sz ver:Nat}:SV.le (.own i off len sz ver) (.pn (.own i off len sz ver)):=fun S v h=>.pn _ v h rfl fun h=>by simp[SV.isOwn]at h
theorem pn_le {x:SV}:SV.le (.pn x) x:=fun S v h=>by cases h with | pn x v h hr hp=>exact h
theorem Cv.pre {n0:Nat} {r r1 r':SV} {H H':List AO} (h:SV.le r r1) (hc:Cv n0 r1 H r' H'):Cv n0 r H r' H':=fun S v hS hsim hv=>hc S v hS hsim (h S v hv)
end
end Go.Ab
namespace Go.Ab
variable [GlobEnv] [FrEnv] [KnEnv] [KnNo] [KnOld]
open Go.ChangeShapes Go.WideShapes Go.ChangeAt Go.RowKit
mutual
def Sh.by:Sh->Nat
 | .int k=>k.bits / 8
 | .bool=>1
 | .str=>16
 | .sl _=>24
 | .st l=>Sh.byL l
def Sh.byL:List Sh->Nat
 | []=>0
 | s::r=>s.by+Sh.byL r
end
section
variable {H:Type} {enc:TypeId×Value->H} {P:Program} {W:World} {base:Nat} {spare:Nat->Bool} {held:Bool}
def wOk (l:List Nat):Prop:=∀ n∈l,n≤reachBytes
theorem wOk_app {a b:List Nat}:wOk (a++b)↔wOk a∧wOk b:=by
 unfold wOk
 constructor
 · intro h; exact⟨fun n hn=>h n (by simp[hn]),fun n hn=>h n (by simp[hn])⟩
 · rintro⟨h1,h2⟩ n hn
   rcases List.mem_append.1 hn with hn | hn
   · exact h1 n hn
   · exact h2 n hn
theorem wOk_all {t:TypeId}:∀ {l:List (DataW H)},wOk (DataW.weightsAll P t l)->∀ d∈l,wOk (d.weights P t)
 | [],_,d,hd=>by simp at hd
 | x::r,h,d,hd=>by
  rw[DataW.weightsAll,wOk_app]at h
  rcases List.mem_cons.1 hd with rfl | hd
  · exact h.1
  · exact wOk_all h.2 d hd
theorem wOk_each:∀ {ts:List TypeId} {l:List (DataW H)},wOk (DataW.weightsEach P ts l)->∀ (i:Nat) (t:TypeId) (d:DataW H),ts[i]? = some t->l[i]? = some d->wOk (d.weights P t)
 | [],_,_,i,t,d,ht,_=>by simp at ht
 | _::_,[],_,i,t,d,_,hd=>by simp at hd
 | t0::ts,d0::l,h,i,t,d,ht,hd=>by
  rw[DataW.weightsEach,wOk_app]at h
  cases i with
  | zero=>simp at ht hd; subst ht hd; exact h.1
  | succ i=>simp at ht hd; exact wOk_each h.2 i t d ht hd
end
end Go.Ab
namespace Go.Ab
variable [GlobEnv] [FrEnv] [KnEnv] [KnNo] [KnOld]
open Go.ChangeShapes Go.WideShapes Go.ChangeAt Go.RowKit
mutual
def Dt.ty (P:Program):Dt->TypeId->Prop
 | .int k n,t=>P.underlying t=some (.int k)∧(Lit.int k n).wf=true
 | .bool _,t=>P.underlying t=some .bool
 | .str s,t=>P.underlying t=some .string∧s.size≤reachBytes
 | .sl l,t=>∃ e,P.underlying t=some (.slice e)∧l.length≤reachBytes∧Dt.tyA P l e
 | .agg l,t=>∃ fs,P.underlying t=some (.struct fs)∧Dt.tyL P l (fs.toList.map (·.type))
def Dt.tyA (P:Program):List Dt->TypeId->Prop
 | [],_=>True
 | d::r,t=>d.ty P t∧Dt.tyA P r t
def Dt.tyL (P:Program):List Dt->List TypeId->Prop
 | [],ts=>ts=[]
 | d::r,ts=>match ts with | []=>False | t::ts=>d.ty P t∧Dt.tyL P r ts
end
def tyFs (P:Program):List Field->Nat->Nat->Bool
 | [],off,tot=>off==tot
 | f::fs,off,tot=>f.offset==off&&tyFs P fs (off+P.cellsOf f.type) tot
def tyOk (P:Program) (S:List TypeId) (t:TypeId):Bool:=match P.underlying t with
 | some (.int _)=>true
 | some .bool=>true
 | some .string=>true
 | some (.slice e)=>S.contains e&&decide (1≤P.bytesOf e)
 | some (.struct fs)=>fs.toList.all (fun f=>S.contains f.type)&&tyFs P fs.toList 0 (P.cellsOf t)
 | _=>false
theorem tyA_iff {P:Program} {t:TypeId}:∀ {l:List Dt},Dt.tyA P l t↔∀ x∈l,x.ty P t
 | []=>by simp[Dt.tyA]
 | d::r=>by simp[Dt.tyA,tyA_iff (l:=r)]
mutual
def blkD {H:Type}:DataW H->Nat
 | .lit (.string bytes)=>bytes.length+1
 | .lit _=>1
 | .nil=>1
 | .ptr d=>blkD d+1
 | .slice elems spare=>blkA elems+blkA spare+1
 | .agg parts=>blkA parts+1
 | .iface _ d=>blkD d+1
 | .map entries=>blkE entries+1
 | .held _=>1
def blkA {H:Type}:List (DataW H)->Nat
 | []=>0
 | d::r=>blkD d+blkA r
def blkE {H:Type}:List (Lit×DataW H)->Nat
 | []=>0
 | x::r=>blkX x+blkE r
def blkX {H:Type}:Lit×DataW H->Nat
 | (.string bytes,d)=>bytes.length+blkD d+1
 | (_,d)=>blkD d+1
end
theorem blkD_pos {H:Type} (d:DataW H):1≤blkD d:=by
 unfold blkD; split<;>omega
theorem blkA_app {H:Type}:∀ a b:List (DataW H),blkA (a++b)=blkA a+blkA b
 | [],b=>by simp[blkA]
 | x::a,b=>by simp[blkA,blkA_app a b]; omega
mutual
def Dt.blk:Dt->Nat
 | .int _ _=>1
 | .bool _=>1
 | .str s=>s.size+1
 | .sl l=>Dt.blkL l+1
 | .agg l=>Dt.blkL l+1
def Dt.blkL:List Dt->Nat
 | []=>0
 | d::r=>d.blk+Dt.blkL r
end
theorem blkL_app:∀ a b:List Dt,Dt.blkL (a++b)=Dt.blkL a+Dt.blkL b
 | [],b=>by simp[Dt.blkL]
 | x::a,b=>by simp[Dt.blkL,blkL_app a b]; omega
section
variable {H:Type} {enc:TypeId×Value->H} {P:Program} {W:World} {base:Nat} {spare:Nat->Bool} {held:Bool}
theorem readT_row {e:TypeId} {n:Nat} {a:Addr} {elems:List (DataW H×List MemPlace)} (hw:∀ x∈elems,wOk (x.1.weights P e))
 (ih:∀ cs x,DataW.trod enc P W base spare held n e cs=some x->wOk (x.1.weights P e)->∃ d:Dt,d.ty P e∧VRs (st0 W) d.cells cs∧d.blk≤blkD x.1) :
 ∀ k,k≤elems.length->(∀ i,i<k->(W.cells? base (a.add (i*P.cellsOf e)) (P.cellsOf e)).bind (DataW.trod enc P W base spare held n e)=elems[i]?) →
  ∃ (ds:List Dt) (us:List Value),ds.length=k∧(∀ x∈ds,x.ty P e)∧VRs (st0 W) (Dt.cellsL ds) us∧us.length=k*P.cellsOf e∧(∀ j u,us[j]? = some u->W.cell? (a.add j)=some u)∧Dt.blkL ds≤blkA ((elems.take k).map (·.1)):=by
 intro k
 induction k with
 | zero=>intro _ _; exact⟨[],[],rfl,by simp,VRs.nil _,by simp,by simp,by simp[Dt.blkL]⟩
 | succ k ihk =>
  intro hk hel
  obtain⟨ds,us,h1,h2,h3,h4,h5,hbk⟩:=ihk (by omega) (fun i hi=>hel i (by omega))
  have h6:=hel k (by omega)
  rw[List.getElem?_eq_getElem (by omega),Option.bind_eq_some_iff]at h6
  obtain⟨cs,hcs,ht⟩:=h6
  obtain⟨d,hd,hv,hdb⟩:=ih cs _ ht (hw _ (List.getElem_mem _))
  obtain⟨_,hlen,hc⟩:=World.cells?_some hcs
  refine⟨ds++[d],us++cs,by simp[h1],?_,?_,?_,?_,?_⟩
  · intro x hx
    rcases List.mem_append.1 hx with hx | hx
    · exact h2 x hx
    · simp at hx; subst hx; exact hd
  · rw[cellsL_append]; simpa[Dt.cellsL]using h3.append hv
  · simp[h4,hlen,Nat.add_mul]
  · intro j u hj
    by_cases hlt:j<us.length
    · rw[List.getElem?_append_left hlt]at hj; exact h5 j u hj
    · rw[List.getElem?_append_right (by omega)]at hj
      have hj':j-us.length<cs.length:=getElem?_lt hj
      have:=hc (j-us.length) (by omega)
      rw[hj,add_add]at this
      rw[←this]; congr 2; omega
  · rw[List.take_succ_eq_append_getElem (by omega),List.map_append,blkA_app,blkL_app]
    simp only[Dt.blkL,blkA,List.map_cons,List.map_nil]; omega
theorem readT_fs {S:List TypeId} {n:Nat} (ih:∀ (t:TypeId) (cs:List Value) (x:DataW H×List MemPlace),DataW.trod enc P W base spare held n t cs=some x->wOk (x.1.weights P t)->t∈S->∃ d:Dt,d.ty P t∧VRs (st0 W) d.cells cs∧d.blk≤blkD x.1) :
 ∀ {fs:List Field} {off tot:Nat} {cs:List Value} {ys:List (DataW H)},tyFs P fs off tot=true->(∀ f∈fs,f.type∈S) →
 (∀ (i:Nat) (f:Field),fs[i]? = some f->∃ x,DataW.trod enc P W base spare held n f.type ((cs.drop f.offset).take (P.cellsOf f.type))=some x∧wOk (x.1.weights P f.type)∧ys[i]? = some x.1)->cs.length=tot →
 ∃ m,Dt.tyL P m (fs.map (·.type))∧VRs (st0 W) (Dt.cellsL m) (cs.drop off)∧Dt.blkL m≤blkA ys
 | [],off,tot,cs,ys,hc,_,_,hl=>by
  simp only[tyFs,beq_iff_eq]at hc
  refine⟨[],rfl,?_,by simp[Dt.blkL]⟩
  rw[List.drop_of_length_le (by omega)]
  exact VRs.nil _
 | f::fs,off,tot,cs,ys,hc,hS,hf,hl=>by
  simp only[tyFs,Bool.and_eq_true,beq_iff_eq]at hc
  obtain⟨h1,h3⟩:=hc
  obtain⟨x,hx,hwx,hy⟩:=hf 0 f rfl
  obtain⟨d,hd,hv,hdb⟩:=ih _ _ _ hx hwx (hS f (by simp))
  obtain⟨y,ys',rfl⟩:∃ y ys',ys=y::ys':=by cases ys with
   | nil=>simp at hy
   | cons y ys'=>exact⟨y,ys',rfl⟩
  have hy:y=x.1:=by simpa using hy
  obtain⟨m,hm,hv',hmb⟩:=readT_fs ih (fs:=fs) (cs:=cs) (ys:=ys') h3 (fun g hg=>hS g (by simp[hg])) (fun i f hi=>hf (i+1) f (by simpa using hi)) hl
  refine⟨d::m,⟨hd,hm⟩,?_,by simp only[Dt.blkL,blkA]; rw[hy]; omega⟩
  have:=hv.append hv'
  rw[h1,<- List.drop_drop,List.take_append_drop]at this
  simpa[Dt.cellsL]using this
theorem readT {S:List TypeId} (hS:∀ t∈S,tyOk P S t=true):∀ (fuel:Nat) (t:TypeId) (cs:List Value) (x:DataW H×List MemPlace),DataW.trod enc P W base spare held fuel t cs=some x->wOk (x.1.weights P t)->t∈S →
 ∃ d:Dt,d.ty P t∧VRs (st0 W) d.cells cs∧d.blk≤blkD x.1:=by
 intro fuel
 induction fuel with
 | zero=>intro t cs x h; simp[DataW.trod]at h
 | succ n ih =>
  intro t cs x h hw htS
  have hc:=hS t htS
  unfold tyOk at hc
  split at hc
  · rename_i k ht
    obtain⟨m,rfl,_,hwf⟩:=DataW.trod_int ht h
    exact⟨.int k m,⟨ht,hwf⟩,VRs.cons (.val _) (VRs.nil _),blkD_pos _⟩
  · rename_i ht
    obtain⟨b,rfl⟩:∃ b,cs=[.bool b]:=by
     unfold DataW.trod at h
     rw[ht]at h
     split at h<;>simp_all
    exact⟨.bool b,ht,VRs.cons (.val _) (VRs.nil _),blkD_pos _⟩
  · rename_i ht
    obtain⟨s,rfl,rfl,hs⟩:=DataW.trod_string ht h
    refine⟨.str s,⟨ht,?_⟩,VRs.cons (.val _) (VRs.nil _),by simp[Dt.blk,blkD]⟩
    have:=hw s.data.toList.length (by simp[DataW.weights])
    simpa using this
  · rename_i e ht
    simp only[Bool.and_eq_true,decide_eq_true_eq,List.contains_iff_mem]at hc
    rcases DataW.trod_slice ht h with ⟨rfl,_⟩ | ⟨a,len,cap,elems,rest,m,hm',rfl,rfl,_,hl,hm,hlen,hel,_,_⟩
    · exact⟨.sl [],⟨e,ht,by simp,by simp[Dt.tyA]⟩,VRs.cons .nilslc (VRs.nil _),blkD_pos _⟩
    · cases hm'
      simp only[DataW.weights,ht]at hw
      have hw0:=hw _ (List.mem_cons_self ..)
      have hwa:wOk (DataW.weightsAll P e (elems.map (·.1))++DataW.weightsAll P e (rest.map (·.1))):=fun n hn=>hw n (List.mem_cons_of_mem _ hn)
      rw[wOk_app]at hwa
      have hwe:∀ x∈elems,wOk (x.1.weights P e):=fun x hx=>wOk_all hwa.1 _ (List.mem_map_of_mem hx)
      obtain⟨ds,us,h1,h2,h3,h4,h5,hbk⟩:=readT_row hwe (fun cs x hx hwx=>ih e cs x hx hwx hc.1) len (by omega) hel
      refine⟨.sl ds,⟨e,ht,?_,tyA_iff.2 h2⟩,VRs.cons ?_ (VRs.nil _),by
       rw[List.take_of_length_le (by omega)]at hbk
       simp only[Dt.blk,blkD]; omega⟩
      · simp only[List.length_map]at hw0
        have k1:ds.length*1≤ds.length*P.bytesOf e:=Nat.mul_le_mul_left _ hc.2
        have k2:ds.length*P.bytesOf e≤(elems.length+rest.length)*P.bytesOf e:=Nat.mul_le_mul_right _ (by omega)
        omega
      · have:ds.length=len:=h1
        subst this
        exact .slc _ _ a cap us hl h3.1 ⟨h5,fun _=>rw0 W _,fun hf=>absurd (KnOld.old.symm.trans hf) (by decide)⟩ h3.2
  · rename_i fs ht
    simp only[Bool.and_eq_true,List.all_eq_true,List.contains_iff_mem]at hc
    obtain⟨xs,m,hm',rfl,hl,hlen,hf⟩:=DataW.trod_struct ht h
    cases hm'
    simp only[DataW.weights,ht]at hw
    have hwe:=wOk_each hw
    obtain⟨m,hm,hv,hmb⟩:=readT_fs (S:=S) (n:=n) ih (fs:=fs.toList) (off:=0) (cs:=cs) (ys:=xs.map (·.1)) hc.2 hc.1 (fun i f hi=>by
     have hlt:i<xs.length:=by rw[hlen]; simpa using getElem?_lt hi
     refine⟨xs[i],?_,hwe i f.type _ (by simp[hi]) (by simp[hlt]),by simp[hlt]⟩
     rw[hf i f (by simpa using hi),List.getElem?_eq_getElem hlt]) hl
    exact⟨.agg m,⟨fs,ht,hm⟩,by rw[Dt.cells]; simpa using hv,by simp only[Dt.blk,blkD]; omega⟩
  · cases hc
end
section
variable {H:Type} {enc:TypeId×Value->H} {P:Program} {W:World} {base b0:Nat} {spare:Nat->Bool} {held:Bool} {r:Reach}
theorem readT_one {S:List TypeId} (hS:∀ t∈S,tyOk P S t=true) {t:TypeId} (htS:t∈S) {v:Value} {d:DataW H} {p:List MemPlace} (hval:Value.okWide P W r b0 t v) (hd:DataW.Trod enc P W base spare held t v d p) (hw:wOk (d.weights P t)) :
 ∃ dt:Dt,dt.ty P t∧VR (st0 W) dt.sv v∧dt.blk≤blkD d:=by
 obtain⟨fuel,hf⟩:=hd
 obtain⟨dt,hh,hv,hdb⟩:=readT hS fuel t _ _ hf hw htS
 refine⟨dt,hh,?_,hdb⟩
 clear hdb
 cases dt with
 | int k n =>
  obtain⟨n,rfl⟩:=okWide_int hh.1 hval
  exact hv.2 0 _ _ rfl (by simp[Value.cells])
 | bool b =>
  obtain⟨n,rfl⟩:=okWide_bool hh hval
  exact hv.2 0 _ _ rfl (by simp[Value.cells])
 | str s =>
  obtain⟨n,rfl⟩:=okWide_string hh.1 hval
  exact hv.2 0 _ _ rfl (by simp[Value.cells])
 | sl l =>
  obtain⟨e,ht,_⟩:=hh
  obtain⟨a,len,cap,rfl⟩:=okWide_slice ht hval
  exact hv.2 0 _ _ rfl (by simp[Value.cells])
 | agg l =>
  obtain⟨fs,ht,_⟩:=hh
  obtain⟨cs,rfl,_⟩:=okWide_struct ht hval
  have:VR (st0 W) (.agg (Dt.cellsL l)) (.agg cs.toList.toArray):=VR.of_agg (by rw[Dt.cells]at hv; simpa[Value.cells]using hv)
  simpa[Dt.sv]using this
theorem readT_args {S:List TypeId} (hS:∀ t∈S,tyOk P S t=true):∀ {ts:List TypeId} {vs:List Value} {ds:List (DataW H)} {p:List MemPlace},(∀ t∈ts,t∈S) →
 (∀ (j:Nat) t v,ts[j]? = some t->vs[j]? = some v->Value.okWide P W r b0 t v)->DataW.TrodAll enc P W base spare held ts vs ds p->wOk (DataW.weightsEach P ts ds) →
 ∃ dts,Dt.tyL P dts ts∧VRs (st0 W) (dts.map Dt.sv) vs∧Dt.blkL dts≤blkA ds
 | [],vs,ds,p,hb,hval,h,hw=>by
  obtain⟨rfl,_,_⟩:=trodAll_nil h; exact⟨[],rfl,VRs.nil _,by simp[Dt.blkL]⟩
 | t::ts,vs,ds,p,hb,hval,h,hw=>by
  obtain⟨v,vs',d,ds',p,q,rfl,rfl,rfl,h1,h2⟩:=trodAll_cons h
  rw[DataW.weightsEach,wOk_app]at hw
  obtain⟨dt,g1,g2,gb⟩:=readT_one hS (hb t (by simp)) (hval 0 t v rfl rfl) h1 hw.1
  obtain⟨dts,g3,g4,gb2⟩:=readT_args hS (fun t ht=>hb t (by simp[ht])) (fun j t v ht hv=>hval (j+1) t v (by simpa using ht) (by simpa using hv)) h2 hw.2
  exact⟨dt::dts,⟨g1,g3⟩,VRs.cons g2 g4,by simp only[Dt.blkL,blkA]; omega⟩
theorem law_contract_bulk {f:FuncId} {fn:Func} {s:ChangeSpec} (S:List TypeId) (hS:(S.all fun t=>tyOk P S t)=true) (hg:(st0 W).GL) (hl:laidOutB P=true) (hc:(fn.params.toList.all fun t=>S.contains t)=true) (hr:∀ t∈fn.params.toList,P.readableRec t=true∧t<P.types.size)
 (hvars:s.vars=[]) (hfn:∀ ds:List (DataW H),ds.length=fn.params.size->s.fn H ds={ results:=[.lit (.bool true)],args:=ds }) {tb:TypeId} (hres:fn.resultTypes = #[tb]) (htb:P.underlying tb=some .bool)
 {n:Nat} (hok:∀ dts,Dt.tyL P dts fn.params.toList->Dt.blkL dts≤n->Ok P f (dts.map Dt.sv) [] (.ret (bl true)) [])
 (args:Array Value) (ds gs:List (DataW H)) (before:List MemPlace)
 (hval:∀ (j:Nat) t v,fn.params[j]? = some t->args[j]? = some v->Value.okWide P W r b0 t v) (hW:DataW.Whole enc P fn.params.toList s.vars false W args.toList ds gs before)
 (hbk:blkA ds≤n) (hsz:(DataW.weightsEach P (fn.params.toList++s.plain.varTypes P) (ds++gs)).all (· ≤ reachBytes)=true) :
 Calls P f args W fun e W'=>∃ v,e=.returned v∧s.post enc P fn false true false false W args v W':=by
 have hW':=hW
 obtain⟨p,q,hA,hV,rfl,hfz,hnd⟩:=hW
 rw[hvars]at hV
 obtain⟨rfl,rfl⟩:=trodVars_none hV
 have hwk:∀ (ts:List TypeId) (us:List TypeId) (ds:List (DataW H)),ds.length=ts.length->(DataW.weightsEach P (ts++us) (ds++[])).all (· ≤ reachBytes)=true->wOk (DataW.weightsEach P ts ds):=by
  intro ts us ds
  induction ts generalizing ds with
  | nil=>intro h _; cases ds with | nil=>intro n hn; simp[DataW.weightsEach]at hn | cons d r=>simp at h
  | cons t ts ih =>
   intro h h2
   cases ds with
   | nil=>simp at h
   | cons d r =>
    simp only[List.cons_append,DataW.weightsEach,List.all_append,Bool.and_eq_true]at h2
    rw[DataW.weightsEach,wOk_app]
    exact⟨fun n hn=>by simpa using List.all_eq_true.1 h2.1 n hn,ih r (by simpa using h) h2.2⟩
 have hS':∀ t∈S,tyOk P S t=true:=fun t ht=>List.all_eq_true.1 hS t ht
 obtain⟨dts,h1,h2,hb⟩:=readT_args hS' (fun t ht=>by simpa using List.all_eq_true.1 hc t ht) (fun j t v ht hv=>hval j t v (by simpa using ht) (by simpa using hv)) hA (hwk _ _ _ (trodAll_len hA) hsz)
 have h3:=ok_calls (hok dts h1 (Nat.le_trans hb hbk)) hg h2
 refine h3.mono fun e W' ⟨he,bel⟩ => ?_
 subst he
 have hlen:ds.length=fn.params.size:=by rw[trodAll_len hA]; simp
 have hf2:=hfn (ds++[]) (by simpa using hlen)
 refine⟨_,rfl,ds,[],_,[],p,[],hW',?_,?_,?_,bel.frame _,fun h=>by cases h⟩
 · rw[hres,hf2]
   exact trodAll_mk1 (shut_bool htb true)
 · rw[hf2]
   simpa using below_all hl bel hr hA
 · rw[hf2,hvars]; rfl
theorem law_contract_typed {f:FuncId} {fn:Func} {s:ChangeSpec} (S:List TypeId) (hS:(S.all fun t=>tyOk P S t)=true) (hg:(st0 W).GL) (hl:laidOutB P=true) (hc:(fn.params.toList.all fun t=>S.contains t)=true) (hr:∀ t∈fn.params.toList,P.readableRec t=true∧t<P.types.size)
 (hvars:s.vars=[]) (hfn:∀ ds:List (DataW H),ds.length=fn.params.size->s.fn H ds={ results:=[.lit (.bool true)],args:=ds }) {tb:TypeId} (hres:fn.resultTypes = #[tb]) (htb:P.underlying tb=some .bool)
 (hok:∀ dts,Dt.tyL P dts fn.params.toList->Ok P f (dts.map Dt.sv) [] (.ret (bl true)) [])
 (args:Array Value) (ds gs:List (DataW H)) (before:List MemPlace)
 (hval:∀ (j:Nat) t v,fn.params[j]? = some t->args[j]? = some v->Value.okWide P W r b0 t v) (hW:DataW.Whole enc P fn.params.toList s.vars false W args.toList ds gs before)
 (hsz:(DataW.weightsEach P (fn.params.toList++s.plain.varTypes P) (ds++gs)).all (· ≤ reachBytes)=true) :
 Calls P f args W fun e W'=>∃ v,e=.returned v∧s.post enc P fn false true false false W args v W' :=
 law_contract_bulk (n:=blkA ds) S hS hg hl hc hr hvars hfn hres htb (fun dts h _=>hok dts h) args ds gs before hval hW (Nat.le_refl _) hsz
end
end Go.Ab
namespace Go.Ab
def IC.tl:Nat->IC->IC
 | 0,a=>a
 | k+1,.seq _ b=>IC.tl k b
 | _,a=>a
def IC.nth:Nat->IC->IC
 | 0,.seq a _=>a
 | k+1,.seq _ b=>IC.nth k b
 | _,a=>a
end Go.Ab
