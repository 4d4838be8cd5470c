/- Steps of the proof. -/
import Derived.Test.YtogjmpkehjfecaaGreatDoorCore4
import Derived.RecoverIn
set_option linter.all false
namespace Go.Ab
section
variable [QK] [QE] [QF]
section
variable {P:Wx} {N:Nat} {D:Array Oper->List Nat->List Ins->Bool}
def Qb9 (n i:Nat):Nat:=n+i
@[simp] theorem QAH (n:Nat):Qb9 n 0=n:=rfl
@[simp] theorem QAI (a k i:Nat):Qb9 (a+k) (i+1)=Qb9 (a+(k+1)) i:=by simp only[Qb9]; omega
@[simp] theorem rs_p (n:Nat) (d:Option Nat) (g:Option (Nat×Bool)) (i:I):Ins.rs n ⟨d,g,.p i⟩=⟨d,g,.p i⟩:=rfl
@[simp] theorem rs_q (n:Nat) (d:Option Nat) (g:Option (Nat×Bool)) (f:Od) (as:List Od):Ins.rs n ⟨d,g,.q f as⟩=⟨d,g,.q f as⟩:=rfl
@[simp] theorem rs_e (n:Nat) (d:Option Nat) (g:Option (Nat×Bool)) (i:E):Ins.rs n ⟨d,g,.e i⟩=⟨d,g,.e (i.rs n)⟩:=rfl
@[simp] theorem rs_flo (n i:Nat) (T:Ww) (sz b:Nat) (z:Wt) (l c:Od):E.rs n (.flo i T sz b z l c)=.flo (Qb9 n i) T sz b z l c:=rfl
@[simp] theorem rs_st (n m:Nat) (p x:Od):E.rs n (.st m p x)=.st m p x:=rfl
@[simp] theorem QqT (n m:Nat) (ws:List Nat) (p x:Od):E.rs n (.stw ws m p x)=.stw ws m p x:=rfl
@[simp] theorem rs_app (n:Nat) (T:Ww) (sz b:Nat) (s x:Od):E.rs n (.app T sz b s x)=.app T sz b s x:=rfl
@[simp] theorem rs_aps (n:Nat) (T:Ww) (s x:Od):E.rs n (.aps T s x)=.aps T s x:=rfl
@[simp] theorem QyC (n:Nat) (f:Od) (as:List Od):E.rs n (.call f as)=.call f as:=rfl
@[simp] theorem rs_alc (n:Nat) (T:Ww) (z:Wt):E.rs n (.alc T z)=.alc T z:=rfl
@[simp] theorem rs_box (n:Nat) (T:Ww) (x:Od):E.rs n (.box T x)=.box T x:=rfl
def xdl (P:Wx) (l:List Ins) (env:Env) (H:Ws) (K:Wr):Prop:=xd P [] l env H K
@[congr] theorem Qwy {l l':List Ins} {env:Env} {H:Ws} {K:Wr} (h:Ev l=l'):xdl P l env H K=xdl P l' env H K:=by rw[QC h]
@[simp] theorem xdl_go (l:List Ins) (env:Env) (H:Ws) (K:Wr):xdl P l env H K=xd P [] l env H K:=rfl
def Qiy (P:Wx) (l:List Ins) (n:Nat) (env:Env) (H:Ws) (K:Wr):Prop:=xdl P (l.map (Ins.rs n)) env H K
@[congr] theorem QAp {l:List Ins} {n n':Nat} {env:Env} {H H':Ws} {K:Wr} (h:Ev n=n') (h2:Ev H=H'):Qiy P l n env H K=Qiy P l n' env H' K:=by rw[QC h,QC h2]
@[simp] theorem Qwx (l:List Ins) (n:Nat) (env:Env) (H:Ws) (K:Wr):Qiy P l n env H K=xdl P (l.map (Ins.rs n)) env H K:=rfl
@[simp ↓] theorem X_drf (Ts:List Ww) (m:List Nat) (l:List Ins) (env:Env) (H:Ws) (K:Wr):X P N D (.drf Ts m l) env H K=Qiy P l H.length env (H++QaN Ts) λx e H' =>
 match x with
 |.normal=>K .normal e H'
 |x=>K x (QbV l env) H':=rfl
def Qge (P:Wx) (l:List Ins) (n:Nat) (env:Env) (H:Ws) (K:Wr):Prop:=xdl P (l.map (Ins.rs n)) env H K
@[congr] theorem Qxz {l:List Ins} {n n':Nat} {env:Env} {H H':Ws} {K:Wr} (h:Ev n=n') (h2:Ev H=H'):Qge P l n env H K=Qge P l n' env H' K:=by rw[QC h,QC h2]
@[simp] theorem Qzt (l:List Ins) (n:Nat) (env:Env) (H:Ws) (K:Wr):Qge P l n env H K=xdl P (l.map (Ins.rs n)) env H K:=rfl
@[simp ↓] theorem X_drft (Ts:List Ww) (n0:Nat) (m:List Nat) (l tl:List Ins) (env:Env) (H:Ws) (K:Wr):X P N D (.drft Ts n0 m l tl) env H K=Qge P l H.length env (H++QaN Ts) λx env H' =>
 match x with
 |.normal=>QaC P tl env H' K
 |x=>K x env H':=rfl
@[simp ↓] theorem X_drq (Ts:List Ww) (n0:Nat) (m:List Nat) (l:List Ins) (os:List (List Nat)) (tl:List Ins) (env:Env) (H:Ws) (K:Wr):X P N D (.drq Ts n0 m l os tl) env H K=Qge P l H.length env (H++QaN Ts) λx env H' =>
 match x with
 |.normal=>xrt P n0 tl os env H' λx e H=>K x (e.keep (Qhg tl env)) H
 |x=>K x env H':=rfl
@[simp] theorem QzU:QaN []=[]:=rfl
@[simp] theorem QA4 (T:Ww) (r:List Ww):QaN (T::r)=⟨[],T,0,false⟩::QaN r:=rfl
def Qch (H:Ws) (i:Nat) (T:Ww):Prop:=H[i]? = some ⟨[],T,0,false⟩
@[simp] theorem Qp9 (H L:Ws) (k:Nat) (T:Ww):Qch (H++L) (H.length+k) T=Qch L k T:=by
 unfold Qch; rw[Vg (by omega)]; simp
@[simp] theorem QAg (H L:Ws) (T:Ww):Qch (H++L) H.length T=Qch L 0 T:=Qp9 H L 0 T
@[simp] theorem QzD (o:AO) (L:Ws) (T:Ww):Qch (o::L) 0 T=(o=⟨[],T,0,false⟩):=by simp[Qch]
@[simp] theorem QxC (o:AO) (L:Ws) (k:Nat) (T:Ww):Qch (o::L) (k+1) T=Qch L k T:=by simp[Qch]
theorem Qqs {H:Ws} {i:Nat} {T:Ww} {o:AO} {K:Ws->Prop}:(H[i]? = some ⟨[],T,0,false⟩/\K (H.set i o))=(Qch H i T/\K (Ab.setObj H i λ_=>o)):=by
 apply propext;constructor
 . rintro⟨h,hk⟩; exact⟨h,by rw[QS h]; exact hk⟩
 . rintro⟨h,hk⟩;have h':H[i]? = some ⟨[],T,0,false⟩:=h;exact⟨h,by rw[QS h']at hk; exact hk⟩
def Qfr (i:Nat) (T:Ww) (sz bytes:Nat) (z:Wt) (len cap:SV) (H:Ws) (K:SV->Ws->Prop):Prop :=
 len.isN=true/\cap.isN=true/\0<=len.int/\len.int<=cap.int/\bytes*cap.int<=140737488355328/\cap.int<=140737488355328 /\
  Qch H i T/\Ke K (.own i 0 len.int.toNat sz 1) (Ab.setObj H i λ_=>⟨(List.replicate len.int.toNat z).flatten,T,1,true⟩)
@[congr] theorem QwB {i i':Nat} {T:Ww} {sz bytes:Nat} {z:Wt} {len len' cap cap':SV} {H H':Ws} {K:SV->Ws->Prop} (h:Ev i=i') (h0:Ev len=len') (h1:Ev cap=cap') (h9:Ev H=H') :
 Qfr i T sz bytes z len cap H K=Qfr i' T sz bytes z len' cap' H' K:=by rw[QC h,QC h0,QC h1,QC h9]
@[simp ↓] theorem xo_flo (d:Option Nat) (i:Nat) (T:Ww) (sz bytes:Nat) (z:Wt) (len cap:Od) (env:Env) (H:Ws) (K:Wr) :
 xo P ⟨d,none,.e (.flo i T sz bytes z len cap)⟩ env H K=Qfr i T sz bytes z (env.ev len) (env.ev cap) H λv H'=>K .normal (env.put d v) H':=by
 simp only[xo,xj,xe,Qfr,Ke];rw[Qqs (K:=λH'=>K .normal (env.put d (.own i 0 (env.ev len).int.toNat sz 1)) H')]
@[simp] theorem QyN (i:Nat) (T:Ww) (sz bytes:Nat) (z:Wt) (len cap:SV) (H:Ws) (K:SV->Ws->Prop):Qfr i T sz bytes z len cap H K=(
 len.isN=true/\cap.isN=true/\0<=len.int/\len.int<=cap.int/\bytes*cap.int<=140737488355328/\cap.int<=140737488355328 /\
  Qch H i T/\Ke K (.own i 0 len.int.toNat sz 1) (Ab.setObj H i λ_=>⟨(List.replicate len.int.toNat z).flatten,T,1,true⟩)):=rfl
end
@[simp] theorem Qza (H:Ws) (k:Nat):H.length+k+1=H.length+(k+1):=rfl
@[simp] theorem QAu (T:Ww) (sz bytes:Nat) (x:SV) (H:Ws) (K:SV->Ws->Prop):Qef T sz bytes (.val (.slice none 0 0)) x H K=(x.vd=true/\x.ug.isSl=true/\x.ug.slen*sz<=(x.ug.row H).length/\Qy (x.ug.els H sz) /\
     x.ug.slen*bytes<=140737488355328/\x.ug.slen<=140737488355328/\Ke K (.own H.length 0 x.ug.slen sz 1) (H++[⟨x.ug.els H sz,T,1,true⟩])):=by
 simp[Qef,SV.vd,SV.ug,SV.slen,SV.isNil,Ke]
theorem Qih {M:Ws} {p:Nat} {o:AO} (h:M[p]? = some o) (X:Ws) (f:AO->AO):Ab.setObj (M++X) p f=M.set p (f o)++X:=by
 rw[QS (o:=o) (by rw[Vd (Qd h)]; exact h),Yo _ _ (Qd h)]
theorem QlG {M:Ws} {p:Nat} (o:AO) (X:Ws) (v:Nat):Qe (M.set p o++X) M.length v=Qe X 0 v:=by
 have:=QfT (M.set p o) X v
 rwa [VO]at this
theorem Qk5 {M:Ws} {p:Nat} (o:AO) (X:Ws) (k v:Nat):Qe (M.set p o++X) (M.length+k) v=Qe X k v:=by
 have:=QdM (M.set p o) X k v
 rwa [VO]at this
theorem Qkx {M:Ws} {p:Nat} {o:AO} (h:M[p]? = some o) (X:Ws) (ver:Nat) (T:Ww) (m:Nat):Qb0 (M++X) p ver T m=(o.live=true/\o.ver=ver/\o.ty=T/\o.cells.length=m):=by
 unfold Qb0;rw[Vd (Qd h),h];simp
theorem OkP.strip {P:Wx} {k:Wz} {args:Wt} {H:Ws} {Pt:Out->Ws->Prop} (h:OkP P k (args.map SV.strip) H Pt):OkP P k args H Pt :=
 ⟨h.1,λS vs hH hS hv=>h.2 S vs hH hS (hv.map λs v hs=>Qjg hs)⟩
theorem VRs.strip3 {S:St} {a l b:Wt} {us:Wu} (h:VRs S (a++l++b) us):VRs S (a++l.map SV.strip++b) us:=by
 refine⟨by simpa using h.1,λj s u hs hu => ?_⟩;have h1:=h.2 j;by_cases j1:j<a.length
 . rw[VC,Vd j1]at hs;exact h1 s u (by rw[VC,Vd j1]; exact hs) hu
 . by_cases j2:j-a.length<l.length
   . rw[VC,Vg (by omega),Vd (by simpa using j2),Vn]at hs
     cases hl:l[j-a.length]? with
     |none=>rw[hl]at hs; cases hs
     |some x =>
      rw[hl]at hs; cases hs
      exact Qjg (h1 x u (by rw[VC,Vg (by omega),Vd j2]; exact hl) hu)
   . rw[VC,Vg (by omega),Vg (by simp; omega)]at hs;exact h1 s u (by rw[VC,Vg (by omega),Vg (by omega)]; simpa using hs) hu
theorem Qjm {P:Wx} {f:SV} {args:Wt} {H:Ws} {Pt:Out->Ws->Prop} {K:Out->Ws->Prop} (h:Qdj P f (args.map SV.strip) H Pt) (hk:∀ out H',Pt out H'->K out H'):Qc4 P (.gd true f) args H K:=by
 refine⟨Pt,⟨by simpa[SV.vd]using h.1,?_⟩,hk⟩;have h2:=h.2;show match f.ug with
  |.fn (.func k) first cap=>OkP P k (first++args++cap) H Pt
  |.yl i=>YlP P i args H Pt
  |_=>False
 split at h2
 . rename_i k first cap hug
   rw[hug];exact⟨h2.1,λS vs h1 h3 h4=>h2.2 S vs h1 h3 h4.strip3⟩
 . rename_i i hug;rw[hug];exact⟨h2.1,λS vs l h1 h3 h4=>h2.2 S vs l h1 h3 (by simpa using (h4.map λs v hs=>Qjg hs:VRs S (args.map SV.strip) vs))⟩
 . exact h2.elim
section
variable (n:Nat) (L:Ws) (d:Nat)
@[simp] theorem fz_ptr (k off len sz ver p:Nat):SV.fz n [] L (d+1) (.ptr (.own (n+k) off len sz ver) p)=(match L[k]? with
     |some o=>if o.live=true/\o.ver=ver/\off<o.cells.length then .ptr (.slc ((o.cells.drop off).map (SV.fz n [] L d)) 0) p else .any
     |none=>.any):=by
 conv=>lhs; unfold SV.fz
 rw[Wa (by simp[SV.under])];have e:n+k-n=k:=by omega
 simp only[e]
 cases L[k]? with
 |none=>rfl
 |some o=>rfl
end
end
section
variable [QK] [QE] [QF]
section
variable {P:Wx} {N:Nat}
def Rg (P:Wx) (N:Nat) (D:Array Oper->List Nat->List Ins->Bool) (kk:Nat) (ps:List Nat) (ia ib:IC) (f:SV) (env:Env) (H:Ws) (K:Wr):Prop :=
 f.vd=true/\match f.ug with
  |.fn (.func k) first cap=>∃ Pt:Out->Ws->Prop,OkP P k (first++[.yl H.length]++cap) (H++[lpo P N D kk ps ia ib (env.vals N) .ready]) Pt /\
   ∀ out H',Pt out H'->match out with
    |.ret _=>∃ k' ok st cs,H'[H.length]? = some ⟨.lp k' ok st::cs,0,0,false⟩/\st.out K env (H'.set H.length Qen)
    |.pan x=>K (.panic x) env H'
  |_=>False
@[congr] theorem Qxs {D:Array Oper->List Nat->List Ins->Bool} {kk:Nat} {ps:List Nat} {ia ib:IC} {f f':SV} {env env':Env} {H H':Ws} {K:Wr} (h1:Ev f=f') (h2:Ev env=env') (h3:Ev H=H') :
 Rg P N D kk ps ia ib f env H K=Rg P N D kk ps ia ib f' env' H' K:=by rw[QC h1,QC h2,QC h3]
@[simp ↓] theorem X_rng (D:Array Oper->List Nat->List Ins->Bool) (kk:Nat) (g:Od) (ps:List Nat) (ia ib:IC) (env:Env) (H:Ws) (K:Wr):X P N D (.rng kk g ps ia ib) env H K=Rg P N D kk ps ia ib (env.ev g) env H K:=rfl
attribute [simp] LSt.out
end
end
section
variable [QK] [QE] [QF]
section
variable {S:St} {H0 H1 L:Ws} {ks:List Nat} {d:Nat}
structure QcC (H0 H1 L:Ws) (ks:List Nat) (d:Nat):Prop where
 len:H1.length=H0.length
 cell:∀ (i:Nat) (o':AO),H1[i]? = some o'->(H0[i]? = some o'/\∀ s∈o'.cells,s.under H0.length=true) \/
  (∃ o k,H0[i]? = some o/\o.live=true/\o'=⟨(o.cells.map (SV.fz H0.length ks L d)).take k,o.ty,o.ver,true⟩/\Qy o'.cells)
def Qay (S:St) (H0 H1 L:Ws) (ks:List Nat) (d:Nat):St:=⟨QbP S H0.length ks,H1++QcN H0.length ks L d,S.w⟩
theorem QcC.up (hz:QcC H0 H1 L ks d) {i:Nat} {o:AO} (h:H0[i]? = some o):∃ o',H1[i]? = some o'/\o'.ver=o.ver/\o'.own=o.own/\o'.ty=o.ty:=by
 have hi:i<H1.length:=by rw[hz.len]; exact Qd h
 have h1:H1[i]? = some H1[i]:=Vb hi;rcases hz.cell i _ h1 with ⟨h2,_⟩|⟨o2,_,h2,h3,h4,_⟩
 . rw[h]at h2; cases h2
   exact⟨_,h1,rfl,rfl,rfl⟩
 . rw[h]at h2; cases h2
   refine⟨_,h1,by rw[h4],?_,by rw[h4]⟩;rw[h4,AO.own_live h3]; exact AO.own_live rfl
theorem Qm3 (hz:QcC H0 H1 L ks d) {i:Nat} {o':AO} (h:(Qay S H0 H1 L ks d).H[i]? = some o'):∃ o,(Qal S H0 L ks d).H[i]? = some o/\o.ver=o'.ver/\o.own=o'.own/\o.ty=o'.ty:=by
 simp only[Qay]at h;simp only[Qal];by_cases hi:i<H0.length
 . rw[Vd (by rw[hz.len]; exact hi)]at h;rw[Vd hi];obtain⟨o2,h1,h2,h3,h4⟩:=hz.up (Vb hi);rw[h]at h1; cases h1
   exact⟨_,Vb hi,h2.symm,h3.symm,h4.symm⟩
 . rw[Vg (by rw[hz.len]; omega),hz.len]at h;rw[Vg (by omega)];exact⟨_,h,rfl,rfl,rfl⟩
theorem QjD (hz:QcC H0 H1 L ks d):Ext (Qal S H0 L ks d).H.length (Qal S H0 L ks d) (Qay S H0 H1 L ks d) where
 obj:=by
  intro i o hi ho;have hl:(Qay S H0 H1 L ks d).H.length=(Qal S H0 L ks d).H.length:=by simp[Qay,Qal,hz.len]
  have h1:(Qay S H0 H1 L ks d).H[i]? = some ((Qay S H0 H1 L ks d).H[i]'(by omega)):=Vb _;obtain⟨o2,h2,h3,_⟩:=Qm3 hz h1;rw[ho]at h2; cases h2
  exact⟨_,h1,by omega,λ_=>rfl⟩
 imm:=by
  refine λk _ hnr=>⟨rfl,?_⟩;rintro⟨i,o,ho,hl,hρ⟩;obtain⟨o2,h2,h3,h4,_⟩:=Qm3 hz ho;exact hnr ⟨i,o2,h2,by rw[h4]; exact hl,hρ⟩
 size:=Vc _
 shape:=λ_ _ _ h=>h
 loops:=λ_ r h=>⟨r,h⟩
 os:=rfl
 tape:=rfl
 output:=rfl
theorem QlS (hsim:Sim S) (hS:S.H=H0++L) (hz:QcC H0 H1 L ks d) (hk:QbH H0.length ks L d ks) (s:SV) (v:Value) (h:VR S s v):VR (Qay S H0 H1 L ks d) (s.fz H0.length ks L d) v :=
 (QgX hsim hS hk d (Vc _) s v h).ext (QjD hz)
theorem QgD (hz:QcC H0 H1 L ks d) (hk:QbH H0.length ks L d ks) {i:Nat} {o:AO} (h:(Qay S H0 H1 L ks d).H[i]? = some o) :
 (i<H0.length/\(Qay S H0 H1 L ks d).ρ i=S.ρ i/\((H0[i]? = some o/\∀ s∈o.cells,s.under H0.length=true) \/
  ∃ o' k,H0[i]? = some o'/\o'.live=true/\o=⟨(o'.cells.map (SV.fz H0.length ks L d)).take k,o'.ty,o'.ver,true⟩/\Qy o.cells)) \/
 (∃ p k o',i=H0.length+p/\ks[p]? = some k/\L[k]? = some o'/\o'.live=true/\Qy o.cells /\
  o={ cells:=o'.cells.map (SV.fz H0.length ks L d),ty:=o'.ty,ver:=0,live:=true }/\(Qay S H0 H1 L ks d).ρ i=S.ρ (H0.length+k)):=by
 by_cases hi:i<H0.length
 . simp only[Qay]at h;rw[Vd (by rw[hz.len]; exact hi)]at h;exact .inl ⟨hi,by simp[Qay,QbP,hi],hz.cell i o h⟩
 . have h':(Qal S H0 L ks d).H[i]? = some o:=by
    simp only[Qay]at h;rw[Vg (by rw[hz.len]; omega),hz.len]at h;simp only[Qal];rw[Vg (by omega)]; exact h
   rcases Qel hk h' with ⟨h1,_⟩|h1
   . exact absurd h1 hi
   . exact .inr h1
theorem QsJ (hsim:Sim S) (hS:S.H=H0++L) (hz:QcC H0 H1 L ks d) (hk:QbH H0.length ks L d ks):Sim (Qay S H0 H1 L ks d):=by
 have hat:∀ {i:Nat} {o:AO},H0[i]? = some o->S.H[i]? = some o:=λh=>by rw[hS,Vd (Qd h)]; exact h
 have hext:Ext H0.length S (Qay S H0 H1 L ks d):=(QcZ hS hk).trans ((QjD hz).mono (by simp[Qal]));have hlive:∀ (i:Nat) (o:AO),(Qay S H0 H1 L ks d).H[i]? = some o->o.live=true ->
  match (Qay S H0 H1 L ks d).ρ i with
  |none=>o.cells=[]
  |some b=>∃ us rest,S.w.heap[b]? = some (.cells (us++rest).toArray o.ty (0,0))/\VRs (Qay S H0 H1 L ks d) o.cells us:=by
  intro i o ho hl;rcases QgD (S:=S) hz hk ho with ⟨h1,h2,⟨h3,h4⟩|⟨o',m,h3,h4,rfl,h5⟩⟩|⟨p,k,o',rfl,h1,h2,h3,_,rfl,h5⟩
  . rw[h2];have h6:=hsim.live i o (hat h3) hl
    cases hρ:S.ρ i with
    |none=>rw[hρ]at h6; exact h6
    |some b =>
     rw[hρ]at h6;obtain⟨us,rest,h7,h8⟩:=h6;exact⟨us,rest,h7,h8.extB hext ((SV.underL_iff _ _).2 h4)⟩
  . rw[h2];have h6:=hsim.live i o' (hat h3) h4
    cases hρ:S.ρ i with
    |none=>rw[hρ]at h6; simp only; rw[h6]; simp
    |some b =>
     rw[hρ]at h6;obtain⟨us,rest,h7,h8⟩:=h6;refine⟨us.take m,us.drop m++rest,?_,(h8.map (QlS hsim hS hz hk)).take m⟩;rw[<-VC,Yn]; exact h7
  . rw[h5];have h4:=hsim.live (H0.length+k) o' (by rw[hS,Vg (by omega)]; simpa using h2) h3
    cases hρ:S.ρ (H0.length+k)with
    |none=>rw[hρ]at h4; simp only; rw[h4]; rfl
    |some b =>
     rw[hρ]at h4;obtain⟨us,rest,h6,h7⟩:=h4;exact⟨us,rest,h6,h7.map (QlS hsim hS hz hk)⟩
 have hlen:H0.length<=(Qay S H0 H1 L ks d).H.length:=by simp[Qay,hz.len]
 have hbel:∀ (i:Nat) (o:AO),(Qay S H0 H1 L ks d).H[i]? = some o->o.live=true->∀ s∈o.cells,s.under (Qay S H0 H1 L ks d).H.length=true:=by
  intro i o ho hl s hs;have h8:=hlive _ _ ho hl;split at h8
  . rw[h8]at hs; cases hs
  . obtain⟨us,rest,h9,h10⟩:=h8;obtain⟨j,hj⟩:=Vk hs;obtain⟨u,_,h11⟩:=h10.get hj;exact h11.under
 refine⟨hlive,?_,?_,?_,hsim.gl.ext hext,hsim.kf.ext hext⟩
 . intro i o ho s hs;rcases QgD (S:=S) hz hk ho with ⟨h1,h2,⟨h3,h4⟩|⟨o',m,h3,h4,h6,h5⟩⟩|⟨p,k,o',h0,h1,h2,h3,h6,h7,h5⟩
   . exact⟨SV.under_mono hlen s (h4 s hs),(hsim.bel i o (hat h3) s hs).2⟩
   . exact⟨hbel i o ho (by rw[h6]) s hs,λ_=>h5 s hs⟩
   . exact⟨hbel i o ho (by rw[h7]) s hs,λ_=>h6 s hs⟩
 . intro i j o o' b hi hj hl hl' hρ hρ';have key:∀ {i:Nat} {o:AO},(Qay S H0 H1 L ks d).H[i]? = some o->o.own=true->∃ i0 o0,S.H[i0]? = some o0/\o0.own=true/\(Qay S H0 H1 L ks d).ρ i=S.ρ i0/\((i<H0.length/\i0=i)\/∃ p k,i=H0.length+p/\ks[p]? = some k/\i0=H0.length+k):=by
    intro i o ho hl;rcases QgD (S:=S) hz hk ho with ⟨h1,h2,⟨h3,h4⟩|⟨o',m,h3,h4,h6,h5⟩⟩|⟨p,k,o',rfl,h1,h2,h3,_,rfl,h5⟩
    . exact⟨i,o,hat h3,hl,h2,.inl ⟨h1,rfl⟩⟩
    . exact⟨i,o',hat h3,AO.own_live h4,h2,.inl ⟨h1,rfl⟩⟩
    . exact⟨H0.length+k,o',by rw[hS,Vg (by omega)]; simpa using h2,AO.own_live h3,h5,.inr ⟨p,k,rfl,h1,rfl⟩⟩
   obtain⟨i0,o0,a1,a2,a3,a4⟩:=key hi hl;obtain⟨j0,o1,b1,b2,b3,b4⟩:=key hj hl';have e:=hsim.inj i0 j0 o0 o1 b a1 b1 a2 b2 (by rw[<-a3]; exact hρ) (by rw[<-b3]; exact hρ');rcases a4 with ⟨a4,rfl⟩|⟨p,k,rfl,a4,rfl⟩<;>rcases b4 with ⟨b4,rfl⟩|⟨q,k',rfl,b4,rfl⟩
   . exact e
   . omega
   . omega
   . have:k=k':=by omega
     subst this;rw[QkP hk a4 b4]
 . intro i o ho hl hne;rcases QgD (S:=S) hz hk ho with ⟨h1,h2,⟨h3,h4⟩|⟨o',m,h3,h4,rfl,h5⟩⟩|⟨p,k,o',rfl,h1,h2,h3,h6,rfl,h5⟩
   . obtain⟨l,x,m,us,env,k1,k2,k3,k4,k6⟩:=hsim.lp i o (hat h3) hl hne;rw[k2]at h4;exact⟨l,x,m,us,env,h2.trans k1,k2,k3,k4,k6.extB hext ((SV.underL_iff _ _).2 λs hs=>h4 s (by simp[hs]))⟩
   . cases hl
   . cases hl
theorem Qtp {n0:Nat} {Hx:Ws} {r:SV} (d:Nat) (ks:List Nat) (h:Hx=H0++L) (hn:n0<=H0.length) (hz:QcC H0 H1 L ks d) (hk:QbH H0.length ks L d ks) :
 Cv n0 r Hx (r.fz H0.length ks L d) (H1++QcN H0.length ks L d):=by
 intro S v hS hsim hv;subst h;exact⟨_,((QcZ hS hk).trans ((QjD hz).mono (by simp[Qal]))).mono hn,QsJ hsim hS hz hk,QlS hsim hS hz hk r v hv⟩
theorem QvS {n0:Nat} {Hx:Ws} {r:SV} (d:Nat) (h:Hx=H0++L) (hn:n0<=H0.length) (hz:QcC H0 H1 L [] d):Cv n0 r Hx (r.fz H0.length [] L d) H1:=by
 have:=Qtp (r:=r) d [] h hn hz trivial;simpa[QcN]using this
end
theorem OkP.give {P:Wx} {f:Wz} {args:Wt} {H:Ws} {Pt:Out->Ws->Prop} (k:Nat) (d:Nat) {o:AO} (ho:H[k]? = some o) (hl:o.live=true)
 (h:OkP P f (args.map (SV.gv k o.ver o.cells d)) (H.set k o.dead) Pt):OkP P f args H Pt:=by
 refine⟨h.1,?_⟩;intro S vs hH hS hvs;subst hH;have h1:=h.2 ⟨S.ρ,S.H.set k o.dead,S.w⟩ vs rfl (QmF hS ho) (hvs.map (Qkt hS ho hl d));refine h1.mono ?_;rintro en w' ⟨out,H',v,ρ',hp,hext,hsim,hout⟩;exact⟨out,H',v,ρ',hp,(Qhq ho).trans (hext.mono (by simp)),hsim,hout⟩
section
variable {S:St}
theorem Qko {j:Nat} {o:AO} (ho:S.H[j]? = some o) (hl:o.live=true) (cs:Wt):Ext S.H.length S ⟨S.ρ,S.H.set j ⟨cs,o.ty,o.ver,true⟩,S.w⟩ where
 obj:=by
  intro i p hi hp;by_cases e:i=j
  . subst e; rw[ho]at hp; cases hp
    exact⟨⟨cs,o.ty,o.ver,true⟩,by show(S.H.set i _)[i]? = _; rw[Vh hi],Vc _,λ_=>rfl⟩
  . exact⟨p,by show(S.H.set j _)[i]? = _; rw[Ve (by omega)]; exact hp,Vc _,λ_=>rfl⟩
 imm:=by
  refine λk _ hnr=>⟨rfl,?_⟩;rintro⟨i,p,hp,hw,hρ⟩;by_cases e:i=j
  . subst e;exact hnr ⟨i,o,ho,AO.own_live hl,hρ⟩
  . refine hnr ⟨i,p,?_,hw,hρ⟩;have hp':(S.H.set j ⟨cs,o.ty,o.ver,true⟩)[i]? = some p:=hp;rw[Ve (by omega)]at hp'; exact hp'
 size:=Vc _
 shape:=λ_ _ _ h=>h
 loops:=λ_ r h=>⟨r,h⟩
 os:=rfl
 tape:=rfl
 output:=rfl
def St.lies (S:St) (j:Nat) (T:Ww) (us:Wu):Prop:=match S.ρ j with
 |none=>us=[]
 |some b=>∃ rest,S.w.heap[b]? = some (.cells (us++rest).toArray T (0,0))
theorem Qu6 (hS:Sim S) {j:Nat} {o:AO} (ho:S.H[j]? = some o) (hl:o.live=true) {cs:Wt} (hok:Qy cs) (hc:∀ us,S.lies j o.ty us->VRs S o.cells us->∃ k,VRs S cs (us.take k)) :
 Sim ⟨S.ρ,S.H.set j ⟨cs,o.ty,o.ver,true⟩,S.w⟩:=by
 have he:=Qko ho hl cs;have hat:∀ {i:Nat} {p:AO},(S.H.set j ⟨cs,o.ty,o.ver,true⟩)[i]? = some p->(i=j/\p=⟨cs,o.ty,o.ver,true⟩)\/(i≠j/\S.H[i]? = some p):=by
  intro i p hp;by_cases e:i=j
  . subst e; rw[Vh (Qd ho)]at hp; cases hp; exact .inl ⟨rfl,rfl⟩
  . rw[Ve (by omega)]at hp; exact .inr ⟨e,hp⟩
 have hlive:∀ (i:Nat) (p:AO),(S.H.set j ⟨cs,o.ty,o.ver,true⟩)[i]? = some p->p.live=true ->
  match S.ρ i with
  |none=>p.cells=[]
  |some b=>∃ us rest,S.w.heap[b]? = some (.cells (us++rest).toArray p.ty (0,0))/\VRs ⟨S.ρ,S.H.set j ⟨cs,o.ty,o.ver,true⟩,S.w⟩ p.cells us:=by
  intro i p hp hpl;rcases hat hp with ⟨rfl,rfl⟩|⟨hne,hp⟩
  . have h1:=hS.live i o ho hl
    cases hρ:S.ρ i with
    |none =>
     rw[hρ]at h1;obtain⟨k,h2⟩:=hc [] (by unfold St.lies; rw[hρ]) (by rw[h1]; exact VRs.nil S);exact Vx (by have:=h2.1; simpa using this.symm)
    |some b =>
     rw[hρ]at h1;obtain⟨us,rest,h2,h3⟩:=h1;obtain⟨k,h4⟩:=hc us (by unfold St.lies; rw[hρ]; exact⟨rest,h2⟩) h3;refine⟨us.take k,us.drop k++rest,?_,h4.ext he⟩;rw[<-VC,Yn]; exact h2
  . have h1:=hS.live i p hp hpl
    cases hρ:S.ρ i with
    |none=>rw[hρ]at h1; exact h1
    |some b =>
     rw[hρ]at h1;obtain⟨us,rest,h2,h3⟩:=h1;exact⟨us,rest,h2,h3.ext he⟩
 refine⟨hlive,?_,?_,?_,hS.gl.ext he,hS.kf.ext he⟩
 . intro i p hp s hs;rcases hat hp with ⟨rfl,rfl⟩|⟨hne,hp'⟩
   . refine⟨?_,λ_=>hok s hs⟩;have h8:=hlive _ _ hp rfl;split at h8
     . rw[h8]at hs; cases hs
     . obtain⟨us,rest,h9,h10⟩:=h8;obtain⟨q,hq⟩:=Vk hs;obtain⟨u,_,h11⟩:=h10.get hq;exact h11.under
   . have:=hS.bel i p hp' s hs;exact⟨by show s.under (S.H.set j _).length=true; simpa using this.1,this.2⟩
 . intro i i' p p' b hp hp' hw hw' hρ hρ';have key:∀ {i:Nat} {p:AO},(S.H.set j ⟨cs,o.ty,o.ver,true⟩)[i]? = some p->p.own=true->∃ q,S.H[i]? = some q/\q.own=true:=by
    intro i p hp hw;rcases hat hp with ⟨rfl,rfl⟩|⟨_,hp⟩
    . exact⟨o,ho,AO.own_live hl⟩
    . exact⟨p,hp,hw⟩
   obtain⟨q,h1,h2⟩:=key hp hw;obtain⟨q',h3,h4⟩:=key hp' hw';exact hS.inj i i' q q' b h1 h3 h2 h4 hρ hρ'
 . intro i p hp hpl hne;rcases hat hp with ⟨rfl,rfl⟩|⟨_,hp⟩
   . cases hpl
   . obtain⟨l,x,m,us,env,k1,k2,k3,k4,k6⟩:=hS.lp i p hp hpl hne;exact⟨l,x,m,us,env,k1,k2,k3,k4,k6.ext he⟩
theorem QoG (hS:Sim S) {j:Nat} {o:AO} (ho:S.H[j]? = some o) (hl:o.live=true) {cs:Wt} (hok:Qy cs) (hc:∀ us,VRs S o.cells us->∃ k,VRs S cs (us.take k)) :
 Sim ⟨S.ρ,S.H.set j ⟨cs,o.ty,o.ver,true⟩,S.w⟩:=Qu6 hS ho hl hok λus _ h=>hc us h
end
def Qbg (env:Env) (H:Ws) (env':Env) (H':Ws):Prop :=
 ∀ (S:St) (tmps:Array Value),S.H=H->Sim S->QB S env tmps->∃ ρ',Ext S.H.length S ⟨ρ',H',S.w⟩/\Sim ⟨ρ',H',S.w⟩/\QB ⟨ρ',H',S.w⟩ env' tmps
theorem LI.tell {P:Wx} {N:Nat} {D:Array Oper->List Nat->List Ins->Bool} {i:IC} {env env':Env} {H H':Ws} {K:Wr} (ht:Qbg env H env' H')
 (h:LI P N D i env' H' K):LI P N D i env H K:=by
 intro c hc db S a hH hS he hN hd;obtain⟨ρ',h1,h2,h3⟩:=ht S a.tmps hH hS he;exact QmO (h c hc db ⟨ρ',H',S.w⟩ a rfl h2 h3 hN (hd.ext hS h1)) λe a w hp=>QM.trans h1 hp
theorem Qbg.own0 {env:Env} {H:Ws} {j p:Nat} {o:AO} (ho:H[j]? = some o) (hl:o.live=true) (hp:o.cells[p]? = some (.val (.slice none 0 0))) (T:Ww) (sz:Nat) :
 Qbg env H env (H.set j ⟨o.cells.set p (.own H.length 0 0 sz 0),o.ty,o.ver,true⟩++[⟨[],T,0,true⟩]):=by
 intro S tmps hH hS he;subst hH;have h1:=QdZ S T;have h2:=QfB hS T;have hj:=Qd ho;have ho':(S.newNil T).H[j]? = some o:=by show(S.H++_)[j]? = _; rw[Vd hj]; exact ho
 have hn:(S.newNil T).H[S.H.length]? = some ⟨[],T,0,true⟩:=by show(S.H++_)[S.H.length]? = _; simp
 have hval:VR (S.newNil T) (.own S.H.length 0 0 sz 0) (.slice none 0 0):=by
  refine .own _ _ _ _ _ none 0 _ hn (Vc _) (Vc _) (λ_=>rfl) λ_ => ?_;unfold St.OwnAt;have:(S.newNil T).ρ S.H.length=none:=Qap _ _ _;rw[this]; exact⟨rfl,rfl⟩
 have hcell:Qy (o.cells.set p (.own S.H.length 0 0 sz 0)):=by
  intro s hs;rcases List.mem_or_eq_of_mem_set hs with h|rfl
  . exact(hS.bel j o ho s h).2 hl
  . rfl
 have h3:=Qko ho' hl (o.cells.set p (.own S.H.length 0 0 sz 0));have h4:=QoG h2 ho' hl hcell (λus hus=>⟨us.length,by
  rw[YE];obtain⟨u,hu1,hu2⟩:=hus.get hp;have:u=.slice none 0 0:=by cases hu2; rfl
  subst this;have:=hus.set p hval;have e:us.set p (.slice none 0 0)=us:=by
   apply Vz;intro i;rw[YY];split
   . rename_i e; subst e;split
     . exact hu1.symm
     . rename_i hlt; rw[Vq (by omega)]
   . rfl
  rw[e]at this; exact this⟩)
 have e:(S.newNil T).H.set j ⟨o.cells.set p (.own S.H.length 0 0 sz 0),o.ty,o.ver,true⟩=S.H.set j ⟨o.cells.set p (.own S.H.length 0 0 sz 0),o.ty,o.ver,true⟩++[⟨[],T,0,true⟩]:=by
  show(S.H++_).set j _=_;rw[Yo _ _ hj]
 rw[e]at h3 h4;exact⟨_,h1.trans (h3.mono (by simp[St.newNil])),h4,(he.ext h1).ext h3⟩
theorem Qbg.give {env:Env} {H0 L:Ws} (hcl:closed H0) (k d:Nat) {o:AO} (ho:L[k]? = some o) (hl:o.live=true) :
 Qbg env (H0++L) (env.map λp=>(p.1,p.2.gv (H0.length+k) o.ver o.cells d)) (H0++(L.set k o.dead).map (AO.gv (H0.length+k) o.ver o.cells d)):=by
 intro S tmps hH hS he;refine⟨_,QhA hH ho,Qr1 hS hH hcl ho hl,⟨λt => ?_⟩⟩;rw[Qly env (SV.gv (H0.length+k) o.ver o.cells d) (Qll _ _ _ _)];exact Qlm hS hH ho hl _ _ (he.get t)
end
section
variable [QK] [QE] [QF]
def rws {α:Type} (f:α->Wt):List α->Wt
 |[]=>[]
 |x::r=>f x++rws f r
section
variable {α:Type} {f:α->Wt} {sz:Nat}
theorem Qc9 (a b:List α):rws f (a++b)=rws f a++rws f b:=by
 induction a with
 |nil=>rfl
 |cons x r ih=>simp[rws,ih]
theorem QbJ (hf:∀ x,(f x).length=sz) (l:List α):(rws f l).length=l.length*sz:=by
 induction l with
 |nil=>simp[rws]
 |cons x r ih=>simp only[rws,Vt,hf,ih,VT]; rw[Zk]; omega
theorem Qj2 (hf:∀ x,(f x).length=sz) (l:List α) (k:Nat) (hk:k<=l.length):(rws f l).take (k*sz)=rws f (l.take k):=by
 have e:rws f l=rws f (l.take k)++rws f (l.drop k):=by rw[<-Qc9,Yn]
 rw[e,YV (by rw[QbJ hf,YB]; rw[Y8 hk]; exact Vc _),VB (by rw[QbJ hf,YB,Y8 hk]; exact Vc _)]
theorem Qod (hf:∀ x,(f x).length=sz) (l:List α) (k:Nat) (hk:k<=l.length):(rws f l).drop (k*sz)=rws f (l.drop k):=by
 have e:rws f l=rws f (l.take k)++rws f (l.drop k):=by rw[<-Qc9,Yn]
 have h:(rws f (l.take k)).length=k*sz:=by rw[QbJ hf,YB,Y8 hk]
 rw[e,ZH (by omega),ZM (by omega),V3]
theorem Qgb (hf:∀ x,(f x).length=sz) {l:List α} {k:Nat} (hk:k<l.length):(rws f l).drop (k*sz)=f l[k]++rws f (l.drop (k+1)):=by
 rw[Qod hf l k (by omega),Vu hk]; rfl
theorem Qij (hf:∀ x,(f x).length=sz) {l:List α} {k t:Nat} (hk:k<l.length) (ht:t<sz):(rws f l)[k*sz+t]? = (f l[k])[t]? := by
 have:(rws f l)[k*sz+t]? = ((rws f l).drop (k*sz))[t]? := by rw[Vr]
 rw[this,Qgb hf hk,Vd (by rw[hf]; exact ht)]
theorem QhB (hf:∀ x,(f x).length=sz) {l:List α} {k:Nat} (hk:k<l.length):k*sz+sz<=(rws f l).length:=by
 rw[QbJ hf];have:=YC sz (show k+1<=l.length from hk);rw[Zk]at this; exact this
theorem Qd7 (hf:∀ x,(f x).length=sz) {l:List α} {k:Nat} (hk:k<l.length):sz<=(rws f l).length-k*sz:=by have:=QhB hf hk; omega
theorem QkR (hf:∀ x,(f x).length=sz) {l:List α} {k:Nat} (hk:k<l.length):min sz ((rws f l).length-k*sz)=sz:=by have:=Qd7 hf hk; omega
theorem Qvc (hf:∀ x,(f x).length=sz) {l:List α} {k:Nat} (hk:k<l.length) (x:α):rws f (l.set k x)=(rws f l).take (k*sz)++(f x++(rws f l).drop (k*sz+sz)):=by
 have e:k*sz+sz=(k+1)*sz:=by rw[Zk]
 rw[e,Qj2 hf l k (by omega),Qod hf l (k+1) (by omega)];rw[show l.set k x=l.take k++x::l.drop (k+1)from by rw[YF,Wb hk]];rw[Qc9]; rfl
theorem QbX {n:Nat} (h:∀ x,SV.underL n (f x)=true) (l:List α):SV.underL n (rws f l)=true:=by
 induction l with
 |nil=>rfl
 |cons x r ih=>rw[rws,SV.underL_append,h,ih]; rfl
theorem QuT (h:∀ x,Qy (f x)) (l:List α):Qy (rws f l):=by
 induction l with
 |nil=>intro s hs; simp[rws]at hs
 |cons x r ih =>
  intro s hs;rcases Vj.1 hs with h1|h1
  . exact h x s h1
  . exact ih s h1
end
theorem Qje {H:Ws} {j:Nat} (hj:j<H.length) (c:Wt) (T:Ww) (v:Nat):Qe (H.set j ⟨c,T,v,true⟩) j v=c:=by
 unfold Qe; rw[Vh hj]; simp
def SV.le (s s':SV):Prop:=∀ (S:St) (v:Value),VR S s v->VR S s' v
theorem SV.le.refl (s:SV):s.le s:=λ_ _ h=>h
theorem QcV:SV.le (.val (.slice none 0 0)) (.slc [] 0):=by
 intro S v h; cases h; exact .nilslc
def leL (l l':Wt):Prop:=l.length=l'.length/\∀ (j:Nat) (s s':SV),l[j]? = some s->l'[j]? = some s'->s.le s'
theorem leL.nil:leL [] []:=⟨rfl,λj s s' h=>by simp at h⟩
theorem leL.refl (l:Wt):leL l l:=⟨rfl,λj s s' h h'=>by rw[h]at h'; cases h'; exact SV.le.refl s⟩
theorem leL.cons {s s':SV} {l l':Wt} (h:s.le s') (hl:leL l l'):leL (s::l) (s'::l'):=by
 refine⟨by simp[hl.1],λj a b h1 h2 => ?_⟩
 cases j with
 |zero=>simp at h1 h2; subst h1 h2; exact h
 |succ j=>simp at h1 h2; exact hl.2 j a b h1 h2
theorem leL.app {a a' b b':Wt} (h:leL a a') (h':leL b b'):leL (a++b) (a'++b'):=by
 induction a generalizing a' with
 |nil=>cases a' with
  |nil=>exact h'
  |cons x r=>have:=h.1; simp at this
 |cons x r ih=>cases a' with
  |nil=>have:=h.1; simp at this
  |cons x' r'=>exact leL.cons (h.2 0 x x' rfl rfl) (ih ⟨by have:=h.1; simpa using this,λj s s' h1 h2=>h.2 (j+1) s s' (by simpa using h1) (by simpa using h2)⟩)
theorem leL.rws {α:Type} {f g:α->Wt} (h:∀ x,leL (f x) (g x)) (l:List α):leL (rws f l) (rws g l):=by
 induction l with
 |nil=>exact leL.nil
 |cons x r ih=>exact leL.app (h x) ih
theorem leL.vrs {S:St} {l l':Wt} {us:Wu} (h:leL l l') (hv:VRs S l us):VRs S l' us:=by
 refine⟨by rw[hv.1,h.1],λj s u h1 h2 => ?_⟩;have hj:j<l.length:=by rw[h.1]; rcases VH j l'.length with h3|h3; exact h3; rw[Vq h3]at h1; cases h1
 exact h.2 j _ _ (Vb hj) h1 S u (hv.2 j _ u (Vb hj) h2)
theorem QjI {l l':Wt} (h:leL l l') (n:Nat):SV.le (.slc l n) (.slc l' n):=by
 intro S v hv
 cases hv with
 |nilslc =>
  have:l'=[]:=Vx (by rw[<-h.1]; rfl);subst this; exact .nilslc
 |slc _ _ a cap us hc hl hi hh =>
  have:=h.vrs ⟨hl,hh⟩;exact .slc _ _ a cap us hc this.1 hi this.2
theorem Qff {l l':Wt} (h:leL l l'):SV.le (.agg l) (.agg l'):=by
 intro S v hv
 cases hv with
 |agg _ us hl hh=>have:=h.vrs ⟨hl,hh⟩; exact .agg _ _ this.1 this.2
theorem OkP.le {P:Wx} {f:Wz} {args args':Wt} {H:Ws} {Pt:Out->Ws->Prop} (hle:leL args args') (h:OkP P f args' H Pt):OkP P f args H Pt :=
 ⟨h.1,λS vs hH hS hv=>h.2 S vs hH hS (hle.vrs hv)⟩
@[simp] theorem QzH (o:AO) (r:Ws) (a b k ver:Nat):Qe (o::r) (a+(b+(k+1))) ver=Qe r (a+(b+k)) ver:=QrT o r (a+(b+k)) ver
@[simp] theorem Qwk (o:AO) (r:Ws) (a b k:Nat) (f:AO->AO):setObj (o::r) (a+(b+(k+1))) f=o::setObj r (a+(b+k)) f:=QuG o r (a+(b+k)) f
theorem LI.cong {P:Wx} {N:Nat} {D:Array Oper->List Nat->List Ins->Bool} {i:IC} {env:Env} {H H':Ws} {K:Wr} (e:H'=H) (h:LI P N D i env H' K):LI P N D i env H K:=by rw[<-e]; exact h
def Cl (n:Nat) (l:Ws):Prop:=∀ o∈l,∀ s∈o.cells,s.under n=true
theorem Cl.nil (n:Nat):Cl n []:=λo h=>by simp at h
theorem Cl.cons {n:Nat} {o:AO} {l:Ws} (h:SV.underL n o.cells=true) (hl:Cl n l):Cl n (o::l):=by
 intro p hp;rcases Vi.1 hp with rfl|hp
 . exact(SV.underL_iff _ _).1 h
 . exact hl p hp
theorem Cl.app {n:Nat} {a b:Ws} (h:Cl n a) (h':Cl n b):Cl n (a++b):=by
 intro p hp;rcases Vj.1 hp with hp|hp
 . exact h p hp
 . exact h' p hp
theorem Cl.mono {n m:Nat} {l:Ws} (h:Cl n l) (hm:n<=m):Cl m l:=λo ho s hs=>SV.under_mono hm s (h o ho s hs)
theorem Qi8 {H:Ws}:closed H↔Cl H.length H:=by
 refine⟨λh o ho s hs => ?_,λh i o ho s hs=>h o (Vp ho) s hs⟩;obtain⟨i,hi⟩:=Vk ho;exact h i o hi s hs
theorem Cl.left {n:Nat} {a b:Ws} (h:Cl n (a++b)):Cl n a:=λo ho=>h o (VZ _ ho)
theorem Cl.right {n:Nat} {a b:Ws} (h:Cl n (a++b)):Cl n b:=λo ho=>h o (Ya _ ho)
theorem Cl.tail {n:Nat} {o:AO} {a:Ws} (h:Cl n (o::a)):Cl n a:=λp hp=>h p (VI _ hp)
theorem AO.gv_cl {k ver d n:Nat} {cs:Wt} (hn:n<=k) {l:Ws} (h:Cl n l):l.map (AO.gv k ver cs d)=l:=by
 have:l.map (AO.gv k ver cs d)=l.map id:=VA λo ho=>by
  show AO.mk _ _ _ _=o;have:o.cells.map (SV.gv k ver cs d)=o.cells.map id:=VA λs hs=>Qkh hn d s (h o ho s hs);rw[this,List.map_id]
 rw[this,List.map_id]
theorem OkP.cast {P:Wx} {f:Wz} {args args':Wt} {H H':Ws} {Pt:Out->Ws->Prop} (ha:args=args') (hH:H=H') (h:OkP P f args' H' Pt):OkP P f args H Pt:=by subst ha hH; exact h
theorem set_app {α:Type} (a b:List α) (k:Nat) (x:α):(a++b).set (a.length+k) x=a++b.set k x:=by rw[YG _ _ (by omega)]; simp
theorem Qkk {α:Type} (a b:List α) (x:α):(a++b).set a.length x=a++b.set 0 x:=set_app a b 0 x
theorem QbL {α:Type} (a b:List α) (k:Nat):(a++b)[a.length+k]? = b[k]? := by rw[Vg (by omega)]; simp
theorem QfR {α:Type} (a b:List α):(a++b)[a.length]? = b[0]? := QbL a b 0
theorem QgG {α:Type} (o x:α) (r:List α) (a b k:Nat):(o::r).set (a+(b+(k+1))) x=o::r.set (a+(b+k)) x:=rfl
theorem QhQ {α:Type} (o:α) (r:List α) (a b k:Nat):(o::r)[a+(b+(k+1))]? = r[a+(b+k)]? := rfl
theorem Qbg.nil {env:Env} {H:Ws} (T:Ww):Qbg env H env (H++[⟨[],T,0,true⟩]):=by
 intro S tmps hH hS he;subst hH;exact⟨_,QdZ S T,QfB hS T,he.ext (QdZ S T)⟩
theorem Cv.trans {n0:Nat} {r1 r2 r3:SV} {H1 H2 H3:Ws} (h:Cv n0 r1 H1 r2 H2) (h':Cv n0 r2 H2 r3 H3):Cv n0 r1 H1 r3 H3:=by
 intro S v hS hsim hv;obtain⟨ρ,h1,h2,h3⟩:=h S v hS hsim hv;obtain⟨ρ',h4,h5,h6⟩:=h' ⟨ρ,H2,S.w⟩ v rfl h2 h3;exact⟨ρ',h1.trans h4,h5,h6⟩
theorem Cv.le {n0:Nat} {r1 r r':SV} {H1 H':Ws} (h:Cv n0 r1 H1 r H') (hle:r.le r'):Cv n0 r1 H1 r' H':=by
 intro S v hS hsim hv;obtain⟨ρ,h1,h2,h3⟩:=h S v hS hsim hv;exact⟨ρ,h1,h2,hle _ _ h3⟩
theorem QoE {n0:Nat} {r:SV} {H:Ws} {j:Nat} {o:AO} (hn:n0<=H.length) (ho:H[j]? = some o) (hl:o.live=true) (k:Nat):Cv n0 r H r (H.set j ⟨o.cells.take k,o.ty,o.ver,true⟩):=by
 intro S v hS hsim hv;subst hS;have h3:=Qko ho hl (o.cells.take k);exact⟨_,h3.mono hn,QoG hsim ho hl (λs hs=>(hsim.bel j o ho s (V7 hs)).2 hl) (λus hus=>⟨k,hus.take k⟩),hv.ext h3⟩
theorem QcC.one {H0 L:Ws} {ks:List Nat} {d j:Nat} {o:AO} (hu:∀ (i:Nat) (o:AO),i≠j->H0[i]? = some o->∀ s∈o.cells,s.under H0.length=true) (ho:H0[j]? = some o) (hl:o.live=true)
 (hc:Qy (o.cells.map (SV.fz H0.length ks L d))):QcC H0 (H0.set j ⟨o.cells.map (SV.fz H0.length ks L d),o.ty,o.ver,true⟩) L ks d:=by
 refine⟨by simp,λi o' h => ?_⟩;by_cases e:i=j
 . subst e;rw[Vh (Qd ho)]at h; cases h
   exact .inr ⟨o,(o.cells.map (SV.fz H0.length ks L d)).length,ho,hl,by rw[YE],hc⟩
 . rw[Ve (by omega)]at h;exact .inl ⟨h,hu i o' e h⟩
end
end Go.Ab
namespace Go.Ab
variable [QK] [QE] [QF]
namespace IsL
variable {α:Type} {f:α->SV} {H:Ws} {x:SV} {l:List α}
end IsL
def u8 (n:Int):SV:=.val (.int .u8 n)
@[simp] theorem u8_eq (n:Int):SV.val (.int .u8 n)=u8 n:=rfl
section
variable (n:Int)
@[simp] theorem isI_u8 (k:IntKind):SV.isI k (u8 n)=decide (IntKind.u8=k):=rfl
@[simp] theorem isN_u8:SV.isN (u8 n)=true:=rfl
@[simp] theorem int_u8:SV.int (u8 n)=n:=rfl
@[simp] theorem ug_u8:SV.ug (u8 n)=u8 n:=rfl
@[simp] theorem vd_u8:SV.vd (u8 n)=true:=rfl
@[simp] theorem QwE:SV.isCell (u8 n)=true:=rfl
@[simp] theorem Qzk:SV.flat (u8 n)=[u8 n]:=rfl
@[simp] theorem Qy1:SV.isPt (u8 n)=false:=rfl
@[simp] theorem QwC:SV.isAg (u8 n)=false:=rfl
@[simp] theorem Qw0:SV.isTu (u8 n)=false:=rfl
@[simp] theorem QA6 (m:Nat):SV.under m (u8 n)=true:=rfl
@[simp] theorem gv_u8 (k ver:Nat) (cs:Wt) (d:Nat):SV.gv k ver cs d (u8 n)=u8 n:=by cases d<;>rfl
@[simp] theorem QAQ:(u8 n).strip=u8 n:=rfl
end
theorem Qj7 {l l':Wt} (h:leL l l'):SV.le (.tup l) (.tup l'):=by
 intro S v hv
 cases hv with
 |tup _ us hl hh=>have:=h.vrs ⟨hl,hh⟩; exact .tup _ _ this.1 this.2
@[simp] theorem Qsc (H L:Ws) (j:Nat) (o:AO) (k ver:Nat):Qe (H.set j o++L) (H.length+k) ver=Qe L k ver:=by
 have:=QdM (H:=H.set j o) (L:=L) (k:=k) (ver:=ver); simpa using this
@[simp] theorem Qzr (H L:Ws) (j:Nat) (o:AO) (ver:Nat):Qe (H.set j o++L) H.length ver=Qe L 0 ver:=Qsc H L j o 0 ver
theorem QsD (A B:Ws) (k:Nat) (f:AO->AO):setObj (A++B) (A.length+k) f=A++setObj B k f:=by
 unfold setObj;rw[QbL]
 cases h:B[k]? with
 |none=>rfl
 |some o=>simp only; rw[set_app]
theorem Qq5 {H:Ws} {j:Nat} (hj:j<H.length) (L:Ws) (c:Wt) (T:Ww) (v:Nat):Qe (H.set j ⟨c,T,v,true⟩++L) j v=c:=by
 rw[Qd1 L (by simpa using hj)]; exact Qje hj c T v
theorem Qqr {H:Ws} {j:Nat} (hj:j<H.length) (L:Ws) (o:AO):(H.set j o++L)[j]? = some o:=by
 rw[Vd (by simpa using hj),Vh hj]
theorem Qp7 {H:Ws} {j:Nat} (hj:j<H.length) (L:Ws) (o:AO) (f:AO->AO):setObj (H.set j o++L) j f=H.set j (f o)++L:=by
 unfold setObj;rw[Qqr hj];simp only;rw[Yo _ _ (by simpa using hj),Yi]
theorem QcD {H:Ws} (hcl:closed H) (j:Nat) {o:AO} (hu:SV.underL H.length o.cells=true):closed (H.set j o):=by
 intro i p hp s hs;rw[VO];by_cases e:j=i
 . subst e;have hj:=Qd hp;rw[Vh (by simpa using hj)]at hp
   cases hp
   exact(SV.underL_iff _ _).1 hu s hs
 . rw[Ve e]at hp;exact hcl i p hp s hs
end Go.Ab
namespace Go.Ab
section
variable [QK] [QE] [QF]
section
variable {P:Wx}
theorem Qnm {n0 D:Nat} {w w':Wy} (h1:n0<=D) (h2:w.heap[D]? = some (Obj.deferred (some []))) (ht:Qc1 n0 (w.putObj D (.deferred none)) w'):Qc1 n0 w w':=by
 refine⟨by rw[ht.size]; simp,λk => ?_,ht.os,ht.tape,ht.output⟩;by_cases hk:k=D
 . subst hk;right;refine⟨h1,h2,?_⟩;rcases ht.at_ k with h3|⟨_,h3,h4⟩
   . exact h3.trans (World.putObj_heap_same (Qce h2))
   . exact h4
 . rcases ht.at_ k with h3|⟨h3,h4,h5⟩
   . exact .inl (h3.trans (World.putObj_heap_other hk))
   . exact .inr ⟨h3,(World.putObj_heap_other hk).symm.trans h4,h5⟩
theorem Qpy (n0:Nat) (w:Wy):Qc1 n0 w w:=⟨rfl,λ_=>.inl rfl,rfl,rfl,rfl⟩
theorem Qmd {n0:Nat}:∀ (ms:List Nat) (w:Wy) (fr:Frame) (cs:List Frame),fr.mode≠.run->fr.defers=ms.map QbW->ms.Nodup->(∀ D∈ms,n0<=D/\w.heap[D]? = some (Obj.deferred (some []))) ->
 ∃ w',Qc1 n0 w w'/\StepsIn (Machine.fenced P (Fr none)) P (lone fr cs w) (lone { fr with defers:=[] } cs w')
 |[],w,fr,cs,hm,hd,_,_=>by
  refine⟨w,Qpy _ _,?_⟩;have:({ fr with defers:=[] }:Frame)=fr:=by cases fr; simp_all
  rw[this];exact StepsIn.refl _
 |D::ms,w,fr,cs,hm,hd,hnd,hms=>by
  rw[ZJ]at hnd;obtain⟨h1,h2⟩:=hms D (by simp);have hs:=step_collected (P:=P) (cs:=cs) (d:=QbW D) (ds:=ms.map QbW) hm hd rfl (run_takeDeferred h2);have i1:(lone fr cs w).fenced P (Fr none):=fenced_out (n:=0) trivial (QeO _ _) hm hd (λg hg=>trivial);obtain⟨w',ht,hst⟩:=Qmd ms (w.putObj D (.deferred none)) { fr with defers:=ms.map QbW } cs hm rfl hnd.2 (λD' hD'=>by
   refine⟨(hms D' (by simp[hD'])).1,?_⟩;have hne:D'≠D:=λe=>hnd.1 (e ▸ hD');exact(World.putObj_heap_other hne).trans (hms D' (by simp[hD'])).2)
  exact⟨w',Qnm h1 h2 ht,.head i1 hs hst⟩
def MD (S:St):Option SV->FrameMode->Prop
 |none,u=>u=.returning
 |some x,u=>∃ v,u=.panicking [{ v:=v,recovered:=false }]/\VR S x v
def rvD:Option SV->SV
 |none=>.val .nilIface
 |some x=>x
def OkD (P:Wx) (f:Wz) (args:Wt) (H:Ws) (m:Option SV) (Pt:Ws->Prop):Prop :=
 (∀ (vs:Array Value) (w:Wy),(callFunc f vs).run P w=.ok (.enter f vs) w) /\
 ∀ (S:St) (vs:Wu) (u:FrameMode),S.H=H->Sim S->VRs S args vs->MD S m u ->
  CallsDIn (Fr none) 0 P f vs.toArray u S.w λe u' w'=>∃ (v:Value) (H':Ws) (ρ':Nat->Option Nat),e=.returned v/\settle u'=.returning/\Pt H'/\Ext S.H.length S ⟨ρ',H',w'⟩/\Sim ⟨ρ',H',w'⟩
theorem Qu1 {o:Oper} (ho:o.op=.call { callee:=.builtin .recover,args := #[],argTypes := #[] }) (ρ:Operand->Value) (w:Wy):(execOp ρ o).run P w=.ok .recover w:=by
 simp[execOp,ho,resolve,invoke,builtin]
variable {D:Array Oper->List Nat->List Ins->Bool}
theorem Qua (hD:DOk P D) {f:Wz} {fn:Func} {rid d:Nat} {ops:Array Oper} {o:Oper} {c2:Code} {insR:List Ins} {i2:IC} {args:Wt} {H:Ws} {m:Option SV} {Pt:Ws->Prop}
 (hf : P.funcs[f]? = some fn) (hb : fn.body = some (.seq (.region rid ops false) c2)) (hname : (fn.name == "runtime.NumGoroutine") = false) (hn : args.length <= fn.ntmps) (hr : QbM P fn.results.toList [] = true)
 (hop:ops[0]? = some o) (ho:o.op=.call { callee:=.builtin .recover,args := #[],argTypes := #[] }) (hg:o.guard=none) (hdst:o.dst=some d) (hd:d<fn.ntmps) (hnd:ndB ops=true)
 (hl:chkL P fn.ntmps ops (ops.toList.drop 1) insR=true) (hc:QJ P fn.ntmps D c2 i2=true)
 (hx:closed H->QaC P insR ((Qb2 args).put (some d) (rvD m)) H λx env H1=>x=.normal/\X P fn.ntmps D i2 env H1 λx _ H2=>(x=.normal\/x=.ret)/\∃ H',Pt H'/\Cv H.length (.tup []) H2 (.tup []) H'):OkD P f args H m Pt:=by
 refine⟨λvs w=>Go.MuLone.run_callFunc_enter hf hname hb vs w,?_⟩;intro S vs u hH hS hvs hmd;subst hH;refine⟨trivial,λc₀ cs hu hroom => ?_⟩;obtain⟨b,hbk,hbr,hbf,henter⟩:∃ b:Frame,b.kind=.deferred/\b.roundOf=none/\b.fn=f/\Frame.enter P f vs.toArray .deferred=b.atR { tmps:=vs.toArray++Array.replicate (fn.ntmps-vs.toArray.size) undef,defers:=[] } [.code (.seq (.region rid ops false) c2)] :=
  ⟨{ (default:Frame)with fn:=f,kind:=.deferred,roundOf:=none },rfl,rfl,rfl,by simp[Frame.enter,Frame.atR,hf,hb]⟩
 rw[henter];have hlen:vs.length=args.length:=hvs.1;generalize ha0:({ tmps:=vs.toArray++Array.replicate (fn.ntmps-vs.toArray.size) undef,defers:=[] }:Act)=a0;have hN0:a0.tmps.size=fn.ntmps:=by subst ha0; simp; omega
 have hd0:a0.defers=[]:=by subst ha0; rfl
 have he0:QB S (Qb2 args) a0.tmps:=by subst ha0; exact Qkg hvs _
 have t1:StepsIn (Machine.fenced P (Fr none)) P (lone (b.atR a0 [.code (.seq (.region rid ops false) c2)]) (c₀::cs) S.w) (lone (b.atR a0 (.inRegion ops (List.range ops.size)::[.code c2])) (c₀::cs) S.w) :=
  .head (QfP rfl) stepR_seq (.one (QfP rfl) stepR_region)
 have hsz:0<ops.size:=by
  rcases VH 0 ops.size with h|h
  . exact h
  . rw[Yw h]at hop; cases hop
 have hrange:List.range ops.size=0::List.range' 1 (ops.size-1):=by
  rw[Zj];obtain⟨k,hk⟩:∃ k,ops.size=k+1:=⟨ops.size-1,by omega⟩;rw[hk,Y1]; simp
 rw[hrange]at t1;obtain⟨rv,u1,hstep,hset,hvr⟩:∃ (rv:Value) (u1:FrameMode),step P (lone (b.atR a0 (.inRegion ops (0::List.range' 1 (ops.size-1))::[.code c2])) (c₀::cs) S.w) =
  .next (lone (b.atR (a0.put o.dst rv) (.inRegion ops (List.range' 1 (ops.size-1))::[.code c2])) ({ c₀ with mode:=u1 }::cs) S.w)/\settle u1=.returning/\VR S (rvD m) rv:=by
  have hw:Region.wanted o (yielded ops a0.tmps)=true:=by simp[Region.wanted,hg]
  have hgs:=stepGR_op (P:=P) (b:=b) (a:=a0) (k:=[.code c2]) (cs:=c₀::cs) (w:=S.w) (rest:=List.range' 1 (ops.size-1)) hop hw;rw[hbr,Oper.semAt_none]at hgs;have hfin:∀ v,(b.atR a0 (.inRegion ops (0::List.range' 1 (ops.size-1))::[.code c2])).finish v=b.atR (a0.put o.dst v) (.inRegion ops (List.range' 1 (ops.size-1))::[.code c2]):=by
   intro v; rw[Frame.finish_atR,hop]; rfl
  have hk:(b.atR a0 (.inRegion ops (0::List.range' 1 (ops.size-1))::[.code c2])).kind=.deferred:=hbk;have htr:=tryRecover_deferred hk (c₀::cs);have hrun:=Qu1 (P:=P) ho a0.eval S.w
  cases m with
  |none =>
   have hu':u=.returning:=hmd;subst hu';refine⟨.nilIface,.returning,?_,rfl,.val _⟩;have hc0:({ c₀ with mode:=.returning }:Frame)=c₀:=by cases c₀; simp_all
   rw[hc0];have hrec:recoverD (c₀::cs)=none:=by simp[recoverD,hu]
   refine step_lone_go ?_;rw[hgs,<- hfin];simp only[Frame.atR,hbr]at htr ⊢;simp[stepG.apply,hrun,htr,hrec]
  |some x =>
   obtain⟨v,rfl,hv⟩:=hmd;refine⟨v,.panicking [{ v:=v,recovered:=true }],?_,rfl,hv⟩;have hrec:recoverD (c₀::cs)=some (v,{ c₀ with mode:=.panicking [{ v:=v,recovered:=true }] }::cs):=by simp[recoverD,hu]
   refine step_lone_go ?_;rw[hgs,<- hfin];simp only[Frame.atR,hbr]at htr ⊢;simp[stepG.apply,hrun,htr,hrec]
 have t2:=t1.trans (.one (fenced_oper (n:=0) trivial (QeO _ _) hop (λf _=>trivial)) hstep);generalize hcc:({ c₀ with mode:=u1 }::cs:List Frame)=cc at t2;have hlt':∀ t,o.dst=some t->t<a0.tmps.size:=by intro t ht; rw[hdst]at ht; cases ht; rw[hN0]; exact hd
 have he1:QB S ((Qb2 args).put (some d) (rvD m)) (a0.put o.dst rv).tmps:=by
  have:=he0.put hlt' hvr
  rwa [hdst]at this ⊢
 have hdb:(⟨S.w.heap.size,[],none⟩:DB).Ok S.w (a0.put o.dst rv).defers:=by
  rw[QfF,hd0];exact⟨Vc _,⟨[],rfl,ZK,λD hD=>by simp at hD⟩,λl h=>by cases h⟩
 have hwl:=QjR (d:=⟨S.w.heap.size,[],none⟩) (ops:=ops) (ops.toList.drop 1) insR hS he1 (by rw[Qgf,hN0]) hdb hl (hx hS.closed);have hlen2:(ops.toList.drop 1).length=ops.size-1:=by simp
 have heq:=Qoi (P:=P) (ops:=ops) (Q:=QM S fn.ntmps ⟨S.w.heap.size,[],none⟩ λx env H1=>x=.normal/\X P fn.ntmps D i2 env H1 λx _ H2=>(x=.normal\/x=.ret)/\∃ H',Pt H'/\Cv S.H.length (.tup []) H2 (.tup []) H') (ops.toList.drop 1) 1 (λj=>by rw[Vr]; simp);rw[<-heq,hlen2]at hwl;obtain⟨e1,a1,w1,hq1,harr1⟩:=wp_opsIn _ _ _ (Qli hnd none _ _ _ hwl) b [.code c2] cc hbr trivial (QeO _ _);obtain⟨x1,env1,ρ1,H1,g1,g2,g3,g4,g5,g6,hx1,g7⟩:=hq1;subst hx1
 cases e1<;>simp only[ER]at g1
 have t3:=t2.trans harr1;obtain⟨e2,a2,w2,hq2,harr2⟩:=Qey hD i2 hc g7 ⟨S.w.heap.size,[],none⟩ ⟨ρ1,H1,w1⟩ a1 rfl g3 g4 g5 g6 b [] cc hbr trivial (QeO _ _);obtain⟨x2,env2,ρ2,H2,k1,k2,k3,k4,k5,k6,hx2,H',hpt,hcv⟩:=hq2;obtain⟨ms,m1,m2,m3⟩:=k6.ms;simp only[VV]at m1;have hfinal:∃ todo,StepsIn (Machine.fenced P (Fr none)) P (lone (b.atR a0 [.code (.seq (.region rid ops false) c2)]) (c₀::cs) S.w) (lone { b.atR a2 todo with mode:=.returning } cc w2):=by
  rcases hx2 with rfl|rfl
  . cases e2<;>simp only[ER]at k1
    exact⟨[],t3.trans (StepsIn.trans harr2 (.one (QfP rfl) (stepR_end hbr)))⟩
  . cases e2<;>simp only[ER]at k1
    obtain⟨todo,hs⟩:=harr2.1 hbr;exact⟨todo,t3.trans hs⟩
 obtain⟨todo,t4⟩:=hfinal;obtain⟨w3,ht,t5⟩:=Qmd (P:=P) (n0:=S.w.heap.size) ms w2 { b.atR a2 todo with mode:=.returning } cc (by simp) m1 m2 m3;have hS2:=QdF ht k3;have hE2:QB ⟨ρ2,H2,w3⟩ env2 a2.tmps:=⟨λt=>(k4.get t).extV (Qdb ht) (.inl rfl)⟩;obtain⟨v,h3,h4⟩:=Qgu (P:=P) (S:=⟨ρ2,H2,w3⟩) (rs:=[]) hS2 hE2 hr (λs hs=>by simp at hs);obtain⟨ρ',h5,h6,_⟩:=hcv ⟨ρ2,H2,w3⟩ v rfl hS2 h4;subst hcc;refine⟨.returned v,u1,w3,_,⟨v,H',ρ',rfl,hset,hpt,?_,h6⟩,t4.trans t5,hbk,hbf,rfl,rfl,fn,by rw[show({ b.atR a2 todo with mode:=.returning,defers:=[] }:Frame).fn=f from hbf]; exact hf,h3⟩;exact(QeM ht (g2.trans (k2.mono (g2.len (Vc _)))) (Vc _)).trans h5
theorem Qps {fn:Func} {tmps:Array Value} {R:Ending->Wy->Prop} {n0:Nat} {u:FrameMode} {ds:List Deferred} (hu:u≠.run):∀ (ms:List Nat) (w:Wy),ms.Nodup->(∀ D∈ms,n0<=D/\w.heap[D]? = some (Obj.deferred (some []))) ->
 (∀ w',Qc1 n0 w w'->LeavesInM (Fr none) 0 P fn tmps R ds u w')->LeavesInM (Fr none) 0 P fn tmps R (ms.map QbW++ds) u w
 |[],w,_,_,h=>h w (Qpy _ _)
 |D::ms,w,hnd,hms,h=>by
  rw[ZJ]at hnd;obtain⟨h1,h2⟩:=hms D (by simp);refine⟨hu,.inl ⟨D,_,rfl,run_takeDeferred h2,?_⟩⟩;refine Qps hu ms _ hnd.2 (λD' hD'=>⟨(hms D' (by simp[hD'])).1,?_⟩) λw' ht=>h w' (Qnm h1 h2 ht);have hne:D'≠D:=λe=>hnd.1 (e ▸ hD');exact(World.putObj_heap_other hne).trans (hms D' (by simp[hD'])).2
def Qgv (P:Wx) (n0:Nat) (rs:List RS) (Pt:Out->Ws->Prop) (k:Wz) (cap:Wt) (x:XE) (env:Env) (H1:Ws):Prop :=
 match x with
 |.normal=>∃ Pd,OkD P k cap H1 none Pd/\∀ H4,Pd H4->(∀ s∈rs,s.side env H4)/\Qbu n0 Pt (QaT env H4 rs) H4
 |.ret=>∃ Pd,OkD P k cap H1 none Pd/\∀ H4,Pd H4->(∀ s∈rs,s.side env H4)/\Qbu n0 Pt (QaT env H4 rs) H4
 |.panic y=>∃ Pd,OkD P k cap H1 (some y) Pd/\∀ H4,Pd H4->(∀ s∈rs,s.side env H4)/\Qbu n0 Pt (QaT env H4 rs) H4
 |_=>False
end
def Qla (P:Wx) (D:Array Oper->List Nat->List Ins->Bool) (fn:Func) (d:Nat) (insR:List Ins) (i2:IC):Bool :=
 (match fn.body with
  |some (.seq (.region _ ops false) c2) =>
    (match ops.toList with
     |o::r=>(match o.op with|.call { callee:=.builtin .recover,args:=as,argTypes:=ts }=>as.isEmpty&&ts.isEmpty|_=>false)&&(o.guard.isNone&&(o.dst==some d&&(decide (d<fn.ntmps)&&(ndB ops&&(chkL P fn.ntmps ops r insR&&QJ P fn.ntmps D c2 i2)))))
     |_=>false)
  | _ => false) && !(fn.name == "runtime.NumGoroutine") && QbM P fn.results.toList [] && decide (fn.params.size + fn.nfree <= fn.ntmps)
theorem Qnt {P:Wx} (hm:P.follows .mixedOrders=true) {f:Wz} {fn:Func} {d:Nat} {insR:List Ins} {i2:IC} (hf:P.funcs[f]? = some fn) (hc:Qla P Qb fn d insR i2=true)
 {args:Wt} {H:Ws} {m:Option SV} {Pt:Ws->Prop} (hn:args.length=fn.params.size+fn.nfree)
 (hx:closed H->QaC P insR ((Qb2 args).put (some d) (rvD m)) H λx env H1=>x=.normal/\X P fn.ntmps Qb i2 env H1 λx _ H2=>(x=.normal\/x=.ret)/\∃ H',Pt H'/\Cv H.length (.tup []) H2 (.tup []) H'):OkD P f args H m Pt:=by
 unfold Qla at hc;rw[Va,Va,Va]at hc;obtain⟨⟨⟨h1,h2⟩,h3⟩,h4⟩:=hc;split at h1
 . rename_i rid ops c2 hb;split at h1
   . rename_i o r hops;simp only[Va,Wc,Wd]at h1;obtain⟨k1,k2,k3,k4,k5,k6,k7⟩:=h1;split at k1
     . rename_i as ts ho;simp only[Va,Array.isEmpty_iff]at k1;obtain⟨rfl,rfl⟩:=k1;have h0:ops[0]? = some o:=by rw[<-ZI,hops]; rfl
       refine Qua (QeT hm) hf hb (by simpa using h2) (by rw[hn]; simpa using h4) h3 h0 ho (by simpa using k2) k3 k4 k5 ?_ k7 hx;rw[hops]; exact k6
     . cases k1
   . cases h1
 . cases h1
end
section
variable [QK] [QE] [QF]
set_option linter.unusedSectionVars false
def WF (P:Wx) (N:Nat) (c:Code) (ts:List Nat) (env:Env) (H:Ws) (K:Wr):Prop :=
 ∀ (db:DB) (S:St) (a:Act),S.H=H->Sim S->QB S env a.tmps->a.tmps.size=N->db.Ok S.w a.defers ->
  c.wq db.ro P (λe a' w=>QM S N db K e a' w/\∀ t∈ts,a'.tmps.getD t undef=a.tmps.getD t undef) a S.w
end
def IC.tl:Nat->IC->IC
 |0,a=>a
 |k+1,.seq _ b=>IC.tl k b
 |_,a=>a
def IC.nth:Nat->IC->IC
 |0,.seq a _=>a
 |k+1,.seq _ b=>IC.nth k b
 |_,a=>a
section
variable [QK] [QE] [QF]
section
variable {P:Wx} {D:Array Oper->List Nat->List Ins->Bool}
theorem QrF (hD:DOk P D) {fn:Func} {cb:Code} {rid:Nat} {o1 od:Oper} {f':Operand} {fo:Od} {ib:IC} {ins1:Ins} {rs:List RS} {Pt:Out->Ws->Prop}
 (hr:QbM P fn.results.toList rs=true)
 (ho1:Qb1 P fn.ntmps #[o1,od] o1 ins1=true) (hnd1:∀ c,o1.op≠.defer c) (hod:od.op=.defer { callee:=.value f',args := #[],argTypes := #[] }) (hog:od.guard=none) (hdst:od.dst=none) (hfo:Qm f' fo=true)
 (hcb:QJ P fn.ntmps D cb ib=true) {S:St} {a1:Act} {w1:Wy} {env1:Env} {ρ1:Nat->Option Nat} {H1:Ws}
 (g2:Ext S.H.length S ⟨ρ1,H1,w1⟩) (g3:Sim ⟨ρ1,H1,w1⟩) (g4:QB ⟨ρ1,H1,w1⟩ env1 a1.tmps) (g5:a1.tmps.size=fn.ntmps) (g6:(⟨S.w.heap.size,[],none⟩:DB).Ok w1 a1.defers)
 (g7:xo P ins1 env1 H1 λx env2 H2=>x=.normal/\(env2.ev fo).vd=true/\∃ k cap,(env2.ev fo).ug=.fn (.func k) [] cap/\X P fn.ntmps D ib env2 H2 (Qgv P S.H.length rs Pt k cap)) :
 (Code.seq (.region rid #[o1,od] false) cb).wpIn (Fr none) 0 P (bodyPostM (Fr none) 0 P fn (λe w'=>∃ (out:Out) (H':Ws) (v:Value) (ρ':Nat->Option Nat),Pt out H'/\Ext S.H.length S ⟨ρ',H',w'⟩/\Sim ⟨ρ',H',w'⟩ /\
  match out with
  |.ret r=>e=.returned v/\VR ⟨ρ',H',w'⟩ r v
  |.pan x=>e=.panicked [{ v:=v,recovered:=false }]/\VR ⟨ρ',H',w'⟩ x v)) a1 w1:=by
 refine wpIn_seq ?_;refine wpIn_region ?_;have hstep:=QdL (d:=⟨S.w.heap.size,[],none⟩) (N:=fn.ntmps) g3 g4 g5 g6 (ops := #[o1,od]) ho1 g7
  (next:=wpOpsIn (Fr none) 0 P #[o1,od] (Exit.then (cb.wpIn (Fr none) 0 P (bodyPostM (Fr none) 0 P fn λe w'=>∃ (out:Out) (H':Ws) (v:Value) (ρ':Nat->Option Nat),Pt out H'/\Ext S.H.length S ⟨ρ',H',w'⟩/\Sim ⟨ρ',H',w'⟩ /\
   match out with
   |.ret r=>e=.returned v/\VR ⟨ρ',H',w'⟩ r v
   |.pan x=>e=.panicked [{ v:=v,recovered:=false }]/\VR ⟨ρ',H',w'⟩ x v)) (bodyPostM (Fr none) 0 P fn λe w'=>∃ (out:Out) (H':Ws) (v:Value) (ρ':Nat->Option Nat),Pt out H'/\Ext S.H.length S ⟨ρ',H',w'⟩/\Sim ⟨ρ',H',w'⟩ /\
   match out with
   |.ret r=>e=.returned v/\VR ⟨ρ',H',w'⟩ r v
   |.pan x=>e=.panicked [{ v:=v,recovered:=false }]/\VR ⟨ρ',H',w'⟩ x v)) [1])
  (Q:=Exit.then (cb.wpIn (Fr none) 0 P (bodyPostM (Fr none) 0 P fn λe w'=>∃ (out:Out) (H':Ws) (v:Value) (ρ':Nat->Option Nat),Pt out H'/\Ext S.H.length S ⟨ρ',H',w'⟩/\Sim ⟨ρ',H',w'⟩ /\
   match out with
   |.ret r=>e=.returned v/\VR ⟨ρ',H',w'⟩ r v
   |.pan x=>e=.panicked [{ v:=v,recovered:=false }]/\VR ⟨ρ',H',w'⟩ x v)) (bodyPostM (Fr none) 0 P fn λe w'=>∃ (out:Out) (H':Ws) (v:Value) (ρ':Nat->Option Nat),Pt out H'/\Ext S.H.length S ⟨ρ',H',w'⟩/\Sim ⟨ρ',H',w'⟩ /\
   match out with
   |.ret r=>e=.returned v/\VR ⟨ρ',H',w'⟩ r v
   |.pan x=>e=.panicked [{ v:=v,recovered:=false }]/\VR ⟨ρ',H',w'⟩ x v)) ?_ ?_
 . -- the two operations
   show wpOpsIn (Fr none) 0 P #[o1,od] _ [0,1] a1 w1;simp only[wpOpsIn];have e0:(#[o1,od]:Array Oper)[0]? = some o1:=rfl;simp only[e0];unfold Qev at hstep;split
   . rename_i hw;rw[Wb hw]at hstep;exact⟨λ_ _=>trivial,hstep⟩
   . rename_i hw;rw[Wa hw]at hstep;exact⟨λ_ _=>trivial,hstep⟩
 . -- the deferred call is laid down; the rest
   rintro a2 w2 ⟨x2,env2,ρ2,H2,k1,k2,k3,k4,k5,k6,hx2,hvd,k,cap,hug,k7⟩;subst hx2;have hfv:=(Qp hfo k4).ug hvd;rw[hug]at hfv;obtain⟨us,cs,hv,hus,hcs⟩:=hfv.fn_inv;have hus0:us=[]:=by have:=hus.1; simpa using this
   subst hus0;obtain⟨ms1,m1,m2,m3⟩:=k6.ms;simp only[VV]at m1;simp only[wpOpsIn];have e1:(#[o1,od]:Array Oper)[1]? = some od:=rfl;simp only[e1];have hw:Region.wanted od (yielded #[o1,od] a2.tmps)=true:=by simp[Region.wanted,hog]
   rw[Wb hw];refine⟨λ_ _=>trivial,?_⟩;have hrun:(od.semAt (Fr none).round a2.eval).run P w2=.ok (.defer { target:=.fn (.func k) cs.toArray,args := #[] }) w2:=by
    show(od.semAt none a2.eval).run P w2=_;rw[Oper.semAt_none];simp[execOp,hod,resolve,hv,Deferred.ofValue]
   rw[hrun,Oper.uponIn_defer];have hput:({ a2 with defers:={ target:=.fn (.func k) cs.toArray,args := #[] }::a2.defers }:Act).put od.dst undef={ a2 with defers:={ target:=.fn (.func k) cs.toArray,args := #[] }::a2.defers }:=by rw[hdst]; rfl
   rw[hput];show cb.wpIn _ _ _ _ _ _;have hwb:=Qey hD ib hcb k7 ⟨w2.heap.size,{ target:=.fn (.func k) cs.toArray,args := #[] }::ms1.map QbW,none⟩ ⟨ρ2,H2,w2⟩ { a2 with defers:={ target:=.fn (.func k) cs.toArray,args := #[] }::a2.defers } rfl k3 k4 k5 ⟨Vc _,⟨[],by simp[m1],ZK,λD hD=>by simp at hD⟩,λl h=>by cases h⟩;refine wq_mono hwb ?_;rintro e3 a3 w3 ⟨x3,env3,ρ3,H3,q1,q2,q3,q4,q5,q6,q7⟩;obtain⟨ms3,n1,n2,n3⟩:=q6.ms;have hE0:Ext S.H.length S ⟨ρ3,H3,w3⟩:=(g2.trans (k2.mono (g2.len (Vc _)))).trans (q2.mono ((g2.trans (k2.mono (g2.len (Vc _)))).len (Vc _)));have hdb1:(⟨S.w.heap.size,[],none⟩:DB).Ok w2 (ms1.map QbW):=⟨k6.le,⟨ms1,by simp,m2,m3⟩,λl h=>by cases h⟩;have main:∀ (m:Option SV) (u:FrameMode) (Pd:Ws->Prop),u≠.run->MD ⟨ρ3,H3,w3⟩ m u->OkD P k cap H3 m Pd->(∀ H4,Pd H4->(∀ s∈rs,s.side env3 H4)/\Qbu S.H.length Pt (QaT env3 H4 rs) H4) ->
    LeavesInM (Fr none) 0 P fn a3.tmps (λe w'=>∃ (out:Out) (H':Ws) (v:Value) (ρ':Nat->Option Nat),Pt out H'/\Ext S.H.length S ⟨ρ',H',w'⟩/\Sim ⟨ρ',H',w'⟩ /\
     match out with
     |.ret r=>e=.returned v/\VR ⟨ρ',H',w'⟩ r v
     |.pan x=>e=.panicked [{ v:=v,recovered:=false }]/\VR ⟨ρ',H',w'⟩ x v) a3.defers u w3:=by
    intro m u Pd hu hmd hok hres;rw[n1];refine Qps hu ms3 w3 n2 n3 λw4 ht => ?_;have hS4:=QdF ht q3;have hE4:=QeM ht hE0 (g2.trans (k2.mono (g2.len (Vc _)))).size;have hcs4:VRs ⟨ρ3,H3,w4⟩ cap cs:=⟨hcs.1,λj s u h1 h2=>((hcs.2 j s u h1 h2).extV q2.v (.inl rfl)).extV (Qdb ht) (.inl rfl)⟩;have hmd4:MD ⟨ρ3,H3,w4⟩ m u:=by
     cases m with
     |none=>exact hmd
     |some y=>obtain⟨v,h1,h2⟩:=hmd; exact⟨v,h1,h2.extV (Qdb ht) (.inl rfl)⟩
    refine⟨hu,.inr ⟨QhS,.func k,cs.toArray,k,cs.toArray,rfl,?_,λg hg=>trivial,?_⟩⟩
    . simp only[invoke];have:=hok.1 cs.toArray w4;simpa using this
    . refine(hok.2 ⟨ρ3,H3,w4⟩ cs u rfl hS4 hcs4 hmd4).mono ?_;rintro e5 u5 w5 ⟨v5,H5,ρ5,rfl,hset,hpd,hext5,hsim5⟩;obtain⟨r1,r2⟩:=hres H5 hpd;show LeavesInM _ _ _ _ _ _ (ms1.map QbW) (settle u5) w5;rw[hset];have hdb3:=hdb1.ext (S:=⟨ρ2,H2,w2⟩) (S':=⟨ρ3,H3,w3⟩) k3 q2;have hdb4:(⟨S.w.heap.size,[],none⟩:DB).Ok w4 (ms1.map QbW):=by
       refine⟨by rw[ht.size]; exact hdb3.le,⟨ms1,by simp,m2,λD hD=>⟨(m3 D hD).1,?_⟩⟩,λl h=>by cases h⟩;have h1:=Qce (m3 D hD).2;have h2:w3.heap[D]? = some (Obj.deferred (some [])):=by
        have h4:=(m3 D hD).2;refine((q2.imm D (Qce h4) ?_).1).trans h4;rintro⟨i,o,ho,hl,hρ⟩;rcases k3.own ho hl hρ with ⟨c,h5⟩|⟨r,h5⟩|⟨es,cl,h5⟩<;>(rw[h4]at h5; cases h5)
       rcases ht.at_ D with h3|⟨h3,_,_⟩
       . exact h3.trans h2
       . exact absurd (Zh h1 h3) (Nat.lt_irrefl _)
      have hdb5:=hdb4.ext (S:=⟨ρ3,H3,w4⟩) (S':=⟨ρ5,H5,w5⟩) hS4 hext5;obtain⟨ms5,j1,j2,j3⟩:=hdb5.ms;have hE5:Ext S.H.length S ⟨ρ5,H5,w5⟩:=hE4.trans (hext5.mono (hE4.len (Vc _)));have hEnv5:QB ⟨ρ5,H5,w5⟩ env3 a3.tmps:=QB.ext (S:=⟨ρ3,H3,w4⟩) ⟨λt=>(q4.get t).extV (Qdb ht) (.inl rfl)⟩ hext5;rw[j1];simp only[VV];refine Qf9 (by simp) ms5 w5 j2 j3 λw6 ht6 => ?_;obtain⟨v,h3,h4⟩:=Qgu (P:=P) (S:=⟨ρ5,H5,w6⟩) (QdF ht6 hsim5) ⟨λt=>(hEnv5.get t).extV (Qdb ht6) (.inl rfl)⟩ hr r1;obtain⟨r,H',hp,h2⟩:=r2;obtain⟨ρ',h5,h6,h7⟩:=h2 ⟨ρ5,H5,w6⟩ v rfl (QdF ht6 hsim5) h4;exact⟨v,h3,.ret r,H',v,ρ',hp,(QeM ht6 hE5 (Vc _)).trans h5,h6,rfl,h7⟩
   cases x3<;>cases e3<;>simp only[ER]at q1
   . obtain⟨Pd,y1,y2⟩:=q7;exact main none .returning Pd (by simp) rfl y1 y2
   . exact q7.elim
   . exact q7.elim
   . obtain⟨Pd,y1,y2⟩:=q7;exact main none .returning Pd (by simp) rfl y1 y2
   . obtain⟨Pd,y1,y2⟩:=q7;obtain⟨v,rfl,hv⟩:=q1;exact main (some _) (.panicking [{ v:=v,recovered:=false }]) Pd (by simp) ⟨v,rfl,hv⟩ y1 y2
 . rintro ch a' w' ⟨x2,env2,ρ2,H2,k1,k2,k3,k4,k5,k6,hx2,_⟩;subst hx2;simp[ER]at k1
def XL (P:Wx) (N:Nat) (D:Array Oper->List Nat->List Ins->Bool):List IC->Env->Ws->(Wr)->Prop
 |[],env,H,K=>K .normal env H
 |i::r,env,H,K=>X P N D i env H λx env H=>match x with
  |.normal=>XL P N D r env H K
  |x=>K x env H
def Qh9 (P:Wx) (N:Nat) (D:Array Oper->List Nat->List Ins->Bool) (k:Code->Bool):List IC->Code->Bool
 |[],c=>k c
 |i::r,.seq a b=>QJ P N D a i&&Qh9 P N D k r b
 |_,_=>false
def Qeh (P:Wx) (n0:Nat) (rs:List RS) (Pt:Out->Ws->Prop) (nx:Env->Ws->Prop) (x:XE) (env:Env) (H:Ws):Prop :=
 match x with
 |.normal=>nx env H
 |.ret=>(∀ s∈rs,s.side env H)/\Qbu n0 Pt (QaT env H rs) H
 |_=>False
theorem QrQ (hD:DOk P D) {fn:Func} {rs:List RS} {Pt:Out->Ws->Prop} (hr:QbM P fn.results.toList rs=true) {kk:Code->Bool} {nx:Env->Ws->Prop} {S:St}
 (hk:∀ c,kk c=true->∀ (a1:Act) (w1:Wy) (env1:Env) (ρ1:Nat->Option Nat) (H1:Ws),Ext S.H.length S ⟨ρ1,H1,w1⟩->Sim ⟨ρ1,H1,w1⟩->QB ⟨ρ1,H1,w1⟩ env1 a1.tmps->a1.tmps.size=fn.ntmps->(⟨S.w.heap.size,[],none⟩:DB).Ok w1 a1.defers->nx env1 H1 ->
  c.wpIn (Fr none) 0 P (bodyPostM (Fr none) 0 P fn (λe w'=>∃ (out:Out) (H':Ws) (v:Value) (ρ':Nat->Option Nat),Pt out H'/\Ext S.H.length S ⟨ρ',H',w'⟩/\Sim ⟨ρ',H',w'⟩ /\
  match out with
  |.ret r=>e=.returned v/\VR ⟨ρ',H',w'⟩ r v
  |.pan x=>e=.panicked [{ v:=v,recovered:=false }]/\VR ⟨ρ',H',w'⟩ x v)) a1 w1) :
 ∀ (ias:List IC) (c:Code) (a1:Act) (w1:Wy) (env1:Env) (ρ1:Nat->Option Nat) (H1:Ws),Qh9 P fn.ntmps D kk ias c=true->Ext S.H.length S ⟨ρ1,H1,w1⟩->Sim ⟨ρ1,H1,w1⟩->QB ⟨ρ1,H1,w1⟩ env1 a1.tmps->a1.tmps.size=fn.ntmps ->
  (⟨S.w.heap.size,[],none⟩:DB).Ok w1 a1.defers->XL P fn.ntmps D ias env1 H1 (Qeh P S.H.length rs Pt nx) ->
  c.wpIn (Fr none) 0 P (bodyPostM (Fr none) 0 P fn (λe w'=>∃ (out:Out) (H':Ws) (v:Value) (ρ':Nat->Option Nat),Pt out H'/\Ext S.H.length S ⟨ρ',H',w'⟩/\Sim ⟨ρ',H',w'⟩ /\
  match out with
  |.ret r=>e=.returned v/\VR ⟨ρ',H',w'⟩ r v
  |.pan x=>e=.panicked [{ v:=v,recovered:=false }]/\VR ⟨ρ',H',w'⟩ x v)) a1 w1:=by
 intro ias
 induction ias with
 |nil=>exact λc a1 w1 env1 ρ1 H1 hc g2 g3 g4 g5 g6 hx=>hk c hc a1 w1 env1 ρ1 H1 g2 g3 g4 g5 g6 hx
 |cons i r ih =>
  intro c a1 w1 env1 ρ1 H1 hc g2 g3 g4 g5 g6 hx
  cases c<;>simp only[Qh9,VE,Va]at hc
  rename_i ca cb;have hwa:=Qey hD i hc.1 hx ⟨S.w.heap.size,[],none⟩ ⟨ρ1,H1,w1⟩ a1 rfl g3 g4 g5 g6;refine wpIn_seq (wq_mono hwa ?_);rintro e2 a2 w2 ⟨x,env2,ρ2,H2,k1,k2,k3,k4,k5,k6,k7⟩;have hE:Ext S.H.length S ⟨ρ2,H2,w2⟩:=g2.trans (k2.mono (g2.len (Vc _)))
  cases x<;>cases e2<;>simp only[ER]at k1
  . exact ih cb a2 w2 env2 ρ2 H2 hc.2 hE k3 k4 k5 k6 k7
  all_goals first|exact k7.elim|skip
  obtain⟨r1,r2⟩:=k7;obtain⟨ms,m1,m2,m3⟩:=k6.ms;simp only[VV]at m1;show LeavesInM (Fr none) 0 P fn a2.tmps _ a2.defers .returning w2;rw[m1];refine Qf9 (by simp) ms w2 m2 m3 λw6 ht6 => ?_;obtain⟨v,h3,h4⟩:=Qgu (P:=P) (S:=⟨ρ2,H2,w6⟩) (QdF ht6 k3) ⟨λt=>(k4.get t).extV (Qdb ht6) (.inl rfl)⟩ hr r1;obtain⟨r,H',hp,h2⟩:=r2;obtain⟨ρ',h5,h6,h7⟩:=h2 ⟨ρ2,H2,w6⟩ v rfl (QdF ht6 k3) h4;exact⟨v,h3,.ret r,H',v,ρ',hp,(QeM ht6 hE (Vc _)).trans h5,h6,rfl,h7⟩
def QlA (P:Wx) (D:Array Oper->List Nat->List Ins->Bool) (fn:Func) (ins1:Ins) (fo:Od) (ib:IC):Code->Bool
 |.seq (.region _ ops false) cb =>
  (match ops.toList with
   |[o1,od]=>Qb1 P fn.ntmps ops o1 ins1&&((match o1.op with|.defer _=>false|_=>true)&&((match od.op with|.defer { callee:=.value f',args:=as,argTypes:=ts }=>as.isEmpty&&(ts.isEmpty&&Qm f' fo)|_=>false) &&
    (od.guard.isNone&&(od.dst.isNone&&QJ P fn.ntmps D cb ib))))
   |_=>false)
 |_=>false
def Qk6 (P:Wx) (D:Array Oper->List Nat->List Ins->Bool) (fn:Func) (ias:List IC) (ins1:Ins) (fo:Od) (ib:IC) (rs:List RS):Bool :=
 (match fn.body with
  |some c=>Qh9 P fn.ntmps D (QlA P D fn ins1 fo ib) ias c
  | none => false) && !(fn.name == "runtime.NumGoroutine") && QbM P fn.results.toList rs && decide (fn.params.size + fn.nfree <= fn.ntmps)
theorem Qq7 {P:Wx} (hm:P.follows .mixedOrders=true) {f:Wz} {fn:Func} {ias:List IC} {ib:IC} {ins1:Ins} {fo:Od} {rs:List RS} (hf:P.funcs[f]? = some fn) (hc:Qk6 P Qb fn ias ins1 fo ib rs=true)
 {args:Wt} {H:Ws} {Pt:Out->Ws->Prop} (hn:args.length=fn.params.size+fn.nfree)
 (hx:closed H->XL P fn.ntmps Qb ias (Qb2 args) H (Qeh P H.length rs Pt λenv1 H1=>xo P ins1 env1 H1 λx env2 H2=>x=.normal/\(env2.ev fo).vd=true/\∃ k cap,(env2.ev fo).ug=.fn (.func k) [] cap/\X P fn.ntmps Qb ib env2 H2 (Qgv P H.length rs Pt k cap))):OkP P f args H Pt:=by
 unfold Qk6 at hc;rw[Va,Va,Va]at hc;obtain⟨⟨⟨h1,h2⟩,h3⟩,h4⟩:=hc;split at h1
 . rename_i c hb;refine⟨λvs w=>Go.MuLone.run_callFunc_enter hf (by simpa using h2) hb vs w,?_⟩;intro S vs hH hS hvs;subst hH;refine callsIn_wide.1 (callsIn_of_wp_marks (F:=Fr none) (n:=0) hf hb trivial ?_);have hl:vs.length=args.length:=hvs.1;have h4:args.length<=fn.ntmps:=by rw[hn]; simpa using h4
   refine QrQ (QeT hm) h3 (kk:=QlA P Qb fn ins1 fo ib) (nx:=_) ?_ ias c ⟨vs.toArray++Array.replicate (fn.ntmps-vs.toArray.size) undef,[]⟩ S.w (Qb2 args) S.ρ S.H h1 (Ext.refl _ _) hS (Qkg hvs _) (by simp; omega) ⟨Vc _,⟨[],rfl,ZK,λD hD=>by simp at hD⟩,λl h=>by cases h⟩ (hx hS.closed);intro c hc a1 w1 env1 ρ1 H1 g2 g3 g4 g5 g6 g7;unfold QlA at hc;split at hc
   . rename_i rid ops cb;split at hc
     . rename_i o1 od hops;simp only[Va]at hc;obtain⟨k2,k3,k4,k5,k6,k7⟩:=hc;have e:ops = #[o1,od]:=by apply Y3; simpa using hops
       subst e;split at k4
       . rename_i f' as ts hod;simp only[Va,Array.isEmpty_iff]at k4;obtain⟨rfl,rfl,k4⟩:=k4;exact QrF (QeT hm) h3 k2 (λc e=>by rw[e]at k3; cases k3) hod (by simpa using k5) (by simpa using k6) k4 k7 g2 g3 g4 g5 g6 g7
       . cases k4
     . cases hc
   . cases hc
 . cases h1
end
end
section
variable [QK] [QE] [QF]
section
variable {S:St}
theorem Qn5 {L:Ws} {i:Nat} {o:AO} (ho:(L.map AO.dead)[i]? = some o):o.live=false/\o.cells=[]:=by
 rw[Vn,V9]at ho;obtain⟨p,_,rfl⟩:=ho;exact⟨rfl,rfl⟩
theorem Qvz {w':Wy} {ρ:Nat->Option Nat} {H':Ws} {ρ':Nat->Option Nat} (hS:Sim S) (he:Ext S.H.length ⟨ρ,S.H.map AO.dead,S.w⟩ ⟨ρ',H',w'⟩) :
 Ext S.H.length S ⟨S.ρ,S.H,w'⟩/\Sim ⟨S.ρ,S.H,w'⟩:=by
 have hrw:∀ b,¬ (⟨ρ,S.H.map AO.dead,S.w⟩:St).rw b:=by
  rintro b ⟨i,o,ho,hl,_⟩;simp[AO.own,(Qn5 ho).1,(Qn5 ho).2]at hl
 have hk:∀ k,k<S.w.heap.size->w'.heap[k]? = S.w.heap[k]? := λk h=>(he.imm k h (hrw k)).1;have hE:Ext S.H.length S ⟨S.ρ,S.H,w'⟩:=⟨λi o _ ho=>⟨o,ho,Vc _,λ_=>rfl⟩,λk h hn=>⟨hk k h,hn⟩,he.size,he.shape,λk r h=>⟨r,by show w'.heap[k]? = _; rw[hk k (Qce h)]; exact h⟩,he.os,he.tape,he.output⟩;refine⟨hE,?_,hS.bel,hS.inj,?_,hS.gl.ext hE,hS.kf.ext hE⟩
 . intro i o ho hl;have h4:=hS.live i o ho hl;show match S.ρ i with
    |none=>o.cells=[]
    |some b=>_
   cases hρ:S.ρ i with
   |none=>rw[hρ]at h4; exact h4
   |some b =>
    rw[hρ]at h4;obtain⟨us,rest,h5,h6⟩:=h4;exact⟨us,rest,by show w'.heap[b]? = _; rw[hk b (Qce h5)]; exact h5,h6.ext hE⟩
 . intro i o ho hl hne;obtain⟨l,x,m,us,env,k1,k2,k3,k4,k6⟩:=hS.lp i o ho hl hne;exact⟨l,x,m,us,env,k1,k2,by show w'.heap[l]? = _; rw[hk l (Qce k3)]; exact k3,k4,k6.ext hE⟩
theorem Ok.fz {P:Wx} {f:Wz} {args:Wt} {H:Ws} {v:Value} (d:Nat) (h:Ok P f (args.map (SV.fz 0 [] H d)) (H.map AO.dead) (.ret (.val v)) (H.map AO.dead)):Ok P f args H (.ret (.val v)) H:=by
 refine⟨h.1,λS vs hH hS hvs => ?_⟩;subst hH;obtain⟨ρ,he,hs,hv⟩:=QsA hS d;refine(h.2 ⟨ρ,S.H.map AO.dead,S.w⟩ vs rfl hs (hvs.map hv)).mono ?_;rintro e w' ⟨u,ρ',h1,h2,h3,h4⟩;obtain⟨g1,g2⟩:=Qvz hS (he:=h1.mono (by simp));refine⟨u,S.ρ,g1,g2,h3,?_⟩
 cases h4
 exact .val _
end
end
end Go.Ab
