/- Steps of the proof. -/
import Derived.Test.YtogjmpkehjfecaaCore4
import Derived.RecoverIn
set_option linter.all false
namespace Go.Ab
section
variable [QK] [QE] [QF]
section
variable {P:Wz} {N:Nat} {D:Array Oper->List Nat->List Ins->Bool}
def QbZ (n i:Nat):Nat:=n+i
@[simp] theorem Qxc (n:Nat):QbZ n 0=n:=rfl
@[simp] theorem QuU (a k i:Nat):QbZ (a+k) (i+1)=QbZ (a+(k+1)) i:=by simp only[QbZ]; omega
@[simp] theorem rs_p (n:Nat) (d:Option Nat) (g:Option (Nat×Bool)) (i:I):Ins.rs n ⟨d,g,.p i⟩=⟨d,g,.p i⟩:=rfl
@[simp] theorem rs_q (n:Nat) (d:Option Nat) (g:Option (Nat×Bool)) (f:Od) (as:List Od):Ins.rs n ⟨d,g,.q f as⟩=⟨d,g,.q f as⟩:=rfl
@[simp] theorem rs_e (n:Nat) (d:Option Nat) (g:Option (Nat×Bool)) (i:E):Ins.rs n ⟨d,g,.e i⟩=⟨d,g,.e (i.rs n)⟩:=rfl
@[simp] theorem rs_flo (n i:Nat) (T:Wy) (sz b:Nat) (z:Wv) (l c:Od):E.rs n (.flo i T sz b z l c)=.flo (QbZ n i) T sz b z l c:=rfl
@[simp] theorem rs_st (n m:Nat) (p x:Od):E.rs n (.st m p x)=.st m p x:=rfl
@[simp] theorem QtA (n m:Nat) (ws:List Nat) (p x:Od):E.rs n (.stw ws m p x)=.stw ws m p x:=rfl
@[simp] theorem rs_app (n:Nat) (T:Wy) (sz b:Nat) (s x:Od):E.rs n (.app T sz b s x)=.app T sz b s x:=rfl
@[simp] theorem rs_aps (n:Nat) (T:Wy) (s x:Od):E.rs n (.aps T s x)=.aps T s x:=rfl
@[simp] theorem Qw1 (n:Nat) (f:Od) (as:List Od):E.rs n (.call f as)=.call f as:=rfl
@[simp] theorem rs_alc (n:Nat) (T:Wy) (z:Wv):E.rs n (.alc T z)=.alc T z:=rfl
@[simp] theorem rs_box (n:Nat) (T:Wy) (x:Od):E.rs n (.box T x)=.box T x:=rfl
def xdl (P:Wz) (l:List Ins) (env:Env) (H:Wu) (K:Wt):Prop:=xd P [] l env H K
@[congr] theorem Qwa {l l':List Ins} {env:Env} {H:Wu} {K:Wt} (h:Ev l=l'):xdl P l env H K=xdl P l' env H K:=by rw[QB h]
@[simp] theorem xdl_go (l:List Ins) (env:Env) (H:Wu) (K:Wt):xdl P l env H K=xd P [] l env H K:=rfl
def Qh8 (P:Wz) (l:List Ins) (n:Nat) (env:Env) (H:Wu) (K:Wt):Prop:=xdl P (l.map (Ins.rs n)) env H K
@[congr] theorem QwK {l:List Ins} {n n':Nat} {env:Env} {H H':Wu} {K:Wt} (h:Ev n=n') (h2:Ev H=H'):Qh8 P l n env H K=Qh8 P l n' env H' K:=by rw[QB h,QB h2]
@[simp] theorem Qu9 (l:List Ins) (n:Nat) (env:Env) (H:Wu) (K:Wt):Qh8 P l n env H K=xdl P (l.map (Ins.rs n)) env H K:=rfl
@[simp ↓] theorem X_drf (Ts:List Wy) (m:List Nat) (l:List Ins) (env:Env) (H:Wu) (K:Wt):X P N D (.drf Ts m l) env H K=Qh8 P l H.length env (H++QaH Ts) λx e H' =>
 match x with
 |.normal=>K .normal e H'
 |x=>K x (QbM l env) H':=rfl
def QfL (P:Wz) (l:List Ins) (n:Nat) (env:Env) (H:Wu) (K:Wt):Prop:=xdl P (l.map (Ins.rs n)) env H K
@[congr] theorem Qvr {l:List Ins} {n n':Nat} {env:Env} {H H':Wu} {K:Wt} (h:Ev n=n') (h2:Ev H=H'):QfL P l n env H K=QfL P l n' env H' K:=by rw[QB h,QB h2]
@[simp] theorem Qxl (l:List Ins) (n:Nat) (env:Env) (H:Wu) (K:Wt):QfL P l n env H K=xdl P (l.map (Ins.rs n)) env H K:=rfl
@[simp ↓] theorem X_drft (Ts:List Wy) (n0:Nat) (m:List Nat) (l tl:List Ins) (env:Env) (H:Wu) (K:Wt):X P N D (.drft Ts n0 m l tl) env H K=QfL P l H.length env (H++QaH Ts) λx env H' =>
 match x with
 |.normal=>Qav P tl env H' K
 |x=>K x env H':=rfl
@[simp ↓] theorem X_drq (Ts:List Wy) (n0:Nat) (m:List Nat) (l:List Ins) (os:List (List Nat)) (tl:List Ins) (env:Env) (H:Wu) (K:Wt):X P N D (.drq Ts n0 m l os tl) env H K=QfL P l H.length env (H++QaH Ts) λx env H' =>
 match x with
 |.normal=>xrt P n0 tl os env H' λx e H=>K x (e.keep (QhM tl env)) H
 |x=>K x env H':=rfl
@[simp] theorem QxN:QaH []=[]:=rfl
@[simp] theorem Qv1 (T:Wy) (r:List Wy):QaH (T::r)=⟨[],T,0,false⟩::QaH r:=rfl
def Qb6 (H:Wu) (i:Nat) (T:Wy):Prop:=H[i]? = some ⟨[],T,0,false⟩
@[simp] theorem Qsl (H L:Wu) (k:Nat) (T:Wy):Qb6 (H++L) (H.length+k) T=Qb6 L k T:=by
 unfold Qb6; rw[Vf (by omega)]; simp
@[simp] theorem Qxq (H L:Wu) (T:Wy):Qb6 (H++L) H.length T=Qb6 L 0 T:=Qsl H L 0 T
@[simp] theorem Qwm (o:AO) (L:Wu) (T:Wy):Qb6 (o::L) 0 T=(o=⟨[],T,0,false⟩):=by simp[Qb6]
@[simp] theorem QuW (o:AO) (L:Wu) (k:Nat) (T:Wy):Qb6 (o::L) (k+1) T=Qb6 L k T:=by simp[Qb6]
theorem QrC {H:Wu} {i:Nat} {T:Wy} {o:AO} {K:Wu->Prop}:(H[i]? = some ⟨[],T,0,false⟩/\K (H.set i o))=(Qb6 H i T/\K (Ab.setObj H i λ_=>o)):=by
 apply propext;constructor
 . rintro⟨h,hk⟩; exact⟨h,by rw[QU h]; exact hk⟩
 . rintro⟨h,hk⟩;have h':H[i]? = some ⟨[],T,0,false⟩:=h;exact⟨h,by rw[QU h']at hk; exact hk⟩
def QfU (i:Nat) (T:Wy) (sz bytes:Nat) (z:Wv) (len cap:SV) (H:Wu) (K:SV->Wu->Prop):Prop :=
 len.isN=true/\cap.isN=true/\0<=len.int/\len.int<=cap.int/\bytes*cap.int<=140737488355328/\cap.int<=140737488355328 /\
  Qb6 H i T/\Ke K (.own i 0 len.int.toNat sz 1) (Ab.setObj H i λ_=>⟨(List.replicate len.int.toNat z).flatten,T,1,true⟩)
@[congr] theorem Qzd {i i':Nat} {T:Wy} {sz bytes:Nat} {z:Wv} {len len' cap cap':SV} {H H':Wu} {K:SV->Wu->Prop} (h:Ev i=i') (h0:Ev len=len') (h1:Ev cap=cap') (h9:Ev H=H') :
 QfU i T sz bytes z len cap H K=QfU i' T sz bytes z len' cap' H' K:=by rw[QB h,QB h0,QB h1,QB h9]
@[simp ↓] theorem xo_flo (d:Option Nat) (i:Nat) (T:Wy) (sz bytes:Nat) (z:Wv) (len cap:Od) (env:Env) (H:Wu) (K:Wt) :
 xo P ⟨d,none,.e (.flo i T sz bytes z len cap)⟩ env H K=QfU i T sz bytes z (env.ev len) (env.ev cap) H λv H'=>K .normal (env.put d v) H':=by
 simp only[xo,xj,xe,QfU,Ke];rw[QrC (K:=λH'=>K .normal (env.put d (.own i 0 (env.ev len).int.toNat sz 1)) H')]
@[simp] theorem QwV (i:Nat) (T:Wy) (sz bytes:Nat) (z:Wv) (len cap:SV) (H:Wu) (K:SV->Wu->Prop):QfU i T sz bytes z len cap H K=(
 len.isN=true/\cap.isN=true/\0<=len.int/\len.int<=cap.int/\bytes*cap.int<=140737488355328/\cap.int<=140737488355328 /\
  Qb6 H i T/\Ke K (.own i 0 len.int.toNat sz 1) (Ab.setObj H i λ_=>⟨(List.replicate len.int.toNat z).flatten,T,1,true⟩)):=rfl
end
@[simp] theorem Qyl (H:Wu) (k:Nat):H.length+k+1=H.length+(k+1):=rfl
@[simp] theorem QyU (T:Wy) (sz bytes:Nat) (x:SV) (H:Wu) (K:SV->Wu->Prop):Qef T sz bytes (.val (.slice none 0 0)) x H K=(x.vd=true/\x.ug.isSl=true/\x.ug.slen*sz<=(x.ug.row H).length/\Qw (x.ug.els H sz) /\
     x.ug.slen*bytes<=140737488355328/\x.ug.slen<=140737488355328/\Ke K (.own H.length 0 x.ug.slen sz 1) (H++[⟨x.ug.els H sz,T,1,true⟩])):=by
 simp[Qef,SV.vd,SV.ug,SV.slen,SV.isNil,Ke]
theorem Qk1 {M:Wu} {p:Nat} {o:AO} (h:M[p]? = some o) (X:Wu) (f:AO->AO):Ab.setObj (M++X) p f=M.set p (f o)++X:=by
 rw[QU (o:=o) (by rw[Vd (Qb h)]; exact h),Yv _ _ (Qb h)]
theorem QoV {M:Wu} {p:Nat} (o:AO) (X:Wu) (v:Nat):Qd (M.set p o++X) M.length v=Qd X 0 v:=by
 have:=Qhs (M.set p o) X v
 rwa [VK]at this
theorem Qol {M:Wu} {p:Nat} (o:AO) (X:Wu) (k v:Nat):Qd (M.set p o++X) (M.length+k) v=Qd X k v:=by
 have:=Qdz (M.set p o) X k v
 rwa [VK]at this
theorem Qnk {M:Wu} {p:Nat} {o:AO} (h:M[p]? = some o) (X:Wu) (ver:Nat) (T:Wy) (m:Nat):QbX (M++X) p ver T m=(o.live=true/\o.ver=ver/\o.ty=T/\o.cells.length=m):=by
 unfold QbX;rw[Vd (Qb h),h];simp
theorem OkP.strip {P:Wz} {k:WB} {args:Wv} {H:Wu} {Pt:Out->Wu->Prop} (h:OkP P k (args.map SV.strip) H Pt):OkP P k args H Pt :=
 ⟨h.1,λS vs hH hS hv=>h.2 S vs hH hS (hv.map λs v hs=>QgD hs)⟩
theorem VRs.strip3 {S:St} {a l b:Wv} {us:Ww} (h:VRs S (a++l++b) us):VRs S (a++l.map SV.strip++b) us:=by
 refine⟨by simpa using h.1,λj s u hs hu => ?_⟩;have h1:=h.2 j;by_cases j1:j<a.length
 . rw[VF,Vd j1]at hs;exact h1 s u (by rw[VF,Vd j1]; exact hs) hu
 . by_cases j2:j-a.length<l.length
   . rw[VF,Vf (by omega),Vd (by simpa using j2),Vl]at hs
     cases hl:l[j-a.length]? with
     |none=>rw[hl]at hs; cases hs
     |some x =>
      rw[hl]at hs; cases hs
      exact QgD (h1 x u (by rw[VF,Vf (by omega),Vd j2]; exact hl) hu)
   . rw[VF,Vf (by omega),Vf (by simp; omega)]at hs;exact h1 s u (by rw[VF,Vf (by omega),Vf (by omega)]; simpa using hs) hu
theorem Qkf {P:Wz} {f:SV} {args:Wv} {H:Wu} {Pt:Out->Wu->Prop} {K:Out->Wu->Prop} (h:Qc4 P f (args.map SV.strip) H Pt) (hk:∀ out H',Pt out H'->K out H'):QcW P (.gd true f) args H K:=by
 refine⟨Pt,⟨by simpa[SV.vd]using h.1,?_⟩,hk⟩;have h2:=h.2;show match f.ug with
  |.fn (.func k) first cap=>OkP P k (first++args++cap) H Pt
  |.yl i=>YlP P i args H Pt
  |_=>False
 split at h2
 . rename_i k first cap hug
   rw[hug];exact⟨h2.1,λS vs h1 h3 h4=>h2.2 S vs h1 h3 h4.strip3⟩
 . rename_i i hug;rw[hug];exact⟨h2.1,λS vs l h1 h3 h4=>h2.2 S vs l h1 h3 (by simpa using (h4.map λs v hs=>QgD hs:VRs S (args.map SV.strip) vs))⟩
 . exact h2.elim
section
variable (n:Nat) (L:Wu) (d:Nat)
@[simp] theorem fz_ptr (k off len sz ver p:Nat):SV.fz n [] L (d+1) (.ptr (.own (n+k) off len sz ver) p)=(match L[k]? with
     |some o=>if o.live=true/\o.ver=ver/\off<o.cells.length then .ptr (.slc ((o.cells.drop off).map (SV.fz n [] L d)) 0) p else .any
     |none=>.any):=by
 conv=>lhs; unfold SV.fz
 rw[Wa (by simp[SV.under])];have e:n+k-n=k:=by omega
 simp only[e]
 cases L[k]? with
 |none=>rfl
 |some o=>rfl
end
end
section
variable [QK] [QE] [QF]
section
variable {P:Wz} {N:Nat}
def Rg (P:Wz) (N:Nat) (D:Array Oper->List Nat->List Ins->Bool) (kk:Nat) (ps:List Nat) (ia ib:IC) (f:SV) (env:Env) (H:Wu) (K:Wt):Prop :=
 f.vd=true/\match f.ug with
  |.fn (.func k) first cap=>∃ Pt:Out->Wu->Prop,OkP P k (first++[.yl H.length]++cap) (H++[lpo P N D kk ps ia ib (env.vals N) .ready]) Pt /\
   ∀ out H',Pt out H'->match out with
    |.ret _=>∃ k' ok st cs,H'[H.length]? = some ⟨.lp k' ok st::cs,0,0,false⟩/\st.out K env (H'.set H.length QdT)
    |.pan x=>K (.panic x) env H'
  |_=>False
@[congr] theorem QyK {D:Array Oper->List Nat->List Ins->Bool} {kk:Nat} {ps:List Nat} {ia ib:IC} {f f':SV} {env env':Env} {H H':Wu} {K:Wt} (h1:Ev f=f') (h2:Ev env=env') (h3:Ev H=H') :
 Rg P N D kk ps ia ib f env H K=Rg P N D kk ps ia ib f' env' H' K:=by rw[QB h1,QB h2,QB h3]
@[simp ↓] theorem X_rng (D:Array Oper->List Nat->List Ins->Bool) (kk:Nat) (g:Od) (ps:List Nat) (ia ib:IC) (env:Env) (H:Wu) (K:Wt):X P N D (.rng kk g ps ia ib) env H K=Rg P N D kk ps ia ib (env.ev g) env H K:=rfl
attribute [simp] LSt.out
end
end
section
variable [QK] [QE] [QF]
section
variable {S:St} {H0 H1 L:Wu} {ks:List Nat} {d:Nat}
structure Qcz (H0 H1 L:Wu) (ks:List Nat) (d:Nat):Prop where
 len:H1.length=H0.length
 cell:∀ (i:Nat) (o':AO),H1[i]? = some o'->(H0[i]? = some o'/\∀ s∈o'.cells,s.under H0.length=true) \/
  (∃ o k,H0[i]? = some o/\o.live=true/\o'=⟨(o.cells.map (SV.fz H0.length ks L d)).take k,o.ty,o.ver,true⟩/\Qw o'.cells)
def Qat (S:St) (H0 H1 L:Wu) (ks:List Nat) (d:Nat):St:=⟨QbO S H0.length ks,H1++QcL H0.length ks L d,S.w⟩
theorem Qcz.up (hz:Qcz H0 H1 L ks d) {i:Nat} {o:AO} (h:H0[i]? = some o):∃ o',H1[i]? = some o'/\o'.ver=o.ver/\o'.own=o.own/\o'.ty=o.ty:=by
 have hi:i<H1.length:=by rw[hz.len]; exact Qb h
 have h1:H1[i]? = some H1[i]:=Vb hi;rcases hz.cell i _ h1 with ⟨h2,_⟩|⟨o2,_,h2,h3,h4,_⟩
 . rw[h]at h2; cases h2
   exact⟨_,h1,rfl,rfl,rfl⟩
 . rw[h]at h2; cases h2
   refine⟨_,h1,by rw[h4],?_,by rw[h4]⟩;rw[h4,AO.own_live h3]; exact AO.own_live rfl
theorem Qny (hz:Qcz H0 H1 L ks d) {i:Nat} {o':AO} (h:(Qat S H0 H1 L ks d).H[i]? = some o'):∃ o,(Qah S H0 L ks d).H[i]? = some o/\o.ver=o'.ver/\o.own=o'.own/\o.ty=o'.ty:=by
 simp only[Qat]at h;simp only[Qah];by_cases hi:i<H0.length
 . rw[Vd (by rw[hz.len]; exact hi)]at h;rw[Vd hi];obtain⟨o2,h1,h2,h3,h4⟩:=hz.up (Vb hi);rw[h]at h1; cases h1
   exact⟨_,Vb hi,h2.symm,h3.symm,h4.symm⟩
 . rw[Vf (by rw[hz.len]; omega),hz.len]at h;rw[Vf (by omega)];exact⟨_,h,rfl,rfl,rfl⟩
theorem Qkh (hz:Qcz H0 H1 L ks d):Ext (Qah S H0 L ks d).H.length (Qah S H0 L ks d) (Qat S H0 H1 L ks d) where
 obj:=by
  intro i o hi ho;have hl:(Qat S H0 H1 L ks d).H.length=(Qah S H0 L ks d).H.length:=by simp[Qat,Qah,hz.len]
  have h1:(Qat S H0 H1 L ks d).H[i]? = some ((Qat S H0 H1 L ks d).H[i]'(by omega)):=Vb _;obtain⟨o2,h2,h3,_⟩:=Qny hz h1;rw[ho]at h2; cases h2
  exact⟨_,h1,by omega,λ_=>rfl⟩
 imm:=by
  refine λk _ hnr=>⟨rfl,?_⟩;rintro⟨i,o,ho,hl,hρ⟩;obtain⟨o2,h2,h3,h4,_⟩:=Qny hz ho;exact hnr ⟨i,o2,h2,by rw[h4]; exact hl,hρ⟩
 size:=Vc _
 shape:=λ_ _ _ h=>h
 loops:=λ_ r h=>⟨r,h⟩
 os:=rfl
 tape:=rfl
 output:=rfl
theorem QkB (hsim:Sim S) (hS:S.H=H0++L) (hz:Qcz H0 H1 L ks d) (hk:Qbu H0.length ks L d ks) (s:SV) (v:Value) (h:VR S s v):VR (Qat S H0 H1 L ks d) (s.fz H0.length ks L d) v :=
 (Qg0 hsim hS hk d (Vc _) s v h).ext (Qkh hz)
theorem Qh7 (hz:Qcz H0 H1 L ks d) (hk:Qbu H0.length ks L d ks) {i:Nat} {o:AO} (h:(Qat S H0 H1 L ks d).H[i]? = some o) :
 (i<H0.length/\(Qat S H0 H1 L ks d).ρ i=S.ρ i/\((H0[i]? = some o/\∀ s∈o.cells,s.under H0.length=true) \/
  ∃ o' k,H0[i]? = some o'/\o'.live=true/\o=⟨(o'.cells.map (SV.fz H0.length ks L d)).take k,o'.ty,o'.ver,true⟩/\Qw o.cells)) \/
 (∃ p k o',i=H0.length+p/\ks[p]? = some k/\L[k]? = some o'/\o'.live=true/\Qw o.cells /\
  o={ cells:=o'.cells.map (SV.fz H0.length ks L d),ty:=o'.ty,ver:=0,live:=true }/\(Qat S H0 H1 L ks d).ρ i=S.ρ (H0.length+k)):=by
 by_cases hi:i<H0.length
 . simp only[Qat]at h;rw[Vd (by rw[hz.len]; exact hi)]at h;exact .inl ⟨hi,by simp[Qat,QbO,hi],hz.cell i o h⟩
 . have h':(Qah S H0 L ks d).H[i]? = some o:=by
    simp only[Qat]at h;rw[Vf (by rw[hz.len]; omega),hz.len]at h;simp only[Qah];rw[Vf (by omega)]; exact h
   rcases Qeh hk h' with ⟨h1,_⟩|h1
   . exact absurd h1 hi
   . exact .inr h1
theorem Qp7 (hsim:Sim S) (hS:S.H=H0++L) (hz:Qcz H0 H1 L ks d) (hk:Qbu H0.length ks L d ks):Sim (Qat S H0 H1 L ks d):=by
 have hat:∀ {i:Nat} {o:AO},H0[i]? = some o->S.H[i]? = some o:=λh=>by rw[hS,Vd (Qb h)]; exact h
 have hext:Ext H0.length S (Qat S H0 H1 L ks d):=(QcY hS hk).trans ((Qkh hz).mono (by simp[Qah]));have hlive:∀ (i:Nat) (o:AO),(Qat S H0 H1 L ks d).H[i]? = some o->o.live=true ->
  match (Qat S H0 H1 L ks d).ρ i with
  |none=>o.cells=[]
  |some b=>∃ us rest,S.w.heap[b]? = some (.cells (us++rest).toArray o.ty (0,0))/\VRs (Qat S H0 H1 L ks d) o.cells us:=by
  intro i o ho hl;rcases Qh7 (S:=S) hz hk ho with ⟨h1,h2,⟨h3,h4⟩|⟨o',m,h3,h4,rfl,h5⟩⟩|⟨p,k,o',rfl,h1,h2,h3,_,rfl,h5⟩
  . rw[h2];have h6:=hsim.live i o (hat h3) hl
    cases hρ:S.ρ i with
    |none=>rw[hρ]at h6; exact h6
    |some b =>
     rw[hρ]at h6;obtain⟨us,rest,h7,h8⟩:=h6;exact⟨us,rest,h7,h8.extB hext ((SV.underL_iff _ _).2 h4)⟩
  . rw[h2];have h6:=hsim.live i o' (hat h3) h4
    cases hρ:S.ρ i with
    |none=>rw[hρ]at h6; simp only; rw[h6]; simp
    |some b =>
     rw[hρ]at h6;obtain⟨us,rest,h7,h8⟩:=h6;refine⟨us.take m,us.drop m++rest,?_,(h8.map (QkB hsim hS hz hk)).take m⟩;rw[<-VF,Yk]; exact h7
  . rw[h5];have h4:=hsim.live (H0.length+k) o' (by rw[hS,Vf (by omega)]; simpa using h2) h3
    cases hρ:S.ρ (H0.length+k)with
    |none=>rw[hρ]at h4; simp only; rw[h4]; rfl
    |some b =>
     rw[hρ]at h4;obtain⟨us,rest,h6,h7⟩:=h4;exact⟨us,rest,h6,h7.map (QkB hsim hS hz hk)⟩
 have hlen:H0.length<=(Qat S H0 H1 L ks d).H.length:=by simp[Qat,hz.len]
 have hbel:∀ (i:Nat) (o:AO),(Qat S H0 H1 L ks d).H[i]? = some o->o.live=true->∀ s∈o.cells,s.under (Qat S H0 H1 L ks d).H.length=true:=by
  intro i o ho hl s hs;have h8:=hlive _ _ ho hl;split at h8
  . rw[h8]at hs; cases hs
  . obtain⟨us,rest,h9,h10⟩:=h8;obtain⟨j,hj⟩:=Vk hs;obtain⟨u,_,h11⟩:=h10.get hj;exact h11.under
 refine⟨hlive,?_,?_,?_,hsim.gl.ext hext,hsim.kf.ext hext⟩
 . intro i o ho s hs;rcases Qh7 (S:=S) hz hk ho with ⟨h1,h2,⟨h3,h4⟩|⟨o',m,h3,h4,h6,h5⟩⟩|⟨p,k,o',h0,h1,h2,h3,h6,h7,h5⟩
   . exact⟨SV.under_mono hlen s (h4 s hs),(hsim.bel i o (hat h3) s hs).2⟩
   . exact⟨hbel i o ho (by rw[h6]) s hs,λ_=>h5 s hs⟩
   . exact⟨hbel i o ho (by rw[h7]) s hs,λ_=>h6 s hs⟩
 . intro i j o o' b hi hj hl hl' hρ hρ';have key:∀ {i:Nat} {o:AO},(Qat S H0 H1 L ks d).H[i]? = some o->o.own=true->∃ i0 o0,S.H[i0]? = some o0/\o0.own=true/\(Qat S H0 H1 L ks d).ρ i=S.ρ i0/\((i<H0.length/\i0=i)\/∃ p k,i=H0.length+p/\ks[p]? = some k/\i0=H0.length+k):=by
    intro i o ho hl;rcases Qh7 (S:=S) hz hk ho with ⟨h1,h2,⟨h3,h4⟩|⟨o',m,h3,h4,h6,h5⟩⟩|⟨p,k,o',rfl,h1,h2,h3,_,rfl,h5⟩
    . exact⟨i,o,hat h3,hl,h2,.inl ⟨h1,rfl⟩⟩
    . exact⟨i,o',hat h3,AO.own_live h4,h2,.inl ⟨h1,rfl⟩⟩
    . exact⟨H0.length+k,o',by rw[hS,Vf (by omega)]; simpa using h2,AO.own_live h3,h5,.inr ⟨p,k,rfl,h1,rfl⟩⟩
   obtain⟨i0,o0,a1,a2,a3,a4⟩:=key hi hl;obtain⟨j0,o1,b1,b2,b3,b4⟩:=key hj hl';have e:=hsim.inj i0 j0 o0 o1 b a1 b1 a2 b2 (by rw[<-a3]; exact hρ) (by rw[<-b3]; exact hρ');rcases a4 with ⟨a4,rfl⟩|⟨p,k,rfl,a4,rfl⟩<;>rcases b4 with ⟨b4,rfl⟩|⟨q,k',rfl,b4,rfl⟩
   . exact e
   . omega
   . omega
   . have:k=k':=by omega
     subst this;rw[Qj6 hk a4 b4]
 . intro i o ho hl hne;rcases Qh7 (S:=S) hz hk ho with ⟨h1,h2,⟨h3,h4⟩|⟨o',m,h3,h4,rfl,h5⟩⟩|⟨p,k,o',rfl,h1,h2,h3,h6,rfl,h5⟩
   . obtain⟨l,x,m,us,env,k1,k2,k3,k4,k6⟩:=hsim.lp i o (hat h3) hl hne;rw[k2]at h4;exact⟨l,x,m,us,env,h2.trans k1,k2,k3,k4,k6.extB hext ((SV.underL_iff _ _).2 λs hs=>h4 s (by simp[hs]))⟩
   . cases hl
   . cases hl
theorem Qsm {n0:Nat} {Hx:Wu} {r:SV} (d:Nat) (ks:List Nat) (h:Hx=H0++L) (hn:n0<=H0.length) (hz:Qcz H0 H1 L ks d) (hk:Qbu H0.length ks L d ks) :
 Cv n0 r Hx (r.fz H0.length ks L d) (H1++QcL H0.length ks L d):=by
 intro S v hS hsim hv;subst h;exact⟨_,((QcY hS hk).trans ((Qkh hz).mono (by simp[Qah]))).mono hn,Qp7 hsim hS hz hk,QkB hsim hS hz hk r v hv⟩
theorem QqG {n0:Nat} {Hx:Wu} {r:SV} (d:Nat) (h:Hx=H0++L) (hn:n0<=H0.length) (hz:Qcz H0 H1 L [] d):Cv n0 r Hx (r.fz H0.length [] L d) H1:=by
 have:=Qsm (r:=r) d [] h hn hz trivial;simpa[QcL]using this
end
theorem OkP.give {P:Wz} {f:WB} {args:Wv} {H:Wu} {Pt:Out->Wu->Prop} (k:Nat) (d:Nat) {o:AO} (ho:H[k]? = some o) (hl:o.live=true)
 (h:OkP P f (args.map (SV.gv k o.ver o.cells d)) (H.set k o.dead) Pt):OkP P f args H Pt:=by
 refine⟨h.1,?_⟩;intro S vs hH hS hvs;subst hH;have h1:=h.2 ⟨S.ρ,S.H.set k o.dead,S.w⟩ vs rfl (QlM hS ho) (hvs.map (Qj8 hS ho hl d));refine h1.mono ?_;rintro en w' ⟨out,H',v,ρ',hp,hext,hsim,hout⟩;exact⟨out,H',v,ρ',hp,(QhY ho).trans (hext.mono (by simp)),hsim,hout⟩
section
variable {S:St}
theorem QjA {j:Nat} {o:AO} (ho:S.H[j]? = some o) (hl:o.live=true) (cs:Wv):Ext S.H.length S ⟨S.ρ,S.H.set j ⟨cs,o.ty,o.ver,true⟩,S.w⟩ where
 obj:=by
  intro i p hi hp;by_cases e:i=j
  . subst e; rw[ho]at hp; cases hp
    exact⟨⟨cs,o.ty,o.ver,true⟩,by show(S.H.set i _)[i]? = _; rw[Vh hi],Vc _,λ_=>rfl⟩
  . exact⟨p,by show(S.H.set j _)[i]? = _; rw[Ve (by omega)]; exact hp,Vc _,λ_=>rfl⟩
 imm:=by
  refine λk _ hnr=>⟨rfl,?_⟩;rintro⟨i,p,hp,hw,hρ⟩;by_cases e:i=j
  . subst e;exact hnr ⟨i,o,ho,AO.own_live hl,hρ⟩
  . refine hnr ⟨i,p,?_,hw,hρ⟩;have hp':(S.H.set j ⟨cs,o.ty,o.ver,true⟩)[i]? = some p:=hp;rw[Ve (by omega)]at hp'; exact hp'
 size:=Vc _
 shape:=λ_ _ _ h=>h
 loops:=λ_ r h=>⟨r,h⟩
 os:=rfl
 tape:=rfl
 output:=rfl
def St.lies (S:St) (j:Nat) (T:Wy) (us:Ww):Prop:=match S.ρ j with
 |none=>us=[]
 |some b=>∃ rest,S.w.heap[b]? = some (.cells (us++rest).toArray T (0,0))
theorem Qt5 (hS:Sim S) {j:Nat} {o:AO} (ho:S.H[j]? = some o) (hl:o.live=true) {cs:Wv} (hok:Qw cs) (hc:∀ us,S.lies j o.ty us->VRs S o.cells us->∃ k,VRs S cs (us.take k)) :
 Sim ⟨S.ρ,S.H.set j ⟨cs,o.ty,o.ver,true⟩,S.w⟩:=by
 have he:=QjA ho hl cs;have hat:∀ {i:Nat} {p:AO},(S.H.set j ⟨cs,o.ty,o.ver,true⟩)[i]? = some p->(i=j/\p=⟨cs,o.ty,o.ver,true⟩)\/(i≠j/\S.H[i]? = some p):=by
  intro i p hp;by_cases e:i=j
  . subst e; rw[Vh (Qb ho)]at hp; cases hp; exact .inl ⟨rfl,rfl⟩
  . rw[Ve (by omega)]at hp; exact .inr ⟨e,hp⟩
 have hlive:∀ (i:Nat) (p:AO),(S.H.set j ⟨cs,o.ty,o.ver,true⟩)[i]? = some p->p.live=true ->
  match S.ρ i with
  |none=>p.cells=[]
  |some b=>∃ us rest,S.w.heap[b]? = some (.cells (us++rest).toArray p.ty (0,0))/\VRs ⟨S.ρ,S.H.set j ⟨cs,o.ty,o.ver,true⟩,S.w⟩ p.cells us:=by
  intro i p hp hpl;rcases hat hp with ⟨rfl,rfl⟩|⟨hne,hp⟩
  . have h1:=hS.live i o ho hl
    cases hρ:S.ρ i with
    |none =>
     rw[hρ]at h1;obtain⟨k,h2⟩:=hc [] (by unfold St.lies; rw[hρ]) (by rw[h1]; exact VRs.nil S);exact Vu (by have:=h2.1; simpa using this.symm)
    |some b =>
     rw[hρ]at h1;obtain⟨us,rest,h2,h3⟩:=h1;obtain⟨k,h4⟩:=hc us (by unfold St.lies; rw[hρ]; exact⟨rest,h2⟩) h3;refine⟨us.take k,us.drop k++rest,?_,h4.ext he⟩;rw[<-VF,Yk]; exact h2
  . have h1:=hS.live i p hp hpl
    cases hρ:S.ρ i with
    |none=>rw[hρ]at h1; exact h1
    |some b =>
     rw[hρ]at h1;obtain⟨us,rest,h2,h3⟩:=h1;exact⟨us,rest,h2,h3.ext he⟩
 refine⟨hlive,?_,?_,?_,hS.gl.ext he,hS.kf.ext he⟩
 . intro i p hp s hs;rcases hat hp with ⟨rfl,rfl⟩|⟨hne,hp'⟩
   . refine⟨?_,λ_=>hok s hs⟩;have h8:=hlive _ _ hp rfl;split at h8
     . rw[h8]at hs; cases hs
     . obtain⟨us,rest,h9,h10⟩:=h8;obtain⟨q,hq⟩:=Vk hs;obtain⟨u,_,h11⟩:=h10.get hq;exact h11.under
   . have:=hS.bel i p hp' s hs;exact⟨by show s.under (S.H.set j _).length=true; simpa using this.1,this.2⟩
 . intro i i' p p' b hp hp' hw hw' hρ hρ';have key:∀ {i:Nat} {p:AO},(S.H.set j ⟨cs,o.ty,o.ver,true⟩)[i]? = some p->p.own=true->∃ q,S.H[i]? = some q/\q.own=true:=by
    intro i p hp hw;rcases hat hp with ⟨rfl,rfl⟩|⟨_,hp⟩
    . exact⟨o,ho,AO.own_live hl⟩
    . exact⟨p,hp,hw⟩
   obtain⟨q,h1,h2⟩:=key hp hw;obtain⟨q',h3,h4⟩:=key hp' hw';exact hS.inj i i' q q' b h1 h3 h2 h4 hρ hρ'
 . intro i p hp hpl hne;rcases hat hp with ⟨rfl,rfl⟩|⟨_,hp⟩
   . cases hpl
   . obtain⟨l,x,m,us,env,k1,k2,k3,k4,k6⟩:=hS.lp i p hp hpl hne;exact⟨l,x,m,us,env,k1,k2,k3,k4,k6.ext he⟩
theorem Qmp (hS:Sim S) {j:Nat} {o:AO} (ho:S.H[j]? = some o) (hl:o.live=true) {cs:Wv} (hok:Qw cs) (hc:∀ us,VRs S o.cells us->∃ k,VRs S cs (us.take k)) :
 Sim ⟨S.ρ,S.H.set j ⟨cs,o.ty,o.ver,true⟩,S.w⟩:=Qt5 hS ho hl hok λus _ h=>hc us h
end
def Qbn (env:Env) (H:Wu) (env':Env) (H':Wu):Prop :=
 ∀ (S:St) (tmps:Array Value),S.H=H->Sim S->Qx S env tmps->∃ ρ',Ext S.H.length S ⟨ρ',H',S.w⟩/\Sim ⟨ρ',H',S.w⟩/\Qx ⟨ρ',H',S.w⟩ env' tmps
theorem LI.tell {P:Wz} {N:Nat} {D:Array Oper->List Nat->List Ins->Bool} {i:IC} {env env':Env} {H H':Wu} {K:Wt} (ht:Qbn env H env' H')
 (h:LI P N D i env' H' K):LI P N D i env H K:=by
 intro c hc db S a hH hS he hN hd;obtain⟨ρ',h1,h2,h3⟩:=ht S a.tmps hH hS he;exact QnX (h c hc db ⟨ρ',H',S.w⟩ a rfl h2 h3 hN (hd.ext hS h1)) λe a w hp=>QM.trans h1 hp
theorem Qbn.own0 {env:Env} {H:Wu} {j p:Nat} {o:AO} (ho:H[j]? = some o) (hl:o.live=true) (hp:o.cells[p]? = some (.val (.slice none 0 0))) (T:Wy) (sz:Nat) :
 Qbn env H env (H.set j ⟨o.cells.set p (.own H.length 0 0 sz 0),o.ty,o.ver,true⟩++[⟨[],T,0,true⟩]):=by
 intro S tmps hH hS he;subst hH;have h1:=QdE S T;have h2:=Qfm hS T;have hj:=Qb ho;have ho':(S.newNil T).H[j]? = some o:=by show(S.H++_)[j]? = _; rw[Vd hj]; exact ho
 have hn:(S.newNil T).H[S.H.length]? = some ⟨[],T,0,true⟩:=by show(S.H++_)[S.H.length]? = _; simp
 have hval:VR (S.newNil T) (.own S.H.length 0 0 sz 0) (.slice none 0 0):=by
  refine .own _ _ _ _ _ none 0 _ hn (Vc _) (Vc _) (λ_=>rfl) λ_ => ?_;unfold St.OwnAt;have:(S.newNil T).ρ S.H.length=none:=Qaj _ _ _;rw[this]; exact⟨rfl,rfl⟩
 have hcell:Qw (o.cells.set p (.own S.H.length 0 0 sz 0)):=by
  intro s hs;rcases List.mem_or_eq_of_mem_set hs with h|rfl
  . exact(hS.bel j o ho s h).2 hl
  . rfl
 have h3:=QjA ho' hl (o.cells.set p (.own S.H.length 0 0 sz 0));have h4:=Qmp h2 ho' hl hcell (λus hus=>⟨us.length,by
  rw[YZ];obtain⟨u,hu1,hu2⟩:=hus.get hp;have:u=.slice none 0 0:=by cases hu2; rfl
  subst this;have:=hus.set p hval;have e:us.set p (.slice none 0 0)=us:=by
   apply Vx;intro i;rw[Zb];split
   . rename_i e; subst e;split
     . exact hu1.symm
     . rename_i hlt; rw[Vp (by omega)]
   . rfl
  rw[e]at this; exact this⟩)
 have e:(S.newNil T).H.set j ⟨o.cells.set p (.own S.H.length 0 0 sz 0),o.ty,o.ver,true⟩=S.H.set j ⟨o.cells.set p (.own S.H.length 0 0 sz 0),o.ty,o.ver,true⟩++[⟨[],T,0,true⟩]:=by
  show(S.H++_).set j _=_;rw[Yv _ _ hj]
 rw[e]at h3 h4;exact⟨_,h1.trans (h3.mono (by simp[St.newNil])),h4,(he.ext h1).ext h3⟩
theorem Qbn.give {env:Env} {H0 L:Wu} (hcl:closed H0) (k d:Nat) {o:AO} (ho:L[k]? = some o) (hl:o.live=true) :
 Qbn env (H0++L) (env.map λp=>(p.1,p.2.gv (H0.length+k) o.ver o.cells d)) (H0++(L.set k o.dead).map (AO.gv (H0.length+k) o.ver o.cells d)):=by
 intro S tmps hH hS he;refine⟨_,Qgx hH ho,Qpk hS hH hcl ho hl,⟨λt => ?_⟩⟩;rw[QlB env (SV.gv (H0.length+k) o.ver o.cells d) (Qmv _ _ _ _)];exact QiZ hS hH ho hl _ _ (he.get t)
end
section
variable [QK] [QE] [QF]
def rws {α:Type} (f:α->Wv):List α->Wv
 |[]=>[]
 |x::r=>f x++rws f r
section
variable {α:Type} {f:α->Wv} {sz:Nat}
theorem Qeq (a b:List α):rws f (a++b)=rws f a++rws f b:=by
 induction a with
 |nil=>rfl
 |cons x r ih=>simp[rws,ih]
theorem QcM (hf:∀ x,(f x).length=sz) (l:List α):(rws f l).length=l.length*sz:=by
 induction l with
 |nil=>simp[rws]
 |cons x r ih=>simp only[rws,Vy,hf,ih,VV]; rw[Zf]; omega
theorem Qkm (hf:∀ x,(f x).length=sz) (l:List α) (k:Nat) (hk:k<=l.length):(rws f l).take (k*sz)=rws f (l.take k):=by
 have e:rws f l=rws f (l.take k)++rws f (l.drop k):=by rw[<-Qeq,Yk]
 rw[e,YI (by rw[QcM hf,Yy]; rw[Nat.min_eq_left hk]; exact Vc _),VE (by rw[QcM hf,Yy,Nat.min_eq_left hk]; exact Vc _)]
theorem Qm1 (hf:∀ x,(f x).length=sz) (l:List α) (k:Nat) (hk:k<=l.length):(rws f l).drop (k*sz)=rws f (l.drop k):=by
 have e:rws f l=rws f (l.take k)++rws f (l.drop k):=by rw[<-Qeq,Yk]
 have h:(rws f (l.take k)).length=k*sz:=by rw[QcM hf,Yy,Nat.min_eq_left hk]
 rw[e,ZC (by omega),ZF (by omega),Ye]
theorem Qiq (hf:∀ x,(f x).length=sz) {l:List α} {k:Nat} (hk:k<l.length):(rws f l).drop (k*sz)=f l[k]++rws f (l.drop (k+1)):=by
 rw[Qm1 hf l k (by omega),Vz hk]; rfl
theorem Qhu (hf:∀ x,(f x).length=sz) {l:List α} {k t:Nat} (hk:k<l.length) (ht:t<sz):(rws f l)[k*sz+t]? = (f l[k])[t]? := by
 have:(rws f l)[k*sz+t]? = ((rws f l).drop (k*sz))[t]? := by rw[Vq]
 rw[this,Qiq hf hk,Vd (by rw[hf]; exact ht)]
theorem QkC (hf:∀ x,(f x).length=sz) {l:List α} {k:Nat} (hk:k<l.length):k*sz+sz<=(rws f l).length:=by
 rw[QcM hf];have:=Yz sz (show k+1<=l.length from hk);rw[Zf]at this; exact this
theorem QeQ (hf:∀ x,(f x).length=sz) {l:List α} {k:Nat} (hk:k<l.length):sz<=(rws f l).length-k*sz:=by have:=QkC hf hk; omega
theorem Qmk (hf:∀ x,(f x).length=sz) {l:List α} {k:Nat} (hk:k<l.length):min sz ((rws f l).length-k*sz)=sz:=by have:=QeQ hf hk; omega
theorem QpL (hf:∀ x,(f x).length=sz) {l:List α} {k:Nat} (hk:k<l.length) (x:α):rws f (l.set k x)=(rws f l).take (k*sz)++(f x++(rws f l).drop (k*sz+sz)):=by
 have e:k*sz+sz=(k+1)*sz:=by rw[Zf]
 rw[e,Qkm hf l k (by omega),Qm1 hf l (k+1) (by omega)];rw[show l.set k x=l.take k++x::l.drop (k+1)from by rw[Y1,Wb hk]];rw[Qeq]; rfl
theorem QcK {n:Nat} (h:∀ x,SV.underL n (f x)=true) (l:List α):SV.underL n (rws f l)=true:=by
 induction l with
 |nil=>rfl
 |cons x r ih=>rw[rws,SV.underL_append,h,ih]; rfl
theorem QtG (h:∀ x,Qw (f x)) (l:List α):Qw (rws f l):=by
 induction l with
 |nil=>intro s hs; simp[rws]at hs
 |cons x r ih =>
  intro s hs;rcases Vj.1 hs with h1|h1
  . exact h x s h1
  . exact ih s h1
end
theorem QiJ {H:Wu} {j:Nat} (hj:j<H.length) (c:Wv) (T:Wy) (v:Nat):Qd (H.set j ⟨c,T,v,true⟩) j v=c:=by
 unfold Qd; rw[Vh hj]; simp
def SV.le (s s':SV):Prop:=∀ (S:St) (v:Value),VR S s v->VR S s' v
theorem SV.le.refl (s:SV):s.le s:=λ_ _ h=>h
theorem Qdv:SV.le (.val (.slice none 0 0)) (.slc [] 0):=by
 intro S v h; cases h; exact .nilslc
def leL (l l':Wv):Prop:=l.length=l'.length/\∀ (j:Nat) (s s':SV),l[j]? = some s->l'[j]? = some s'->s.le s'
theorem leL.nil:leL [] []:=⟨rfl,λj s s' h=>by simp at h⟩
theorem leL.refl (l:Wv):leL l l:=⟨rfl,λj s s' h h'=>by rw[h]at h'; cases h'; exact SV.le.refl s⟩
theorem leL.cons {s s':SV} {l l':Wv} (h:s.le s') (hl:leL l l'):leL (s::l) (s'::l'):=by
 refine⟨by simp[hl.1],λj a b h1 h2 => ?_⟩
 cases j with
 |zero=>simp at h1 h2; subst h1 h2; exact h
 |succ j=>simp at h1 h2; exact hl.2 j a b h1 h2
theorem leL.app {a a' b b':Wv} (h:leL a a') (h':leL b b'):leL (a++b) (a'++b'):=by
 induction a generalizing a' with
 |nil=>cases a' with
  |nil=>exact h'
  |cons x r=>have:=h.1; simp at this
 |cons x r ih=>cases a' with
  |nil=>have:=h.1; simp at this
  |cons x' r'=>exact leL.cons (h.2 0 x x' rfl rfl) (ih ⟨by have:=h.1; simpa using this,λj s s' h1 h2=>h.2 (j+1) s s' (by simpa using h1) (by simpa using h2)⟩)
theorem leL.rws {α:Type} {f g:α->Wv} (h:∀ x,leL (f x) (g x)) (l:List α):leL (rws f l) (rws g l):=by
 induction l with
 |nil=>exact leL.nil
 |cons x r ih=>exact leL.app (h x) ih
theorem leL.vrs {S:St} {l l':Wv} {us:Ww} (h:leL l l') (hv:VRs S l us):VRs S l' us:=by
 refine⟨by rw[hv.1,h.1],λj s u h1 h2 => ?_⟩;have hj:j<l.length:=by rw[h.1]; rcases VG j l'.length with h3|h3; exact h3; rw[Vp h3]at h1; cases h1
 exact h.2 j _ _ (Vb hj) h1 S u (hv.2 j _ u (Vb hj) h2)
theorem Qi9 {l l':Wv} (h:leL l l') (n:Nat):SV.le (.slc l n) (.slc l' n):=by
 intro S v hv
 cases hv with
 |nilslc =>
  have:l'=[]:=Vu (by rw[<-h.1]; rfl);subst this; exact .nilslc
 |slc _ _ a cap us hc hl hi hh =>
  have:=h.vrs ⟨hl,hh⟩;exact .slc _ _ a cap us hc this.1 hi this.2
theorem Qfs {l l':Wv} (h:leL l l'):SV.le (.agg l) (.agg l'):=by
 intro S v hv
 cases hv with
 |agg _ us hl hh=>have:=h.vrs ⟨hl,hh⟩; exact .agg _ _ this.1 this.2
theorem OkP.le {P:Wz} {f:WB} {args args':Wv} {H:Wu} {Pt:Out->Wu->Prop} (hle:leL args args') (h:OkP P f args' H Pt):OkP P f args H Pt :=
 ⟨h.1,λS vs hH hS hv=>h.2 S vs hH hS (hle.vrs hv)⟩
@[simp] theorem Qu8 (o:AO) (r:Wu) (a b k ver:Nat):Qd (o::r) (a+(b+(k+1))) ver=Qd r (a+(b+k)) ver:=Qpf o r (a+(b+k)) ver
theorem LI.cong {P:Wz} {N:Nat} {D:Array Oper->List Nat->List Ins->Bool} {i:IC} {env:Env} {H H':Wu} {K:Wt} (e:H'=H) (h:LI P N D i env H' K):LI P N D i env H K:=by rw[<-e]; exact h
def Cl (n:Nat) (l:Wu):Prop:=∀ o∈l,∀ s∈o.cells,s.under n=true
theorem Cl.nil (n:Nat):Cl n []:=λo h=>by simp at h
theorem Cl.cons {n:Nat} {o:AO} {l:Wu} (h:SV.underL n o.cells=true) (hl:Cl n l):Cl n (o::l):=by
 intro p hp;rcases Vi.1 hp with rfl|hp
 . exact(SV.underL_iff _ _).1 h
 . exact hl p hp
theorem Cl.app {n:Nat} {a b:Wu} (h:Cl n a) (h':Cl n b):Cl n (a++b):=by
 intro p hp;rcases Vj.1 hp with hp|hp
 . exact h p hp
 . exact h' p hp
theorem Cl.mono {n m:Nat} {l:Wu} (h:Cl n l) (hm:n<=m):Cl m l:=λo ho s hs=>SV.under_mono hm s (h o ho s hs)
theorem QjZ {H:Wu}:closed H↔Cl H.length H:=by
 refine⟨λh o ho s hs => ?_,λh i o ho s hs=>h o (Vn ho) s hs⟩;obtain⟨i,hi⟩:=Vk ho;exact h i o hi s hs
theorem Cl.left {n:Nat} {a b:Wu} (h:Cl n (a++b)):Cl n a:=λo ho=>h o (VW _ ho)
theorem Cl.right {n:Nat} {a b:Wu} (h:Cl n (a++b)):Cl n b:=λo ho=>h o (V9 _ ho)
theorem Cl.tail {n:Nat} {o:AO} {a:Wu} (h:Cl n (o::a)):Cl n a:=λp hp=>h p (VO _ hp)
theorem AO.gv_cl {k ver d n:Nat} {cs:Wv} (hn:n<=k) {l:Wu} (h:Cl n l):l.map (AO.gv k ver cs d)=l:=by
 have:l.map (AO.gv k ver cs d)=l.map id:=VA λo ho=>by
  show AO.mk _ _ _ _=o;have:o.cells.map (SV.gv k ver cs d)=o.cells.map id:=VA λs hs=>Qmd hn d s (h o ho s hs);rw[this,List.map_id]
 rw[this,List.map_id]
theorem OkP.cast {P:Wz} {f:WB} {args args':Wv} {H H':Wu} {Pt:Out->Wu->Prop} (ha:args=args') (hH:H=H') (h:OkP P f args' H' Pt):OkP P f args H Pt:=by subst ha hH; exact h
theorem set_app {α:Type} (a b:List α) (k:Nat) (x:α):(a++b).set (a.length+k) x=a++b.set k x:=by rw[Y2 _ _ (by omega)]; simp
theorem Qk4 {α:Type} (a b:List α) (x:α):(a++b).set a.length x=a++b.set 0 x:=set_app a b 0 x
theorem QbL {α:Type} (a b:List α) (k:Nat):(a++b)[a.length+k]? = b[k]? := by rw[Vf (by omega)]; simp
theorem QfX {α:Type} (a b:List α):(a++b)[a.length]? = b[0]? := QbL a b 0
theorem Qha {α:Type} (o x:α) (r:List α) (a b k:Nat):(o::r).set (a+(b+(k+1))) x=o::r.set (a+(b+k)) x:=rfl
theorem Qg2 {α:Type} (o:α) (r:List α) (a b k:Nat):(o::r)[a+(b+(k+1))]? = r[a+(b+k)]? := rfl
theorem Qbn.nil {env:Env} {H:Wu} (T:Wy):Qbn env H env (H++[⟨[],T,0,true⟩]):=by
 intro S tmps hH hS he;subst hH;exact⟨_,QdE S T,Qfm hS T,he.ext (QdE S T)⟩
theorem Cv.trans {n0:Nat} {r1 r2 r3:SV} {H1 H2 H3:Wu} (h:Cv n0 r1 H1 r2 H2) (h':Cv n0 r2 H2 r3 H3):Cv n0 r1 H1 r3 H3:=by
 intro S v hS hsim hv;obtain⟨ρ,h1,h2,h3⟩:=h S v hS hsim hv;obtain⟨ρ',h4,h5,h6⟩:=h' ⟨ρ,H2,S.w⟩ v rfl h2 h3;exact⟨ρ',h1.trans h4,h5,h6⟩
theorem Cv.le {n0:Nat} {r1 r r':SV} {H1 H':Wu} (h:Cv n0 r1 H1 r H') (hle:r.le r'):Cv n0 r1 H1 r' H':=by
 intro S v hS hsim hv;obtain⟨ρ,h1,h2,h3⟩:=h S v hS hsim hv;exact⟨ρ,h1,h2,hle _ _ h3⟩
theorem Qma {n0:Nat} {r:SV} {H:Wu} {j:Nat} {o:AO} (hn:n0<=H.length) (ho:H[j]? = some o) (hl:o.live=true) (k:Nat):Cv n0 r H r (H.set j ⟨o.cells.take k,o.ty,o.ver,true⟩):=by
 intro S v hS hsim hv;subst hS;have h3:=QjA ho hl (o.cells.take k);exact⟨_,h3.mono hn,Qmp hsim ho hl (λs hs=>(hsim.bel j o ho s (V7 hs)).2 hl) (λus hus=>⟨k,hus.take k⟩),hv.ext h3⟩
theorem Qcz.one {H0 L:Wu} {ks:List Nat} {d j:Nat} {o:AO} (hu:∀ (i:Nat) (o:AO),i≠j->H0[i]? = some o->∀ s∈o.cells,s.under H0.length=true) (ho:H0[j]? = some o) (hl:o.live=true)
 (hc:Qw (o.cells.map (SV.fz H0.length ks L d))):Qcz H0 (H0.set j ⟨o.cells.map (SV.fz H0.length ks L d),o.ty,o.ver,true⟩) L ks d:=by
 refine⟨by simp,λi o' h => ?_⟩;by_cases e:i=j
 . subst e;rw[Vh (Qb ho)]at h; cases h
   exact .inr ⟨o,(o.cells.map (SV.fz H0.length ks L d)).length,ho,hl,by rw[YZ],hc⟩
 . rw[Ve (by omega)]at h;exact .inl ⟨h,hu i o' e h⟩
end
end Go.Ab
namespace Go.Ab
variable [QK] [QE] [QF]
namespace IsL
variable {α:Type} {f:α->SV} {H:Wu} {x:SV} {l:List α}
end IsL
def u8 (n:Int):SV:=.val (.int .u8 n)
@[simp] theorem u8_eq (n:Int):SV.val (.int .u8 n)=u8 n:=rfl
section
variable (n:Int)
@[simp] theorem isI_u8 (k:IntKind):SV.isI k (u8 n)=decide (IntKind.u8=k):=rfl
@[simp] theorem isN_u8:SV.isN (u8 n)=true:=rfl
@[simp] theorem int_u8:SV.int (u8 n)=n:=rfl
@[simp] theorem ug_u8:SV.ug (u8 n)=u8 n:=rfl
@[simp] theorem vd_u8:SV.vd (u8 n)=true:=rfl
@[simp] theorem QxJ:SV.isCell (u8 n)=true:=rfl
@[simp] theorem Qxf:SV.flat (u8 n)=[u8 n]:=rfl
@[simp] theorem Qwp:SV.isPt (u8 n)=false:=rfl
@[simp] theorem QvF:SV.isAg (u8 n)=false:=rfl
@[simp] theorem Qzi:SV.isTu (u8 n)=false:=rfl
@[simp] theorem QwC (m:Nat):SV.under m (u8 n)=true:=rfl
@[simp] theorem gv_u8 (k ver:Nat) (cs:Wv) (d:Nat):SV.gv k ver cs d (u8 n)=u8 n:=by cases d<;>rfl
@[simp] theorem Qv9:(u8 n).strip=u8 n:=rfl
end
theorem QiX {l l':Wv} (h:leL l l'):SV.le (.tup l) (.tup l'):=by
 intro S v hv
 cases hv with
 |tup _ us hl hh=>have:=h.vrs ⟨hl,hh⟩; exact .tup _ _ this.1 this.2
@[simp] theorem Qr9 (H L:Wu) (j:Nat) (o:AO) (k ver:Nat):Qd (H.set j o++L) (H.length+k) ver=Qd L k ver:=by
 have:=Qdz (H:=H.set j o) (L:=L) (k:=k) (ver:=ver); simpa using this
@[simp] theorem Qve (H L:Wu) (j:Nat) (o:AO) (ver:Nat):Qd (H.set j o++L) H.length ver=Qd L 0 ver:=Qr9 H L j o 0 ver
theorem Qpy (A B:Wu) (k:Nat) (f:AO->AO):setObj (A++B) (A.length+k) f=A++setObj B k f:=by
 unfold setObj;rw[QbL]
 cases h:B[k]? with
 |none=>rfl
 |some o=>simp only; rw[set_app]
theorem Quk {H:Wu} {j:Nat} (hj:j<H.length) (L:Wu) (c:Wv) (T:Wy) (v:Nat):Qd (H.set j ⟨c,T,v,true⟩++L) j v=c:=by
 rw[Qd2 L (by simpa using hj)]; exact QiJ hj c T v
theorem Qq9 {H:Wu} {j:Nat} (hj:j<H.length) (L:Wu) (o:AO):(H.set j o++L)[j]? = some o:=by
 rw[Vd (by simpa using hj),Vh hj]
theorem Qq7 {H:Wu} {j:Nat} (hj:j<H.length) (L:Wu) (o:AO) (f:AO->AO):setObj (H.set j o++L) j f=H.set j (f o)++L:=by
 unfold setObj;rw[Qq9 hj];simp only;rw[Yv _ _ (by simpa using hj),Yl]
theorem Qcq {H:Wu} (hcl:closed H) (j:Nat) {o:AO} (hu:SV.underL H.length o.cells=true):closed (H.set j o):=by
 intro i p hp s hs;rw[VK];by_cases e:j=i
 . subst e;have hj:=Qb hp;rw[Vh (by simpa using hj)]at hp
   cases hp
   exact(SV.underL_iff _ _).1 hu s hs
 . rw[Ve e]at hp;exact hcl i p hp s hs
end Go.Ab
namespace Go.Ab
section
variable [QK] [QE] [QF]
section
variable {P:Wz}
theorem QlV {n0 D:Nat} {w w':WA} (h1:n0<=D) (h2:w.heap[D]? = some (Obj.deferred (some []))) (ht:Qc3 n0 (w.putObj D (.deferred none)) w'):Qc3 n0 w w':=by
 refine⟨by rw[ht.size]; simp,λk => ?_,ht.os,ht.tape,ht.output⟩;by_cases hk:k=D
 . subst hk;right;refine⟨h1,h2,?_⟩;rcases ht.at_ k with h3|⟨_,h3,h4⟩
   . exact h3.trans (World.putObj_heap_same (Qb2 h2))
   . exact h4
 . rcases ht.at_ k with h3|⟨h3,h4,h5⟩
   . exact .inl (h3.trans (World.putObj_heap_other hk))
   . exact .inr ⟨h3,(World.putObj_heap_other hk).symm.trans h4,h5⟩
theorem Qnl (n0:Nat) (w:WA):Qc3 n0 w w:=⟨rfl,λ_=>.inl rfl,rfl,rfl,rfl⟩
theorem Ql3 {n0:Nat}:∀ (ms:List Nat) (w:WA) (fr:Frame) (cs:List Frame),fr.mode≠.run->fr.defers=ms.map QbG->ms.Nodup->(∀ D∈ms,n0<=D/\w.heap[D]? = some (Obj.deferred (some []))) ->
 ∃ w',Qc3 n0 w w'/\StepsIn (Machine.fenced P (Fr none)) P (lone fr cs w) (lone { fr with defers:=[] } cs w')
 |[],w,fr,cs,hm,hd,_,_=>by
  refine⟨w,Qnl _ _,?_⟩;have:({ fr with defers:=[] }:Frame)=fr:=by cases fr; simp_all
  rw[this];exact StepsIn.refl _
 |D::ms,w,fr,cs,hm,hd,hnd,hms=>by
  rw[YW]at hnd;obtain⟨h1,h2⟩:=hms D (by simp);have hs:=step_collected (P:=P) (cs:=cs) (d:=QbG D) (ds:=ms.map QbG) hm hd rfl (run_takeDeferred h2);have i1:(lone fr cs w).fenced P (Fr none):=fenced_out (n:=0) trivial (Qe0 _ _) hm hd (λg hg=>trivial);obtain⟨w',ht,hst⟩:=Ql3 ms (w.putObj D (.deferred none)) { fr with defers:=ms.map QbG } cs hm rfl hnd.2 (λD' hD'=>by
   refine⟨(hms D' (by simp[hD'])).1,?_⟩;have hne:D'≠D:=λe=>hnd.1 (e ▸ hD');exact(World.putObj_heap_other hne).trans (hms D' (by simp[hD'])).2)
  exact⟨w',QlV h1 h2 ht,.head i1 hs hst⟩
def MD (S:St):Option SV->FrameMode->Prop
 |none,u=>u=.returning
 |some x,u=>∃ v,u=.panicking [{ v:=v,recovered:=false }]/\VR S x v
def rvD:Option SV->SV
 |none=>.val .nilIface
 |some x=>x
def OkD (P:Wz) (f:WB) (args:Wv) (H:Wu) (m:Option SV) (Pt:Wu->Prop):Prop :=
 (∀ (vs:Array Value) (w:WA),(callFunc f vs).run P w=.ok (.enter f vs) w) /\
 ∀ (S:St) (vs:Ww) (u:FrameMode),S.H=H->Sim S->VRs S args vs->MD S m u ->
  CallsDIn (Fr none) 0 P f vs.toArray u S.w λe u' w'=>∃ (v:Value) (H':Wu) (ρ':Nat->Option Nat),e=.returned v/\settle u'=.returning/\Pt H'/\Ext S.H.length S ⟨ρ',H',w'⟩/\Sim ⟨ρ',H',w'⟩
theorem QpU {o:Oper} (ho:o.op=.call { callee:=.builtin .recover,args := #[],argTypes := #[] }) (ρ:Operand->Value) (w:WA):(execOp ρ o).run P w=.ok .recover w:=by
 simp[execOp,ho,resolve,invoke,builtin]
variable {D:Array Oper->List Nat->List Ins->Bool}
theorem QsR (hD:DOk P D) {f:WB} {fn:Func} {rid d:Nat} {ops:Array Oper} {o:Oper} {c2:Code} {insR:List Ins} {i2:IC} {args:Wv} {H:Wu} {m:Option SV} {Pt:Wu->Prop}
 (hf : P.funcs[f]? = some fn) (hb : fn.body = some (.seq (.region rid ops false) c2)) (hname : (fn.name == "runtime.NumGoroutine") = false) (hn : args.length <= fn.ntmps) (hr : QbJ P fn.results.toList [] = true)
 (hop:ops[0]? = some o) (ho:o.op=.call { callee:=.builtin .recover,args := #[],argTypes := #[] }) (hg:o.guard=none) (hdst:o.dst=some d) (hd:d<fn.ntmps) (hnd:ndB ops=true)
 (hl:chkL P fn.ntmps ops (ops.toList.drop 1) insR=true) (hc:QL P fn.ntmps D c2 i2=true)
 (hx:closed H->Qav P insR ((QbC args).put (some d) (rvD m)) H λx env H1=>x=.normal/\X P fn.ntmps D i2 env H1 λx _ H2=>(x=.normal\/x=.ret)/\∃ H',Pt H'/\Cv H.length (.tup []) H2 (.tup []) H'):OkD P f args H m Pt:=by
 refine⟨λvs w=>Go.MuLone.run_callFunc_enter hf hname hb vs w,?_⟩;intro S vs u hH hS hvs hmd;subst hH;refine⟨trivial,λc₀ cs hu hroom => ?_⟩;obtain⟨b,hbk,hbr,hbf,henter⟩:∃ b:Frame,b.kind=.deferred/\b.roundOf=none/\b.fn=f/\Frame.enter P f vs.toArray .deferred=b.atR { tmps:=vs.toArray++Array.replicate (fn.ntmps-vs.toArray.size) undef,defers:=[] } [.code (.seq (.region rid ops false) c2)] :=
  ⟨{ (default:Frame)with fn:=f,kind:=.deferred,roundOf:=none },rfl,rfl,rfl,by simp[Frame.enter,Frame.atR,hf,hb]⟩
 rw[henter];have hlen:vs.length=args.length:=hvs.1;generalize ha0:({ tmps:=vs.toArray++Array.replicate (fn.ntmps-vs.toArray.size) undef,defers:=[] }:Act)=a0;have hN0:a0.tmps.size=fn.ntmps:=by subst ha0; simp; omega
 have hd0:a0.defers=[]:=by subst ha0; rfl
 have he0:Qx S (QbC args) a0.tmps:=by subst ha0; exact Qld hvs _
 have t1:StepsIn (Machine.fenced P (Fr none)) P (lone (b.atR a0 [.code (.seq (.region rid ops false) c2)]) (c₀::cs) S.w) (lone (b.atR a0 (.inRegion ops (List.range ops.size)::[.code c2])) (c₀::cs) S.w) :=
  .head (QfW rfl) stepR_seq (.one (QfW rfl) stepR_region)
 have hsz:0<ops.size:=by
  rcases VG 0 ops.size with h|h
  . exact h
  . rw[Yq h]at hop; cases hop
 have hrange:List.range ops.size=0::List.range' 1 (ops.size-1):=by
  rw[Ze];obtain⟨k,hk⟩:∃ k,ops.size=k+1:=⟨ops.size-1,by omega⟩;rw[hk,YR]; simp
 rw[hrange]at t1;obtain⟨rv,u1,hstep,hset,hvr⟩:∃ (rv:Value) (u1:FrameMode),step P (lone (b.atR a0 (.inRegion ops (0::List.range' 1 (ops.size-1))::[.code c2])) (c₀::cs) S.w) =
  .next (lone (b.atR (a0.put o.dst rv) (.inRegion ops (List.range' 1 (ops.size-1))::[.code c2])) ({ c₀ with mode:=u1 }::cs) S.w)/\settle u1=.returning/\VR S (rvD m) rv:=by
  have hw:Region.wanted o (yielded ops a0.tmps)=true:=by simp[Region.wanted,hg]
  have hgs:=stepGR_op (P:=P) (b:=b) (a:=a0) (k:=[.code c2]) (cs:=c₀::cs) (w:=S.w) (rest:=List.range' 1 (ops.size-1)) hop hw;rw[hbr,Oper.semAt_none]at hgs;have hfin:∀ v,(b.atR a0 (.inRegion ops (0::List.range' 1 (ops.size-1))::[.code c2])).finish v=b.atR (a0.put o.dst v) (.inRegion ops (List.range' 1 (ops.size-1))::[.code c2]):=by
   intro v; rw[Frame.finish_atR,hop]; rfl
  have hk:(b.atR a0 (.inRegion ops (0::List.range' 1 (ops.size-1))::[.code c2])).kind=.deferred:=hbk;have htr:=tryRecover_deferred hk (c₀::cs);have hrun:=QpU (P:=P) ho a0.eval S.w
  cases m with
  |none =>
   have hu':u=.returning:=hmd;subst hu';refine⟨.nilIface,.returning,?_,rfl,.val _⟩;have hc0:({ c₀ with mode:=.returning }:Frame)=c₀:=by cases c₀; simp_all
   rw[hc0];have hrec:recoverD (c₀::cs)=none:=by simp[recoverD,hu]
   refine step_lone_go ?_;rw[hgs,<- hfin];simp only[Frame.atR,hbr]at htr ⊢;simp[stepG.apply,hrun,htr,hrec]
  |some x =>
   obtain⟨v,rfl,hv⟩:=hmd;refine⟨v,.panicking [{ v:=v,recovered:=true }],?_,rfl,hv⟩;have hrec:recoverD (c₀::cs)=some (v,{ c₀ with mode:=.panicking [{ v:=v,recovered:=true }] }::cs):=by simp[recoverD,hu]
   refine step_lone_go ?_;rw[hgs,<- hfin];simp only[Frame.atR,hbr]at htr ⊢;simp[stepG.apply,hrun,htr,hrec]
 have t2:=t1.trans (.one (fenced_oper (n:=0) trivial (Qe0 _ _) hop (λf _=>trivial)) hstep);generalize hcc:({ c₀ with mode:=u1 }::cs:List Frame)=cc at t2;have hlt':∀ t,o.dst=some t->t<a0.tmps.size:=by intro t ht; rw[hdst]at ht; cases ht; rw[hN0]; exact hd
 have he1:Qx S ((QbC args).put (some d) (rvD m)) (a0.put o.dst rv).tmps:=by
  have:=he0.put hlt' hvr
  rwa [hdst]at this ⊢
 have hdb:(⟨S.w.heap.size,[],none⟩:DB).Ok S.w (a0.put o.dst rv).defers:=by
  rw[QfS,hd0];exact⟨Vc _,⟨[],rfl,Zh,λD hD=>by simp at hD⟩,λl h=>by cases h⟩
 have hwl:=QjY (d:=⟨S.w.heap.size,[],none⟩) (ops:=ops) (ops.toList.drop 1) insR hS he1 (by rw[Qf0,hN0]) hdb hl (hx hS.closed);have hlen2:(ops.toList.drop 1).length=ops.size-1:=by simp
 have heq:=QlI (P:=P) (ops:=ops) (Q:=QM S fn.ntmps ⟨S.w.heap.size,[],none⟩ λx env H1=>x=.normal/\X P fn.ntmps D i2 env H1 λx _ H2=>(x=.normal\/x=.ret)/\∃ H',Pt H'/\Cv S.H.length (.tup []) H2 (.tup []) H') (ops.toList.drop 1) 1 (λj=>by rw[Vq]; simp);rw[<-heq,hlen2]at hwl;obtain⟨e1,a1,w1,hq1,harr1⟩:=wp_opsIn _ _ _ (Qkt hnd none _ _ _ hwl) b [.code c2] cc hbr trivial (Qe0 _ _);obtain⟨x1,env1,ρ1,H1,g1,g2,g3,g4,g5,g6,hx1,g7⟩:=hq1;subst hx1
 cases e1<;>simp only[ER]at g1
 have t3:=t2.trans harr1;obtain⟨e2,a2,w2,hq2,harr2⟩:=QeK hD i2 hc g7 ⟨S.w.heap.size,[],none⟩ ⟨ρ1,H1,w1⟩ a1 rfl g3 g4 g5 g6 b [] cc hbr trivial (Qe0 _ _);obtain⟨x2,env2,ρ2,H2,k1,k2,k3,k4,k5,k6,hx2,H',hpt,hcv⟩:=hq2;obtain⟨ms,m1,m2,m3⟩:=k6.ms;simp only[VQ]at m1;have hfinal:∃ todo,StepsIn (Machine.fenced P (Fr none)) P (lone (b.atR a0 [.code (.seq (.region rid ops false) c2)]) (c₀::cs) S.w) (lone { b.atR a2 todo with mode:=.returning } cc w2):=by
  rcases hx2 with rfl|rfl
  . cases e2<;>simp only[ER]at k1
    exact⟨[],t3.trans (StepsIn.trans harr2 (.one (QfW rfl) (stepR_end hbr)))⟩
  . cases e2<;>simp only[ER]at k1
    obtain⟨todo,hs⟩:=harr2.1 hbr;exact⟨todo,t3.trans hs⟩
 obtain⟨todo,t4⟩:=hfinal;obtain⟨w3,ht,t5⟩:=Ql3 (P:=P) (n0:=S.w.heap.size) ms w2 { b.atR a2 todo with mode:=.returning } cc (by simp) m1 m2 m3;have hS2:=Qdp ht k3;have hE2:Qx ⟨ρ2,H2,w3⟩ env2 a2.tmps:=⟨λt=>(k4.get t).extV (Qc7 ht) (.inl rfl)⟩;obtain⟨v,h3,h4⟩:=Qhp (P:=P) (S:=⟨ρ2,H2,w3⟩) (rs:=[]) hS2 hE2 hr (λs hs=>by simp at hs);obtain⟨ρ',h5,h6,_⟩:=hcv ⟨ρ2,H2,w3⟩ v rfl hS2 h4;subst hcc;refine⟨.returned v,u1,w3,_,⟨v,H',ρ',rfl,hset,hpt,?_,h6⟩,t4.trans t5,hbk,hbf,rfl,rfl,fn,by rw[show({ b.atR a2 todo with mode:=.returning,defers:=[] }:Frame).fn=f from hbf]; exact hf,h3⟩;exact(Qeu ht (g2.trans (k2.mono (g2.len (Vc _)))) (Vc _)).trans h5
theorem QmV {fn:Func} {tmps:Array Value} {R:Ending->WA->Prop} {n0:Nat} {u:FrameMode} {ds:List Deferred} (hu:u≠.run):∀ (ms:List Nat) (w:WA),ms.Nodup->(∀ D∈ms,n0<=D/\w.heap[D]? = some (Obj.deferred (some []))) ->
 (∀ w',Qc3 n0 w w'->LeavesInM (Fr none) 0 P fn tmps R ds u w')->LeavesInM (Fr none) 0 P fn tmps R (ms.map QbG++ds) u w
 |[],w,_,_,h=>h w (Qnl _ _)
 |D::ms,w,hnd,hms,h=>by
  rw[YW]at hnd;obtain⟨h1,h2⟩:=hms D (by simp);refine⟨hu,.inl ⟨D,_,rfl,run_takeDeferred h2,?_⟩⟩;refine QmV hu ms _ hnd.2 (λD' hD'=>⟨(hms D' (by simp[hD'])).1,?_⟩) λw' ht=>h w' (QlV h1 h2 ht);have hne:D'≠D:=λe=>hnd.1 (e ▸ hD');exact(World.putObj_heap_other hne).trans (hms D' (by simp[hD'])).2
def QhK (P:Wz) (n0:Nat) (rs:List RS) (Pt:Out->Wu->Prop) (k:WB) (cap:Wv) (x:XE) (env:Env) (H1:Wu):Prop :=
 match x with
 |.normal=>∃ Pd,OkD P k cap H1 none Pd/\∀ H4,Pd H4->(∀ s∈rs,s.side env H4)/\Qbf n0 Pt (QaL env H4 rs) H4
 |.ret=>∃ Pd,OkD P k cap H1 none Pd/\∀ H4,Pd H4->(∀ s∈rs,s.side env H4)/\Qbf n0 Pt (QaL env H4 rs) H4
 |.panic y=>∃ Pd,OkD P k cap H1 (some y) Pd/\∀ H4,Pd H4->(∀ s∈rs,s.side env H4)/\Qbf n0 Pt (QaL env H4 rs) H4
 |_=>False
end
def Qi7 (P:Wz) (D:Array Oper->List Nat->List Ins->Bool) (fn:Func) (d:Nat) (insR:List Ins) (i2:IC):Bool :=
 (match fn.body with
  |some (.seq (.region _ ops false) c2) =>
    (match ops.toList with
     |o::r=>(match o.op with|.call { callee:=.builtin .recover,args:=as,argTypes:=ts }=>as.isEmpty&&ts.isEmpty|_=>false)&&(o.guard.isNone&&(o.dst==some d&&(decide (d<fn.ntmps)&&(ndB ops&&(chkL P fn.ntmps ops r insR&&QL P fn.ntmps D c2 i2)))))
     |_=>false)
  | _ => false) && !(fn.name == "runtime.NumGoroutine") && QbJ P fn.results.toList [] && decide (fn.params.size + fn.nfree <= fn.ntmps)
theorem Ql2 {P:Wz} (hm:P.follows .mixedOrders=true) {f:WB} {fn:Func} {d:Nat} {insR:List Ins} {i2:IC} (hf:P.funcs[f]? = some fn) (hc:Qi7 P Qh fn d insR i2=true)
 {args:Wv} {H:Wu} {m:Option SV} {Pt:Wu->Prop} (hn:args.length=fn.params.size+fn.nfree)
 (hx:closed H->Qav P insR ((QbC args).put (some d) (rvD m)) H λx env H1=>x=.normal/\X P fn.ntmps Qh i2 env H1 λx _ H2=>(x=.normal\/x=.ret)/\∃ H',Pt H'/\Cv H.length (.tup []) H2 (.tup []) H'):OkD P f args H m Pt:=by
 unfold Qi7 at hc;rw[Va,Va,Va]at hc;obtain⟨⟨⟨h1,h2⟩,h3⟩,h4⟩:=hc;split at h1
 . rename_i rid ops c2 hb;split at h1
   . rename_i o r hops;simp only[Va,Wc,Wd]at h1;obtain⟨k1,k2,k3,k4,k5,k6,k7⟩:=h1;split at k1
     . rename_i as ts ho;simp only[Va,Array.isEmpty_iff]at k1;obtain⟨rfl,rfl⟩:=k1;have h0:ops[0]? = some o:=by rw[<-Z2,hops]; rfl
       refine QsR (QdP hm) hf hb (by simpa using h2) (by rw[hn]; simpa using h4) h3 h0 ho (by simpa using k2) k3 k4 k5 ?_ k7 hx;rw[hops]; exact k6
     . cases k1
   . cases h1
 . cases h1
end
section
variable [QK] [QE] [QF]
set_option linter.unusedSectionVars false
def WF (P:Wz) (N:Nat) (c:Code) (ts:List Nat) (env:Env) (H:Wu) (K:Wt):Prop :=
 ∀ (db:DB) (S:St) (a:Act),S.H=H->Sim S->Qx S env a.tmps->a.tmps.size=N->db.Ok S.w a.defers ->
  c.wq db.ro P (λe a' w=>QM S N db K e a' w/\∀ t∈ts,a'.tmps.getD t undef=a.tmps.getD t undef) a S.w
end
def IC.tl:Nat->IC->IC
 |0,a=>a
 |k+1,.seq _ b=>IC.tl k b
 |_,a=>a
def IC.nth:Nat->IC->IC
 |0,.seq a _=>a
 |k+1,.seq _ b=>IC.nth k b
 |_,a=>a
section
variable [QK] [QE] [QF]
section
variable {P:Wz} {D:Array Oper->List Nat->List Ins->Bool}
theorem Qtk (hD:DOk P D) {fn:Func} {cb:Code} {rid:Nat} {o1 od:Oper} {f':Operand} {fo:Od} {ib:IC} {ins1:Ins} {rs:List RS} {Pt:Out->Wu->Prop}
 (hr:QbJ P fn.results.toList rs=true)
 (ho1:Qbr P fn.ntmps #[o1,od] o1 ins1=true) (hnd1:∀ c,o1.op≠.defer c) (hod:od.op=.defer { callee:=.value f',args := #[],argTypes := #[] }) (hog:od.guard=none) (hdst:od.dst=none) (hfo:Qk f' fo=true)
 (hcb:QL P fn.ntmps D cb ib=true) {S:St} {a1:Act} {w1:WA} {env1:Env} {ρ1:Nat->Option Nat} {H1:Wu}
 (g2:Ext S.H.length S ⟨ρ1,H1,w1⟩) (g3:Sim ⟨ρ1,H1,w1⟩) (g4:Qx ⟨ρ1,H1,w1⟩ env1 a1.tmps) (g5:a1.tmps.size=fn.ntmps) (g6:(⟨S.w.heap.size,[],none⟩:DB).Ok w1 a1.defers)
 (g7:xo P ins1 env1 H1 λx env2 H2=>x=.normal/\(env2.ev fo).vd=true/\∃ k cap,(env2.ev fo).ug=.fn (.func k) [] cap/\X P fn.ntmps D ib env2 H2 (QhK P S.H.length rs Pt k cap)) :
 (Code.seq (.region rid #[o1,od] false) cb).wpIn (Fr none) 0 P (bodyPostM (Fr none) 0 P fn (λe w'=>∃ (out:Out) (H':Wu) (v:Value) (ρ':Nat->Option Nat),Pt out H'/\Ext S.H.length S ⟨ρ',H',w'⟩/\Sim ⟨ρ',H',w'⟩ /\
  match out with
  |.ret r=>e=.returned v/\VR ⟨ρ',H',w'⟩ r v
  |.pan x=>e=.panicked [{ v:=v,recovered:=false }]/\VR ⟨ρ',H',w'⟩ x v)) a1 w1:=by
 refine wpIn_seq ?_;refine wpIn_region ?_;have hstep:=Qdk (d:=⟨S.w.heap.size,[],none⟩) (N:=fn.ntmps) g3 g4 g5 g6 (ops := #[o1,od]) ho1 g7
  (next:=wpOpsIn (Fr none) 0 P #[o1,od] (Exit.then (cb.wpIn (Fr none) 0 P (bodyPostM (Fr none) 0 P fn λe w'=>∃ (out:Out) (H':Wu) (v:Value) (ρ':Nat->Option Nat),Pt out H'/\Ext S.H.length S ⟨ρ',H',w'⟩/\Sim ⟨ρ',H',w'⟩ /\
   match out with
   |.ret r=>e=.returned v/\VR ⟨ρ',H',w'⟩ r v
   |.pan x=>e=.panicked [{ v:=v,recovered:=false }]/\VR ⟨ρ',H',w'⟩ x v)) (bodyPostM (Fr none) 0 P fn λe w'=>∃ (out:Out) (H':Wu) (v:Value) (ρ':Nat->Option Nat),Pt out H'/\Ext S.H.length S ⟨ρ',H',w'⟩/\Sim ⟨ρ',H',w'⟩ /\
   match out with
   |.ret r=>e=.returned v/\VR ⟨ρ',H',w'⟩ r v
   |.pan x=>e=.panicked [{ v:=v,recovered:=false }]/\VR ⟨ρ',H',w'⟩ x v)) [1])
  (Q:=Exit.then (cb.wpIn (Fr none) 0 P (bodyPostM (Fr none) 0 P fn λe w'=>∃ (out:Out) (H':Wu) (v:Value) (ρ':Nat->Option Nat),Pt out H'/\Ext S.H.length S ⟨ρ',H',w'⟩/\Sim ⟨ρ',H',w'⟩ /\
   match out with
   |.ret r=>e=.returned v/\VR ⟨ρ',H',w'⟩ r v
   |.pan x=>e=.panicked [{ v:=v,recovered:=false }]/\VR ⟨ρ',H',w'⟩ x v)) (bodyPostM (Fr none) 0 P fn λe w'=>∃ (out:Out) (H':Wu) (v:Value) (ρ':Nat->Option Nat),Pt out H'/\Ext S.H.length S ⟨ρ',H',w'⟩/\Sim ⟨ρ',H',w'⟩ /\
   match out with
   |.ret r=>e=.returned v/\VR ⟨ρ',H',w'⟩ r v
   |.pan x=>e=.panicked [{ v:=v,recovered:=false }]/\VR ⟨ρ',H',w'⟩ x v)) ?_ ?_
 . -- the two operations
   show wpOpsIn (Fr none) 0 P #[o1,od] _ [0,1] a1 w1;simp only[wpOpsIn];have e0:(#[o1,od]:Array Oper)[0]? = some o1:=rfl;simp only[e0];unfold Qeg at hstep;split
   . rename_i hw;rw[Wb hw]at hstep;exact⟨λ_ _=>trivial,hstep⟩
   . rename_i hw;rw[Wa hw]at hstep;exact⟨λ_ _=>trivial,hstep⟩
 . -- the deferred call is laid down; the rest
   rintro a2 w2 ⟨x2,env2,ρ2,H2,k1,k2,k3,k4,k5,k6,hx2,hvd,k,cap,hug,k7⟩;subst hx2;have hfv:=(Qm hfo k4).ug hvd;rw[hug]at hfv;obtain⟨us,cs,hv,hus,hcs⟩:=hfv.fn_inv;have hus0:us=[]:=by have:=hus.1; simpa using this
   subst hus0;obtain⟨ms1,m1,m2,m3⟩:=k6.ms;simp only[VQ]at m1;simp only[wpOpsIn];have e1:(#[o1,od]:Array Oper)[1]? = some od:=rfl;simp only[e1];have hw:Region.wanted od (yielded #[o1,od] a2.tmps)=true:=by simp[Region.wanted,hog]
   rw[Wb hw];refine⟨λ_ _=>trivial,?_⟩;have hrun:(od.semAt (Fr none).round a2.eval).run P w2=.ok (.defer { target:=.fn (.func k) cs.toArray,args := #[] }) w2:=by
    show(od.semAt none a2.eval).run P w2=_;rw[Oper.semAt_none];simp[execOp,hod,resolve,hv,Deferred.ofValue]
   rw[hrun,Oper.uponIn_defer];have hput:({ a2 with defers:={ target:=.fn (.func k) cs.toArray,args := #[] }::a2.defers }:Act).put od.dst undef={ a2 with defers:={ target:=.fn (.func k) cs.toArray,args := #[] }::a2.defers }:=by rw[hdst]; rfl
   rw[hput];show cb.wpIn _ _ _ _ _ _;have hwb:=QeK hD ib hcb k7 ⟨w2.heap.size,{ target:=.fn (.func k) cs.toArray,args := #[] }::ms1.map QbG,none⟩ ⟨ρ2,H2,w2⟩ { a2 with defers:={ target:=.fn (.func k) cs.toArray,args := #[] }::a2.defers } rfl k3 k4 k5 ⟨Vc _,⟨[],by simp[m1],Zh,λD hD=>by simp at hD⟩,λl h=>by cases h⟩;refine wq_mono hwb ?_;rintro e3 a3 w3 ⟨x3,env3,ρ3,H3,q1,q2,q3,q4,q5,q6,q7⟩;obtain⟨ms3,n1,n2,n3⟩:=q6.ms;have hE0:Ext S.H.length S ⟨ρ3,H3,w3⟩:=(g2.trans (k2.mono (g2.len (Vc _)))).trans (q2.mono ((g2.trans (k2.mono (g2.len (Vc _)))).len (Vc _)));have hdb1:(⟨S.w.heap.size,[],none⟩:DB).Ok w2 (ms1.map QbG):=⟨k6.le,⟨ms1,by simp,m2,m3⟩,λl h=>by cases h⟩;have main:∀ (m:Option SV) (u:FrameMode) (Pd:Wu->Prop),u≠.run->MD ⟨ρ3,H3,w3⟩ m u->OkD P k cap H3 m Pd->(∀ H4,Pd H4->(∀ s∈rs,s.side env3 H4)/\Qbf S.H.length Pt (QaL env3 H4 rs) H4) ->
    LeavesInM (Fr none) 0 P fn a3.tmps (λe w'=>∃ (out:Out) (H':Wu) (v:Value) (ρ':Nat->Option Nat),Pt out H'/\Ext S.H.length S ⟨ρ',H',w'⟩/\Sim ⟨ρ',H',w'⟩ /\
     match out with
     |.ret r=>e=.returned v/\VR ⟨ρ',H',w'⟩ r v
     |.pan x=>e=.panicked [{ v:=v,recovered:=false }]/\VR ⟨ρ',H',w'⟩ x v) a3.defers u w3:=by
    intro m u Pd hu hmd hok hres;rw[n1];refine QmV hu ms3 w3 n2 n3 λw4 ht => ?_;have hS4:=Qdp ht q3;have hE4:=Qeu ht hE0 (g2.trans (k2.mono (g2.len (Vc _)))).size;have hcs4:VRs ⟨ρ3,H3,w4⟩ cap cs:=⟨hcs.1,λj s u h1 h2=>((hcs.2 j s u h1 h2).extV q2.v (.inl rfl)).extV (Qc7 ht) (.inl rfl)⟩;have hmd4:MD ⟨ρ3,H3,w4⟩ m u:=by
     cases m with
     |none=>exact hmd
     |some y=>obtain⟨v,h1,h2⟩:=hmd; exact⟨v,h1,h2.extV (Qc7 ht) (.inl rfl)⟩
    refine⟨hu,.inr ⟨Qhl,.func k,cs.toArray,k,cs.toArray,rfl,?_,λg hg=>trivial,?_⟩⟩
    . simp only[invoke];have:=hok.1 cs.toArray w4;simpa using this
    . refine(hok.2 ⟨ρ3,H3,w4⟩ cs u rfl hS4 hcs4 hmd4).mono ?_;rintro e5 u5 w5 ⟨v5,H5,ρ5,rfl,hset,hpd,hext5,hsim5⟩;obtain⟨r1,r2⟩:=hres H5 hpd;show LeavesInM _ _ _ _ _ _ (ms1.map QbG) (settle u5) w5;rw[hset];have hdb3:=hdb1.ext (S:=⟨ρ2,H2,w2⟩) (S':=⟨ρ3,H3,w3⟩) k3 q2;have hdb4:(⟨S.w.heap.size,[],none⟩:DB).Ok w4 (ms1.map QbG):=by
       refine⟨by rw[ht.size]; exact hdb3.le,⟨ms1,by simp,m2,λD hD=>⟨(m3 D hD).1,?_⟩⟩,λl h=>by cases h⟩;have h1:=Qb2 (m3 D hD).2;have h2:w3.heap[D]? = some (Obj.deferred (some [])):=by
        have h4:=(m3 D hD).2;refine((q2.imm D (Qb2 h4) ?_).1).trans h4;rintro⟨i,o,ho,hl,hρ⟩;rcases k3.own ho hl hρ with ⟨c,h5⟩|⟨r,h5⟩|⟨es,cl,h5⟩<;>(rw[h4]at h5; cases h5)
       rcases ht.at_ D with h3|⟨h3,_,_⟩
       . exact h3.trans h2
       . exact absurd (Zc h1 h3) (Nat.lt_irrefl _)
      have hdb5:=hdb4.ext (S:=⟨ρ3,H3,w4⟩) (S':=⟨ρ5,H5,w5⟩) hS4 hext5;obtain⟨ms5,j1,j2,j3⟩:=hdb5.ms;have hE5:Ext S.H.length S ⟨ρ5,H5,w5⟩:=hE4.trans (hext5.mono (hE4.len (Vc _)));have hEnv5:Qx ⟨ρ5,H5,w5⟩ env3 a3.tmps:=Qx.ext (S:=⟨ρ3,H3,w4⟩) ⟨λt=>(q4.get t).extV (Qc7 ht) (.inl rfl)⟩ hext5;rw[j1];simp only[VQ];refine QfO (by simp) ms5 w5 j2 j3 λw6 ht6 => ?_;obtain⟨v,h3,h4⟩:=Qhp (P:=P) (S:=⟨ρ5,H5,w6⟩) (Qdp ht6 hsim5) ⟨λt=>(hEnv5.get t).extV (Qc7 ht6) (.inl rfl)⟩ hr r1;obtain⟨r,H',hp,h2⟩:=r2;obtain⟨ρ',h5,h6,h7⟩:=h2 ⟨ρ5,H5,w6⟩ v rfl (Qdp ht6 hsim5) h4;exact⟨v,h3,.ret r,H',v,ρ',hp,(Qeu ht6 hE5 (Vc _)).trans h5,h6,rfl,h7⟩
   cases x3<;>cases e3<;>simp only[ER]at q1
   . obtain⟨Pd,y1,y2⟩:=q7;exact main none .returning Pd (by simp) rfl y1 y2
   . exact q7.elim
   . exact q7.elim
   . obtain⟨Pd,y1,y2⟩:=q7;exact main none .returning Pd (by simp) rfl y1 y2
   . obtain⟨Pd,y1,y2⟩:=q7;obtain⟨v,rfl,hv⟩:=q1;exact main (some _) (.panicking [{ v:=v,recovered:=false }]) Pd (by simp) ⟨v,rfl,hv⟩ y1 y2
 . rintro ch a' w' ⟨x2,env2,ρ2,H2,k1,k2,k3,k4,k5,k6,hx2,_⟩;subst hx2;simp[ER]at k1
def XL (P:Wz) (N:Nat) (D:Array Oper->List Nat->List Ins->Bool):List IC->Env->Wu->(Wt)->Prop
 |[],env,H,K=>K .normal env H
 |i::r,env,H,K=>X P N D i env H λx env H=>match x with
  |.normal=>XL P N D r env H K
  |x=>K x env H
def Qhe (P:Wz) (N:Nat) (D:Array Oper->List Nat->List Ins->Bool) (k:Code->Bool):List IC->Code->Bool
 |[],c=>k c
 |i::r,.seq a b=>QL P N D a i&&Qhe P N D k r b
 |_,_=>false
def Qec (P:Wz) (n0:Nat) (rs:List RS) (Pt:Out->Wu->Prop) (nx:Env->Wu->Prop) (x:XE) (env:Env) (H:Wu):Prop :=
 match x with
 |.normal=>nx env H
 |.ret=>(∀ s∈rs,s.side env H)/\Qbf n0 Pt (QaL env H rs) H
 |_=>False
theorem Qt9 (hD:DOk P D) {fn:Func} {rs:List RS} {Pt:Out->Wu->Prop} (hr:QbJ P fn.results.toList rs=true) {kk:Code->Bool} {nx:Env->Wu->Prop} {S:St}
 (hk:∀ c,kk c=true->∀ (a1:Act) (w1:WA) (env1:Env) (ρ1:Nat->Option Nat) (H1:Wu),Ext S.H.length S ⟨ρ1,H1,w1⟩->Sim ⟨ρ1,H1,w1⟩->Qx ⟨ρ1,H1,w1⟩ env1 a1.tmps->a1.tmps.size=fn.ntmps->(⟨S.w.heap.size,[],none⟩:DB).Ok w1 a1.defers->nx env1 H1 ->
  c.wpIn (Fr none) 0 P (bodyPostM (Fr none) 0 P fn (λe w'=>∃ (out:Out) (H':Wu) (v:Value) (ρ':Nat->Option Nat),Pt out H'/\Ext S.H.length S ⟨ρ',H',w'⟩/\Sim ⟨ρ',H',w'⟩ /\
  match out with
  |.ret r=>e=.returned v/\VR ⟨ρ',H',w'⟩ r v
  |.pan x=>e=.panicked [{ v:=v,recovered:=false }]/\VR ⟨ρ',H',w'⟩ x v)) a1 w1) :
 ∀ (ias:List IC) (c:Code) (a1:Act) (w1:WA) (env1:Env) (ρ1:Nat->Option Nat) (H1:Wu),Qhe P fn.ntmps D kk ias c=true->Ext S.H.length S ⟨ρ1,H1,w1⟩->Sim ⟨ρ1,H1,w1⟩->Qx ⟨ρ1,H1,w1⟩ env1 a1.tmps->a1.tmps.size=fn.ntmps ->
  (⟨S.w.heap.size,[],none⟩:DB).Ok w1 a1.defers->XL P fn.ntmps D ias env1 H1 (Qec P S.H.length rs Pt nx) ->
  c.wpIn (Fr none) 0 P (bodyPostM (Fr none) 0 P fn (λe w'=>∃ (out:Out) (H':Wu) (v:Value) (ρ':Nat->Option Nat),Pt out H'/\Ext S.H.length S ⟨ρ',H',w'⟩/\Sim ⟨ρ',H',w'⟩ /\
  match out with
  |.ret r=>e=.returned v/\VR ⟨ρ',H',w'⟩ r v
  |.pan x=>e=.panicked [{ v:=v,recovered:=false }]/\VR ⟨ρ',H',w'⟩ x v)) a1 w1:=by
 intro ias
 induction ias with
 |nil=>exact λc a1 w1 env1 ρ1 H1 hc g2 g3 g4 g5 g6 hx=>hk c hc a1 w1 env1 ρ1 H1 g2 g3 g4 g5 g6 hx
 |cons i r ih =>
  intro c a1 w1 env1 ρ1 H1 hc g2 g3 g4 g5 g6 hx
  cases c<;>simp only[Qhe,VC,Va]at hc
  rename_i ca cb;have hwa:=QeK hD i hc.1 hx ⟨S.w.heap.size,[],none⟩ ⟨ρ1,H1,w1⟩ a1 rfl g3 g4 g5 g6;refine wpIn_seq (wq_mono hwa ?_);rintro e2 a2 w2 ⟨x,env2,ρ2,H2,k1,k2,k3,k4,k5,k6,k7⟩;have hE:Ext S.H.length S ⟨ρ2,H2,w2⟩:=g2.trans (k2.mono (g2.len (Vc _)))
  cases x<;>cases e2<;>simp only[ER]at k1
  . exact ih cb a2 w2 env2 ρ2 H2 hc.2 hE k3 k4 k5 k6 k7
  all_goals first|exact k7.elim|skip
  obtain⟨r1,r2⟩:=k7;obtain⟨ms,m1,m2,m3⟩:=k6.ms;simp only[VQ]at m1;show LeavesInM (Fr none) 0 P fn a2.tmps _ a2.defers .returning w2;rw[m1];refine QfO (by simp) ms w2 m2 m3 λw6 ht6 => ?_;obtain⟨v,h3,h4⟩:=Qhp (P:=P) (S:=⟨ρ2,H2,w6⟩) (Qdp ht6 k3) ⟨λt=>(k4.get t).extV (Qc7 ht6) (.inl rfl)⟩ hr r1;obtain⟨r,H',hp,h2⟩:=r2;obtain⟨ρ',h5,h6,h7⟩:=h2 ⟨ρ2,H2,w6⟩ v rfl (Qdp ht6 k3) h4;exact⟨v,h3,.ret r,H',v,ρ',hp,(Qeu ht6 hE (Vc _)).trans h5,h6,rfl,h7⟩
def QkS (P:Wz) (D:Array Oper->List Nat->List Ins->Bool) (fn:Func) (ins1:Ins) (fo:Od) (ib:IC):Code->Bool
 |.seq (.region _ ops false) cb =>
  (match ops.toList with
   |[o1,od]=>Qbr P fn.ntmps ops o1 ins1&&((match o1.op with|.defer _=>false|_=>true)&&((match od.op with|.defer { callee:=.value f',args:=as,argTypes:=ts }=>as.isEmpty&&(ts.isEmpty&&Qk f' fo)|_=>false) &&
    (od.guard.isNone&&(od.dst.isNone&&QL P fn.ntmps D cb ib))))
   |_=>false)
 |_=>false
def QkN (P:Wz) (D:Array Oper->List Nat->List Ins->Bool) (fn:Func) (ias:List IC) (ins1:Ins) (fo:Od) (ib:IC) (rs:List RS):Bool :=
 (match fn.body with
  |some c=>Qhe P fn.ntmps D (QkS P D fn ins1 fo ib) ias c
  | none => false) && !(fn.name == "runtime.NumGoroutine") && QbJ P fn.results.toList rs && decide (fn.params.size + fn.nfree <= fn.ntmps)
theorem QrP {P:Wz} (hm:P.follows .mixedOrders=true) {f:WB} {fn:Func} {ias:List IC} {ib:IC} {ins1:Ins} {fo:Od} {rs:List RS} (hf:P.funcs[f]? = some fn) (hc:QkN P Qh fn ias ins1 fo ib rs=true)
 {args:Wv} {H:Wu} {Pt:Out->Wu->Prop} (hn:args.length=fn.params.size+fn.nfree)
 (hx:closed H->XL P fn.ntmps Qh ias (QbC args) H (Qec P H.length rs Pt λenv1 H1=>xo P ins1 env1 H1 λx env2 H2=>x=.normal/\(env2.ev fo).vd=true/\∃ k cap,(env2.ev fo).ug=.fn (.func k) [] cap/\X P fn.ntmps Qh ib env2 H2 (QhK P H.length rs Pt k cap))):OkP P f args H Pt:=by
 unfold QkN at hc;rw[Va,Va,Va]at hc;obtain⟨⟨⟨h1,h2⟩,h3⟩,h4⟩:=hc;split at h1
 . rename_i c hb;refine⟨λvs w=>Go.MuLone.run_callFunc_enter hf (by simpa using h2) hb vs w,?_⟩;intro S vs hH hS hvs;subst hH;refine callsIn_wide.1 (callsIn_of_wp_marks (F:=Fr none) (n:=0) hf hb trivial ?_);have hl:vs.length=args.length:=hvs.1;have h4:args.length<=fn.ntmps:=by rw[hn]; simpa using h4
   refine Qt9 (QdP hm) h3 (kk:=QkS P Qh fn ins1 fo ib) (nx:=_) ?_ ias c ⟨vs.toArray++Array.replicate (fn.ntmps-vs.toArray.size) undef,[]⟩ S.w (QbC args) S.ρ S.H h1 (Ext.refl _ _) hS (Qld hvs _) (by simp; omega) ⟨Vc _,⟨[],rfl,Zh,λD hD=>by simp at hD⟩,λl h=>by cases h⟩ (hx hS.closed);intro c hc a1 w1 env1 ρ1 H1 g2 g3 g4 g5 g6 g7;unfold QkS at hc;split at hc
   . rename_i rid ops cb;split at hc
     . rename_i o1 od hops;simp only[Va]at hc;obtain⟨k2,k3,k4,k5,k6,k7⟩:=hc;have e:ops = #[o1,od]:=by apply YV; simpa using hops
       subst e;split at k4
       . rename_i f' as ts hod;simp only[Va,Array.isEmpty_iff]at k4;obtain⟨rfl,rfl,k4⟩:=k4;exact Qtk (QdP hm) h3 k2 (λc e=>by rw[e]at k3; cases k3) hod (by simpa using k5) (by simpa using k6) k4 k7 g2 g3 g4 g5 g6 g7
       . cases k4
     . cases hc
   . cases hc
 . cases h1
end
end
section
variable [QK] [QE] [QF]
section
variable {S:St}
theorem Qlv {L:Wu} {i:Nat} {o:AO} (ho:(L.map AO.dead)[i]? = some o):o.live=false/\o.cells=[]:=by
 rw[Vl,V8]at ho;obtain⟨p,_,rfl⟩:=ho;exact⟨rfl,rfl⟩
theorem QtT {w':WA} {ρ:Nat->Option Nat} {H':Wu} {ρ':Nat->Option Nat} (hS:Sim S) (he:Ext S.H.length ⟨ρ,S.H.map AO.dead,S.w⟩ ⟨ρ',H',w'⟩) :
 Ext S.H.length S ⟨S.ρ,S.H,w'⟩/\Sim ⟨S.ρ,S.H,w'⟩:=by
 have hrw:∀ b,¬ (⟨ρ,S.H.map AO.dead,S.w⟩:St).rw b:=by
  rintro b ⟨i,o,ho,hl,_⟩;simp[AO.own,(Qlv ho).1,(Qlv ho).2]at hl
 have hk:∀ k,k<S.w.heap.size->w'.heap[k]? = S.w.heap[k]? := λk h=>(he.imm k h (hrw k)).1;have hE:Ext S.H.length S ⟨S.ρ,S.H,w'⟩:=⟨λi o _ ho=>⟨o,ho,Vc _,λ_=>rfl⟩,λk h hn=>⟨hk k h,hn⟩,he.size,he.shape,λk r h=>⟨r,by show w'.heap[k]? = _; rw[hk k (Qb2 h)]; exact h⟩,he.os,he.tape,he.output⟩;refine⟨hE,?_,hS.bel,hS.inj,?_,hS.gl.ext hE,hS.kf.ext hE⟩
 . intro i o ho hl;have h4:=hS.live i o ho hl;show match S.ρ i with
    |none=>o.cells=[]
    |some b=>_
   cases hρ:S.ρ i with
   |none=>rw[hρ]at h4; exact h4
   |some b =>
    rw[hρ]at h4;obtain⟨us,rest,h5,h6⟩:=h4;exact⟨us,rest,by show w'.heap[b]? = _; rw[hk b (Qb2 h5)]; exact h5,h6.ext hE⟩
 . intro i o ho hl hne;obtain⟨l,x,m,us,env,k1,k2,k3,k4,k6⟩:=hS.lp i o ho hl hne;exact⟨l,x,m,us,env,k1,k2,by show w'.heap[l]? = _; rw[hk l (Qb2 k3)]; exact k3,k4,k6.ext hE⟩
theorem Ok.fz {P:Wz} {f:WB} {args:Wv} {H:Wu} {v:Value} (d:Nat) (h:Ok P f (args.map (SV.fz 0 [] H d)) (H.map AO.dead) (.ret (.val v)) (H.map AO.dead)):Ok P f args H (.ret (.val v)) H:=by
 refine⟨h.1,λS vs hH hS hvs => ?_⟩;subst hH;obtain⟨ρ,he,hs,hv⟩:=Qp5 hS d;refine(h.2 ⟨ρ,S.H.map AO.dead,S.w⟩ vs rfl hs (hvs.map hv)).mono ?_;rintro e w' ⟨u,ρ',h1,h2,h3,h4⟩;obtain⟨g1,g2⟩:=QtT hS (he:=h1.mono (by simp));refine⟨u,S.ρ,g1,g2,h3,?_⟩
 cases h4
 exact .val _
end
end
section
variable [QK] [QE] [QF]
def QfD (ops:Array Oper) (ns:List Nat) (l:List Ins):Bool :=
 let B:=Q7 ops.toList []
 let n:=l.length
 let L:=ns.zip l
 (n==ops.size)&&(ns.length==n)&&((List.range n).all λi=>ns.contains i) &&
 ((List.range n).all λi=>((ops.getD i default).after.toList.all λe => !Region.binds .any e||decide (e.on<i)))&&(l.all λo=>o.j.quiet) &&
 (L.zipIdx.all λx=>L.zipIdx.all λy=>(x.2==y.2||x.1.1 != y.1.1) &&
  (match x.1.2.d with
   |none=>true
   |some d=>(x.2==y.2||y.1.2.d != some d)&&(!y.1.2.slots.contains d||(QaD B x.1.1 y.1.1&&decide (x.2<y.2))||(QaD B y.1.1 x.1.1&&decide (y.2<x.2)))))
structure WC (ops:Array Oper) (L:List CI):Prop where
 cov:∀ i,i<ops.size->∃ x∈L,x.1=i
 edge:∀ i o,ops[i]? = some o->∀ e∈o.after.toList,Region.binds .any e=true->e.on<i
 idx:∀ (a b:Nat) (x y:CI),L[a]? = some x->L[b]? = some y->a=b\/x.1≠y.1
 one:∀ (a b:Nat) (x y:CI) (d:Nat),L[a]? = some x->L[b]? = some y->x.2.d=some d->y.2.d=some d->a=b
 dep:∀ (a b:Nat) (x y:CI) (d:Nat),L[a]? = some x->L[b]? = some y->x.2.d=some d->d∈y.2.slots->(QaD (Q7 ops.toList []) x.1 y.1=true/\a<b)\/(QaD (Q7 ops.toList []) y.1 x.1=true/\b<a)
theorem Qmw {ops:Array Oper} {ns:List Nat} {l:List Ins} (h:QfD ops ns l=true):WC ops (ns.zip l)/\ns.length=l.length/\∀ o∈l,o.j.quiet=true:=by
 unfold QfD at h;simp only[Va,Wc,Vv,VI,VY,VH,Wd,Z3]at h;obtain⟨⟨⟨⟨⟨h1,h2⟩,h3⟩,h4⟩,h5⟩,h6⟩:=h;have h2':ns.length=l.length:=by omega
 have hp:∀ (a b:Nat) (x y:CI),(ns.zip l)[a]? = some x->(ns.zip l)[b]? = some y->(a=b\/x.1≠y.1)/\∀ d,x.2.d=some d->(a=b\/y.2.d≠some d)/\(d∈y.2.slots->(QaD (Q7 ops.toList []) x.1 y.1=true/\a<b)\/(QaD (Q7 ops.toList []) y.1 x.1=true/\b<a)):=by
  intro a b x y hx hy;have hxm:(x,a)∈(ns.zip l).zipIdx:=Vn (i:=a) (by rw[YY]; simp[hx]);have hym:(y,b)∈(ns.zip l).zipIdx:=Vn (i:=b) (by rw[YY]; simp[hy]);have h7:=h6 (x,a) hxm (y,b) hym;obtain⟨h7,h8⟩:=h7;refine⟨by simpa using h7,λd hd => ?_⟩;rw[hd]at h8;simp only[Va,VY,Wc,Wp,ne_eq,VH,Wd,Wo]at h8;refine⟨h8.1,λhm => ?_⟩;rcases h8.2 with (h9|h9)|h9
  . exact absurd hm h9
  . exact .inl h9
  . exact .inr h9
 refine⟨⟨λi hi=>QiV h2' (h3 i (by omega)),?_,λa b x y hx hy=>(hp a b x y hx hy).1,?_,?_⟩,h2',h5⟩
 . intro i o ho e he hb;have hi:i<ops.size:=(VD.1 ho).1;rcases h4 i (by omega) e (by rw[VU,ho]; simpa using he)with h6|h6
   . rw[hb]at h6; cases h6
   . exact h6
 . intro a b x y d hx hy hd hd';rcases((hp a b x y hx hy).2 d hd).1 with h|h
   . exact h
   . exact absurd hd' h
 . intro a b x y d hx hy hd hs;exact((hp a b x y hx hy).2 d hd).2 hs
section
variable {P:Wz}
theorem Qp6 {N:Nat} {ops:Array Oper} {L:List CI} {F:List QI} {S:St} {db:DB} {K:Wt} {env:Env} (hd:WC ops L) (hF:L=F.map λq=>(q.1,q.2.1)) (hchk:∀ x∈L,∃ o,ops[x.1]? = some o/\Qbr P N ops o x.2=true)
 (hqv:∀ (k:Nat) (q:QI),F[k]? = some q->Q0 P q.2.1 (QP env ((F.take k).map (·.2.1)) ((F.take k).map (·.2.2))) S.H q.2.2)
 (hK:K .normal (QP env (F.map (·.2.1)) (F.map (·.2.2))) S.H) :
 ∀ (fuel:Nat) (listed:Array Bool) (S':St) (a:Act) (E:Env),(F.filter (unl listed)).length<=fuel->listed.size=ops.size->(Qda ops λt=>listed.getD t false=true) ->
 (∀ q∈F,listed.getD q.1 false=true->∀ t,q.2.1.d=some t->E.get t=q.2.2)->(∀ t,(∀ q∈F,listed.getD q.1 false=true->q.2.1.d≠some t)->E.get t=env.get t) ->
 S'.H=S.H->Ext S.H.length S S'->Sim S'->Qx S' E a.tmps->a.tmps.size=N->db.Ok S'.w a.defers->QaX P .any ops (QM S N db K) fuel listed a S'.w:=by
 have hL:∀ {k:Nat} {q:QI},F[k]? = some q->L[k]? = some (q.1,q.2.1):=λ{k q} h=>by rw[hF,Vl,h]; rfl
 have hLm:∀ {q:QI},q∈F->(q.1,q.2.1)∈L:=λ{q} h=>by rw[hF]; exact Vm.2 ⟨q,h,rfl⟩
 have hcov:∀ i,i<ops.size->∃ q∈F,q.1=i:=λi hi=>by
  obtain⟨x,hx,hxi⟩:=hd.cov i hi;rw[hF]at hx;obtain⟨q,hq,rfl⟩:=Vm.1 hx;exact⟨q,hq,hxi⟩
 have hfin:∀ (k:Nat) (q:QI) (m:Nat) (t:Nat),F[k]? = some q->q.2.1.d=some t->k<m->(QP env ((F.take m).map (·.2.1)) ((F.take m).map (·.2.2))).get t=q.2.2:=by
  intro k q m t hk hqt hkm;have hkt:(F.take m)[k]? = some q:=by rw[YG hkm]; exact hk
  refine Qc6 _ _ env t k q.2.1 q.2.2 (by rw[Vl,hkt]; rfl) (by rw[Vl,hkt]; rfl) hqt λj p hkj hj hp => ?_;rw[Vl]at hj
  cases hjq:(F.take m)[j]? with
  |none=>rw[hjq]at hj; cases hj
  |some y =>
   rw[hjq]at hj
   cases hj
   have hjm:F[j]? = some y:=by
    rw[VB]at hjq;split at hjq
    . exact hjq
    . cases hjq
   have:=hd.one k j _ _ t (hL hk) (hL hjm) hqt hp;omega
 have hnot:∀ (m t:Nat),(∀ k q,k<m->F[k]? = some q->q.2.1.d≠some t)->(QP env ((F.take m).map (·.2.1)) ((F.take m).map (·.2.2))).get t=env.get t:=by
  intro m t h;refine QcD _ _ env t λo ho => ?_;obtain⟨y,hy,rfl⟩:=Vm.1 ho;obtain⟨j,hj⟩:=Vk hy;rw[VB]at hj;split at hj
  . rename_i hjm; exact h j y hjm hj
  . cases hj
 have hdone:∀ (listed:Array Bool) (S':St) (a:Act) (E:Env),(∀ i,i<ops.size->listed.getD i false=true)->(∀ q∈F,listed.getD q.1 false=true->∀ t,q.2.1.d=some t->E.get t=q.2.2)->(∀ t,(∀ q∈F,listed.getD q.1 false=true->q.2.1.d≠some t)->E.get t=env.get t) ->
  S'.H=S.H->Ext S.H.length S S'->Sim S'->Qx S' E a.tmps->a.tmps.size=N->db.Ok S'.w a.defers->QM S N db K .normal a S'.w:=by
  intro listed S' a E hall h1 h2 hH he hS henv hN hdf;refine⟨.normal,_,S'.ρ,S'.H,trivial,he,hS,henv.congr λt=>.inr ?_,hN,hdf,by rw[hH]; exact hK⟩;have hfull:F.take F.length=F:=YZ;by_cases hw:∃ q∈F,q.2.1.d=some t
  . obtain⟨q,hq,hqt⟩:=hw;obtain⟨k,hk⟩:=Vk hq;obtain⟨o,ho,_⟩:=hchk _ (hLm hq);rw[h1 q hq (hall q.1 (VD.1 ho).1) t hqt];have:=hfin k q F.length t hk hqt (Qb hk);rw[hfull]at this; exact this
  . rw[h2 t (λq hq _ h=>hw ⟨q,hq,h⟩)];have:=hnot F.length t (λk q _ hk h=>hw ⟨q,Vn hk,h⟩);rw[hfull]at this; exact this
 intro fuel
 induction fuel with
 |zero =>
  intro listed S' a E hf hsz hcl h1 h2 hH he hS henv hN hdf;have hun:F.filter (unl listed)=[]:=Vu (by omega);have hall:∀ i,i<ops.size->listed.getD i false=true:=by
   intro i hi
   cases h:listed.getD i false with
   |true=>rfl
   |false =>
    obtain⟨q,hq,rfl⟩:=hcov i hi;have:q∈F.filter (unl listed):=by rw[V2]; exact⟨hq,by simp[unl]; simpa using h⟩
    rw[hun]at this; simp at this
  refine⟨?_,hdone listed S' a E hall h1 h2 hH he hS henv hN hdf⟩;rw[ZE];intro i hi;rw[mem_ready]at hi;obtain⟨h1,o,ho,_⟩:=hi;have hlt:i<ops.size:=(VD.1 ho).1;rw[Qek (by omega),hall i hlt]at h1; cases h1
 |succ fuel ih =>
  intro listed S' a E hf hsz hcl h1 h2 hH he hS henv hN hdf;refine⟨λhr=>hdone listed S' a E (Qi8 hd.edge hsz hr) h1 h2 hH he hS henv hN hdf,λj hj => ?_⟩;rw[mem_ready]at hj;obtain⟨g1,o,ho,hdeps⟩:=hj;have hlt:j<ops.size:=(VD.1 ho).1;rw[Qek (by omega)]at g1;have before:=λ(i:Nat)=>Qhx (i:=i) ho hcl hdeps;have hjs:j<listed.size:=by omega
  have hset:∀ k,(listed.setIfInBounds j true).getD k false=false->listed.getD k false=false:=by
   intro k hk
   cases h:listed.getD k false with
   |false=>rfl
   |true=>rw[(Qak (k:=k) hjs).2 (.inr h)]at hk; cases hk
  have hclosed':Qda ops λt=>(listed.setIfInBounds j true).getD t false=true:=by
   intro i p hi hp e hem hb;rw[Qak hjs]at hi ⊢;rcases hi with rfl|hi
   . rw[ho]at hp; cases hp; exact .inr (hdeps e (by simpa using hem) hb)
   . exact .inr (hcl i p hi hp e hem hb)
  obtain⟨q,hq,rfl⟩:=hcov j hlt;obtain⟨k,hk⟩:=Vk hq;obtain⟨o',ho',hci⟩:=hchk _ (hLm hq);rw[ho]at ho'; cases ho'
  have hm:∀ t∈q.2.1.slots,E.get t=(QP env ((F.take k).map (·.2.1)) ((F.take k).map (·.2.2))).get t:=by
   intro t ht;by_cases hw:∃ y∈F,y.2.1.d=some t
   . obtain⟨y,hy,hyt⟩:=hw;obtain⟨m,hm⟩:=Vk hy;rcases hd.dep m k _ _ t (hL hm) (hL hk) hyt ht with ⟨hb,hlt2⟩|⟨hb,hlt2⟩
     . rw[h1 y hy (before y.1 hb) t hyt,hfin m y k t hm hyt hlt2]
     . have hyl:∀ z∈F,listed.getD z.1 false=true->z.2.1.d≠some t:=by
        intro z hz hzl hzt;obtain⟨n,hn⟩:=Vk hz;have e:=hd.one n m _ _ t (hL hn) (hL hm) hzt hyt;subst e;rw[hn]at hm; cases hm
        obtain⟨o2,ho2,_⟩:=hchk _ (hLm hy);have:=QmL ho2 hcl hzl hb;rw[g1]at this; cases this
       rw[h2 t hyl,hnot k t λn z hnk hn hzt => ?_];have e:=hd.one n m _ _ t (hL hn) (hL hm) hzt hyt;omega
   . rw[h2 t (λz hz _ h=>hw ⟨z,hz,h⟩),hnot k t (λn z _ hn h=>hw ⟨z,Vn hn,h⟩)]
  have hq1:=QcG (hqv k q hk) hm;rw[<-hH]at hq1;have hxo:xo P q.2.1 E S'.H (λx env' H'=>x=.normal/\env'=E.put q.2.1.d q.2.2/\H'=S'.H):=QkA hq1 ⟨rfl,rfl,rfl⟩;refine Qf4 ho (Qdk hS henv hN hdf hci hxo ?_ ?_)
  . rintro a' w' ⟨x,env',ρ',H',hx',hext,hsim,henv',hN',hdf',hxn,rfl,rfl⟩;refine ih _ ⟨ρ',S'.H,w'⟩ a' _ ?_ (by simpa using hsz) hclosed' ?_ ?_ hH (he.trans (hext.mono (he.len (Vc _)))) hsim henv' hN' hdf'
    . have:=Qiy (p:=unl listed) (q:=unl (listed.setIfInBounds q.1 true)) F (by
       intro q' _ h;simp only[unl,VH]at h ⊢;exact hset _ h) q hq (by simp only[unl,g1]; rfl) (by
       simp only[unl,Z4];exact(Qak hjs).2 (.inl rfl))
      omega
    . intro z hz hzl t hzt;by_cases h3:q.2.1.d=some t
      . rw[h3,QdM];obtain⟨n,hn⟩:=Vk hz;have e:=hd.one n k _ _ t (hL hn) (hL hk) hzt h3;subst e;rw[hn]at hk; cases hk; rfl
      . rw[QbT h3];rw[Qak hjs]at hzl;rcases hzl with hzl|hzl
        . obtain⟨n,hn⟩:=Vk hz;rcases hd.idx n k _ _ (hL hn) (hL hk)with e|e
          . subst e; rw[hn]at hk; cases hk; exact absurd hzt h3
          . exact absurd hzl e
        . exact h1 z hz hzl t hzt
    . intro t ht;have h3:q.2.1.d≠some t:=ht q hq ((Qak hjs).2 (.inl rfl));rw[QbT h3];exact h2 t λz hz hzl=>ht z hz ((Qak hjs).2 (.inr hzl))
  . rintro ch a' w' ⟨x,env',ρ',H',hx',hext,hsim,henv',hN',hdf',hxn,_⟩;subst hxn;simp only[ER]at hx'
theorem QpO {o:Ins} (n:Nat) (h:o.j.quiet=true):o.rs n=o:=by
 obtain⟨d,g,j⟩:=o
 cases j with
 |p i=>rfl
 |q f as=>rfl
 |e i=>simp[J.quiet]at h
theorem QpE:QgP P QfD:=by
 intro N ops m l env H K hc hd hx db S a hSH hS henv hN hdf;obtain⟨h1,h2,h3⟩:=Qmw hd;have h2l:(m.zip l).map (·.2)=l:=List.map_snd_zip (by omega);rw[<-h2l]at hx;obtain⟨F,rest,pend',e1,e2,g3,g4,g5,g8,g6,g7⟩:=QfT (m.zip l) [] env hx;have hr:rest=[]:=by
  rcases e2 with e2|⟨c,r,hr,hq⟩
  . exact e2
  . have hc:c∈m.zip l:=by rw[e1,hr]; simp
    have:=h3 c.2 (List.of_mem_zip hc).2;rw[this]at hq; cases hq
 subst hr;rw[VQ]at e1;have hchk:∀ x∈m.zip l,∃ o,ops[x.1]? = some o/\Qbr P N ops o x.2=true:=by
  intro x hx;unfold Qbm at hc;rw[Vv]at hc;have:=hc x hx;split at this
  . rename_i o ho; exact⟨o,ho,this⟩
  . cases this
 subst hSH;have hnone:∀ i:Nat,(Array.replicate ops.size false).getD i false=false:=λi=>by
  rw[VU];by_cases h:i<ops.size<;>simp[h]
 have hlen:F.length=ops.size:=by
  have h4:(m.zip l).length=ops.size:=by
   unfold QfD at hd;simp only[Va,Wc]at hd;rw[List.length_zip]; omega
  rw[e1]at h4; simpa using h4
 refine Qp6 (S:=S) (db:=db) (N:=N) (K:=K) h1 e1 hchk g6 g7 ops.size (Array.replicate ops.size false) ⟨S.ρ,S.H,S.w.drew⟩ a env ?_ (by simp) ?_ ?_ (λt _=>rfl) rfl (QdW rfl rfl rfl rfl) (QfI hS (w':=S.w.drew) rfl rfl rfl rfl) (henv.ext (QdW (w':=S.w.drew) rfl rfl rfl rfl)) hN hdf.drew
 . have:=YJ (unl (Array.replicate ops.size false)) F;omega
 . intro j o hj;simp only[hnone]at hj; cases hj
 . intro q _ hj;rw[hnone]at hj; cases hj
end
def Qcy (ops:Array Oper) (ns:List Nat) (l:List Ins):Bool:=Qh ops ns l||QfD ops ns l
theorem Qoo {P:Wz} (hm:P.follows .mixedOrders=true):DOk P Qcy where
 rs:=by
  intro n ops m l h;unfold Qcy at h ⊢;rw[VY]at h ⊢;rcases h with h|h
  . exact .inl ((QdP hm).rs n ops m l h)
  . have e:l.map (Ins.rs n)=l:=by
     conv=>rhs; rw[<-List.map_id l]
     exact VA λo ho=>QpO n ((Qmw h).2.2 o ho)
    rw[e]; exact .inr h
 mixed:=hm
 ok:=by
  intro N ops m l env H K hc hd hx;unfold Qcy at hd;rw[VY]at hd;rcases hd with h|h
  . exact(QdP hm).ok N ops m l env H K hc h hx
  . exact QpE N ops m l env H K hc h hx
theorem Qt6 {P:Wz} (hm:P.follows .mixedOrders=true) {f:WB} {fn:Func} {i:IC} {rs:List RS} (hf:P.funcs[f]? = some fn) (hc:QdQ P Qcy fn i rs=true)
 {args:Wv} {H:Wu} {out:Out} {H':Wu} (hn:args.length=fn.params.size+fn.nfree)
 (hx:closed H->X P fn.ntmps Qcy i (QbC args) H (Fin H.length rs out H')):Ok P f args H out H':=by
 unfold QdQ at hc;rw[Va,Va,Va]at hc;obtain⟨⟨⟨h1,h2⟩,h3⟩,h4⟩:=hc;split at h1
 . rename_i c hb;exact QmB (Qoo hm) hf hb (by simpa using h2) (by rw[hn]; simpa using h4) h1 h3 hx
 . cases h1
theorem Qe6 {P:Wz} (hm:P.follows .mixedOrders=true) {N:Nat} {i j:IC} (e:i=j) {env:Env} {H:Wu} {K:Wt}
 (h:X P N Qcy j env H λx env H=>match x with|.normal=>LI P N Qcy i env H K|x=>K x env H):LI P N Qcy i env H K:=by
 subst e; exact LI.round (Qoo hm) h
end
end Go.Ab
