/- Steps of the proof. -/
import Derived.Test.YtmkdpmfhlfhjkaaGreatDoorPart5
import Derived.Test.YtmkdpmfhlfhjkaaGreatDoorPart6
import Derived.Test.YtmkdpmfhlfhjkaaGreatDoorPKb
import Derived.Test.YtmkdpmfhlfhjkaaGreatDoorPart4
import Derived.Test.YtmkdpmfhlfhjkaaGreatDoorPart3
set_option linter.all false
namespace Go.Proofs.YtmkdpmfhlfhjkaaGreatDoor
open Go.Ab
mutual
theorem prp_er:∀ {a b:Ex},a.er=b.er->b.prp->a.prp
 |.mk op n nm l p,.mk op' n' nm' l' p',h,hb=>by
  simp only[Ex.er,Ex.mk.injEq]at h;obtain⟨rfl,rfl,rfl,hl,_⟩:=h;unfold Ex.prp at hb ⊢;obtain⟨h1,h2,h3,h4⟩:=hb;have hle:=Qc1 hl;have hn:l=[]↔l'=[]:=by rw[<-Yd,<- Yd,hle]
  refine⟨?_,h2,h3,Ql7 hl h4⟩;simp only[QdY,hle,ZC.2 hn]at h1 ⊢;exact h1
theorem Ql7:∀ {a b:List Ex},Ex.erL a=Ex.erL b->Ex.prpL b->Ex.prpL a
 |[],_,_,_=>trivial
 |x::a,[],h,_=>by simp[Ex.erL]at h
 |x::a,y::b,h,hb=>by
  simp only[Ex.erL,List.cons.injEq]at h;exact⟨prp_er h.1 hb.1,Ql7 h.2 hb.2⟩
end
mutual
theorem Qw4:∀ {a b:Ex},a.er=b.er->Qcz a=Qcz b
 |.mk op n nm l p,.mk op' n' nm' l' p',h=>by
  simp only[Ex.er,Ex.mk.injEq]at h;unfold Qcz;exact QnE h.2.2.2.1
theorem QnE:∀ {a b:List Ex},Ex.erL a=Ex.erL b->Qau a=Qau b
 |[],[],_=>rfl
 |[],y::b,h=>by simp[Ex.erL]at h
 |x::a,[],h=>by simp[Ex.erL]at h
 |x::a,y::b,h=>by
  simp only[Ex.erL,List.cons.injEq]at h;unfold Qau;rw[Qw4 h.1,QnE h.2]
end
theorem QbZ.er {a b:List Ex} (h:Ex.erL a=Ex.erL b) (hb:QbZ b):QbZ a :=
 ⟨by rw[Qc1 h]; exact hb.len,Qic.1 (Ql7 h (Qic.2 hb.prp)),by rw[QnE h]; exact hb.cst⟩
theorem Qjs {α β:Type} {f:α->β} {P:α->Prop} {l m:List α} (h:l.map f=m.map f) (hp:∀ a b,f a=f b->P b->P a) (hm:∀ x∈m,P x):∀ x∈l,P x:=by
 intro x hx;obtain⟨i,hi,rfl⟩:=Y3 hx;have hl:l.length=m.length:=by simpa using Zp List.length h
 have:=Zp (λl=>l[i]?) h;exact hp _ (m[i]'(by omega)) (by simpa[hi,show i<m.length by omega]using this) (hm _ (Vt _))
theorem Qf7 {α β:Type} {f:α->β} {l m:List α} (h:l.map f=m.map f):l.length=m.length:=by simpa using Zp List.length h
theorem Qp.prp_er {a b:Qp} (h:a.er=b.er) (hb:b.prp):a.prp:=by
 simp only[Qp.er,Qp.mk.injEq]at h;exact⟨by rw[h.1]; exact hb.nm,hb.e.er (by simp only[Ex.erL,h.2.1])⟩
theorem Qn.prp_er {a b:Qn} (h:a.er=b.er) (hb:b.prp):a.prp:=by
 simp only[Qn.er,Qn.mk.injEq]at h;obtain⟨h1,h2,h3,h4,h5,_⟩:=h;exact⟨by rw[h1]; exact hb.nm,by rw[Qc1 h2]; exact hb.wh1,hb.wh.er h2,Qjs h4 (λ_ _=>Qp.prp_er) hb.sets,by rw[Qf7 h4]; exact hb.len,by rw[h5]; exact hb.go⟩
theorem Qhr {a b:List Ex} (h:Ex.erL a=Ex.erL b) (hb:b=[]):a=[]:=Yd.1 (by rw[Qc1 h,hb]; rfl)
theorem Qpp {α β:Type} {f:α->β} {l m:List α} (h:l.map f=m.map f) (hb:m=[]):l=[]:=Yd.1 (by rw[Qf7 h,hb]; rfl)
theorem Qb.prp_er {a b:Qb} (h:a.er=b.er) (hb:b.prp):a.prp:=by
 simp only[Qb.er,Qb.mk.injEq]at h;obtain⟨e1,e2,e3,e4,e5,e6,e7,e8,e9,e10,e11,_⟩:=h;refine⟨by rw[e2]; exact hb.lb,?_⟩;rcases hb.kd with ⟨k,d,h1,h2,h3⟩|⟨k,t⟩|⟨k,e⟩
 . exact .inl ⟨by rw[e1]; exact k,⟨by rw[e3]; exact d.nm,by rw[e4]; exact d.lo,by rw[e5]; exact d.hi,by rw[e8]; exact d.seen,by rw[e8]; exact d.len,by rw[Qc1 e6]; exact d.wt1,d.wt.er e6,by rw[e7,e8]; exact d.all⟩,Qhr e9 h1,Qpp e10 h2,Qhr e11 h3⟩
 . exact .inr (.inl ⟨by rw[e1]; exact k,⟨by rw[Qc1 e9]; exact t.who1,t.who.er e9,by rw[Qf7 e10]; exact t.acts0,Qjs e10 (λ_ _=>Qn.prp_er) t.acts,by rw[Qf7 e10]; exact t.len,by rw[e3]; exact t.nm,by rw[e4]; exact t.lo,by rw[e5]; exact t.hi,Qhr e6 t.wt,by rw[e7]; exact t.all,by rw[e8]; exact t.seen,Qhr e11 t.pays⟩⟩)
 . exact .inr (.inr ⟨by rw[e1]; exact k,⟨by rw[Qc1 e11]; exact e.pays0,e.pays.er e11,by rw[e3]; exact e.nm,by rw[e4]; exact e.lo,by rw[e5]; exact e.hi,Qhr e6 e.wt,by rw[e7]; exact e.all,by rw[e8]; exact e.seen,Qhr e9 e.who,Qpp e10 e.acts⟩⟩)
theorem Qm.prp_er {a b:Qm} (h:a.er=b.er) (hb:b.prp):a.prp:=by
 simp only[Qm.er,Qm.mk.injEq]at h;exact⟨by rw[h.1]; exact hb.nm,by rw[h.2.1]; exact hb.lo,by rw[h.2.1]; exact hb.hi⟩
theorem QC.prp_er {a b:QC} (h:a.er=b.er) (hb:b.prp):a.prp:=by
 simp only[QC.er,QC.mk.injEq]at h;obtain⟨h1,h2,h3,h4⟩:=h;exact⟨by rw[h1]; exact hb.nm,by rw[h2]; exact hb.pl,Qjs h3 (λ_ _=>Qm.prp_er) hb.vars,by rw[Qf7 h3]; exact hb.vlen,Qjs h4 (λ_ _=>Qb.prp_er) hb.stages,by rw[Qf7 h4]; exact hb.slen,by rw[Qf7 h4]; exact hb.s0⟩
def okE (e:Ex):Bool:=Qig e&&decide (Qcz e<=1000)
theorem QhZ {l:List Ex} (hl:l.length<=100) (h:l.all okE=true):QbZ l:=by
 have h2:=Vn.1 h;refine⟨hl,λe he=>Qnj (by have:=h2 e he; unfold okE at this; rw[Va]at this; exact this.1),?_⟩;have key:∀ l:List Ex,(∀ e∈l,okE e=true)->Qau l<=1+1000*l.length:=by
  intro l
  induction l with
  |nil=>intro _; simp[Qau]
  |cons x r ih =>
   intro h;have h1:=h x (by simp);have h3:=ih λe he=>h e (by simp[he]);unfold okE at h1;simp only[Va,Zq]at h1;unfold Qau;simp only[Vh];omega
 have:=key l h2;omega
theorem QpT:Qf3 8 3 (λg=>okE (exE g))=true:=by kernel_rfl
theorem Qx6:Qf3 4 3 (λg=>okE (cdE g))=true:=by kernel_rfl
theorem QpL:Qf3 4 3 (λg=>upto 3 λp=>okE (QhI (some g) p)&&okE (QhI none p))=true:=by kernel_rfl
theorem QBt:upto 4 (λw=>upto 3 λx=>(wgE w x).all okE)=true:=by kernel_rfl
theorem QyG:upto 10 (λi=>Qb8 (vN i)&&(Qb8 (sN i)&&(Qb8 (gN i)&&Qb8 (aN i))))=true:=by kernel_rfl
theorem QkQ {s:ZE} (h:Qb8 s=true):Qcs s:=by
 refine⟨?_,h⟩;have:=(QyY h).1.2.2.2;omega
theorem QeH {i:Nat} (h:i<10):Qcs (vN i)/\Qcs (sN i)/\Qcs (gN i)/\Qcs (aN i):=by
 have:=QbO QyG h;simp only[Va]at this;exact⟨QkQ this.1,QkQ this.2.1,QkQ this.2.2.1,QkQ this.2.2.2⟩
theorem QBd {s:Nat×GX} {v:Nat} (hv:v<=3) (h:s.1<v/\s.2.Wf v 8):(QgR s).prp :=
 ⟨(QeH (by omega)).1,QhZ (by simp) (by simpa[QgR]using Qgi QpT hv h.2)⟩
theorem QAp {k v i n:Nat} {g:GA} (hk:k<10) (hv:v<=3) (hn:n<=4) (h:g.Wf v i n):(QfJ k g).prp:=by
 refine⟨(QeH hk).2.2.2,?_,?_,?_,?_,?_⟩
 . unfold QfJ whL; cases g.wh<;>simp
 . unfold QfJ whL
   cases hw:g.wh with
   |none=>exact Qgf
   |some c=>exact QhZ (by simp) (by simpa using Qgi Qx6 hv (h.wh c hw))
 . intro s hs;obtain⟨x,hx,rfl⟩:=Vx.1 hs;exact QBd hv (h.sets x hx)
 . have:=h.len; simp[QfJ]; omega
 . unfold QfJ goN
   cases hg:g.go with
   |none=>exact .inl rfl
   |some t=>exact .inr (QeH (by have:=h.go t hg; omega)).2.1
theorem Qr9 {v i n:Nat} (hv:v<=3) (hn:n<=4):∀ (l:List GA) (k:Nat),k+l.length<=10->(∀ a∈l,a.Wf v i n)->(∀ a∈Qd2 k l,a.prp)/\(Qd2 k l).length=l.length
 |[],k,_,_=>⟨λa ha=>by simp[Qd2]at ha,rfl⟩
 |g::r,k,hl,h=>by
  simp only[Vh]at hl;obtain⟨h1,h2⟩:=Qr9 hv hn r (k+1) (by omega) λa ha=>h a (by simp[ha]);refine⟨λa ha => ?_,by simp[Qd2,h2]⟩;rcases Vd.1 ha with rfl|ha
  . exact QAp (by omega) hv hn (h g (by simp))
  . exact h1 a ha
theorem Qyt {pl v n i:Nat} {g:GS} (hi:i<10) (hv:v<=3) (hn:n<=4) (hp:pl<=3) (h:g.Wf pl v n i):(Qf0 i g).prp:=by
 cases g with
 |deal x r w s p =>
  obtain⟨h1,h2,h3,h4,h5⟩:=h;have hw1:(wgE w x).length<=100:=by
   unfold wgE;repeat' split
   all_goals simp
  have hw:QbZ (wgE w x):=QhZ hw1 (QbO (QbO QBt h3) (by omega));refine⟨.inr (QeH hi).2.1,.inl ⟨rfl,⟨(QeH (by omega)).1,?_,?_,?_,?_,?_,hw,?_⟩,rfl,rfl,rfl⟩⟩
  . show(0:Int)<=(loV r:Int)/\(loV r:Int)<=1000000000;unfold loV; split<;>(try split)<;>omega
  . show(0:Int)<=(hiV r:Int)/\(hiV r:Int)<=1000000000;unfold hiV; split<;>(try split)<;>omega
  . intro m hm;have hm:m∈(if s=1 then [(p:Int)]else []):=hm;split at hm
    . simp at hm; omega
    . simp at hm
  . show(if s=1 then [(p:Int)]else []).length<_;split<;>simp
  . show(wgE w x).length<=1;unfold wgE; repeat' split
    all_goals simp
  . intro ha;have ha:decide (s=0)=true:=ha;show(if s=1 then [(p:Int)]else [])=[];rw[Zq]at ha;rw[Zn (by omega)]
 |turn w p acts =>
  obtain⟨h1,h2,h3,h4,h5⟩:=h;obtain⟨k1,k2⟩:=Qr9 hv hn acts 0 (by omega) h5;have hw:QbZ [QhI w p]:=QhZ (by simp) (by
   cases w with
   |none =>
    have:GX.Wf 3 4 ⟨0,0,0⟩:=⟨by decide,by decide,by decide⟩;have:=QbO (Qgi QpL (Vb 3) this) (show p<3 by omega);rw[Va]at this;simpa using this.2
   |some g =>
    have:=QbO (Qgi QpL hv (h1 g rfl)) (show p<3 by omega);rw[Va]at this;simpa using this.1)
  exact⟨.inr (QeH hi).2.1,.inr (.inl ⟨rfl,⟨rfl,hw,by show 0<(Qd2 0 acts).length; omega,k1,by show(Qd2 0 acts).length<_; omega,rfl,rfl,rfl,rfl,rfl,rfl,rfl⟩⟩)⟩
theorem Qo9 {pl v n:Nat} (hv:v<=3) (hn:n<=4) (hp:pl<=3):∀ (l:List GS) (i:Nat),i+l.length<=10->Qfi pl v n i l->(∀ x∈Qd1 i l,x.prp)/\(Qd1 i l).length=l.length
 |[],i,_,_=>⟨λa ha=>by simp[Qd1]at ha,rfl⟩
 |g::r,i,hl,h=>by
  simp only[Vh]at hl;obtain⟨h1,h2⟩:=Qo9 hv hn hp r (i+1) (by omega) h.2;refine⟨λa ha => ?_,by simp[Qd1,h2]⟩;rcases Vd.1 ha with rfl|ha
  . exact Qyt (by omega) hv hn hp h.1
  . exact h1 a ha
theorem QqM:∀ (l:List Nat) (i:Nat),i+l.length<=10->(∀ c∈l,c<4)->(∀ x∈QdN i l,x.prp)/\(QdN i l).length=l.length
 |[],i,_,_=>⟨λa ha=>by simp[QdN]at ha,rfl⟩
 |c::r,i,hl,h=>by
  simp only[Vh]at hl;obtain⟨h1,h2⟩:=QqM r (i+1) (by omega) λa ha=>h a (by simp[ha]);refine⟨λa ha => ?_,by simp[QdN,h2]⟩;rcases Vd.1 ha with rfl|ha
  . refine⟨(QeH (by omega)).1,?_,?_⟩
    . show -1000000000<=QfK c;unfold QfK; repeat' split
      all_goals omega
    . show QfK c<=1000000000;unfold QfK; repeat' split
      all_goals omega
  . exact h1 a ha
theorem Qz9 {g:GR} (h:g.Wf):(QnV g).prp:=by
 have hs:=h.st4;have hv:=h.v3;have hp:=h.pl3;have hp1:=h.pl1;have hpl:=h.payl;obtain⟨k1,k2⟩:=Qo9 hv hs hp g.stages 0 (by omega) h.sts;obtain⟨j1,j2⟩:=QqM g.ini 0 (by have:=h.inl; omega) h.ini;refine⟨(QeH (by have:=h.nm; omega)).2.2.1,by show(0:Int)<=(g.pl:Int)/\(g.pl:Int)<=_; omega,j1,by show(QdN 0 g.ini).length<_; have:=h.inl; omega,?_,?_,?_⟩
 . intro x hx;rcases Vq.1 hx with hx|hx
   . exact k1 x hx
   . rw[VU.1 hx];refine⟨.inr (QeH (by omega)).2.1,.inr (.inr ⟨rfl,⟨?_,QhZ ?_ ?_,rfl,rfl,rfl,rfl,rfl,rfl,rfl,rfl⟩⟩)⟩
     . show 0<(g.pays.map exE).length;simp; omega
     . show(g.pays.map exE).length<=100;simp; omega
     . rw[Vn];intro e he;obtain⟨x,hx,rfl⟩:=Vx.1 he;exact Qgi QpT hv (h.pays x hx)
 . show(Qd1 0 g.stages++[_]).length<_;simp[k2]; omega
 . show 0<(Qd1 0 g.stages++[_]).length;simp
structure Cp where
 c:Cx
 c':Cx
 m:Nat
 w:Nat
 k:Nat
 cut:Bool
def Tk (t t':Tok):Prop:=t'.k=t.k/\(t.k≠2->t'.tx=t.tx)/\(t.k=2->t'.n=t.n)
theorem Tk.peek {t t':Tok} (h:Tk t t') (s:ZE):(!decide (t'.k=2)&&decide (t'.tx=s))=(!decide (t.k=2)&&decide (t.tx=s)):=by
 rw[h.1];by_cases hk:t.k=2
 . simp[hk]
 . rw[h.2.1 hk]
structure Cp.Ok (s:Cp):Prop where
 tk:∀ a,a<s.k->∃ (h:a<s.c.ts.length) (h':a+s.m<s.c'.ts.length),Tk s.c.ts[a] s.c'.ts[a+s.m]
 fin:(s.cut=true/\s.c'.ts.length=s.k+s.m)\/(s.k=s.c.ts.length/\(s.c'.ts.length=s.k+s.m\/∃ h:s.k+s.m<s.c'.ts.length,s.c'.ts[s.k+s.m].k=3/\s.c'.ts[s.k+s.m].tx=[41]))
structure Cp.L (s:Cp) (d:Nat) (r r':Rd):Prop where
 e:r.e=0
 e':r'.e=0
 a:r'.a=r.a+s.m
 k:r.a<=s.k
 v:r.v+((d+s.w:Nat):Int)=40
 v':r'.v+(d:Int)=40
 d:d+s.w<=40
def Cp.E (s:Cp) (r:Rd):Prop:=s.cut=true/\r.e=0/\r.a=s.c'.ts.length
def Cp.X (s:Cp) (r:Rd):Prop:=(s.cut=true/\r.e=11/\r.p=s.c'.en)\/(s.w≠0/\r.e=5)
def Cp.B (s:Cp) (r:Rd):Prop:=s.E r\/s.X r
section
variable {s:Cp}
theorem Qc7 {r:Rd} (h:s.X r):r.e≠0:=by rcases h with ⟨_,h,_⟩|⟨_,h⟩<;>omega
theorem Qz6 {r:Rd} (h:s.E r) (f:Tok->Bool):Qaj s.c' r f=false:=by
 unfold Qaj;rw[ZA (by have:=h.2.2; omega)]; simp
theorem Qom {r:Rd} (h:s.B r) (f:Tok->Bool):Qaj s.c' r f=false:=by
 rcases h with h|h
 . exact Qz6 h f
 . unfold Qaj; simp[Qc7 h]
theorem Qa9 {r:Rd} (h:s.B r) (t:ZE):Qd s.c' t r=false:=Qom h _
theorem QfO {r:Rd} (h:s.B r):QU s.c' r=false:=Qom h _
theorem QnR {r:Rd} (h:s.B r):QaX s.c' r=false:=Qom h _
theorem QhH {r:Rd} (h:s.B r) (ops:List (ZE×Int)):Qal s.c' ops r=none:=Qqy λo _=>Qa9 h o.1
theorem Qog {r:Rd} (h:s.B r):s.X (Qg s.c' 11 r):=by
 rcases h with h|h
 . refine .inl ⟨h.1,?_⟩;unfold Qg;rw[Zo h.2.1];refine⟨rfl,?_⟩;show Qk s.c' r=_;unfold Qk;rw[ZA (by have:=h.2.2; omega)]
 . rw[Qeq (Qc7 h)]; exact h
theorem Qdt {r:Rd} (h:s.B r) (t:ZE):s.X (Qh s.c' t r).2:=by
 unfold Qh;rw[Qa9 h]; exact Qog h
theorem Qbw {r:Rd} (h:s.B r) (t:ZE):s.X (t2 s.c' t r):=Qdt h t
theorem QiI {r:Rd} (h:s.B r):s.X (QK s.c' r).2:=by
 unfold QK;rw[QfO h]; exact Qog h
theorem Qfy {r:Rd} (h:s.B r):s.X (nmR s.c' r).2:=by
 unfold nmR;rw[QnR h]; exact Qog h
theorem B_up {r:Rd} (h:s.B r):s.B (upR r):=h
theorem B_dn {r:Rd} (h:s.B r):s.B (dnR r):=h
theorem Qkw {r:Rd} (h:s.X r):s.X (dnR r):=h
theorem Qov {r:Rd} (h:s.B r) (t:ZE):s.X (Qr s.c' t r).2:=by
 unfold Qr;rw[Qa9 h,Zn (by simp)];exact Qdt (B_up h) t
def Cp.Dn {α:Type} (s:Cp) (F:Rd->α×Rd):Prop:=∀ r,s.B r->s.B (F r).2
variable {F F' G G':Rd->Ex×Rd}
theorem QgT {ops:List (ZE×Int)} {n:Nat} {e:Ex} {r:Rd} (h:s.B r):(QaC s.c' ops F' n e r).2=r:=by
 rw[Qd6 (QhH h ops)]
theorem Dn.bin {ops:List (ZE×Int)} (hF:s.Dn F'):s.Dn (QS s.c' ops F'):=λr h=>by
 unfold QS;rw[QgT (hF r h)]; exact hF r h
theorem Dn.cmp (hF:s.Dn F'):s.Dn (Qar s.c' F'):=λr h=>by
 unfold Qar;rw[QhH (hF r h)]; exact hF r h
theorem Dn.nt (hF:s.Dn F'):s.Dn (Qat s.c' F' G'):=λr h=>by
 unfold Qat;rw[Zn (by rw[Qa9 h]; decide)]; exact hF r h
theorem Dn.fac:s.Dn (QF s.c' F' G'):=λr h=>by
 unfold QF;split
 . exact h
 . rw[Zn (by rw[QfO h]; decide),Zn (by rw[Qa9 h]; decide),Zn (by rw[Qa9 h]; decide)];have:QaN.find? (λw=>Qd s.c' w.1 r)=none:=by
    rw[Y7]; intro w _; rw[Qa9 h]; decide
   rw[this];exact .inr (Qfy h)
theorem Dn.lv (d:Nat):s.Dn (lv s.c' d).fac/\s.Dn (lv s.c' d).nt/\s.Dn (Q6 s.c' (lv s.c' d)):=by
 have h1:s.Dn (Proofs.YtmkdpmfhlfhjkaaGreatDoor.lv s.c' d).fac:=by cases d<;>exact Dn.fac
 have h2:s.Dn (Proofs.YtmkdpmfhlfhjkaaGreatDoor.lv s.c' d).nt:=by cases d<;>exact Dn.nt (Dn.cmp (Dn.bin (Dn.bin Dn.fac)))
 exact⟨h1,h2,Dn.bin (Dn.bin h2)⟩
theorem QoG (hF:s.Dn F'):∀ (m:Nat) (l:List Ex) (r:Rd),s.B r->s.B (QH s.c' F' m l r).2
 |0,l,r,h=>h
 |m+1,l,r,h=>by
  rw[QH,Zo (Qc7 (Qdt h [44]))];exact .inr (Qdt h [44])
def Cp.Sm {α:Type} (s:Cp) (d:Nat) (q:α->α->Prop) (F F':Rd->α×Rd):Prop :=
 ∀ r r',s.L d r r'->(F r).2.e=0->(s.L d (F r).2 (F' r').2/\r.a<=(F r).2.a/\q (F r).1 (F' r').1)\/s.B (F' r').2
def Cp.SmX {α:Type} (s:Cp) (d:Nat) (q:α->α->Prop) (F F':Rd->α×Rd):Prop :=
 ∀ r r',s.L d r r'->(F r).2.e=0->(s.L d (F r).2 (F' r').2/\r.a+1<=(F r).2.a/\q (F r).1 (F' r').1)\/s.X (F' r').2
def Cp.DnX {α:Type} (s:Cp) (F:Rd->α×Rd):Prop:=∀ r,s.B r->s.X (F r).2
def erq (x y:Ex):Prop:=y.er=x.er
def tt {α:Type} (_ _:α):Prop:=True
theorem Cp.Sm.step {α:Type} {d:Nat} {q:α->α->Prop} {F F':Rd->α×Rd} (hS:s.Sm d q F F') (hD:s.Dn F') {P:Prop} {r r':Rd} (h:(s.L d r r'/\P)\/s.B r') (h0:(F r).2.e=0) :
 (s.L d (F r).2 (F' r').2/\P/\r.a<=(F r).2.a/\q (F r).1 (F' r').1)\/s.B (F' r').2:=by
 rcases h with ⟨h,hp⟩|h
 . rcases hS r r' h h0 with ⟨h1,h2,h3⟩|h1
   . exact .inl ⟨h1,hp,h2,h3⟩
   . exact .inr h1
 . exact .inr (hD r' h)
theorem Cp.SmX.step {α:Type} {d:Nat} {q:α->α->Prop} {F F':Rd->α×Rd} (hS:s.SmX d q F F') (hD:s.DnX F') {P:Prop} {r r':Rd} (h:(s.L d r r'/\P)\/s.B r') (h0:(F r).2.e=0) :
 (s.L d (F r).2 (F' r').2/\P/\r.a+1<=(F r).2.a/\q (F r).1 (F' r').1)\/s.X (F' r').2:=by
 rcases h with ⟨h,hp⟩|h
 . rcases hS r r' h h0 with ⟨h1,h2,h3⟩|h1
   . exact .inl ⟨h1,hp,h2,h3⟩
   . exact .inr h1
 . exact .inr (hD r' h)
variable (hs:s.Ok)
include hs
theorem QhM {d:Nat} {r r':Rd} (h:s.L d r r'):s.E r'\/(∃ (h1:r.a<s.c.ts.length) (h2:r'.a<s.c'.ts.length),r.a<s.k/\Tk s.c.ts[r.a] s.c'.ts[r'.a]) \/
 (r.a=s.c.ts.length/\s.c.ts.length=s.k/\(∀ f,Qaj s.c r f=false)/\(∀ f,(∀ t:Tok,t.k=3->t.tx=[41]->f t=false)->Qaj s.c' r' f=false)/\(s.c'.ts.length=r'.a\/∃ h:r'.a<s.c'.ts.length,s.c'.ts[r'.a].k=3/\s.c'.ts[r'.a].tx=[41])):=by
 have ha:=h.a;by_cases hk:r.a<s.k
 . obtain⟨h1,h2,h3⟩:=hs.tk r.a hk;refine .inr (.inl ⟨h1,by omega,hk,?_⟩);simp only[ha]; exact h3
 . have he:r.a=s.k:=by have:=h.k; omega
   rcases hs.fin with ⟨hc,hl⟩|⟨hk2,hl⟩
   . exact .inl ⟨hc,h.e',by rw[ha,he,hl]⟩
   . refine .inr (.inr ⟨by omega,hk2.symm,λf => ?_,λf hf => ?_,?_⟩)
     . unfold Qaj; rw[ZA (by omega)]; simp
     . unfold Qaj;split
       . rename_i h1;rcases hl with hl|⟨h2,h3,h4⟩
         . omega
         . have e:s.c'.ts[r'.a]=s.c'.ts[s.k+s.m]:=by congr 1; omega
           rw[e,hf _ h3 h4]; simp
       . simp
     . rcases hl with hl|⟨h2,h3,h4⟩
       . left; omega
       . right;refine⟨by omega,?_⟩;have e:s.c'.ts[r'.a]'(by omega)=s.c'.ts[s.k+s.m]:=by congr 1; omega
         rw[e]; exact⟨h3,h4⟩
theorem Qml {d:Nat} {r r':Rd} (h:s.L d r r') {f:Tok->Bool} (hf:∀ t t',Tk t t'->f t'=f t) (hp:∀ t:Tok,t.k=3->t.tx=[41]->f t=false):s.E r'\/Qaj s.c' r' f=Qaj s.c r f:=by
 rcases QhM hs h with h1|⟨h1,h2,_,h3⟩|⟨_,_,h1,h2,_⟩
 . exact .inl h1
 . right;unfold Qaj;rw[Zx h1,Zx h2,hf _ _ h3,h.e,h.e']
 . right;rw[h1,h2 f hp]
theorem QaA {d:Nat} {r r':Rd} (h:s.L d r r') {t:ZE} (ht:t≠[41]):s.E r'\/Qd s.c' t r'=Qd s.c t r :=
 Qml hs h (λ_ _ h=>h.peek t) (λt _ h2=>by simp[h2,ht.symm])
theorem Qf4 {d:Nat} {r r':Rd} (h:s.L d r r'):s.E r'\/QU s.c' r'=QU s.c r :=
 Qml hs h (λt t' h=>by
  by_cases hk:t.k=1
  . have:=h.2.1 (by omega);simp only[h.1,this]
  . simp[h.1,hk]) (λt h1 _=>by simp[h1])
theorem QmD {d:Nat} {r r':Rd} (h:s.L d r r'):s.E r'\/QaX s.c' r'=QaX s.c r :=
 Qml hs h (λt t' h=>by simp only[h.1]) (λt h1 _=>by simp[h1])
theorem Qn3 {d:Nat} {r r':Rd} (h:s.L d r r') {ops:List (ZE×Int)} (ho:∀ o∈ops,o.1≠[41]):s.E r'\/Qal s.c' ops r'=Qal s.c ops r:=by
 by_cases hE:s.E r'
 . exact .inl hE
 . right;unfold Qal;congr 1
   induction ops with
   |nil=>rfl
   |cons o l ih =>
    rw[Yz,Yz,(QaA hs h (ho o (by simp))).resolve_left hE,ih λo h=>ho o (by simp[h])]
theorem QhR {d:Nat} {r r':Rd} (h:s.L d r r') (h1:r.a<s.c.ts.length):s.E r'\/(s.L d (Qa r) (Qa r')/\r'.a<s.c'.ts.length/\∃ h2:r'.a<s.c'.ts.length,Tk s.c.ts[r.a] s.c'.ts[r'.a]):=by
 rcases QhM hs h with h2|⟨_,h2,h3,h4⟩|⟨h2,_⟩
 . exact .inl h2
 . exact .inr ⟨⟨h.e,h.e',by show r'.a+1=r.a+1+s.m; have:=h.a; omega,h3,h.v,h.v',h.d⟩,h2,h2,h4⟩
 . omega
theorem SmX.take (d:Nat) (t:ZE):s.SmX d tt (Qh s.c t) (Qh s.c' t):=by
 intro r r' h h0;by_cases hp:Qd s.c t r=true
 . rcases QhR hs h (Qam hp)with h1|⟨h1,h2,h3,h4⟩
   . exact .inr (Qdt (.inl h1) t)
   . left;have hp':Qd s.c' t r'=true:=by
      unfold Qd Qaj at hp ⊢;rw[Zx (Qam hp)]at hp;rw[Zx h3,h.e'];rw[h.e]at hp;exact((Tk.peek h4 t).trans (by simpa using hp))
     unfold Qh;rw[hp,hp'];exact⟨h1,Vb _,trivial⟩
 . unfold Qh at h0;rw[Vk]at hp;rw[hp]at h0;exact absurd h0 (Qb7 (by decide) r)
theorem SmX.word (d:Nat):s.SmX d (λx y=>y=x) (QK s.c) (QK s.c'):=by
 intro r r' h h0;by_cases hp:QU s.c r=true
 . obtain⟨_,hlt,_⟩:=QbV hp;rcases Qf4 hs h with h1|h1
   . exact .inr (QiI (.inl h1))
   . rcases QhR hs h hlt with h2|⟨h2,h3,h4,h5⟩
     . exact .inr (QiI (.inl h2))
     . left;unfold QK;rw[h1,Zo hp,Zo hp];refine⟨h2,Vb _,?_⟩;simp only[Vz,Ve hlt,Ve h4,VX];refine h5.2.1 ?_;have:=(QbV hp).2.2;simp only[Va,Zq]at this;omega
 . unfold QK at h0;rw[Zn hp]at h0;exact absurd h0 (Qb7 (by decide) r)
theorem SmX.nm (d:Nat):s.SmX d (λx y=>y=x) (nmR s.c) (nmR s.c'):=by
 intro r r' h h0;by_cases hp:QaX s.c r=true
 . obtain⟨_,hlt,_⟩:=QbV hp;rcases QmD hs h with h1|h1
   . exact .inr (Qfy (.inl h1))
   . rcases QhR hs h hlt with h2|⟨h2,h3,h4,h5⟩
     . exact .inr (Qfy (.inl h2))
     . left;unfold nmR;rw[h1,Zo hp,Zo hp];refine⟨h2,Vb _,?_⟩;simp only[Vz,Ve hlt,Ve h4,VX];refine h5.2.2 ?_;have:=(QbV hp).2.2;simpa using this
 . unfold nmR at h0;rw[Zn hp]at h0;exact absurd h0 (Qb7 (by decide) r)
end
section
variable {s:Cp} {F F' G G':Rd->Ex×Rd} (hs:s.Ok)
include hs
theorem Qlo {d:Nat} {t:ZE} (ht:t≠[41]) {r r':Rd} (h:s.L d r r') (h0:(Qr s.c t r).2.e=0) :
 s.X (Qr s.c' t r').2\/∃ d0,d=d0+1/\s.L d0 (Qr s.c t r).2 (Qr s.c' t r').2/\r.a<=(Qr s.c t r).2.a:=by
 by_cases hp:Qd s.c t r=true
 . have hv:r.v≠40:=by
    intro hv;unfold Qr at h0;rw[Zo ⟨hp,hv⟩]at h0;have h1:(upR (Qg s.c 5 r)).e≠0:=Qb7 (by decide) r;rw[Qdi t _ h1]at h0;exact h1 h0
   rcases QaA hs h ht with h1|h1
   . exact .inl (Qov (.inl h1) t)
   . have hp':Qd s.c' t r'=true:=h1.trans hp;have e1:=h.v; have e2:=h.v'; have e3:=h.d;by_cases hv':r'.v=40
     . left;right;refine⟨by omega,?_⟩;unfold Qr;rw[Zo ⟨hp',hv'⟩];have h2:(upR (Qg s.c' 5 r')).e=5:=by
        unfold Qg upR;rw[Zo h.e']
       rw[Qdi t _ (ne5 h2)]; exact h2
     . obtain⟨d0,rfl⟩:∃ d0,d=d0+1:=⟨d-1,by omega⟩;unfold Qr at h0 ⊢;have hn:¬ (Qd s.c t r=true/\r.v=40):=λh=>hv h.2;have hn':¬ (Qd s.c' t r'=true/\r'.v=40):=λh=>hv' h.2;rw[Zn hn]at h0 ⊢;rw[Zn hn'];have hw:IntKind.i64.wrap (r.v+1)=r.v+1:=Qah (by omega) (by omega);have hw':IntKind.i64.wrap (r'.v+1)=r'.v+1:=Qah (by omega) (by omega);have hL:s.L d0 (upR r) (upR r'):=⟨h.e,h.e',h.a,h.k,by show IntKind.i64.wrap (r.v+1)+_=40; rw[hw]; omega,by show IntKind.i64.wrap (r'.v+1)+_=40; rw[hw']; omega,by omega⟩;rcases SmX.take hs d0 t _ _ hL h0 with ⟨h2,h3,_⟩|h2
       . exact .inr ⟨d0,rfl,h2,YL h3⟩
       . exact .inl h2
 . exfalso;rw[Vk]at hp;unfold Qr Qh at h0;rw[Zn (by rw[hp]; simp)]at h0;have:Qd s.c t (upR r)=false:=hp;rw[this]at h0;exact Qb7 (by decide) _ h0
omit hs in
theorem QjU {d:Nat} {r r':Rd} (h:s.L d r r') (hd:d+1+s.w<=40):s.L (d+1) (dnR r) (dnR r'):=by
 have e1:=h.v; have e2:=h.v'; have e3:=h.d;have hw:IntKind.i64.wrap (r.v-1)=r.v-1:=Qah (by omega) (by omega);have hw':IntKind.i64.wrap (r'.v-1)=r'.v-1:=Qah (by omega) (by omega);exact⟨h.e,h.e',h.a,h.k,by show IntKind.i64.wrap (r.v-1)+_=40; rw[hw]; omega,by show IntKind.i64.wrap (r'.v-1)+_=40; rw[hw']; omega,hd⟩
theorem Qux {d:Nat} {ops:List (ZE×Int)} (ho:∀ o∈ops,o.1≠[41]) (hF:s.Sm d erq F F') (hD:s.Dn F') (hst:Qt F) :
 ∀ (n n':Nat) (e e':Ex) (r r':Rd),e'.er=e.er->s.L d r r'->s.c.ts.length<=n+r.a->s.c'.ts.length<=n'+r'.a->(QaC s.c ops F n e r).2.e=0 ->
  (s.L d (QaC s.c ops F n e r).2 (QaC s.c' ops F' n' e' r').2/\r.a<=(QaC s.c ops F n e r).2.a/\(QaC s.c' ops F' n' e' r').1.er=(QaC s.c ops F n e r).1.er)\/s.B (QaC s.c' ops F' n' e' r').2:=by
 intro n
 induction n with
 |zero =>
  intro n' e e' r r' he h hn hn' h0;rcases Qn3 hs h ho with h1|h1
  . rw[QgT (.inl h1)]; exact .inr (.inl h1)
  . have:Qal s.c ops r=none:=by
     cases hq:Qal s.c ops r with
     |none=>rfl
     |some op=>have:=(Qc0 hq).2; omega
    rw[Qd6 (h1.trans this),Qd6 this];exact .inl ⟨h,Vb _,he⟩
 |succ n ih =>
  intro n' e e' r r' he h hn hn' h0;rcases Qn3 hs h ho with h1|h1
  . rw[QgT (.inl h1)]; exact .inr (.inl h1)
  . cases hq:Qal s.c ops r with
    |none =>
     rw[Qd6 (h1.trans hq),Qd6 hq];exact .inl ⟨h,Vb _,he⟩
    |some op =>
     have hlt:=(Qc0 hq).2;rcases QhR hs h hlt with h2|⟨h2,h3,_⟩
     . rw[QgT (.inl h2)]; exact .inr (.inl h2)
     . obtain⟨m',rfl⟩:∃ m',n'=m'+1:=⟨n' - 1,by omega⟩;rw[QaC,hq]at h0;simp only at h0;have h4:(F (Qa r)).2.e=0:=by
        by_cases hb:(F (Qa r)).2.e=0
        . exact hb
        . rw[Qd6 (Qhp hb ops)]at h0; exact absurd h0 hb
       rw[QaC,hq,QaC,h1.trans hq];simp only;rcases hF _ _ h2 h4 with ⟨k1,k2,k3⟩|k1
       . have e1:(Qa r).a=r.a+1:=rfl;have e2:=k1.a;have e3:=h.a;rcases ih m' (.mk op 0 [] [e,(F (Qa r)).1] (Qk s.c r)) (.mk op 0 [] [e',(F' (Qa r')).1] (Qk s.c' r')) _ _ (by simp only[Ex.er,Ex.erL,he]; rw[k3]) k1 (by omega) (by omega) h0 with ⟨m1,m2,m3⟩|m1
         . exact .inl ⟨m1,by omega,m3⟩
         . exact .inr m1
       . rw[QgT k1]; exact .inr k1
theorem Sm.bin {d:Nat} {ops:List (ZE×Int)} (ho:∀ o∈ops,o.1≠[41]) (hF:s.Sm d erq F F') (hD:s.Dn F') (hst:Qt F):s.Sm d erq (QS s.c ops F) (QS s.c' ops F'):=by
 intro r r' h h0;unfold QS at h0 ⊢;have h4:(F r).2.e=0:=by
  by_cases hb:(F r).2.e=0
  . exact hb
  . rw[Qd6 (Qhp hb ops)]at h0; exact absurd h0 hb
 rcases hF _ _ h h4 with ⟨k1,k2,k3⟩|k1
 . rcases Qux hs ho hF hD hst s.c.ts.length s.c'.ts.length _ (F' r').1 _ _ k3 k1 (by omega) (by omega) h0 with ⟨m1,m2,m3⟩|m1
   . exact .inl ⟨m1,by omega,m3⟩
   . exact .inr m1
 . rw[QgT k1]; exact .inr k1
theorem Sm.cmp {d:Nat} (hF:s.Sm d erq F F') (hD:s.Dn F') (hst:Qt F):s.Sm d erq (Qar s.c F) (Qar s.c' F'):=by
 intro r r' h h0;have h4:(F r).2.e=0:=by
  by_cases hb:(F r).2.e=0
  . exact hb
  . unfold Qar at h0;rw[Qhp hb Qa2]at h0; exact absurd h0 hb
 rcases hF _ _ h h4 with ⟨k1,k2,k3⟩|k1
 . unfold Qar at h0 ⊢;rcases Qn3 hs k1 (ops:=Qa2) (by decide)with h1|h1
   . rw[QhH (.inl h1)]; exact .inr (.inl h1)
   . cases hq:Qal s.c Qa2 (F r).2 with
     |none=>rw[h1,hq]; exact .inl ⟨k1,k2,k3⟩
     |some op =>
      rw[hq]at h0;simp only at h0;have hlt:=(Qc0 hq).2;rw[h1,hq];simp only;rcases QhR hs k1 hlt with h2|⟨h2,h3,_⟩
      . rw[QhH (.inl h2)]at h1;rw[hq]at h1; cases h1
      . rcases hF _ _ h2 h0 with ⟨m1,m2,m3⟩|m1
        . have e1:(Qa (F r).2).a=(F r).2.a+1:=rfl;refine .inl ⟨m1,by omega,?_⟩;show(Ex.mk _ _ _ _ _).er=_;simp only[Ex.er,Ex.erL];rw[k3,m3]
        . exact .inr m1
 . unfold Qar;rw[QhH k1]; exact .inr k1
theorem Sm.nt {d:Nat} (hF:s.Sm d erq F F') (hD:s.Dn F') (hG:∀ d0,d=d0+1->s.Sm d0 erq G G'):s.Sm d erq (Qat s.c F G) (Qat s.c' F' G'):=by
 intro r r' h h0;rcases QaA hs h (t:=[110,111,116]) (by decide)with h1|h1
 . exact .inr (Dn.nt hD r' (.inl h1))
 . unfold Qat at h0 ⊢;by_cases hp:Qd s.c [110,111,116] r=true
   . rw[Zo hp]at h0 ⊢;rw[Zo (h1.trans hp)];by_cases ho:(Qr s.c [110,111,116] r).2.e≠0
     . rw[Zo ho]at h0; exact absurd h0 ho
     . rw[Zn ho]at h0 ⊢;rcases Qlo hs (t:=[110,111,116]) (by decide) h (by simpa using ho)with k1|⟨d0,rfl,k1,k2⟩
       . rw[Zo (Qc7 k1)]; exact .inr (.inr k1)
       . rw[Zn (by rw[k1.e']; simp)];rcases hG d0 rfl _ _ k1 h0 with ⟨m1,m2,m3⟩|m1
         . refine .inl ⟨QjU m1 h.d,Vi k2 m2,?_⟩;show(Ex.mk _ _ _ _ _).er=_;simp only[Ex.er,Ex.erL];rw[m3]
         . exact .inr (B_dn m1)
   . rw[Zn hp]at h0 ⊢;rw[Zn (by rw[h1]; exact hp)];exact hF r r' h h0
theorem Qtm {d:Nat} (hF:s.Sm d erq F F') (hD:s.Dn F') (hst:Qt F):∀ (m:Nat) (acc acc':List Ex) (r r':Rd) (l:List Ex),Ex.erL acc'=Ex.erL acc->s.L d r r'->(QH s.c F m acc r).1=some l->(QH s.c F m acc r).2.e=0 ->
 (s.L d (QH s.c F m acc r).2 (QH s.c' F' m acc' r').2/\r.a<=(QH s.c F m acc r).2.a/\∃ l',(QH s.c' F' m acc' r').1=some l'/\Ex.erL l'=Ex.erL l)\/s.B (QH s.c' F' m acc' r').2
 |0,acc,acc',r,r',l,ha,h,hl,h0=>by
  simp only[QH,Option.some.injEq]at hl;subst hl;exact .inl ⟨h,Vb _,acc',rfl,ha⟩
 |m+1,acc,acc',r,r',l,ha,h,hl,h0=>by
  rw[QH]at hl h0 ⊢;by_cases hz:(Qh s.c [44] r).2.e≠0
  . rw[Zo hz]at hl; cases hl
  . rw[Zn hz]at hl h0 ⊢;rw[QH];rcases SmX.take hs d [44] r r' h (by simpa using hz)with ⟨k1,k2,_⟩|k1
    . rw[Zn (by rw[k1.e']; simp)];have h4:(F (Qh s.c [44] r).2).2.e=0:=by
       by_cases hb:(F (Qh s.c [44] r).2).2.e=0
       . exact hb
       . exfalso
         cases m with
         |zero=>exact hb h0
         |succ m =>
          rw[QH,Zo (by rw[Qdi _ _ hb]; exact hb)]at hl
          cases hl
      rcases hF _ _ k1 h4 with ⟨m1,m2,m3⟩|m1
      . rcases Qtm hF hD hst m _ (acc'++[(F' (Qh s.c' [44] r').2).1]) _ _ l (by rw[Qh1,Qh1,ha]; simp only[Ex.erL]; rw[m3]) m1 hl h0 with ⟨n1,n2,n3⟩|n1
        . exact .inl ⟨n1,by omega,n3⟩
        . exact .inr n1
      . exact .inr (QoG hD m _ _ m1)
    . rw[Zo (Qc7 k1)]; exact .inr (.inr k1)
theorem Sm.call {d:Nat} {t:ZE} {op p p':Int} {m:Nat} (hO:∀ d0,d=d0+1->s.Sm d0 erq F F') (hD:s.Dn F') (hst:Qt F):s.Sm d erq (Qcf s.c F t op m p) (Qcf s.c' F' t op m p'):=by
 intro r r' h h0;unfold Qcf at h0 ⊢;simp only at h0 ⊢;by_cases hz:(Qr s.c [40] (Qh s.c t r).2).2.e≠0
 . rw[Zo hz]at h0; exact absurd h0 hz
 rw[Zn hz]at h0 ⊢;have ht:(Qh s.c t r).2.e=0:=by
  by_cases hb:(Qh s.c t r).2.e=0
  . exact hb
  . exfalso;apply hz;unfold Qr;rw[Zn (by rw[QaM hb]; simp)];have:(upR (Qh s.c t r).2).e≠0:=hb;rw[Qdi _ _ this]; exact this
 rcases SmX.take hs d t r r' h ht with ⟨k1,k2,_⟩|k1
 . rcases Qlo hs (t:=[40]) (by decide) k1 (by simpa using hz)with j1|⟨d0,rfl,j1,j2⟩
   . rw[Zo (Qc7 j1)]; exact .inr (.inr j1)
   . rw[Zn (by rw[j1.e']; simp)];generalize (Qr s.c [40] (Qh s.c t r).2).2=q at *;generalize (Qr s.c' [40] (Qh s.c' t r').2).2=q' at *;have hF:=hO d0 rfl
     cases hg:QH s.c F m [(F q).1] (F q).2 with
     |mk o r3 =>
      cases o with
      |none =>
       rw[hg]at h0;simp only at h0;exfalso;have key:∀ (m:Nat) (acc:List Ex) (r:Rd) (r3:Rd),QH s.c F m acc r=(none,r3)->r3.e≠0:=by
        intro m
        induction m with
        |zero=>intro acc r r3 h; simp[QH]at h
        |succ m ih =>
         intro acc r r3 h;rw[QH]at h;split at h
         . rename_i hh; cases h; exact hh
         . exact ih _ _ _ h
       exact key _ _ _ _ hg h0
      |some l =>
       rw[hg]at h0;simp only at h0;have h5:r3.e=0:=Q3 (Qdi [41]) h0;have hl1:(QH s.c F m [(F q).1] (F q).2).1=some l:=by rw[hg]
       have he1:(QH s.c F m [(F q).1] (F q).2).2.e=0:=by rw[hg]; exact h5
       have h4:(F q).2.e=0:=by
        by_cases hb:(F q).2.e=0
        . exact hb
        . exfalso
          cases m with
          |zero=>rw[QH]at he1; exact hb he1
          |succ m =>
           rw[QH,Zo (by rw[Qdi _ _ hb]; exact hb)]at hl1
           cases hl1
       have fin:∀ {x:Option (List Ex)×Rd},s.B x.2->s.B (match x with|(none,r3)=>(zE,r3)|(some l,r3)=>(Ex.mk op 0 [] l p',dnR (Qh s.c' [41] r3).2)).2:=by
        intro x hx;obtain⟨o,y⟩:=x
        cases o with
        |none=>exact hx
        |some l=>exact .inr (Qkw (Qdt hx _))
       rcases hF q q' j1 h4 with ⟨m1,m2,m3⟩|m1
       . rcases Qtm hs hF hD hst m _ [(F' q').1] _ _ l (by simp only[Ex.erL]; rw[m3]) m1 hl1 he1 with ⟨n1,n2,l',n3,n4⟩|n1
         . rw[hg]at n1 n2
           cases hg':QH s.c' F' m [(F' q').1] (F' q').2 with
           |mk o' r3' =>
            rw[hg']at n1 n3;simp only at n1 n3;subst n3;simp only;rcases SmX.take hs d0 [41] _ _ n1 h0 with ⟨i1,i2,_⟩|i1
            . refine .inl ⟨QjU i1 h.d,?_,?_⟩
              . show r.a<=(Qh s.c [41] r3).2.a;simp only at n2; omega
              . show(Ex.mk _ _ _ _ _).er=_;simp only[Ex.er,n4]
            . exact .inr (.inr (Qkw i1))
         . exact .inr (fin n1)
       . exact .inr (fin (QoG hD m _ _ m1))
 . have:s.X (Qr s.c' [40] (Qh s.c' t r').2).2:=Qov (.inr k1) _;rw[Zo (Qc7 this)]; exact .inr (.inr this)
theorem Sm.fac {d:Nat} (hO:∀ d0,d=d0+1->s.Sm d0 erq F F') (hD:s.Dn F') (hst:Qt F) (hG:∀ d0,d=d0+1->s.Sm d0 erq G G') (hGst:Qt G):s.Sm d erq (QF s.c F G) (QF s.c' F' G'):=by
 intro r r' h h0;by_cases hE:s.E r'
 . exact .inr (Dn.fac r' (.inl hE))
 have g1:=(Qf4 hs h).resolve_left hE;have g2:=(QaA hs h (t:=[45]) (by decide)).resolve_left hE;have g3:=(QaA hs h (t:=[40]) (by decide)).resolve_left hE;have g4:QaN.find? (λw=>Qd s.c' w.1 r')=QaN.find? (λw=>Qd s.c w.1 r):=by
  have k1:=(QaA hs h (t:=[109,105,110]) (by decide)).resolve_left hE;have k2:=(QaA hs h (t:=[109,97,120]) (by decide)).resolve_left hE;have k3:=(QaA hs h (t:=[105,102]) (by decide)).resolve_left hE;simp only[QaN,Yz,List.find?_nil,k1,k2,k3]
 have hn:¬ r.e≠0:=λhh=>hh h.e;have hn':¬ r'.e≠0:=λhh=>hh h.e';unfold QF at h0 ⊢;rw[Zn hn]at h0 ⊢;rw[Zn hn',g1,g2,g3,g4];by_cases hf:QU s.c r=true
 . rw[Zo hf]at h0 ⊢;rw[Zo hf];rcases SmX.word hs d _ _ h h0 with ⟨k1,k2,k3⟩|k1
   . refine .inl ⟨k1,YL k2,?_⟩;show(Ex.mk _ _ _ _ _).er=_;simp only[Ex.er]; rw[k3]
   . exact .inr (.inr k1)
 rw[Zn hf]at h0 ⊢;rw[Zn hf];by_cases hm:Qd s.c [45] r=true
 . rw[Zo hm]at h0 ⊢;rw[Zo hm];by_cases ho:(Qr s.c [45] r).2.e≠0
   . rw[Zo ho]at h0; exact absurd h0 ho
   . rw[Zn ho]at h0 ⊢;rcases Qlo hs (t:=[45]) (by decide) h (by simpa using ho)with k1|⟨d0,rfl,k1,k2⟩
     . rw[Zo (Qc7 k1)]; exact .inr (.inr k1)
     . rw[Zn (by rw[k1.e']; simp)];rcases hG d0 rfl _ _ k1 h0 with ⟨m1,m2,m3⟩|m1
       . refine .inl ⟨QjU m1 h.d,Vi k2 m2,?_⟩;show(Ex.mk _ _ _ _ _).er=_;simp only[Ex.er,Ex.erL];rw[m3]
       . exact .inr (B_dn m1)
 rw[Zn hm]at h0 ⊢;rw[Zn hm];by_cases hq:Qd s.c [40] r=true
 . rw[Zo hq]at h0 ⊢;rw[Zo hq];by_cases ho:(Qr s.c [40] r).2.e≠0
   . rw[Zo ho]at h0; exact absurd h0 ho
   . rw[Zn ho]at h0 ⊢;rcases Qlo hs (t:=[40]) (by decide) h (by simpa using ho)with k1|⟨d0,rfl,k1,k2⟩
     . rw[Zo (Qc7 k1)]; exact .inr (.inr k1)
     . rw[Zn (by rw[k1.e']; simp)];have h5:(F (Qr s.c [40] r).2).2.e=0:=Q3 (Qdi [41]) h0;rcases hO d0 rfl _ _ k1 h5 with ⟨m1,m2,m3⟩|m1
       . rcases SmX.take hs d0 [41] _ _ m1 h0 with ⟨i1,i2,_⟩|i1
         . refine .inl ⟨QjU i1 h.d,?_,m3⟩;show r.a<=(Qh s.c [41] (F (Qr s.c [40] r).2).2).2.a;omega
         . exact .inr (.inr (Qkw i1))
       . exact .inr (.inr (Qkw (Qdt m1 _)))
 rw[Zn hq]at h0 ⊢;rw[Zn hq]
 cases hw:QaN.find? (λw=>Qd s.c w.1 r)with
 |none =>
  rw[hw]at h0;simp only at h0 ⊢;rcases SmX.nm hs d _ _ h h0 with ⟨k1,k2,k3⟩|k1
  . refine .inl ⟨k1,YL k2,?_⟩;show(Ex.mk _ _ _ _ _).er=_;simp only[Ex.er]; rw[k3]
  . exact .inr (.inr k1)
 |some w =>
  rw[hw]at h0;simp only at h0 ⊢;exact Sm.call hs hO hD hst r r' h h0
theorem QrH {d:Nat} {O O' A A' N N':Rd->Ex×Rd} (hO:∀ d0,d=d0+1->s.Sm d0 erq O O') (hOd:s.Dn O') (hOs:Qt O) (hA:∀ d0,d=d0+1->s.Sm d0 erq A A') (hAs:Qt A) (hN:∀ d0,d=d0+1->s.Sm d0 erq N N') :
 s.Sm d erq (lvS s.c O A N).fac (lvS s.c' O' A' N').fac/\s.Sm d erq (lvS s.c O A N).nt (lvS s.c' O' A' N').nt/\s.Sm d erq (Q6 s.c (lvS s.c O A N)) (Q6 s.c' (lvS s.c' O' A' N')):=by
 have h1:s.Sm d erq (QF s.c O A) (QF s.c' O' A'):=Sm.fac hs hO hOd hOs hA hAs;have h2:=Sm.bin hs (ops:=QaV) (by decide) h1 Dn.fac Qfk;have h3:=Sm.bin hs (ops:=Qa6) (by decide) h2 (Dn.bin Dn.fac) (QdI Qfk);have h4:=Sm.cmp hs h3 (Dn.bin (Dn.bin Dn.fac)) (QdI (QdI Qfk));have h5:s.Sm d erq (lvS s.c O A N).nt (lvS s.c' O' A' N').nt:=Sm.nt hs h4 (Dn.cmp (Dn.bin (Dn.bin Dn.fac))) hN;have h6:s.Dn (lvS s.c' O' A' N').nt:=Dn.nt (Dn.cmp (Dn.bin (Dn.bin Dn.fac)));have h7:Qt (lvS s.c O A N).nt:=QlR (Qmh (QdI (QdI Qfk)));have h8:=Sm.bin hs (ops:=Qbx) (by decide) h5 h6 h7;exact⟨h1,h5,Sm.bin hs (ops:=orO) (by decide) h8 (Dn.bin h6) (QdI h7)⟩
omit hs in
theorem QAc (c:Cx) (n:Nat):∃ O A N,lv c n=lvS c O A N/\Qt O/\Qt A:=by
 cases n with
 |zero=>exact⟨_,_,_,rfl,λ_ _=>rfl,λ_ _=>rfl⟩
 |succ n=>exact⟨_,_,_,rfl,QiZ c n,Qs0 n⟩
theorem Sm.lv:∀ d:Nat,s.Sm d erq (lv s.c (d+s.w)).fac (lv s.c' d).fac/\s.Sm d erq (lv s.c (d+s.w)).nt (lv s.c' d).nt/\s.Sm d erq (Q6 s.c (lv s.c (d+s.w))) (Q6 s.c' (lv s.c' d)):=by
 intro d
 induction d with
 |zero =>
  obtain⟨O,A,N,h1,h2,h3⟩:=QAc s.c (0+s.w);rw[h1];exact QrH hs (λd0 h=>by omega) (λ_ h=>h) h2 (λd0 h=>by omega) h3 (λd0 h=>by omega)
 |succ d ih =>
  rw[show d+1+s.w=(d+s.w)+1 by omega];exact QrH hs (λd0 h=>by obtain rfl:d=d0:=(by omega); exact ih.2.2) (Dn.lv d).2.2 (QiZ s.c _) (λd0 h=>by obtain rfl:d=d0:=(by omega); exact ih.1) (Qs0 _) (λd0 h=>by obtain rfl:d=d0:=(by omega); exact ih.2.1)
end
section
variable {s:Cp} {F F':Rd->Ex×Rd}
theorem Dn.opt {t:ZE}:s.Dn (QaQ s.c' F' t):=λr h=>by unfold QaQ; rw[Zn (by rw[Qa9 h]; decide)]; exact h
theorem Dn.flag {t:ZE}:s.Dn (QaR s.c' t):=λr h=>by unfold QaR; rw[Zn (by rw[Qa9 h]; decide)]; exact h
theorem Dn.goto:s.Dn (Qbj s.c'):=λr h=>by unfold Qbj; rw[Zn (by rw[Qa9 h]; decide)]; exact h
theorem DnX.take (t:ZE):s.DnX (Qh s.c' t):=λ_ h=>Qdt h t
theorem DnX.word:s.DnX (QK s.c'):=λ_ h=>QiI h
theorem DnX.nm:s.DnX (nmR s.c'):=λ_ h=>Qfy h
theorem DnX.set (hD:s.Dn F') (acc:List Qp):s.DnX (QaK s.c' F' acc):=λr h=>by
 unfold QaK;simp only;rw[Zn (by rw[QfO h]; simp)];exact Qbw (hD _ (.inr (Qbw (.inr (QiI h)) _))) _
theorem Qik (hD:s.Dn F'):∀ (n:Nat) (acc:List Qp) (r:Rd),s.B r->s.B (QaS s.c' F' n acc r).2
 |0,acc,r,h=>h
 |n+1,acc,r,h=>by
  rw[QaS];split
  . exact Qik hD n _ _ (.inr (DnX.set hD acc r h))
  . exact h
theorem Dn.act (hD:s.Dn F'):s.Dn (QQ s.c' F'):=λ_ h =>
 Dn.goto _ (.inr (Qbw (Qik hD _ _ _ (.inr (Qbw (Dn.flag _ (Dn.opt _ (.inr (QiI (.inr (Qdt h _)))))) _))) _))
variable (hs:s.Ok)
include hs
theorem Sm.opt {d:Nat} {t:ZE} (ht:t≠[41]) (hF:s.Sm d erq F F') (hD:s.Dn F'):s.Sm d (λx y=>Ex.erL y=Ex.erL x) (QaQ s.c F t) (QaQ s.c' F' t):=by
 intro r r' h h0;rcases QaA hs h ht with h1|h1
 . exact .inr (Dn.opt r' (.inl h1))
 . unfold QaQ at h0 ⊢;rw[h1];by_cases hp:Qd s.c t r=true
   . rw[Zo hp]at h0 ⊢;rw[Zo hp];have h4:(t2 s.c t r).e=0:=by
      have:Qd s.c t r=true:=hp;unfold t2 Qh;rw[hp]; exact h.e
     rcases hF.step hD (((SmX.take hs d t).step (DnX.take t) (P:=True) (.inl ⟨h,trivial⟩) h4).imp (λh=>⟨h.1,h.2⟩) .inr) h0 with ⟨k1,k2,k3,k4⟩|k1
     . refine .inl ⟨k1,?_,?_⟩
       . exact Vi (YL k2.2.1) k3
       . show Ex.erL [_]=Ex.erL [_];simp only[Ex.erL];exact Zp (· :: []) k4
     . exact .inr k1
   . rw[Zn hp]at h0 ⊢;rw[Zn hp];exact .inl ⟨h,Vb _,rfl⟩
theorem Sm.flag {d:Nat} {t:ZE} (ht:t≠[41]):s.Sm d (λx y=>y=x) (QaR s.c t) (QaR s.c' t):=by
 intro r r' h h0;rcases QaA hs h ht with h1|h1
 . exact .inr (Dn.flag r' (.inl h1))
 . unfold QaR at h0 ⊢;rw[h1];by_cases hp:Qd s.c t r=true
   . rw[Zo hp]at h0 ⊢;rw[Zo hp];rcases SmX.take hs d t r r' h h0 with ⟨k1,k2,_⟩|k1
     . exact .inl ⟨k1,YL k2,rfl⟩
     . exact .inr (.inr k1)
   . rw[Zn hp]at h0 ⊢;rw[Zn hp];exact .inl ⟨h,Vb _,rfl⟩
theorem Sm.goto {d:Nat}:s.Sm d (λx y=>y=x) (Qbj s.c) (Qbj s.c'):=by
 intro r r' h h0;rcases QaA hs h (t:=[103,111,116,111]) (by decide)with h1|h1
 . exact .inr (Dn.goto r' (.inl h1))
 . unfold Qbj at h0 ⊢;rw[h1];by_cases hp:Qd s.c [103,111,116,111] r=true
   . rw[Zo hp]at h0 ⊢;rw[Zo hp];have e1:(QK s.c (t2 s.c [103,111,116,111] r)).2.e=0:=t2b h0;have e2:(t2 s.c [103,111,116,111] r).e=0:=Q3 Qek e1;have j1:=(SmX.take hs d [103,111,116,111]).step (DnX.take _) (P:=True) (.inl ⟨h,trivial⟩) e2;have j2:=(SmX.word hs d).step DnX.word (j1.imp_right .inr) e1;have j3:=(SmX.take hs d [59]).step (DnX.take _) (j2.imp_right .inr) h0;rcases j3 with ⟨k1,⟨⟨_,k2,_⟩,k3,k4⟩,k5,_⟩|k1
     . refine .inl ⟨k1,?_,k4⟩;unfold t2 at *;try simp only
       omega
     . exact .inr (.inr k1)
   . rw[Zn hp]at h0 ⊢;rw[Zn hp];exact .inl ⟨h,Vb _,rfl⟩
theorem SmX.set {d:Nat} (hF:s.Sm d erq F F') (hD:s.Dn F') (hst:Qt F) {acc acc':List Qp} (hl:acc'.length=acc.length):s.SmX d (λx y=>y.er=x.er) (QaK s.c F acc) (QaK s.c' F' acc'):=by
 intro r r' h h0;by_cases hE:s.E r'
 . exact .inr (DnX.set hD acc' r' (.inl hE))
 have g1:=(Qf4 hs h).resolve_left hE;unfold QaK at h0 ⊢;simp only at h0 ⊢;have e1:=Q3 hst (t2b h0);have e2:=Q3 Qek (t2b e1);by_cases hz:acc.length=32/\QU s.c r=true
 . rw[Zo hz]at e2; exact absurd e2 (Qb7 (by decide) r)
 . rw[Zn hz]at h0 e1 ⊢;rw[Zn (by rw[hl,g1]; exact hz)];have j1:=(SmX.word hs d).step DnX.word (P:=True) (.inl ⟨h,trivial⟩) (t2b e1);have j2:=(SmX.take hs d [61]).step (DnX.take _) (j1.imp_right .inr) e1;have j3:=hF.step hD (j2.imp_right .inr) (t2b h0);have j4:=(SmX.take hs d [59]).step (DnX.take _) j3 h0;rcases j4 with ⟨k1,⟨⟨⟨_,k2,k3⟩,k4,_⟩,k5,k6⟩,k7,_⟩|k1
   . refine .inl ⟨k1,?_,?_⟩
     . unfold t2 at *;try simp only
       omega
     . unfold Qp.er;simp only;rw[k3];congr 1
   . exact .inr k1
theorem Qym {d:Nat} (hF:s.Sm d erq F F') (hD:s.Dn F') (hst:Qt F):∀ (n n':Nat) (acc acc':List Qp) (r r':Rd),acc'.map Qp.er=acc.map Qp.er->s.L d r r'->s.c.ts.length<n+r.a->s.c'.ts.length<n'+r'.a->(QaS s.c F n acc r).2.e=0 ->
 (s.L d (QaS s.c F n acc r).2 (QaS s.c' F' n' acc' r').2/\r.a<=(QaS s.c F n acc r).2.a/\(QaS s.c' F' n' acc' r').1.map Qp.er=(QaS s.c F n acc r).1.map Qp.er)\/s.B (QaS s.c' F' n' acc' r').2:=by
 intro n
 induction n with
 |zero =>
  intro n' acc acc' r r' ha h hn hn' h0;exfalso;rcases QhM hs h with h1|⟨h1,_⟩|⟨h1,_⟩
  . have h2:=h1.2.2; have h3:=h.a; have h4:=h.k;rcases hs.fin with ⟨_,h5⟩|⟨h5,_⟩
    . by_cases hk:s.k=0
      . omega
      . obtain⟨h6,_⟩:=hs.tk (s.k-1) (by omega); omega
    . omega
  . omega
  . omega
 |succ n ih =>
  intro n' acc acc' r r' ha h hn hn' h0;by_cases hE:s.E r'
  . exact .inr (Qik hD _ _ _ (.inl hE))
  have g1:=(QaA hs h (t:=[125]) (by decide)).resolve_left hE;obtain⟨m',rfl⟩:∃ m',n'=m'+1:=by
   cases n' with
   |zero =>
    exfalso;rcases QhM hs h with h1|⟨_,h1,_⟩|⟨_,_,_,_,h1⟩
    . exact hE h1
    . omega
    . rcases h1 with h1|⟨h1,_⟩<;>omega
   |succ m=>exact⟨m,rfl⟩
  have hla:acc'.length=acc.length:=by simpa using Zp List.length ha
  rw[QaS]at h0 ⊢;rw[QaS,g1];by_cases hp:Qd s.c [125] r=false
  . rw[Zo ⟨h.e,hp⟩]at h0 ⊢;rw[Zo ⟨h.e',hp⟩];have e1:(QaK s.c F acc r).2.e=0:=Q3 (Qob n _) h0;rcases SmX.set hs hF hD hst hla r r' h e1 with ⟨k1,k2,k3⟩|k1
    . have e2:=k1.a; have e3:=h.a;rcases ih m' (acc++[(QaK s.c F acc r).1]) (acc'++[(QaK s.c' F' acc' r').1]) _ _ (by simp[ha,k3]) k1 (by omega) (by omega) h0 with ⟨m1,m2,m3⟩|m1
      . exact .inl ⟨m1,by omega,m3⟩
      . exact .inr m1
    . exact .inr (Qik hD _ _ _ (.inr k1))
  . rw[Zn (λh=>hp h.2)]at h0 ⊢;rw[Zn (λh=>hp h.2)];exact .inl ⟨h,Vb _,ha⟩
theorem SmP.act {d:Nat} (hF:s.Sm d erq F F') (hD:s.Dn F') (hst:Qt F) {r r':Rd} (h:s.L d r r') (h0:(QQ s.c F r).2.e=0) :
 (s.L d (QQ s.c F r).2 (QQ s.c' F' r').2/\r.a+1<=(QQ s.c F r).2.a/\(QQ s.c' F' r').1.er=(QQ s.c F r).1.er)\/s.B (QQ s.c' F' r').2:=by
 unfold QQ at h0 ⊢;simp only at h0 ⊢;have e4:=Q3 Qfu h0;have e5:=t2b e4;have e6:=Q3 (Qob _ _) e5;have e7:=t2b e6;have e8:=Q3 (QfS _) e7;have e9:=Q3 (QdU _) e8;have e10:=Q3 Qek e9;have j1:=(SmX.take hs d [97,99,116,105,111,110]).step (DnX.take _) (P:=True) (.inl ⟨h,trivial⟩) e10;have j2:=(SmX.word hs d).step DnX.word (j1.imp_right .inr) e9;have j3:=(Sm.opt hs (t:=[119,104,101,110]) (by decide) hF hD).step Dn.opt (j2.imp_right .inr) e8;have j4:=(Sm.flag hs (t:=[104,105,100,100,101,110]) (by decide)).step Dn.flag j3 e7;have j5:=(SmX.take hs d [123]).step (DnX.take _) j4 e6;rcases j5 with ⟨k1,⟨⟨⟨⟨_,i1,_⟩,i2,i3⟩,i4,i5⟩,i6,i7⟩,i8,_⟩|k1
 . have hlt:s.c.ts.length<s.c.ts.length+1+(t2 s.c [123] (QaR s.c [104,105,100,100,101,110] (QaQ s.c F [119,104,101,110] (QK s.c (Qh s.c [97,99,116,105,111,110] r).2).2).2).2).a:=by omega
   rcases Qym hs hF hD hst (s.c.ts.length+1) (s.c'.ts.length+1) [] [] _ _ rfl k1 hlt (by omega) e5 with ⟨m1,m2,m3⟩|m1
   . have j6:=(SmX.take hs d [125]).step (DnX.take _) (P:=True) (.inl ⟨m1,trivial⟩) e4;have j7:=(Sm.goto hs).step Dn.goto (j6.imp_right .inr) h0;rcases j7 with ⟨n1,⟨_,n2,_⟩,n3,n4⟩|n1
     . refine .inl ⟨n1,?_,?_⟩
       . unfold t2 at *;omega
       . unfold Qn.er;simp only;unfold t2 at *;rw[i3,i7,m3,n4];congr 1
     . exact .inr n1
   . exact .inr (Dn.goto _ (.inr (Qbw m1 _)))
 . exact .inr (Dn.goto _ (.inr (Qbw (Qik hD _ _ _ (.inr k1)) _)))
end
section
variable {s:Cp} {F F':Rd->Ex×Rd}
theorem Qsg {r:Rd} (h:s.B r):QbE s.c' r=false:=by unfold QbE; rw[QnR h,QfO h]; simp[Qa9 h]
theorem QfT:∀ (n:Nat) (l:List Int) (r:Rd),s.B r->(QaE s.c' n l r).2=r
 |0,l,r,h=>rfl
 |n+1,l,r,h=>by rw[QaE,Zn (by rw[Qa9 h]; decide)]
theorem Dn.seen:s.Dn (QaI s.c'):=λr h=>by unfold QaI; rw[Zn (by rw[Qa9 h]; decide)]; exact h
theorem Qh6 (n:Nat) (l:List Qn) (r:Rd) (h:s.B r):(Qak s.c' F' 0 n l r).2=r:=by
 cases n with
 |zero=>rfl
 |succ n=>rw[Qak,Zn (by rw[Qa9 h]; decide)]
theorem QgB (n:Nat) (l:List Ex) (r:Rd) (h:s.B r):(Qao s.c' F' n l r).2=r:=by
 cases n with
 |zero=>rfl
 |succ n=>rw[Qao,Zn (by rw[Qa9 h]; decide)]
theorem Dn.exprs (hD:s.Dn F'):s.Dn (Qcr s.c' F'):=λr h=>by
 unfold Qcr;rw[QgB _ _ _ (hD r h)]; exact hD r h
theorem Dn.label:s.Dn (QaB s.c'):=λr h=>by unfold QaB; rw[Zn (by rw[QfO h]; decide)]; exact h
theorem DnX.stage (hD:s.Dn F'):s.DnX (Q8 s.c' F'):=λr h=>by
 unfold Q8;simp only;have h1:=Dn.label r h;rw[Zn (by rw[Qa9 h1]; decide),Zn (by rw[Qa9 h1]; decide)];exact Qbw (.inr (Qbw (Dn.exprs hD _ (.inr (Qbw (.inr (Qbw (.inr (Qdt h1 _)) _)) _))) _)) _
theorem Qkk (n:Nat) (l:List Qm) (r:Rd) (h:s.B r):(Qab s.c' n l r).2=r:=by
 cases n with
 |zero=>rfl
 |succ n=>rw[Qab,Zn (by rw[Qa9 h]; decide)]
variable (hs:s.Ok)
include hs
theorem Qzo {d:Nat} {r r':Rd} (h:s.L d r r'):s.E r'\/QbE s.c' r'=QbE s.c r:=by
 by_cases hE:s.E r'
 . exact .inl hE
 . right;unfold QbE;rw[(QmD hs h).resolve_left hE,(Qf4 hs h).resolve_left hE,(QaA hs h (t:=[110,111,116]) (by decide)).resolve_left hE,(QaA hs h (t:=[45]) (by decide)).resolve_left hE,
    (QaA hs h (t:=[40]) (by decide)).resolve_left hE,(QaA hs h (t:=[109,105,110]) (by decide)).resolve_left hE,(QaA hs h (t:=[109,97,120]) (by decide)).resolve_left hE,(QaA hs h (t:=[105,102]) (by decide)).resolve_left hE]
theorem QBK {d:Nat}:∀ (n n':Nat) (l:List Int) (r r':Rd),s.L d r r'->s.c.ts.length<=n+r.a->s.c'.ts.length<=n'+r'.a->(QaE s.c n l r).2.e=0 ->
 (s.L d (QaE s.c n l r).2 (QaE s.c' n' l r').2/\r.a<=(QaE s.c n l r).2.a/\(QaE s.c' n' l r').1=(QaE s.c n l r).1)\/s.B (QaE s.c' n' l r').2:=by
 intro n
 induction n with
 |zero =>
  intro n' l r r' h hn hn' h0;by_cases hE:s.E r'
  . rw[QfT _ _ _ (.inl hE)]; exact .inr (.inl hE)
  have g1:=(QaA hs h (t:=[44]) (by decide)).resolve_left hE;have g2:Qd s.c [44] r=false:=by
   rw[<-Vk]; intro hp; have:=Qam hp; omega
  cases n' with
  |zero=>exact .inl ⟨h,Vb _,rfl⟩
  |succ n' =>
   have e1:QaE s.c' (n'+1) l r'=(l,r'):=by rw[QaE,Zn (by rw[g1,g2]; decide)]
   rw[e1]; exact .inl ⟨h,Vb _,rfl⟩
 |succ n ih =>
  intro n' l r r' h hn hn' h0;by_cases hE:s.E r'
  . rw[QfT _ _ _ (.inl hE)]; exact .inr (.inl hE)
  have g1:=(QaA hs h (t:=[44]) (by decide)).resolve_left hE;rw[QaE]at h0 ⊢;by_cases hp:Qd s.c [44] r=true
  . have hlt':r'.a<s.c'.ts.length:=Qam (g1.trans hp);obtain⟨m',rfl⟩:∃ m',n'=m'+1:=⟨n' - 1,by omega⟩;rw[QaE];rw[Zo hp]at h0 ⊢;rw[Zo (g1.trans hp)];simp only at h0 ⊢;generalize hr2:(if l.length=32/\(t2 s.c [44] r).a<s.c.ts.length/\Qaj s.c { t2 s.c [44] r with e:=0 } (λt=>decide (t.k=2))=true then Qg s.c 12 (t2 s.c [44] r)else t2 s.c [44] r)=r2 at h0 ⊢;have e1:(nmR s.c r2).2.e=0:=Q3 (Qm7 n _) h0;have e2:r2.e=0:=Q3 Qco e1;have hz:¬ (l.length=32/\(t2 s.c [44] r).a<s.c.ts.length/\Qaj s.c { t2 s.c [44] r with e:=0 } (λt=>decide (t.k=2))=true):=by
     intro hz; rw[Zo hz]at hr2; rw[<-hr2]at e2; exact Qb7 (by decide) _ e2
    rw[Zn hz]at hr2;subst hr2;rcases SmX.take hs d [44] r r' h e2 with ⟨k1,k2,_⟩|k1
    . have k1:s.L d (t2 s.c [44] r) (t2 s.c' [44] r'):=k1;have k2:r.a+1<=(t2 s.c [44] r).a:=k2;have hz':¬ (l.length=32/\(t2 s.c' [44] r').a<s.c'.ts.length/\Qaj s.c' { t2 s.c' [44] r' with e:=0 } (λt=>decide (t.k=2))=true):=by
       rintro⟨z1,z2,z3⟩;have q1:({ t2 s.c' [44] r' with e:=0 }:Rd)=t2 s.c' [44] r':=by
        have:=k1.e'; cases hq:t2 s.c' [44] r'; rw[hq]at this; simp only at this; rw[this]
       have q2:({ t2 s.c [44] r with e:=0 }:Rd)=t2 s.c [44] r:=by
        have:=k1.e; cases hq:t2 s.c [44] r; rw[hq]at this; simp only at this; rw[this]
       rw[q1]at z3;rcases QmD hs k1 with hh|hh
       . have:=QnR (s:=s) (.inl hh); unfold QaX at this; rw[this]at z3; cases z3
       . have z4:QaX s.c (t2 s.c [44] r)=true:=by rw[<-hh]; exact z3
         exact hz ⟨z1,(QbV z4).2.1,by rw[q2]; exact z4⟩
      rw[Zn hz'];rcases SmX.nm hs d _ _ k1 e1 with ⟨m1,m2,m3⟩|m1
      . rw[m3];have:=m1.a; have:=h.a;rcases ih m' (l++[(nmR s.c (t2 s.c [44] r)).1]) _ _ m1 (by omega) (by omega) h0 with ⟨n1,n2,n3⟩|n1
        . exact .inl ⟨n1,by omega,n3⟩
        . exact .inr n1
      . rw[QfT _ _ _ (.inr m1)]; exact .inr (.inr m1)
    . have k1:s.X (t2 s.c' [44] r'):=k1;have hB:s.X (nmR s.c' (if l.length=32/\(t2 s.c' [44] r').a<s.c'.ts.length/\Qaj s.c' { t2 s.c' [44] r' with e:=0 } (λt=>decide (t.k=2))=true then Qg s.c' 12 (t2 s.c' [44] r')else t2 s.c' [44] r')).2:=by
       split
       . rw[Qeq (Qc7 k1)]; exact Qfy (.inr k1)
       . exact Qfy (.inr k1)
      rw[QfT _ _ _ (.inr hB)]; exact .inr (.inr hB)
  . rw[Zn hp]at h0 ⊢
    cases n' with
    |zero=>exact .inl ⟨h,Vb _,rfl⟩
    |succ n' =>
     rw[QaE,Zn (by rw[g1]; exact hp)];exact .inl ⟨h,Vb _,rfl⟩
theorem Sm.seen {d:Nat}:s.Sm d (λx y=>y=x) (QaI s.c) (QaI s.c'):=by
 intro r r' h h0;by_cases hE:s.E r'
 . exact .inr (Dn.seen r' (.inl hE))
 have g1:=(QaA hs h (t:=[115,101,101,110]) (by decide)).resolve_left hE;unfold QaI at h0 ⊢;rw[g1];by_cases hp:Qd s.c [115,101,101,110] r=true
 . rw[Zo hp]at h0 ⊢;rw[Zo hp];simp only at h0 ⊢;generalize hr1:t2 s.c [98,121] (t2 s.c [115,101,101,110] r)=r1 at h0 ⊢;generalize hr1':t2 s.c' [98,121] (t2 s.c' [115,101,101,110] r')=r1';have e1:r1.e=0:=by
    by_cases hb:r1.e=0
    . exact hb
    . exfalso;rw[Zn (by rw[QaM hb]; decide)]at h0;simp only at h0;exact hb (Q3 Qco (Q3 (Qm7 _ _) h0))
   have e2:(t2 s.c [115,101,101,110] r).e=0:=t2b (by rw[hr1]; exact e1);have j1:=(SmX.take hs d [115,101,101,110]).step (DnX.take _) (P:=True) (.inl ⟨h,trivial⟩) e2;have j2:=(SmX.take hs d [98,121]).step (DnX.take _) (j1.imp_right .inr) (by unfold t2 at hr1; rw[hr1]; exact e1);unfold t2 at hr1 hr1';rw[hr1,hr1']at j2;rcases j2 with ⟨k1,⟨_,k2,_⟩,k3,_⟩|k1
   . rcases QaA hs k1 (t:=[97,108,108]) (by decide)with h1|h1
     . have hn:¬ Qd s.c' [97,108,108] r1'=true:=by rw[Qa9 (.inl h1)]; decide
       have hB:=Qfy (s:=s) (.inl h1);refine .inr ?_;rw[Zn hn];simp only;rw[QfT _ _ _ (.inr hB)]; exact .inr hB
     . rw[h1];by_cases ha:Qd s.c [97,108,108] r1=true
       . rw[Zo ha]at h0 ⊢;rw[Zo ha];rcases SmX.take hs d [97,108,108] _ _ k1 h0 with ⟨m1,m2,_⟩|m1
         . refine .inl ⟨m1,?_,rfl⟩;unfold t2; try simp only
           omega
         . exact .inr (.inr m1)
       . rw[Zn ha]at h0 ⊢;rw[Zn ha];simp only at h0 ⊢;have e3:=Q3 (Qm7 _ _) h0;rcases SmX.nm hs d _ _ k1 e3 with ⟨m1,m2,m3⟩|m1
         . rw[m3];rcases QBK hs s.c.ts.length s.c'.ts.length [(nmR s.c r1).1] _ _ m1 (by omega) (by omega) h0 with ⟨n1,n2,n3⟩|n1
           . refine .inl ⟨n1,by omega,?_⟩;rw[n3]
           . exact .inr n1
         . rw[QfT _ _ _ (.inr m1)]; exact .inr (.inr m1)
   . have hn:¬ Qd s.c' [97,108,108] r1'=true:=by rw[Qa9 (.inr k1)]; decide
     have hB:=Qfy (s:=s) (.inr k1);refine .inr ?_;rw[Zn hn];simp only;rw[QfT _ _ _ (.inr hB)]; exact .inr hB
 . rw[Zn hp]at h0 ⊢;rw[Zn hp];exact .inl ⟨h,Vb _,rfl⟩
theorem SmX.deal {d:Nat} (hF:s.Sm d erq F F') (hD:s.Dn F') (hst:Qt F) (x:Qb):s.SmX d (λa b=>b.er=a.er) (QdB s.c F x) (QdB s.c' F' x):=by
 intro r r' h h0;unfold QdB at h0 ⊢;simp only at h0 ⊢;have e1:=t2b h0;have e2:=Q3 Qgl e1;have e3:=Q3 (QdU _) e2;have e4:=Q3 Qco e3;have e5:=t2b e4;have e6:=Q3 Qco e5;have e7:=t2b e6;have e8:=Q3 Qek e7;have j1:=(SmX.take hs d [100,101,97,108]).step (DnX.take _) (P:=True) (.inl ⟨h,trivial⟩) e8;have j2:=(SmX.word hs d).step DnX.word (j1.imp_right .inr) e7;have j3:=(SmX.take hs d [105,110]).step (DnX.take _) (j2.imp_right .inr) e6;have j4:=(SmX.nm hs d).step DnX.nm (j3.imp_right .inr) e5;have j5:=(SmX.take hs d [46,46]).step (DnX.take _) (j4.imp_right .inr) e4;have j6:=(SmX.nm hs d).step DnX.nm (j5.imp_right .inr) e3;have j7:=(Sm.opt hs (t:=[119,101,105,103,104,116]) (by decide) hF hD).step Dn.opt (j6.imp_right .inr) e2;have j8:=(Sm.seen hs).step Dn.seen j7 e1;have j9:=(SmX.take hs d [59]).step (DnX.take _) j8 h0;rcases j9 with ⟨k1,⟨⟨⟨⟨⟨⟨⟨⟨_,i1,_⟩,i2,q2⟩,i3,_⟩,i4,q4⟩,i5,_⟩,i6,q6⟩,i7,q7⟩,i8,q8⟩,i9,_⟩|k1
 . refine .inl ⟨k1,?_,?_⟩
   . unfold t2 at *;try simp only
     omega
   . unfold Qb.er;simp only;unfold t2 at *;rw[q2,q4,q6,q7,q8]
 . exact .inr k1
theorem Qt9 {d:Nat} (hF:s.Sm d erq F F') (hD:s.Dn F') (hst:Qt F):∀ (n n':Nat) (l l':List Qn) (r r':Rd),l'.map Qn.er=l.map Qn.er->s.L d r r'->s.c.ts.length<=n+r.a->s.c'.ts.length<=n'+r'.a->(Qak s.c F 0 n l r).2.e=0 ->
 (s.L d (Qak s.c F 0 n l r).2 (Qak s.c' F' 0 n' l' r').2/\r.a<=(Qak s.c F 0 n l r).2.a/\(Qak s.c' F' 0 n' l' r').1.map Qn.er=(Qak s.c F 0 n l r).1.map Qn.er)\/s.B (Qak s.c' F' 0 n' l' r').2:=by
 have hstl:∀ (n:Nat) (l:List Qn),Qt (Qak s.c F 0 n l):=by
  intro n l r h
  cases n with
  |zero=>rfl
  |succ n=>rw[Qak,Zn (by rw[QaM h]; decide)]
 intro n
 induction n with
 |zero =>
  intro n' l l' r r' ha h hn hn' h0;by_cases hE:s.E r'
  . rw[Qh6 _ _ _ (.inl hE)]; exact .inr (.inl hE)
  have g1:=(QaA hs h (t:=[97,99,116,105,111,110]) (by decide)).resolve_left hE;have g2:Qd s.c [97,99,116,105,111,110] r=false:=by
   rw[<-Vk]; intro hp; have:=Qam hp; omega
  cases n' with
  |zero=>exact .inl ⟨h,Vb _,ha⟩
  |succ n' =>
   have e1:Qak s.c' F' 0 (n'+1) l' r'=(l',r'):=by rw[Qak,Zn (by rw[g1,g2]; decide)]
   rw[e1]; exact .inl ⟨h,Vb _,ha⟩
 |succ n ih =>
  intro n' l l' r r' ha h hn hn' h0;by_cases hE:s.E r'
  . rw[Qh6 _ _ _ (.inl hE)]; exact .inr (.inl hE)
  have g1:=(QaA hs h (t:=[97,99,116,105,111,110]) (by decide)).resolve_left hE;have hla:l'.length=l.length:=by simpa using Zp List.length ha
  rw[Qak]at h0 ⊢;by_cases hp:Qd s.c [97,99,116,105,111,110] r=true
  . have hlt':r'.a<s.c'.ts.length:=Qam (g1.trans hp);obtain⟨m',rfl⟩:∃ m',n'=m'+1:=⟨n' - 1,by omega⟩;rw[Qak];rw[Zo hp]at h0 ⊢;rw[Zo (g1.trans hp)];simp only at h0 ⊢;have e1:=Q3 (hstl n _) h0;have e2:=Q3 QiT e1;have hz:¬ l.length=10:=by
     intro hz; rw[Zo hz]at e2; exact Qb7 (by decide) _ e2
    rw[Zn hz]at h0 e1 ⊢;rw[Zn (by rw[hla]; exact hz)];rcases SmP.act hs hF hD hst h e1 with ⟨k1,k2,k3⟩|k1
    . have:=k1.a; have:=h.a;rcases ih m' (l++[(QQ s.c F r).1]) (l'++[(QQ s.c' F' r').1]) _ _ (by simp[ha,k3]) k1 (by omega) (by omega) h0 with ⟨n1,n2,n3⟩|n1
      . exact .inl ⟨n1,by omega,n3⟩
      . exact .inr n1
    . rw[Qh6 _ _ _ k1]; exact .inr k1
  . rw[Zn hp]at h0 ⊢
    cases n' with
    |zero=>exact .inl ⟨h,Vb _,ha⟩
    |succ n' =>
     rw[Qak,Zn (by rw[g1]; exact hp)];exact .inl ⟨h,Vb _,ha⟩
theorem SmX.turn {d:Nat} (hF:s.Sm d erq F F') (hD:s.Dn F') (hst:Qt F) (x:Qb):s.SmX d (λa b=>b.er=a.er) (QdA s.c F x) (QdA s.c' F' x):=by
 intro r r' h h0;have hstl:∀ (n:Nat) (l:List Qn),Qt (Qak s.c F 0 n l):=by
  intro n l r h
  cases n with
  |zero=>rfl
  |succ n=>rw[Qak,Zn (by rw[QaM h]; decide)]
 unfold QdA at h0 ⊢;simp only at h0 ⊢;have e1:=t2b h0;have e2:=Q3 (hstl _ _) e1;have e3:=Q3 QiT e2;have e4:=t2b e3;have e5:=Q3 hst e4;have j1:=(SmX.take hs d [116,117,114,110]).step (DnX.take _) (P:=True) (.inl ⟨h,trivial⟩) e5;have j2:=hF.step hD (j1.imp_right .inr) e4;have j3:=(SmX.take hs d [123]).step (DnX.take _) j2 e3;rcases j3 with ⟨k1,⟨⟨_,i1,_⟩,i2,q2⟩,i3,_⟩|k1
 . rcases SmP.act hs hF hD hst k1 e2 with ⟨m1,m2,m3⟩|m1
   . rcases Qt9 hs hF hD hst s.c.ts.length s.c'.ts.length [_] [_] _ _ (by simp only[Vg,VF]; rw[m3]; rfl) m1 (by omega) (by omega) e1 with ⟨n1,n2,n3⟩|n1
     . rcases(SmX.take hs d [125]).step (DnX.take _) (P:=True) (.inl ⟨n1,trivial⟩) h0 with ⟨p1,_,p2,_⟩|p1
       . refine .inl ⟨p1,?_,?_⟩
         . unfold t2 at *;try simp only
           omega
         . unfold Qb.er;simp only[Ex.erL];rw[q2];have n3':=n3;unfold t2 at n3' ⊢;rw[n3']
       . exact .inr p1
     . exact .inr (Qbw n1 _)
   . have:=Qh6 (s:=s) (F':=F') s.c'.ts.length [(QQ s.c' F' (Qh s.c' [123] (F' (Qh s.c' [116,117,114,110] r').2).2).2).1] _ m1;refine .inr ?_;unfold t2 at *;rw[this];exact Qbw m1 _
 . refine .inr ?_;have hB:=Dn.act hD _ (.inr k1);have:=Qh6 (s:=s) (F':=F') s.c'.ts.length [(QQ s.c' F' (Qh s.c' [123] (F' (Qh s.c' [116,117,114,110] r').2).2).2).1] _ hB;unfold t2 at *;rw[this];exact Qbw hB _
end
theorem Qxn {c:Cx} {t:ZE} {r:Rd} (h0:(Qh c t r).2.e=0):(Qh c t r).2=Qa r/\∃ h:r.a<c.ts.length,c.ts[r.a].tx=t:=by
 by_cases hp:Qd c t r=true
 . obtain⟨_,h1,_,h2⟩:=QfR hp;unfold Qh;rw[hp];exact⟨rfl,h1,h2⟩
 . unfold Qh at h0;rw[Vk]at hp;rw[hp]at h0;exact absurd h0 (Qb7 (by decide) r)
def QiW (c:Cx) (a:Nat):Prop:=∃ q,a=q+1/\∃ h:q<c.ts.length,c.ts[q].tx=[59]\/c.ts[q].tx=[125]
theorem QzZ {c:Cx} {F:Rd->Ex×Rd} {r:Rd} (h0:(Q8 c F r).2.e=0):QiW c (Q8 c F r).2.a:=by
 have fin:∀ {t:ZE} {r:Rd},t=[59]\/t=[125]->(t2 c t r).e=0->QiW c (t2 c t r).a:=by
  intro t r ht h;obtain⟨h1,h2,h3⟩:=Qxn (c:=c) (t:=t) (r:=r) h;refine⟨r.a,by show(Qh c t r).2.a=_; rw[h1]; rfl,h2,?_⟩;rw[h3]; exact ht
 unfold Q8 at h0 ⊢;simp only at h0 ⊢;split at h0
 . rename_i hp; rw[Zo hp]; exact fin (.inl rfl) h0
 . rename_i hp;rw[Zn hp];split at h0
   . rename_i hp; rw[Zo hp]; exact fin (.inr rfl) h0
   . rename_i hp; rw[Zn hp]; exact fin (.inr rfl) h0
theorem Qyz {c:Cx} {l:List Qb} {r:Rd} (h:(QaW c l r).e=0):QaW c l r=r:=by
 unfold QaW at h ⊢;split
 . rename_i hz; rw[Zo hz]at h; exact absurd h (Qb7 (by decide) r)
 . rfl
theorem Qtz {c:Cx} {F:Rd->Ex×Rd}:∀ (n:Nat) (l:List Qb) (r:Rd),∃ m,(QL c F n l r).1=l++m
 |0,l,r=>⟨[],by simp[QL]⟩
 |n+1,l,r=>by
  rw[QL];split
  . obtain⟨m,h⟩:=Qtz n (l++[(Q8 c F (QaW c l r)).1]) (Q8 c F (QaW c l r)).2;exact⟨(Q8 c F (QaW c l r)).1::m,by rw[h]; simp⟩
  . exact⟨[],by simp⟩
section
variable {s:Cp} {F F':Rd->Ex×Rd} (hs:s.Ok)
include hs
theorem QA7 {d:Nat} (hF:s.Sm d erq F F') (hD:s.Dn F') (hst:Qt F):∀ (n n':Nat) (l l':List Ex) (r r':Rd),Ex.erL l'=Ex.erL l->s.L d r r'->s.c.ts.length<=n+r.a->s.c'.ts.length<=n'+r'.a->(Qao s.c F n l r).2.e=0 ->
 (s.L d (Qao s.c F n l r).2 (Qao s.c' F' n' l' r').2/\r.a<=(Qao s.c F n l r).2.a/\Ex.erL (Qao s.c' F' n' l' r').1=Ex.erL (Qao s.c F n l r).1)\/s.B (Qao s.c' F' n' l' r').2:=by
 have hstl:∀ (n:Nat) (l:List Ex),Qt (Qao s.c F n l):=by
  intro n l r h
  cases n with
  |zero=>rfl
  |succ n=>rw[Qao,Zn (by rw[QaM h]; decide)]
 intro n
 induction n with
 |zero =>
  intro n' l l' r r' ha h hn hn' h0;by_cases hE:s.E r'
  . rw[QgB _ _ _ (.inl hE)]; exact .inr (.inl hE)
  have g1:=(QaA hs h (t:=[44]) (by decide)).resolve_left hE;have g2:Qd s.c [44] r=false:=by
   rw[<-Vk]; intro hp; have:=Qam hp; omega
  cases n' with
  |zero=>exact .inl ⟨h,Vb _,ha⟩
  |succ n' =>
   have e1:Qao s.c' F' (n'+1) l' r'=(l',r'):=by rw[Qao,Zn (by rw[g1,g2]; decide)]
   rw[e1]; exact .inl ⟨h,Vb _,ha⟩
 |succ n ih =>
  intro n' l l' r r' ha h hn hn' h0;by_cases hE:s.E r'
  . rw[QgB _ _ _ (.inl hE)]; exact .inr (.inl hE)
  have g1:=(QaA hs h (t:=[44]) (by decide)).resolve_left hE;have hla:l'.length=l.length:=by
   have:=Zp List.length ha;have e:∀ l:List Ex,(Ex.erL l).length=l.length:=by
    intro l; induction l with
    |nil=>rfl
    |cons x r ih=>simp[Ex.erL,ih]
   rw[e,e]at this; exact this
  rw[Qao]at h0 ⊢;by_cases hp:Qd s.c [44] r=true
  . have hlt':r'.a<s.c'.ts.length:=Qam (g1.trans hp);obtain⟨m',rfl⟩:∃ m',n'=m'+1:=⟨n' - 1,by omega⟩;rw[Qao];rw[Zo hp]at h0 ⊢;rw[Zo (g1.trans hp)];simp only at h0 ⊢;have e1:=Q3 (hstl n _) h0;have e2:=Q3 hst e1;have hz:¬ (l.length=32/\QbE s.c (t2 s.c [44] r)=true):=by
     intro hz; rw[Zo hz]at e2; exact Qb7 (by decide) _ e2
    rw[Zn hz]at h0 e1 e2 ⊢;rcases SmX.take hs d [44] r r' h e2 with ⟨k1,k2,_⟩|k1
    . have k1:s.L d (t2 s.c [44] r) (t2 s.c' [44] r'):=k1;have k2:r.a+1<=(t2 s.c [44] r).a:=k2;have hz':¬ (l'.length=32/\QbE s.c' (t2 s.c' [44] r')=true):=by
       rintro⟨z1,z2⟩;rcases Qzo hs k1 with hh|hh
       . rw[Qsg (.inl hh)]at z2; cases z2
       . exact hz ⟨by omega,by rw[<-hh]; exact z2⟩
      rw[Zn hz'];rcases hF _ _ k1 e1 with ⟨m1,m2,m3⟩|m1
      . have:=m1.a; have:=h.a;rcases ih m' (l++[(F (t2 s.c [44] r)).1]) (l'++[(F' (t2 s.c' [44] r')).1]) _ _ (by rw[Qh1,Qh1,ha]; simp only[Ex.erL]; rw[m3]) m1 (by omega) (by omega) h0 with ⟨n1,n2,n3⟩|n1
        . exact .inl ⟨n1,by omega,n3⟩
        . exact .inr n1
      . rw[QgB _ _ _ m1]; exact .inr m1
    . have k1:s.X (t2 s.c' [44] r'):=k1;have hz':¬ (l'.length=32/\QbE s.c' (t2 s.c' [44] r')=true):=by
       rintro⟨_,z2⟩; rw[Qsg (.inr k1)]at z2; cases z2
      rw[Zn hz'];have hB:=hD _ (.inr k1);rw[QgB _ _ _ hB]; exact .inr hB
  . rw[Zn hp]at h0 ⊢
    cases n' with
    |zero=>exact .inl ⟨h,Vb _,ha⟩
    |succ n' =>
     rw[Qao,Zn (by rw[g1]; exact hp)];exact .inl ⟨h,Vb _,ha⟩
theorem Sm.exprs {d:Nat} (hF:s.Sm d erq F F') (hD:s.Dn F') (hst:Qt F):s.Sm d (λx y=>Ex.erL y=Ex.erL x) (Qcr s.c F) (Qcr s.c' F'):=by
 intro r r' h h0;have hstl:∀ (n:Nat) (l:List Ex),Qt (Qao s.c F n l):=by
  intro n l r h
  cases n with
  |zero=>rfl
  |succ n=>rw[Qao,Zn (by rw[QaM h]; decide)]
 unfold Qcr at h0 ⊢;have e1:=Q3 (hstl _ _) h0;rcases hF _ _ h e1 with ⟨m1,m2,m3⟩|m1
 . rcases QA7 hs hF hD hst s.c.ts.length s.c'.ts.length [(F r).1] [(F' r').1] _ _ (by simp only[Ex.erL]; rw[m3]) m1 (by omega) (by omega) h0 with ⟨n1,n2,n3⟩|n1
   . exact .inl ⟨n1,by omega,n3⟩
   . exact .inr n1
 . rw[QgB _ _ _ m1]; exact .inr m1
theorem Sm.label {d:Nat}:s.Sm d (λx y=>y=x) (QaB s.c) (QaB s.c'):=by
 intro r r' h h0;rcases Qf4 hs h with h1|h1
 . exact .inr (Dn.label r' (.inl h1))
 . unfold QaB at h0 ⊢;rw[h1];by_cases hp:QU s.c r=true
   . rw[Zo hp]at h0 ⊢;rw[Zo hp];have j1:=(SmX.word hs d).step DnX.word (P:=True) (.inl ⟨h,trivial⟩) (t2b h0);have j2:=(SmX.take hs d [58]).step (DnX.take _) (j1.imp_right .inr) h0;rcases j2 with ⟨k1,⟨_,k2,k3⟩,k4,_⟩|k1
     . refine .inl ⟨k1,?_,k3⟩;unfold t2 at *;try simp only
       omega
     . exact .inr (.inr k1)
   . rw[Zn hp]at h0 ⊢;rw[Zn hp];exact .inl ⟨h,Vb _,rfl⟩
theorem SmX.stage {d:Nat} (hF:s.Sm d erq F F') (hD:s.Dn F') (hst:Qt F):s.SmX d (λx y=>y.er=x.er) (Q8 s.c F) (Q8 s.c' F'):=by
 intro r r' h h0;unfold Q8 at h0 ⊢;simp only at h0 ⊢;have hstE:Qt (Qcr s.c F):=Qim hst;have e1:(QaB s.c r).2.e=0:=by
  by_cases hb:(QaB s.c r).2.e=0
  . exact hb
  . exfalso;rw[Zn (by rw[QaM hb]; decide),Zn (by rw[QaM hb]; decide)]at h0;simp only at h0;exact hb (Q3 (Qdi _) (t2b (t2b (Q3 hstE (t2b (t2b h0))))))
 rcases Sm.label hs r r' h e1 with ⟨k1,k2,k3⟩|k1
 . by_cases hE:s.E (QaB s.c' r').2
   . refine .inr ?_;rw[Zn (by rw[Qa9 (.inl hE)]; decide),Zn (by rw[Qa9 (.inl hE)]; decide)];exact Qbw (.inr (Qbw (Dn.exprs hD _ (.inr (Qbw (.inr (Qbw (.inr (Qdt (.inl hE) _)) _)) _))) _)) _
   have g1:=(QaA hs k1 (t:=[100,101,97,108]) (by decide)).resolve_left hE;have g2:=(QaA hs k1 (t:=[116,117,114,110]) (by decide)).resolve_left hE;rw[g1,g2,k3];by_cases hp:Qd s.c [100,101,97,108] (QaB s.c r).2=true
   . rw[Zo hp]at h0 ⊢;rw[Zo hp];rcases SmX.deal hs hF hD hst _ _ _ k1 h0 with ⟨m1,m2,m3⟩|m1
     . exact .inl ⟨m1,by omega,m3⟩
     . exact .inr m1
   rw[Zn hp]at h0 ⊢;rw[Zn hp];by_cases hq:Qd s.c [116,117,114,110] (QaB s.c r).2=true
   . rw[Zo hq]at h0 ⊢;rw[Zo hq];rcases SmX.turn hs hF hD hst _ _ _ k1 h0 with ⟨m1,m2,m3⟩|m1
     . exact .inl ⟨m1,by omega,m3⟩
     . exact .inr m1
   rw[Zn hq]at h0 ⊢;rw[Zn hq];simp only at h0 ⊢;have f1:=t2b h0;have f2:=t2b f1;have f3:=Q3 hstE f2;have f4:=t2b f3;have f5:=t2b f4;have j1:=(SmX.take hs d [101,110,100]).step (DnX.take _) (P:=True) (.inl ⟨k1,trivial⟩) f5;have j2:=(SmX.take hs d [123]).step (DnX.take _) (j1.imp_right .inr) f4;have j3:=(SmX.take hs d [112,97,121]).step (DnX.take _) (j2.imp_right .inr) f3;have j4:=(Sm.exprs hs hF hD hst).step (Dn.exprs hD) (j3.imp_right .inr) f2;have j5:=(SmX.take hs d [59]).step (DnX.take _) j4 f1;have j6:=(SmX.take hs d [125]).step (DnX.take _) (j5.imp_right .inr) h0;rcases j6 with ⟨p1,⟨⟨⟨⟨⟨_,i1,_⟩,i2,_⟩,i3,_⟩,i4,q4⟩,i5,_⟩,i6,_⟩|p1
   . refine .inl ⟨p1,?_,?_⟩
     . unfold t2 at *;try simp only
       omega
     . unfold Qb.er;simp only;unfold t2 at *;rw[q4]
   . exact .inr p1
 . refine .inr ?_;rw[Zn (by rw[Qa9 k1]; decide),Zn (by rw[Qa9 k1]; decide)];exact Qbw (.inr (Qbw (Dn.exprs hD _ (.inr (Qbw (.inr (Qbw (.inr (Qdt k1 _)) _)) _))) _)) _
theorem SmX.var {d:Nat} {l l':List Qm} (hl:l'.length=l.length):s.SmX d (λx y=>y.er=x.er) (Qbb s.c l) (Qbb s.c' l'):=by
 intro r r' h h0;unfold Qbb at h0 ⊢;simp only at h0 ⊢;have e1:=t2b h0;have e2:=Q3 Qco e1;have e3:=Q3 (QfS _) e2;have e4:=t2b e3;have e5:=Q3 Qek e4;have hz:¬ (l.length=40/\QU s.c (t2 s.c [118,97,114] r)=true):=by
  intro hz; rw[Zo hz]at e5; exact Qb7 (by decide) _ e5
 rw[Zn hz]at h0 e1 e2 e3 e4 e5 ⊢;have j1:=(SmX.take hs d [118,97,114]).step (DnX.take _) (P:=True) (.inl ⟨h,trivial⟩) e5;have hz':¬ (l'.length=40/\QU s.c' (t2 s.c' [118,97,114] r')=true):=by
  rintro⟨z1,z2⟩;rcases j1 with ⟨k1,_⟩|k1
  . rcases Qf4 hs k1 with hh|hh
    . have:=QfO (s:=s) (.inl hh); unfold t2 at z2; rw[this]at z2; cases z2
    . exact hz ⟨by omega,by unfold t2 at z2 ⊢; rw[<-hh]; exact z2⟩
  . have:=QfO (s:=s) (.inr k1); unfold t2 at z2; rw[this]at z2; cases z2
 rw[Zn hz'];have j2:=(SmX.word hs d).step DnX.word (j1.imp_right .inr) e4;have j3:=(SmX.take hs d [61]).step (DnX.take _) (j2.imp_right .inr) e3;have j4:=(Sm.flag hs (t:=[45]) (by decide)).step Dn.flag (j3.imp_right .inr) e2;have j5:=(SmX.nm hs d).step DnX.nm j4 e1;have j6:=(SmX.take hs d [59]).step (DnX.take _) (j5.imp_right .inr) h0;rcases j6 with ⟨p1,⟨⟨⟨⟨⟨_,i1,_⟩,i2,q2⟩,i3,_⟩,i4,q4⟩,i5,q5⟩,i6,_⟩|p1
 . refine .inl ⟨p1,?_,?_⟩
   . unfold t2 at *;try simp only
     omega
   . unfold Qm.er;simp only;unfold t2 at *;rw[q2,q4,q5]
 . exact .inr p1
theorem Qxf {d:Nat}:∀ (n n':Nat) (l l':List Qm) (r r':Rd),l'.map Qm.er=l.map Qm.er->s.L d r r'->s.c.ts.length<=n+r.a->s.c'.ts.length<=n'+r'.a->(Qab s.c n l r).2.e=0 ->
 (s.L d (Qab s.c n l r).2 (Qab s.c' n' l' r').2/\r.a<=(Qab s.c n l r).2.a/\(Qab s.c' n' l' r').1.map Qm.er=(Qab s.c n l r).1.map Qm.er)\/s.B (Qab s.c' n' l' r').2:=by
 intro n
 induction n with
 |zero =>
  intro n' l l' r r' ha h hn hn' h0;by_cases hE:s.E r'
  . rw[Qkk _ _ _ (.inl hE)]; exact .inr (.inl hE)
  have g1:=(QaA hs h (t:=[118,97,114]) (by decide)).resolve_left hE;have g2:Qd s.c [118,97,114] r=false:=by
   rw[<-Vk]; intro hp; have:=Qam hp; omega
  cases n' with
  |zero=>exact .inl ⟨h,Vb _,ha⟩
  |succ n' =>
   have e1:Qab s.c' (n'+1) l' r'=(l',r'):=by rw[Qab,Zn (by rw[g1,g2]; decide)]
   rw[e1]; exact .inl ⟨h,Vb _,ha⟩
 |succ n ih =>
  intro n' l l' r r' ha h hn hn' h0;by_cases hE:s.E r'
  . rw[Qkk _ _ _ (.inl hE)]; exact .inr (.inl hE)
  have g1:=(QaA hs h (t:=[118,97,114]) (by decide)).resolve_left hE;have hla:l'.length=l.length:=by simpa using Zp List.length ha
  rw[Qab]at h0 ⊢;by_cases hp:Qd s.c [118,97,114] r=true
  . have hlt':r'.a<s.c'.ts.length:=Qam (g1.trans hp);obtain⟨m',rfl⟩:∃ m',n'=m'+1:=⟨n' - 1,by omega⟩;rw[Qab];rw[Zo hp]at h0 ⊢;rw[Zo (g1.trans hp)];have e1:=Q3 (Qtj n _) h0;rcases SmX.var hs hla _ _ h e1 with ⟨k1,k2,k3⟩|k1
    . have:=k1.a; have:=h.a;rcases ih m' (l++[(Qbb s.c l r).1]) (l'++[(Qbb s.c' l' r').1]) _ _ (by simp[ha,k3]) k1 (by omega) (by omega) h0 with ⟨n1,n2,n3⟩|n1
      . exact .inl ⟨n1,by omega,n3⟩
      . exact .inr n1
    . rw[Qkk _ _ _ (.inr k1)]; exact .inr (.inr k1)
  . rw[Zn hp]at h0 ⊢
    cases n' with
    |zero=>exact .inl ⟨h,Vb _,ha⟩
    |succ n' =>
     rw[Qab,Zn (by rw[g1]; exact hp)];exact .inl ⟨h,Vb _,ha⟩
theorem QvS {d:Nat} (hF:s.Sm d erq F F') (hD:s.Dn F') (hst:Qt F) (hno:s.c'.ts.length=s.k+s.m) :
 ∀ (n n':Nat) (l l':List Qb) (r r':Rd),l'.map Qb.er=l.map Qb.er->(l≠[]->QiW s.c r.a)->s.L d r r'->s.c.ts.length<n+r.a->s.c'.ts.length<n'+r'.a->(QL s.c F n l r).2.e=0 ->
  (s.cut=false/\(QL s.c' F' n' l' r').2.e=0/\(QL s.c' F' n' l' r').1.map Qb.er=(QL s.c F n l r).1.map Qb.er) \/
  (s.cut=true/\(QL s.c' F' n' l' r').2.e=0/\∃ j,1<=j/\j<=(QL s.c F n l r).1.length/\(QL s.c' F' n' l' r').1.map Qb.er=((QL s.c F n l r).1.take j).map Qb.er/\QiW s.c s.k)\/s.X (QL s.c' F' n' l' r').2:=by
 have hstl:∀ (n:Nat) (l:List Qb),Qt (QL s.c F n l):=by
  intro n l r h
  cases n with
  |zero=>rfl
  |succ n=>rw[QL,Zn (λhh=>h hh.1)]
 have hXs:∀ (n:Nat) (l:List Qb) (r:Rd),s.X r->(QL s.c' F' n l r).2=r:=by
  intro n l r h
  cases n with
  |zero=>rfl
  |succ n=>rw[QL,Zn (λhh=>Qc7 h hh.1)]
 intro n
 induction n with
 |zero =>
  intro n' l l' r r' ha hq h hn hn' h0;exfalso;have h4:=h.k;by_cases hk:s.k=0
  . omega
  . obtain⟨h6,_⟩:=hs.tk (s.k-1) (by omega); omega
 |succ n ih =>
  intro n' l l' r r' ha hq h hn hn' h0;have hla:l'.length=l.length:=by simpa using Zp List.length ha
  have e3:=h.a; have e4:=h.k;obtain⟨m',rfl⟩:∃ m',n'=m'+1:=⟨n' - 1,by omega⟩;by_cases hE:s.E r'
  . have hk:r.a=s.k:=by have:=hE.2.2; omega
    by_cases hl:l=[]
    . right; right;have hl':l'=[]:=Yd.1 (by rw[hla,hl]; rfl);rw[QL,Zo ⟨h.e',.inl hl'⟩];have hB:s.B (QaW s.c' l' r'):=by
       unfold QaW;rw[Zn (by rw[QfO (.inl hE)]; simp[Qa9 (s:=s) (.inl hE)])];exact .inl hE
      have:=DnX.stage hD _ hB;rw[hXs _ _ _ this]; exact this
    . right; left;have hl':l'≠[]:=λe=>hl (Yd.1 (by rw[<-hla,e]; rfl));have hstop:¬ (r'.e=0/\(l'=[]\/r'.a<s.c'.ts.length)):=by
       rintro⟨_,h1|h1⟩
       . exact hl' h1
       . have:=hE.2.2; omega
      obtain⟨m,hm⟩:=Qtz (c:=s.c) (F:=F) (n+1) l r;rw[QL,Zn hstop];refine⟨hE.1,h.e',l.length,?_,?_,?_,by rw[<-hk]; exact hq hl⟩
      . cases l with
        |nil=>exact absurd rfl hl
        |cons x y=>simp
      . rw[hm]; simp
      . rw[hm]; simp[ha]
  . have hagree:(r.a<s.c.ts.length)↔(r'.a<s.c'.ts.length):=by
     rcases QhM hs h with h1|⟨h1,h2,_⟩|⟨h1,h2,_⟩
     . exact absurd h1 hE
     . exact⟨λ_=>h2,λ_=>h1⟩
     . omega
    have hnil:l'=[]↔l=[]:=by rw[<-Yd,<- Yd,hla]
    rw[QL]at h0 ⊢;rw[QL];by_cases hgo:r.e=0/\(l=[]\/r.a<s.c.ts.length)
    . rw[Zo hgo]at h0 ⊢;rw[Zo ⟨h.e',by rw[hnil,<- hagree]; exact hgo.2⟩];have e1:=Q3 (hstl n _) h0;have e2:=Q3 (QjP hst) e1;have e5:=Qyz e2;rw[e5]at h0 e1 ⊢;have e6:QaW s.c' l' r'=r':=by
       unfold QaW;rw[Zn];rintro⟨z1,z2⟩;rw[(Qf4 hs h).resolve_left hE,(QaA hs h (t:=[100,101,97,108]) (by decide)).resolve_left hE,(QaA hs h (t:=[116,117,114,110]) (by decide)).resolve_left hE,(QaA hs h (t:=[101,110,100]) (by decide)).resolve_left hE]at z2;unfold QaW at e2;rw[Zo ⟨by omega,z2⟩]at e2;exact Qb7 (by decide) _ e2
      rw[e6];rcases SmX.stage hs hF hD hst _ _ h e1 with ⟨k1,k2,k3⟩|k1
      . have:=k1.a;exact ih m' (l++[(Q8 s.c F r).1]) (l'++[(Q8 s.c' F' r').1]) _ _ (by simp[ha,k3]) (λ_=>QzZ e1) k1 (by omega) (by omega) h0
      . right; right;rw[hXs _ _ _ k1]; exact k1
    . rw[Zn hgo]at h0 ⊢;rw[Zn (by rintro⟨_,z⟩; rw[hnil,<- hagree]at z; exact hgo ⟨h.e,z⟩)];refine .inl ⟨?_,h.e',ha⟩;rcases hs.fin with ⟨hc,hl⟩|⟨hk,_⟩
      . exfalso;apply hE;have hkl:s.k<=s.c.ts.length:=by
         by_cases hk:s.k=0
         . omega
         . obtain⟨h6,_⟩:=hs.tk (s.k-1) (by omega); omega
        have hna:¬ r.a<s.c.ts.length:=λhh=>hgo ⟨h.e,.inr hh⟩;exact⟨hc,h.e',by omega⟩
      . by_cases hc:s.cut=true
        . exfalso;apply hE;have hna:¬ r.a<s.c.ts.length:=λhh=>hgo ⟨h.e,.inr hh⟩;exact⟨hc,h.e',by omega⟩
        . simpa using hc
end
section
variable {s:Cp} (hs:s.Ok)
include hs
theorem QzR (hm:s.m=0) (hw:s.w=0) (hno:s.c'.ts.length=s.k) (h0:(QbU s.c (orT s.c)).2.1=0) :
 (s.cut=false/\(QbU s.c' (orT s.c')).2.1=0/\(QbU s.c' (orT s.c')).1.er=(QbU s.c (orT s.c)).1.er) \/
 (s.cut=true/\(QbU s.c' (orT s.c')).2.1=0/\QiW s.c s.k/\∃ j,1<=j/\j<=(QbU s.c (orT s.c)).1.stages.length /\
  (QbU s.c' (orT s.c')).1.er=({ (QbU s.c (orT s.c)).1 with stages:=(QbU s.c (orT s.c)).1.stages.take j }:QC).er) \/
 (s.cut=true/\(QbU s.c' (orT s.c')).2=((11:Int),(s.c'.en:Int))):=by
 have hF:s.Sm 40 erq (orT s.c) (orT s.c'):=by
  have:=(Sm.lv hs 40).2.2;rw[hw]at this; exact this
 have hD:s.Dn (orT s.c'):=(Dn.lv 40).2.2;have hst:Qt (orT s.c):=QiZ s.c 40;have hstl:∀ (n:Nat) (l:List Qb),Qt (QL s.c (orT s.c) n l):=QoI;have hXs:∀ (n:Nat) (l:List Qb) (r:Rd),s.X r->(QL s.c' (orT s.c') n l r).2=r:=λn l r h=>QoI n l r (Qc7 h);have h:s.L 40 ⟨0,0,0,0⟩ ⟨0,0,0,0⟩:=⟨rfl,rfl,by show 0=0+s.m; omega,V3 _,by show(0:Int)+((40+s.w:Nat):Int)=40; omega,rfl,by omega⟩;unfold QbU at h0 ⊢;simp only at h0 ⊢;generalize hr0:(⟨0,0,0,0⟩:Rd)=r0 at *;have hz:(QL s.c (orT s.c) (s.c.ts.length+1) [] (Qab s.c s.c.ts.length [] (t2 s.c [59] (nmR s.c (t2 s.c [112,108,97,121,101,114,115] (t2 s.c [59] (QK s.c (t2 s.c [103,97,109,101] r0)).2))).2)).2).2.e=0:=by
  by_cases hb:(QL s.c (orT s.c) (s.c.ts.length+1) [] (Qab s.c s.c.ts.length [] (t2 s.c [59] (nmR s.c (t2 s.c [112,108,97,121,101,114,115] (t2 s.c [59] (QK s.c (t2 s.c [103,97,109,101] r0)).2))).2)).2).2.e=0
  . exact hb
  . rw[Zo hb]at h0; exact absurd h0 hb
 have hE0:∀ {q:List Qb×Rd} {x:QC},q.2.e=0->(if q.2.e≠0 then(Qeb,q.2.e,q.2.p)else(x,(0:Int),(0:Int)))=(x,(0:Int),(0:Int)):=λh=>Zn (λhh=>hh h);rw[hE0 hz];have e1:=Q3 (hstl _ _) hz;have e2:=Q3 (Qtj _ _) e1;have e3:=t2b e2;have e4:=Q3 Qco e3;have e5:=t2b e4;have e6:=t2b e5;have e7:=Q3 Qek e6;have j1:=(SmX.take hs 40 [103,97,109,101]).step (DnX.take _) (P:=True) (.inl ⟨h,trivial⟩) e7;have j2:=(SmX.word hs 40).step DnX.word (j1.imp_right .inr) e6;have j3:=(SmX.take hs 40 [59]).step (DnX.take _) (j2.imp_right .inr) e5;have j4:=(SmX.take hs 40 [112,108,97,121,101,114,115]).step (DnX.take _) (j3.imp_right .inr) e4;have j5:=(SmX.nm hs 40).step DnX.nm (j4.imp_right .inr) e3;have j6:=(SmX.take hs 40 [59]).step (DnX.take _) (j5.imp_right .inr) e2;have hX:∀ {r:Rd},s.X r->s.cut=true/\r.e=11/\r.p=s.c'.en:=by
  intro r h;rcases h with h|⟨h,_⟩
  . exact h
  . exact absurd hw h
 have fin:∀ {q:List Qb×Rd} {x:QC},s.X q.2->s.cut=true/\(if q.2.e≠0 then(Qeb,q.2.e,q.2.p)else(x,(0:Int),(0:Int))).2=((11:Int),(s.c'.en:Int)):=by
  intro q x hq;obtain⟨h1,h2,h3⟩:=hX hq;rw[Zo (Qc7 hq)];exact⟨h1,by simp only; rw[h2,h3]⟩
 unfold t2 at *;rcases j6 with ⟨k1,⟨⟨⟨⟨⟨_,i1,_⟩,i2,q2⟩,i3,_⟩,i4,_⟩,i5,q5⟩,i6,_⟩|k1
 . rcases Qxf hs s.c.ts.length s.c'.ts.length [] [] _ _ rfl k1 (by omega) (by omega) e1 with ⟨m1,m2,m3⟩|m1
   . rcases QvS hs hF hD hst (by omega) (s.c.ts.length+1) (s.c'.ts.length+1) [] [] _ _ rfl (λh=>absurd rfl h) m1 (by omega) (by omega) hz with ⟨n0,n1,n2⟩|⟨n0,n1,j,n2,n3,n4,n5⟩|n1
     . left;rw[hE0 n1];refine⟨n0,rfl,?_⟩;unfold QC.er;simp only;rw[q2,q5,m3,n2]
     . right; left;rw[hE0 n1];refine⟨n0,rfl,n5,j,n2,n3,?_⟩;unfold QC.er;simp only;rw[q2,q5,m3,n4]
     . exact .inr (.inr (fin n1))
   . right; right;have hB:s.X (QL s.c' (orT s.c') (s.c'.ts.length+1) [] (Qab s.c' s.c'.ts.length [] (Qh s.c' [59] (nmR s.c' (Qh s.c' [112,108,97,121,101,114,115] (Qh s.c' [59] (QK s.c' (Qh s.c' [103,97,109,101] r0).2).2).2).2).2).2).2).2:=by
      rcases m1 with hE|hXX
      . rw[QL,Zo ⟨hE.2.1,.inl rfl⟩];have hB:s.B (QaW s.c' [] (Qab s.c' s.c'.ts.length [] (Qh s.c' [59] (nmR s.c' (Qh s.c' [112,108,97,121,101,114,115] (Qh s.c' [59] (QK s.c' (Qh s.c' [103,97,109,101] r0).2).2).2).2).2).2).2):=by
         unfold QaW;rw[Zn (by simp)];exact .inl hE
        have:=DnX.stage hD _ hB;rw[hXs _ _ _ this]; exact this
      . rw[hXs _ _ _ hXX]; exact hXX
     exact fin hB
 . right; right;have hV:=Qkk (s:=s) s.c'.ts.length [] _ (.inr k1);have hB:s.X (QL s.c' (orT s.c') (s.c'.ts.length+1) [] (Qab s.c' s.c'.ts.length [] (Qh s.c' [59] (nmR s.c' (Qh s.c' [112,108,97,121,101,114,115] (Qh s.c' [59] (QK s.c' (Qh s.c' [103,97,109,101] r0).2).2).2).2).2).2).2).2:=by
    rw[hV,hXs _ _ _ k1]; exact k1
   exact fin hB
end
structure Tr where
 k:Int
 tx:ZE
 n:Int
 p:Int
def Tr.c (t:Tr):ZH:=[i64 t.k,st (B t.tx),i64 t.n,i64 t.p]
def Qdv (ts:List Tr):SV:=.slc (ts.flatMap Tr.c) ts.length
def Tr.chk (t:Tr):Int:=Qbh t.k t.tx t.n
def chkL:List Tr->Int
 |[]=>0
 |t::r=>if t.chk=0 then chkL r else t.chk
def jn (ts:List Tr):ZE:=Lib.join (ts.map Tr.tx) [32]
def Qcj (ts:List Tr):ZE×Int :=
 if 5000<ts.length then([],12)else if chkL ts≠0 then([],chkL ts)else if 20000<(jn ts).length then([],4)else(jn ts,0)
theorem Quh {k n:Int} {tx:ZE} (h:Qbh k tx n=0):tx.length<=40:=by
 unfold Qbh at h;split at h
 . cases h
 . rename_i hn;have hne:tx≠[]:=λe=>hn (.inl e);have hpos:0<tx.length:=Yg.2 hne;split at h
   . rename_i t q hst;split at h
     . cases h
     . rename_i hq;obtain⟨g1,g2,g3,g4⟩:=Qtf hpos hst;have:=Zp List.length g1;have hq:=mkq hst hpos;simp[cut]at this;omega
   . cases h
theorem Qss:∀ ts:List Tr,(∀ t∈ts,t.tx.length<=40)->(jn ts).length<=41*ts.length
 |[],_=>by simp[jn,Lib.join,List.intercalate]
 |[t],h=>by have:=h t (by simp); simp[jn,Lib.join,List.intercalate]; omega
 |t::s::r,h=>by
  have ih:=Qss (s::r) (λt ht=>h t (VL _ ht));have:=h t (by simp);simp only[jn,Lib.join,List.intercalate,Vg,List.intersperse,YV,Vj,Vh,VH]at ih ⊢;omega
theorem QAe {ts:List Tr}:∀ {i:Nat},chkL (ts.drop i)=chkL ts->∀ h:i<ts.length,(ts[i].chk=0->chkL (ts.drop (i+1))=chkL ts)/\(ts[i].chk≠0->chkL ts=ts[i].chk):=by
 intro i he h;rw[VT h]at he;simp only[chkL]at he;constructor
 . intro h0; rw[Zo h0]at he; exact he
 . intro h0; rw[Zn h0]at he; exact he.symm
theorem QyQ (ts:List Tr) {i:Nat} (h:i<ts.length):((ts.flatMap Tr.c).drop (i*4)).take 4=ts[i].c:=by
 induction ts generalizing i with
 |nil=>simp at h
 |cons t r ih =>
  cases i with
  |zero=>simp[Tr.c]
  |succ i =>
   have e:(i+1)*4=t.c.length+i*4:=by simp[Tr.c]; omega
   rw[VV,e,YH];simp only[YK];rw[VS (by omega),VA,show t.c.length+i*4-t.c.length=i*4 by omega];exact ih (by simpa using h)
theorem tr4 (l:List Tr):(List.map (λa=>a.c.length) l).sum=l.length*4:=by
 have:(λa:Tr=>a.c.length)=λ_=>4:=by funext a; rfl
 rw[this,Qiw]
def rwX (ts:List Tr):AO:=⟨ts.map λt=>st (B t.tx),9,ts.length,true⟩
section
variable {H:ZG} {ts:List Tr}
theorem QqJ:∀ {ts:List Tr},chkL ts=0->∀ t∈ts,t.chk=0
 |[],_,t,h=>by simp at h
 |s::r,hc,t,h=>by
  simp only[chkL]at hc;split at hc
  . rename_i h0;rcases Vd.1 h with rfl|h
    . exact h0
    . exact QqJ hc t h
  . contradiction
theorem QBS (hb:∀ t∈ts,t.tx.length<4611686018427387904) (hs:ts.length<=5000) {N:Nat} {K:ZF}
 (hret:chkL ts≠0->∀ env R,env.get 2=st ⟨#[]⟩->env.get 3=i64 (chkL ts)->K .ret env (H++R)) (hexit:chkL ts=0->∀ env L,env.get 4=.own H.length 0 ts.length 1 ts.length->K (.exit 0) env (H++rwX ts::L)) :
 ∀ (k i:Nat) (env:Env) (L:ZG),i+k=ts.length->chkL (ts.drop i)=chkL ts->env.get 4=.own H.length 0 i 1 i->env.get 15=Qdv ts->env.get 16=i64 ts.length->env.get 17=i64 i ->
  LI Tryz.prog N Qf Qlj env (H++rwX (ts.take i)::L) K:=by
 intro k
 induction k with
 |zero =>
  intro i env L hi he h4 h15 h16 h17;refine Qu hm Qlj.eq_1 ?_;have e:i=ts.length:=by omega
  subst e;rw[Yo]at he;simp -implicitDefEqProofs[h4,h15,h16,h17,Qdv];exact hexit he.symm _ _ (by simp[h4])
 |succ k ih =>
  intro i env L hi he h4 h15 h16 h17;refine Qu hm Qlj.eq_1 ?_;have h3:i<ts.length:=by omega
  have d1:=QyQ ts h3;have k1:ts.take (i+1)=ts.take i++[ts[i]]:=Yy h3;obtain⟨c1,c2⟩:=QAe he h3;have hbt:=hb ts[i] (Vt h3);have hti:(ts.take i).length=i:=by simp; omega
  have w1:=QaJ (show i<9223372036854775807 by omega);generalize ts[i]=s at *;have hmin:min i ts.length=i:=by omega
  have hcc:s.c=[i64 s.k,st (B s.tx),i64 s.n,i64 s.p]:=rfl;have hrow:rwX (ts.take (i+1))=⟨(ts.take i).map (λt=>st (B t.tx))++[st (B s.tx)],9,i+1,true⟩:=by rw[k1]; simp[rwX,hti]
  simp -implicitDefEqProofs[h4,h15,h16,h17,Qdv,h3,tr4,d1,rwX,hcc];refine⟨by omega,?_⟩;refine Qc (QoT hbt s.k s.n (i64 s.p) rfl) ?_;have hcs:Qbh s.k s.tx s.n=s.chk:=rfl;simp -implicitDefEqProofs[h4,h15,h16,h17,Qdv,hcs];by_cases hc:s.chk=0
  . simp -implicitDefEqProofs[hc,h4,h15,h16,h17,Qdv,d1,rwX,Tr.c];refine⟨by omega,by omega,by omega,?_⟩;refine LI.cong (H':=H++rwX (ts.take (i+1))::(L++[⟨s.c,52,0,true⟩,⟨[st (B s.tx)],9,0,true⟩])) (by rw[hrow]; simp[hcc,hmin]) ?_;exact ih (i+1) _ _ (by omega) (c1 hc) (by simp) (by simp[h15,Qdv]) (by simp[h16]) (by simp[w1])
  . simp -implicitDefEqProofs[hc];have h2:=c2 hc;exact hret (by rw[h2]; exact hc) _ _ (by simp) (by simp[h2])
theorem ok75 (hb:∀ t∈ts,t.tx.length<4611686018427387904):Ok Tryz.prog 75 [Qdv ts] H (.ret (.tup [st (B (Qcj ts).1),i64 (Qcj ts).2])) H:=by
 refine Qz hm Tryz.func75 c75 (by simp) λhcl => ?_;by_cases hs:5000<ts.length
 . have hr:Qcj ts=([],12):=by unfold Qcj; rw[Zo hs]
   have hs':(5000:Int)<ts.length:=by omega
   rw[hr];simp -implicitDefEqProofs[i75,r75,Qdv,hs'];exact Qj
 . have hs':¬ (5000:Int)<ts.length:=by omega
   simp -implicitDefEqProofs[i75,r75,Qdv,hs'];refine⟨by omega,by omega,?_⟩;refine QBS (H:=H) hb (by omega) (λhc env L g2 g3 => ?_) (λhc env L g4 => ?_) ts.length 0 _ [] (by omega) (by simp) (by simp) (by simp[Qdv]) (by simp) (by simp)
   . have hr:Qcj ts=([],chkL ts):=by unfold Qcj; rw[Zn hs,Zo hc]
     rw[hr];simp -implicitDefEqProofs[g2,g3];exact Qq 4 hcl rfl (by simp)
   . simp -implicitDefEqProofs[g4,rwX];have h40:∀ t∈ts,t.tx.length<=40:=λt ht=>Quh (QqJ hc t ht);have hjl:=Qss ts h40;refine Qyc H.length 2 (o:=rwX ts) (by simp[rwX]) rfl (args':=[.slc ((ts.map Tr.tx).map λs=>st (B s)) (ts.map Tr.tx).length,st (B [32])]) (by simp[rwX,VB]) (QwQ (ts.map Tr.tx) [32] (by simp; omega) (by unfold jn at hjl; omega)) ?_;simp -implicitDefEqProofs;have hj:Lib.join (ts.map Tr.tx) [32]=jn ts:=rfl;rw[hj];split
     . rename_i h4;have hr:Qcj ts=([],4):=by unfold Qcj; rw[Zn hs,Zn (by simpa using hc),Zo (by omega)]
       rw[hr];exact Qq 4 hcl rfl (by simp)
     . rename_i h4;have hr:Qcj ts=(jn ts,0):=by unfold Qcj; rw[Zn hs,Zn (by simpa using hc),Zn (by omega)]
       rw[hr];exact Qq 4 hcl rfl (by simp)
end
def Tok.tr (t:Tok):Tr:=⟨t.k,t.tx,t.n,t.p⟩
theorem tr_c (t:Tok):t.tr.c=t.c:=rfl
theorem Qui (ts:List Tok):Qbc ts=Qdv (ts.map Tok.tr):=by
 simp[Qbc,Qdv,List.flatMap_map,tr_c]
def Qi8 (l:ZE):ZE×Int×Int :=
 if(Qi l).2.1≠0 then([],(Qi l).2)else if(Qcj ((Qi l).1.map Tok.tr)).2≠0 then([],(Qcj ((Qi l).1.map Tok.tr)).2,20000)else((Qcj ((Qi l).1.map Tok.tr)).1,0,0)
def QiA (x:ZE×Int×Int):SV:=.tup [st (B x.1),QE x.2.1 x.2.2]
section
variable {H:ZG} {l:ZE}
theorem ok30 (hl:l.length<4611686018427387904) (hb:∀ t∈(Qi l).1.map Tok.tr,t.tx.length<4611686018427387904):Ok Tryz.prog 30 [st (B l)] H (.ret (QiA (Qi8 l))) H:=by
 refine Qz hm Tryz.func30 c30 (by simp) λhcl => ?_;have h13:=λH=>ok75 (H:=H) hb;have h15:=Ql9 (H:=H++[⟨[i64 0,i64 0],28,0,true⟩]) hl;simp -implicitDefEqProofs[i30,r30];unfold Qi8;generalize hg:Qi l=g at *;obtain⟨ts,e,p⟩:=g;simp only[Qui]at *;refine Qc h15 ?_;by_cases he:e=0
 . simp -implicitDefEqProofs[QE,he];refine Qc (h13 _) ?_;generalize Qcj (ts.map Tok.tr)=r at *;by_cases h0:r.2=0
   . simp -implicitDefEqProofs[h0];exact Qq 4 hcl rfl (by simp[QiA,QE,he])
   . simp -implicitDefEqProofs[h0];exact Qq 4 hcl rfl (by simp[QiA,QE,he])
 . simp -implicitDefEqProofs[QE,he];exact Qq 4 hcl rfl (by simp[QiA,QE])
end
theorem QBs {k:TK} (h:k.ok):0<k.tx.length:=by
 cases k with
 |wd s=>exact Yg.2 h.1
 |sg s =>
  rcases h with ⟨c,_,rfl⟩|hd
  . exact Nat.one_pos
  . simp only[QaH,Vd,Vu,Zt]at hd;rcases hd with rfl|rfl|rfl|rfl|rfl<;>decide
 |nm n=>exact QlE 18 n
theorem QBg {k:TK} {a b:ZE} (h:k.sep a) (he:a.getD 0 0=b.getD 0 0\/b=[]):k.sep b:=by
 cases k with
 |sg s =>
  rcases he with he|rfl
  . exact h.imp_right λh=>by rwa [<-he]
  . exact .inr ⟨by decide,by decide⟩
 |wd s =>
  have h:cAt a 0≠2/\cAt a 0≠3:=h;rcases he with he|rfl
  . show cAt b 0≠2/\cAt b 0≠3;unfold cAt at h ⊢
    rwa [<-he]
  . exact⟨by decide,by decide⟩
 |nm n =>
  have h:cAt a 0≠2/\cAt a 0≠3:=h;rcases he with he|rfl
  . show cAt b 0≠2/\cAt b 0≠3;unfold cAt at h ⊢
    rwa [<-he]
  . exact⟨by decide,by decide⟩
theorem QoM {ts:List Tok} {ks:List TK} (h:Qbp ts ks):∀ (i:Nat) (h1:i<ts.length) (h2:i<ks.length),Qes ts[i] ks[i]:=by
 induction h with
 |nil=>intro i h1; simp at h1
 |cons hf _ ih =>
  intro i h1 h2
  cases i with
  |zero=>exact hf
  |succ i=>exact ih i (by simpa using h1) (by simpa using h2)
theorem QuN {t t':Tok} {k:TK} (h:Qes t k) (h':Qes t' k):Tk t t':=by
 cases k with
 |wd s=>exact⟨by rw[h.1,h'.1],λ_=>by rw[h.2,h'.2],λe=>by rw[h.1]at e; exact absurd e (by decide)⟩
 |sg s=>exact⟨by rw[h.1,h'.1],λ_=>by rw[h.2,h'.2],λe=>by rw[h.1]at e; exact absurd e (by decide)⟩
 |nm n=>exact⟨by rw[h.1,h'.1],λe=>absurd h.1 e,λ_=>by rw[h.2,h'.2]⟩
theorem QlU {ps:List Pc} (hg:QdD ps) (h1:(txt ps).length<=20000) (h2:(tks ps).length<=5000):Plc 0 ps (Qi (txt ps)).1/\(Qi (txt ps)).2=(0,0):=by
 obtain⟨ts,g1,g2,g3⟩:=Qh2 ps hg [] (txt ps).length (Vb _) (.inl (.inl rfl));have g1:QB (txt ps)=ts.map .tok:=g1;have hf:=QmP ts 0 (by rw[Qih g2]; omega);unfold Qi;rw[Zn (by omega),g1,hf,Zo rfl,Qnv];exact⟨g3,rfl⟩
def jnP:List TK->List Pc
 |[]=>[]
 |[k]=>[.t k]
 |k::j::r=>.t k::.b 32::jnP (j::r)
theorem Qm8:∀ ks:List TK,tks (jnP ks)=ks
 |[]=>rfl
 |[k]=>rfl
 |k::j::r=>by simp only[jnP,tks,Qm8 (j::r)]
theorem QnC:∀ ks:List TK,txt (jnP ks)=Lib.join (ks.map TK.tx) [32]
 |[]=>by simp[jnP,txt,Lib.join,List.intercalate]
 |[k]=>by simp[jnP,txt,Lib.join,List.intercalate]
 |k::j::r=>by
  have:=QnC (j::r);simp only[jnP,txt,this];simp[Lib.join,List.intercalate,List.intersperse]
theorem Qpn (k:TK) (r:ZE):k.sep (32::r):=by
 cases k with
 |sg s=>exact .inr ⟨by show(32:UInt8)≠61; decide,by show(32:UInt8)≠46; decide⟩
 |wd s=>exact⟨by show(1:Int)≠2; decide,by show(1:Int)≠3; decide⟩
 |nm n=>exact⟨by show(1:Int)≠2; decide,by show(1:Int)≠3; decide⟩
theorem Qj3 (k:TK):k.sep []:=QBg (Qpn k []) (.inr rfl)
theorem Qqp:∀ ks:List TK,(∀ k∈ks,k.ok)->QdD (jnP ks)
 |[],_=>trivial
 |[k],h=>⟨h k (by simp),Qj3 k,trivial⟩
 |k::j::r,h=>⟨h k (by simp),Qpn k _,.inl rfl,Qqp (j::r) λx hx=>h x (by simp at hx ⊢; exact .inr hx)⟩
theorem Qol:∀ {ps:List Pc},QdD ps->∀ k∈tks ps,k.ok
 |[],_,k,hk=>by simp[tks]at hk
 |.b c::r,h,k,hk=>Qol h.2 k hk
 |.t j::r,h,k,hk=>by
  rcases Vd.1 hk with rfl|hk
  . exact h.1
  . exact Qol h.2.2 k hk
theorem Ql8:∀ (ps:List Pc) (n:Nat) (ts:List Tok),Plc n ps ts->ts.map (λt=>(t.tx,t.n))=(tks ps).map λk=>(k.tx,k.nV)
 |[],n,ts,h=>by
  have h:ts=[]:=h;subst h; rfl
 |.b c::r,n,ts,h=>Ql8 r (n+1) ts h
 |.t k::r,n,[],h=>h.elim
 |.t k::r,n,t::ts,h=>by
  obtain⟨_,⟨h1,h2⟩,h3⟩:=h;simp only[Vg,tks,Ql8 r _ ts h3,h1,h2]
theorem Qvx {k:TK} {t:Tok} (hk:k.ok) (hf:Qes t k) (h1:t.tx=k.tx) (h2:t.n=k.nV):t.tr.chk=0:=by
 have key:∀ {s:ZE} {j n:Int},Qx (s++[]) 0=.tok ⟨j,s,n,0⟩ s.length->0<s.length->1<=j->j<=3->Qbh j s n=0:=by
  intro s j n hs h0 hj hj3;rw[VE]at hs;have c1:cAt s 0≠1:=by intro h; unfold Qx at hs; rw[Zo h]at hs; cases hs
  have c2:s.getD 0 0≠35:=by
   intro h;have:cAt s 0=0:=by unfold cAt; rw[h]; rfl
   unfold Qx at hs;rw[this,Zn (by decide),Zn (by decide),Zn (by decide),Zn (by decide),Zo h]at hs
   cases hs
  unfold Qbh;rw[Zn (by rintro(h|h|h|h|h); (rw[h]at h0; simp at h0); omega; omega; exact c1 h; exact c2 h),hs];simp
 show Qbh t.k t.tx t.n=0;have hl:=QBs hk;rw[h1,h2]
 cases k with
 |wd s=>rw[hf.1]; exact key (Qqw hk (Qj3 (.wd s))) hl (by decide) (by decide)
 |sg s=>rw[hf.1]; exact key (QpC hk (Qj3 (.sg s))) hl (by decide) (by decide)
 |nm n=>rw[hf.1]; exact key (Qs9 hk (Qj3 (.nm n)).2) hl (by decide) (by decide)
theorem QpU:∀ {ts:List Tok} {ks:List TK},Qbp ts ks->(∀ k∈ks,k.ok)->ts.map (λt=>(t.tx,t.n))=ks.map (λk=>(k.tx,k.nV))->chkL (ts.map Tok.tr)=0
 |_,_,.nil,_,_=>rfl
 |t::ts,k::ks,.cons hf ha,hk,he=>by
  simp only[Vg,List.cons.injEq,Prod.mk.injEq]at he;simp only[Vg,chkL];rw[Zo (Qvx (hk k (by simp)) hf he.1.1 he.1.2)];exact QpU ha (λk h=>hk k (VL _ h)) he.2
theorem QyV {k:TK} (h:k.ok):k.tx.length<=40:=by
 cases k with
 |wd s=>exact h.2.2.2
 |sg s =>
  rcases h with ⟨c,_,rfl⟩|hd
  . show [c].length<=40; simp
  . simp only[QaH,Vd,Vu,Zt]at hd;rcases hd with rfl|rfl|rfl|rfl|rfl<;>decide
 |nm n=>show(Qa3 18 n).length<=40; exact Vi (QtO 18 n) (by decide)
theorem QpY:∀ ks:List TK,(∀ k∈ks,k.ok)->(Lib.join (ks.map TK.tx) [32]).length<=(ks.map λk=>k.tx.length+1).sum
 |[],_=>by simp[Lib.join,List.intercalate]
 |[k],_=>by simp[Lib.join,List.intercalate]
 |k::j::r,h=>by
  have:=QpY (j::r) λx hx=>h x (by simp at hx ⊢; exact .inr hx);have e:Lib.join ((k::j::r).map TK.tx) [32]=k.tx++32::Lib.join ((j::r).map TK.tx) [32]:=by simp[Lib.join,List.intercalate,List.intersperse]
  rw[e];simp only[Vj,Vh,Vg,VO]at this ⊢;omega
theorem QmN:∀ ps:List Pc,((tks ps).map λk=>k.tx.length+1).sum<=(txt ps).length+(tks ps).length
 |[]=>by simp[tks]
 |.b c::r=>by have:=QmN r; simp only[tks,txt,Vh]; omega
 |.t k::r=>by
  have:=QmN r;simp only[tks,txt,Vh,Vj,Vg,VO]; omega
theorem QpJ {l l':ZE} (h1:(Qi l).2.1=0) (h2:(Qi l').2.1=0) (hl:(Qi l').1.length=(Qi l).1.length)
 (ht:∀ (i:Nat) (a:i<(Qi l).1.length) (b:i<(Qi l').1.length),Tk (Qi l).1[i] (Qi l').1[i]) (h0:(QG l).2.1=0):(QG l').2.1=0/\(QG l').1.er=(QG l).1.er:=by
 have q:∀ {l},(Qi l).2.1=0->QG l=QbU ⟨(Qi l).1,l.length⟩ (orT ⟨(Qi l).1,l.length⟩):=λh=>by
  unfold QG; rw[Zn (by rw[h]; simp)]
 rw[q h1]at h0;rw[q h1,q h2];let s:Cp:=⟨⟨(Qi l).1,l.length⟩,⟨(Qi l').1,l'.length⟩,0,0,(Qi l).1.length,false⟩
 have hs:s.Ok:=⟨λa ha=>⟨ha,by show a<(Qi l').1.length; rw[hl]; exact ha,ht a ha _⟩,.inr ⟨rfl,.inl hl⟩⟩;rcases QzR hs rfl rfl hl h0 with ⟨_,m1,m2⟩|⟨hc,_⟩|⟨hc,_⟩
 . exact⟨m1,m2⟩
 . cases hc
 . cases hc
theorem QwF {ps:List Pc} (hg:QdD ps) (hl:(txt ps).length<=6000) (hn:(tks ps).length<=5000) (h0:(QG (txt ps)).2.1=0) :
 (∀ t∈(Qi (txt ps)).1.map Tok.tr,t.tx.length<4611686018427387904)/\∃ p,Qi8 (txt ps)=(p,0,0)/\p.length<=20000/\(QG p).2.1=0/\(QG p).1.er=(QG (txt ps)).1.er:=by
 obtain⟨hp,hs⟩:=QlU hg (by omega) hn;have A:=QnD hg (by rw[hs]);have hx:=Ql8 ps 0 _ hp;have hk:=Qol hg;have hA:=Qih A;have hc:=QpU A hk hx;have e1:((Qi (txt ps)).1.map Tok.tr).map Tr.tx=(tks ps).map TK.tx:=by
  have:=Zp (List.map Prod.fst) hx;simp only[Yk]at this ⊢;exact this
 have e2:jn ((Qi (txt ps)).1.map Tok.tr)=txt (jnP (tks ps)):=by
  show Lib.join (((Qi (txt ps)).1.map Tok.tr).map Tr.tx) [32]=_;rw[e1,QnC]
 have hj:(txt (jnP (tks ps))).length<=11000:=by
  have h1:=QpY (tks ps) hk;have h2:=QmN ps;rw[QnC]; omega
 have hg':=Qqp (tks ps) hk;obtain⟨_,hs'⟩:=QlU hg' (by omega) (by rw[Qm8]; exact hn);have A':=QnD hg' (by rw[hs']);rw[Qm8]at A';have hA':=Qih A';refine⟨λt ht => ?_,txt (jnP (tks ps)),?_,by omega,?_⟩
 . have:t.tx∈((Qi (txt ps)).1.map Tok.tr).map Tr.tx:=List.mem_map_of_mem ht;rw[e1]at this;obtain⟨k,h1,h2⟩:=Vx.1 this;have:=QyV (hk k h1);rw[<-h2]; omega
 . have hr:Qcj ((Qi (txt ps)).1.map Tok.tr)=(txt (jnP (tks ps)),0):=by
    unfold Qcj;rw[Zn (by simp; omega),Zn (by simp[hc]),e2,Zn (by omega)]
   unfold Qi8;rw[hs];simp only[hr];rfl
 . refine QpJ (by rw[hs]) (by rw[hs']) (by omega) (λi a b => ?_) h0;exact QuN (QoM A i a (by omega)) (QoM A' i b (by omega))
theorem QAz (t:Tok) (d:Nat):Tk t (t.mv d):=⟨rfl,λ_=>rfl,λ_=>rfl⟩
def frT:ZE:=[35,32,97,32,103,97,109,101,10,9]
def bkT:ZE:=[32,35,32,97,110,100,32,105,116,115,32,101,110,100]
theorem Qs8 {l:ZE} (hl:l.length<=20000) (h1:(Qi l).2=(0,0)) (hn:(Qi l).1.length<=5000):bad (QB l)=false/\QY (QB l)=(Qi l).1:=by
 have ht:QY (QB l)=(Qi l).1:=by
  unfold Qi at h1 ⊢;rw[Zn (by omega)]at h1 ⊢;by_cases h:(QbY 0 (QB l)).1=0
  . rw[Zo h]
  . rw[Zn h]at h1;exact absurd (Zp Prod.fst h1) h
 refine⟨?_,ht⟩
 cases hb:bad (QB l)with
 |false=>rfl
 |true =>
  exfalso;have h2:=Qjc hl (by rw[ht]; exact hn);rw[hb]at h2;rw[h2]at h1;exact QlH (λe p h=>QiL l.length 0 h) hb (Zp Prod.fst h1)
theorem Qxt {l0:ZE} (hl:(l0++[10]).length<=6000) (h1:(Qi (l0++[10])).2=(0,0)) (hn:(Qi (l0++[10])).1.length<=5000) (h0:(QG (l0++[10])).2.1=0) :
 (frT++(l0++[10])++bkT).length<=20000/\(QG (frT++(l0++[10])++bkT)).2.1=0/\(QG (frT++(l0++[10])++bkT)).1.er=(QG (l0++[10])).1.er:=by
 obtain⟨g1,g2⟩:=Qs8 (by omega) h1 hn;have e0:QB (l0++[10])=QB l0:=by
  have:=QjN (a:=l0) (b:=[]);rw[this]
  cases bad (QB l0)<;>simp[QxN]
 rw[e0]at g1 g2;have e1:QB (l0++10::bkT)=QB l0:=by
  rw[QjN,g1];have:QB bkT=[]:=by kernel_rfl
  simp[this]
 have e2:QB (9::(l0++10::bkT))=(QB l0).map (Ev.mv 1):=by rw[Quf (by decide),e1]
 have e3:QB ([35,32,97,32,103,97,109,101]++10::9::(l0++10::bkT))=((QB l0).map (Ev.mv 1)).map (Ev.mv 9):=by
  rw[QjN,e2];have:QB [35,32,97,32,103,97,109,101]=[]:=by kernel_rfl
  rw[this]; rfl
 have hT:frT++(l0++[10])++bkT=[35,32,97,32,103,97,109,101]++10::9::(l0++10::bkT):=by simp[frT,bkT]
 have hlen:(frT++(l0++[10])++bkT).length<=20000:=by
  simp only[Vj,frT,bkT,Vh,VH]at hl ⊢; omega
 have hbad:bad (QB (frT++(l0++[10])++bkT))=false:=by rw[hT,e3,QhS,QhS,g1]
 have htok:QY (QB (frT++(l0++[10])++bkT))=((Qi (l0++[10])).1.map (Tok.mv · 1)).map (Tok.mv · 9):=by rw[hT,e3,Qij,Qij,g2]
 have hsc:Qi (frT++(l0++[10])++bkT)=(((Qi (l0++[10])).1.map (Tok.mv · 1)).map (Tok.mv · 9),0,0):=by
  rw[Qjc hlen (by rw[htok]; simpa using hn),hbad,htok]; rfl
 refine⟨hlen,?_⟩;refine QpJ (by rw[h1]) (by rw[hsc]) (by rw[hsc]; simp) (λi a b => ?_) h0;have e:(Qi (frT++(l0++[10])++bkT)).1=((Qi (l0++[10])).1.map (Tok.mv · 1)).map (Tok.mv · 9):=by rw[hsc]
 simp only[e,List.getElem_map];exact⟨rfl,λ_=>rfl,λ_=>rfl⟩
theorem Qwa (l:ZE):Qx (40::l) 0=.tok ⟨3,[40],0,0⟩ 1:=by
 cases l with
 |nil=>kernel_rfl
 |cons c r =>
  have h1:cAt (40::c::r) 0=4:=rfl;unfold Qx;rw[h1];simp only[show ¬ (4:Int)=1 by decide,show ¬ (4:Int)=2 by decide,show ¬ (4:Int)=3 by decide,Zu,Zs];have h2:Qba (40::c::r) 0=1:=by
   unfold Qba;simp[QdO,QaH]
  rw[h2];unfold QV;rfl
theorem Qzx (l:ZE):QB (40::l)=.tok ⟨3,[40],0,0⟩::(QB l).map (Ev.mv 1):=by
 show evs (40::l) (l.length+1) 0=_;rw[evs,Zo (by simp),Qwa];simp only;have:=Qjk (a:=[40]) (b:=l) l.length 0 (λ_=>.inr (by decide));exact Zp (_ :: ·) this
theorem Qy4 {l:ZE} (hl:l.length<=300) (h1:(Qi l).2=(0,0)) :
 ∃ p,Qi ([40]++l++[10,41])=(⟨3,[40],0,0⟩::((Qi l).1.map (Tok.mv · 1)++[⟨3,[41],0,p⟩]),0,0):=by
 have hlen:(QY (QB l)).length<=l.length:=Vi (Qrg _) (Qms l l.length 0);have hn:(Qi l).1.length<=5000:=by
  unfold Qi at h1 ⊢;split
  . simp
  . split
    . simp only; omega
    . simp
 obtain⟨g1,g2⟩:=Qs8 (by omega) h1 hn;have e1:QB ([40]++l++[10,41])=.tok ⟨3,[40],0,0⟩::((QB l).map (Ev.mv 1)++[.tok ⟨3,[41],0,(40::l).length+1+0⟩]):=by
  have e:[40]++l++[10,41]=(40::l)++10::[41]:=by simp
  rw[e,QjN,Qzx];have hb:bad (.tok ⟨3,[40],0,0⟩::(QB l).map (Ev.mv 1))=false:=by
   show bad ((QB l).map (Ev.mv 1))=false;rw[QhS,g1]
  rw[hb];have h41:QB [41]=[.tok ⟨3,[41],0,0⟩]:=by kernel_rfl
  rw[h41];simp[Ev.mv,Tok.mv]
 refine⟨(40::l).length+1+0,?_⟩;have htk:QY (QB ([40]++l++[10,41]))=⟨3,[40],0,0⟩::((Qi l).1.map (Tok.mv · 1)++[⟨3,[41],0,(40::l).length+1+0⟩]):=by
  rw[e1];simp only[QY,Qk9,Qij,g2]
 have hbd:bad (QB ([40]++l++[10,41]))=false:=by
  rw[e1];show bad ((QB l).map (Ev.mv 1)++_)=false;rw[QoF,QhS,g1]; rfl
 rw[Qjc (by simp; omega) (by rw[htk]; simp; rw[g2]at hlen; omega),hbd,htk];rfl
theorem QtT {c:Cx} {ops:List (ZE×Int)} {r:Rd} (h:r.e=0->c.ts.length<=r.a):Qal c ops r=none:=by
 cases ho:Qal c ops r with
 |none=>rfl
 |some op=>have:=Qc0 ho; have:=h this.1; omega
theorem Qjy {c:Cx} {ops:List (ZE×Int)} {F:Rd->Ex×Rd} {r:Rd} (h:(F r).2.e=0->c.ts.length<=(F r).2.a):QS c ops F r=F r:=by
 unfold QS;rw[Qd6 (QtT h)]
theorem QBA {c:Cx} {d:Nat} {r:Rd} (hn:Qd c [110,111,116] r=false) (h:((lv c d).fac r).2.e=0->c.ts.length<=((lv c d).fac r).2.a):Q6 c (lv c d) r=(lv c d).fac r:=by
 have h1:QS c QaV (lv c d).fac r=(lv c d).fac r:=Qjy h;have h2:QS c Qa6 (QS c QaV (lv c d).fac) r=(lv c d).fac r:=by rw[Qjy (by rw[h1]; exact h),h1]
 have h3:Qar c (QS c Qa6 (QS c QaV (lv c d).fac)) r=(lv c d).fac r:=by
  unfold Qar;rw[h2,QtT h]
 have h4:(lv c d).nt r=(lv c d).fac r:=by
  obtain⟨N,hN⟩:=Qxz (c:=c) d;rw[hN];unfold Qat;rw[Zn (by rw[hn]; decide)];exact h3
 have h5:QS c Qbx (lv c d).nt r=(lv c d).fac r:=by rw[Qjy (by rw[h4]; exact h),h4]
 show QS c orO (QS c Qbx (lv c d).nt) r=_;rw[Qjy (by rw[h5]; exact h),h5]
theorem QuO {l:ZE} (hl:l.length<=300) (h0:(QO l).2.1=0) :
 (QO ([40]++l++[10,41])).2.1=5\/((QO ([40]++l++[10,41])).2=(0,0)/\(QO ([40]++l++[10,41])).1.er=(QO l).1.er):=by
 have hs0:(Qi l).2.1=0:=by
  by_cases h:(Qi l).2.1=0
  . exact h
  . unfold QO at h0;rw[Zo h]at h0;exact absurd h0 h
 have hs1:(Qi l).2=(0,0):=by
  unfold Qi at hs0 ⊢;split
  . rename_i h; rw[Zo h]at hs0; exact absurd hs0 (by decide)
  . rename_i h;rw[Zn h]at hs0;split
    . rfl
    . rename_i h2; rw[Zn h2]at hs0; exact absurd hs0 h2
 obtain⟨p,hp⟩:=Qy4 hl hs1;have q1:QO l=QbL ⟨(Qi l).1,l.length⟩:=by unfold QO; rw[Zn (by rw[hs0]; simp)]
 have q2:QO ([40]++l++[10,41])=QbL ⟨⟨3,[40],0,0⟩::((Qi l).1.map (Tok.mv · 1)++[⟨3,[41],0,p⟩]),([40]++l++[10,41]).length⟩:=by
  unfold QO; rw[hp]; simp
 rw[q1]at h0;rw[q1,q2];generalize ([40]++l++[10,41]).length=en;generalize (Qi l).1=ts at *;let c:Cx:=⟨ts,l.length⟩
 let c':Cx:=⟨⟨3,[40],0,0⟩::(ts.map (Tok.mv · 1)++[⟨3,[41],0,p⟩]),en⟩
 let s:Cp:=⟨c,c',1,1,ts.length,false⟩
 have hcl:c'.ts.length=ts.length+2:=by simp[c']
 have hs:s.Ok:=by
  refine⟨λa ha => ?_,.inr ⟨rfl,.inr ?_⟩⟩
  . have ha:a<ts.length:=ha;refine⟨ha,by show a+1<c'.ts.length; omega,?_⟩;have e:(c'.ts[a+1]'(by omega))=ts[a].mv 1:=by
     simp only[c',YK];rw[List.getElem_append_left (by simpa using ha)];simp
    show Tk ts[a] (c'.ts[a+1]'(by omega));rw[e]; exact QAz _ _
  . refine⟨by show ts.length+1<c'.ts.length; omega,?_⟩;have e:(c'.ts[ts.length+1]'(by omega))=⟨3,[41],0,p⟩:=by
     simp only[c',YK];rw[List.getElem_append_right (by simp)];simp
    show(c'.ts[ts.length+1]'(by omega)).k=3/\(c'.ts[ts.length+1]'(by omega)).tx=[41];rw[e]; exact⟨rfl,rfl⟩
 have hL:s.L 39 ⟨0,0,0,0⟩ ⟨1,1,0,0⟩:=⟨rfl,rfl,rfl,V3 _,rfl,rfl,by show 39+1<=40; decide⟩;have hx:(orT c ⟨0,0,0,0⟩).2.e=0/\c.ts.length<=(orT c ⟨0,0,0,0⟩).2.a/\QbL c=((orT c ⟨0,0,0,0⟩).1,0,0):=by
  unfold QbL at h0 ⊢;simp only at h0 ⊢;show(orT c ⟨0,0,0,0⟩).2.e=0/\c.ts.length<=(orT c ⟨0,0,0,0⟩).2.a/\_;by_cases ha:(orT c ⟨0,0,0,0⟩).2.a<c.ts.length
  . exfalso;rw[Zo ha]at h0;rw[Zo (Qb7 (by decide) _)]at h0;exact Qb7 (e:=11) (by decide) _ h0
  . rw[Zn ha]at h0 ⊢;by_cases he:(orT c ⟨0,0,0,0⟩).2.e≠0
    . rw[Zo he]at h0; exact absurd h0 he
    . rw[Zn he];exact⟨by simpa using he,by omega,rfl⟩
 obtain⟨x1,x2,x3⟩:=hx;have hsim:=(Sm.lv hs 39).2.2 _ _ hL x1;have hpk:∀ t:ZE,Qd c' t ⟨0,0,0,0⟩=decide (([40]:ZE)=t):=by
  intro t;unfold Qd Qaj;rw[Zx (show 0<c'.ts.length by omega)];simp[c']
 have hfr:QU c' ⟨0,0,0,0⟩=false:=by
  unfold QU Qaj;rw[Zx (show 0<c'.ts.length by omega)];simp[c']
 have hop:(Qr c' [40] ⟨0,0,0,0⟩).2=⟨1,1,0,0⟩:=by
  unfold Qr;rw[Zn (by simp)];have:Qd c' [40] (upR ⟨0,0,0,0⟩)=true:=hpk [40];unfold Qh;rw[this];rfl
 have hfac:(lv c' 40).fac ⟨0,0,0,0⟩=((Q6 c' (lv c' 39) ⟨1,1,0,0⟩).1,dnR (Qh c' [41] (Q6 c' (lv c' 39) ⟨1,1,0,0⟩).2).2):=by
  show QF c' (Q6 c' (lv c' 39)) (lv c' 39).fac ⟨0,0,0,0⟩=_;unfold QF;rw[Zn (by simp),Zn (by rw[hfr]; decide),Zn (by rw[hpk]; decide),Zo (by rw[hpk]; decide),hop,Zn (by simp)]
 have hexp:∀ {r:Rd},(lv c' 40).fac ⟨0,0,0,0⟩=((Q6 c' (lv c' 39) ⟨1,1,0,0⟩).1,r)->(r.e=0->c'.ts.length<=r.a)->QbL c'=if r.e≠0 then(zE,r.e,r.p)else((Q6 c' (lv c' 39) ⟨1,1,0,0⟩).1,0,0):=by
  intro r hr hle;have h1:orT c' ⟨0,0,0,0⟩=((Q6 c' (lv c' 39) ⟨1,1,0,0⟩).1,r):=by
   have:=QBA (c:=c') (d:=40) (r:=⟨0,0,0,0⟩) (by rw[hpk]; decide) (by rw[hr]; exact hle);rw[hr]at this; exact this
  unfold QbL;simp only[h1];by_cases ha:r.a<c'.ts.length
  . have he:r.e≠0:=λhe=>by have:=hle he; omega
    rw[Zo ha,Qeq he,Zo he]
  . rw[Zn ha]
 rcases hsim with ⟨k1,k2,k3⟩|k1
 . right;have x1':((Q6 c (lv c 40)) ⟨0,0,0,0⟩).2.a=ts.length:=by
    have:=k1.k;have h1:((Q6 c (lv c 40)) ⟨0,0,0,0⟩).2.a<=ts.length:=this;have h2:ts.length<=((Q6 c (lv c 40)) ⟨0,0,0,0⟩).2.a:=x2;omega
   have ka:(Q6 c' (lv c' 39) ⟨1,1,0,0⟩).2.a=ts.length+1:=by
    have:(Q6 c' (lv c' 39) ⟨1,1,0,0⟩).2.a=((Q6 c (lv c 40)) ⟨0,0,0,0⟩).2.a+1:=k1.a;omega
   have hpk2:Qd c' [41] (Q6 c' (lv c' 39) ⟨1,1,0,0⟩).2=true:=by
    have he:(Q6 c' (lv c' 39) ⟨1,1,0,0⟩).2.e=0:=k1.e';unfold Qd Qaj;rw[Zx (by rw[ka]; omega),he];have e:(c'.ts[(Q6 c' (lv c' 39) ⟨1,1,0,0⟩).2.a]'(by rw[ka]; omega))=⟨3,[41],0,p⟩:=by
     simp only[ka,c',YK];rw[List.getElem_append_right (by simp)];simp
    rw[e]; simp
   have ht:(Qh c' [41] (Q6 c' (lv c' 39) ⟨1,1,0,0⟩).2).2=Qa (Q6 c' (lv c' 39) ⟨1,1,0,0⟩).2:=by
    unfold Qh; rw[hpk2]; rfl
   rw[ht]at hfac;have he:(dnR (Qa (Q6 c' (lv c' 39) ⟨1,1,0,0⟩).2)).e=0:=k1.e';have:=hexp hfac λ_=>by
    show c'.ts.length<=(Q6 c' (lv c' 39) ⟨1,1,0,0⟩).2.a+1;omega
   rw[Zn (λh=>h he)]at this;rw[show QbL ⟨⟨3,[40],0,0⟩::(ts.map (Tok.mv · 1)++[⟨3,[41],0,p⟩]),en⟩=QbL c' from rfl,this,show QbL ⟨ts,l.length⟩=QbL c from rfl,x3];exact⟨rfl,k3⟩
 . left;have hX:s.X (Q6 c' (lv c' 39) ⟨1,1,0,0⟩).2:=by
    rcases k1 with h|h
    . cases h.1
    . exact h
   have h5:(Q6 c' (lv c' 39) ⟨1,1,0,0⟩).2.e=5:=by
    rcases hX with ⟨h,_⟩|⟨_,h⟩
    . cases h
    . exact h
   rw[Qdi [41] _ (ne5 h5)]at hfac;have he:(dnR (Q6 c' (lv c' 39) ⟨1,1,0,0⟩).2).e=5:=h5;have:=hexp hfac λh=>by rw[he]at h; cases h
   rw[Zo (ne5 he)]at this;rw[show QbL ⟨⟨3,[40],0,0⟩::(ts.map (Tok.mv · 1)++[⟨3,[41],0,p⟩]),en⟩=QbL c' from rfl,this];exact h5
structure WOk (W:Ex->Nat) (K b:Nat):Prop where
 z:W zE<=K
 nm:∀ nm p,W (.mk 2 0 nm [] p)<=K+b*nm.length
 num:∀ n p,W (.mk 1 n [] [] p)<=K
 op:∀ op l p,l.length<=3->W (.mk op 0 [] l p)<=(l.map W).sum+K
structure TwOk (c:Cx) (K b:Nat) (tw:Nat->Nat):Prop where
 mono:∀ i,tw i<=tw (i+1)
 tok:∀ i (h:i<c.ts.length),tw i+2*K+b*c.ts[i].tx.length<=tw (i+1)
section
variable {c:Cx} {W:Ex->Nat} {K:Nat} {tw:Nat->Nat} {F G:Rd->Ex×Rd}
def Wt (W:Ex->Nat) (K:Nat) (tw:Nat->Nat) (F:Rd->Ex×Rd):Prop:=∀ r,W (F r).1+tw r.a<=K+tw (F r).2.a/\tw r.a<=tw (F r).2.a
variable {b:Nat} (hW:WOk W K b) (hT:TwOk c K b tw)
include hT
theorem QkY (e:Int) (r:Rd):tw (Qg c e r).a=tw r.a:=by unfold Qg; split<;>rfl
theorem QhU (s:ZE) (r:Rd):tw r.a<=tw (Qh c s r).2.a/\(Qd c s r=true->tw r.a+2*K<=tw (Qh c s r).2.a):=by
 unfold Qh
 cases hp:Qd c s r with
 |true =>
  have:=hT.tok r.a (Qam hp);refine⟨hT.mono _,λ_ => ?_⟩;show _<=tw (r.a+1);omega
 |false=>exact⟨V0 (QkY hT 11 r).symm,λh=>by cases h⟩
theorem Qld (s:ZE) (r:Rd):tw r.a<=tw (Qr c s r).2.a/\((Qr c s r).2.e=0->tw r.a+2*K<=tw (Qr c s r).2.a):=by
 unfold Qr;generalize hq:upR (if Qd c s r=true/\r.v=40 then Qg c 5 r else r)=q;have ha:tw q.a=tw r.a:=by
  rw[<-hq];split
  . exact QkY hT 5 r
  . rfl
 obtain⟨h1,h2⟩:=QhU hT s q;rw[ha]at h1 h2;refine⟨h1,λh=>h2 ?_⟩;unfold Qh at h;by_cases hp:Qd c s q=true
 . exact hp
 . rw[Vk]at hp;rw[hp]at h;exact absurd h (Qb7 (by decide) q)
theorem Qu8 (r:Rd):tw r.a<=tw (QK c r).2.a/\b*(QK c r).1.length+tw r.a<=tw (QK c r).2.a:=by
 unfold QK;split
 . rename_i hp;obtain⟨_,hlt,_⟩:=QbV hp;have:=hT.tok r.a hlt;refine⟨hT.mono _,?_⟩;show b*(c.ts.getD r.a ⟨0,[],0,0⟩).tx.length+tw r.a<=tw (r.a+1);rw[Vz,Ve hlt];simp only[VX];omega
 . rw[QkY hT]; simp
theorem QwU (r:Rd):tw r.a<=tw (nmR c r).2.a:=by
 unfold nmR;split
 . exact hT.mono _
 . rw[QkY hT]; exact Vb _
include hW
theorem QsU {ops:List (ZE×Int)} (hF:Wt W K tw F):∀ (n:Nat) (e:Ex) (r:Rd) (t0:Nat),W e+t0<=K+tw r.a->t0<=tw r.a ->
 W (QaC c ops F n e r).1+t0<=K+tw (QaC c ops F n e r).2.a/\t0<=tw (QaC c ops F n e r).2.a
 |0,e,r,t0,h1,h2=>⟨h1,h2⟩
 |n+1,e,r,t0,h1,h2=>by
  rw[QaC];split
  . rename_i op ho;have ht:=hT.tok r.a (Qc0 ho).2;obtain⟨f1,f2⟩:=hF (Qa r);have ha:(Qa r).a=r.a+1:=rfl;rw[ha]at f1 f2;have hw:=hW.op op [e,(F (Qa r)).1] (Qk c r) (by simp);simp only[Vg,VF,VO,Yp]at hw;exact QsU hF n _ _ t0 (by omega) (by omega)
  . exact⟨h1,h2⟩
theorem Wt.bin {ops:List (ZE×Int)} (hF:Wt W K tw F):Wt W K tw (QS c ops F):=λr=>by
 obtain⟨h1,h2⟩:=hF r;exact QsU hW hT hF _ _ _ _ h1 h2
theorem Wt.cmp (hF:Wt W K tw F):Wt W K tw (Qar c F):=λr=>by
 obtain⟨h1,h2⟩:=hF r;unfold Qar;split
 . rename_i op ho;have ht:=hT.tok (F r).2.a (Qc0 ho).2;obtain⟨f1,f2⟩:=hF (Qa (F r).2);have ha:(Qa (F r).2).a=(F r).2.a+1:=rfl;rw[ha]at f1 f2;have hw:=hW.op op [(F r).1,(F (Qa (F r).2)).1] (Qk c (F r).2) (by simp);simp only[Vg,VF,VO,Yp]at hw;exact⟨by simp only; omega,by simp only; omega⟩
 . exact⟨h1,h2⟩
theorem Wt.nt (hF:Wt W K tw F) (hG:Wt W K tw G):Wt W K tw (Qat c F G):=λr=>by
 unfold Qat;split
 . obtain⟨o1,o2⟩:=Qld hT [110,111,116] r;split
   . exact⟨by have:=hW.z; simp only; omega,o1⟩
   . rename_i ho;have o3:=o2 (by simpa using ho);obtain⟨f1,f2⟩:=hG (Qr c [110,111,116] r).2;have hw:=hW.op 4 [(G (Qr c [110,111,116] r).2).1] (Qr c [110,111,116] r).1 (by simp);simp only[Vg,VF,VO,Yp]at hw;have ha:(dnR (G (Qr c [110,111,116] r).2).2).a=(G (Qr c [110,111,116] r).2).2.a:=rfl;simp only[ha];exact⟨by omega,by omega⟩
 . exact hF r
theorem Qsw (hF:Wt W K tw F):∀ (m:Nat) (l:List Ex) (r:Rd),tw r.a<=tw (QH c F m l r).2.a /\
 ∀ l',(QH c F m l r).1=some l'->(l'.map W).sum+tw r.a+m*K<=(l.map W).sum+tw (QH c F m l r).2.a
 |0,l,r=>⟨Vb _,λl' h=>by simp only[QH,Option.some.injEq]at h; subst h; simp[QH]⟩
 |m+1,l,r=>by
  rw[QH];obtain⟨t1,t2⟩:=QhU hT [44] r;split
  . exact⟨t1,λl' h=>by cases h⟩
  . rename_i hz;have hp:Qd c [44] r=true:=by
     by_cases hp:Qd c [44] r=true
     . exact hp
     . exfalso;apply hz;unfold Qh;rw[Vk]at hp;rw[hp]; exact Qb7 (by decide) r
    have t3:=t2 hp;obtain⟨f1,f2⟩:=hF (Qh c [44] r).2;obtain⟨a1,a2⟩:=Qsw hF m (l++[(F (Qh c [44] r).2).1]) (F (Qh c [44] r).2).2;refine⟨by omega,λl' h => ?_⟩;have:=a2 l' h;simp only[Yn,Vg,VF,List.sum_append,VO,Yp]at this;rw[Yb];omega
theorem Wt.call {s:ZE} {op p:Int} {m:Nat} (hm:m<=2) (hF:Wt W K tw F):Wt W K tw (Qcf c F s op m p):=λr=>by
 unfold Qcf;simp only;obtain⟨t1,_⟩:=QhU hT s r;obtain⟨o1,o2⟩:=Qld hT [40] (Qh c s r).2;split
 . exact⟨by have:=hW.z; simp only; omega,by simp only; omega⟩
 . rename_i ho;have o3:=o2 (by simpa using ho);generalize (Qr c [40] (Qh c s r).2).2=q at *;obtain⟨f1,f2⟩:=hF q;obtain⟨a1,a2⟩:=Qsw hW hT hF m [(F q).1] (F q).2;split
   . rename_i r3 hg;rw[hg]at a1;exact⟨by have:=hW.z; simp only at a1 ⊢; omega,by simp only at a1 ⊢; omega⟩
   . rename_i l r3 hg;rw[hg]at a1 a2;simp only at a1 a2 ⊢;have hlen:l.length<=3:=by
      have key:∀ (m:Nat) (acc:List Ex) (r r3:Rd) (l:List Ex),QH c F m acc r=(some l,r3)->l.length=acc.length+m:=by
       intro m
       induction m with
       |zero=>intro acc r r3 l h; simp only[QH,Prod.mk.injEq,Option.some.injEq]at h; rw[<-h.1]; rfl
       |succ m ih =>
        intro acc r r3 l h;rw[QH]at h;split at h
        . cases h
        . have:=ih _ _ _ _ h; simp at this; omega
      have:=key m _ _ _ _ hg;simp at this; omega
     have hw:=hW.op op l p hlen;obtain⟨u1,u2⟩:=QhU hT [41] r3;have ha:(dnR (Qh c [41] r3).2).a=(Qh c [41] r3).2.a:=rfl;rw[ha];have hsum:(l.map W).sum+tw q.a+m*K<=(K+tw r3.a):=by
      have:=a2 l rfl;simp only[Vg,VF,VO,Yp]at this;omega
     have hmk:0<=m*K:=V3 _;exact⟨by omega,by omega⟩
theorem Wt.fac (hF:Wt W K tw F) (hG:Wt W K tw G):Wt W K tw (QF c F G):=λr=>by
 have hz:=hW.z;unfold QF;split
 . exact⟨by simp only; omega,Vb _⟩
 split
 . obtain⟨w1,w2⟩:=Qu8 hT r;have:=hW.nm (QK c r).1 (Qk c r);exact⟨by simp only; omega,w1⟩
 split
 . obtain⟨o1,o2⟩:=Qld hT [45] r;split
   . exact⟨by simp only; omega,o1⟩
   . rename_i ho;have o3:=o2 (by simpa using ho);obtain⟨f1,f2⟩:=hG (Qr c [45] r).2;have hw:=hW.op 3 [(G (Qr c [45] r).2).1] (Qk c r) (by simp);simp only[Vg,VF,VO,Yp]at hw;have ha:(dnR (G (Qr c [45] r).2).2).a=(G (Qr c [45] r).2).2.a:=rfl;simp only[ha];exact⟨by omega,by omega⟩
 split
 . obtain⟨o1,o2⟩:=Qld hT [40] r;split
   . exact⟨by simp only; omega,o1⟩
   . obtain⟨f1,f2⟩:=hF (Qr c [40] r).2;obtain⟨u1,_⟩:=QhU hT [41] (F (Qr c [40] r).2).2;have ha:(dnR (Qh c [41] (F (Qr c [40] r).2).2).2).a=(Qh c [41] (F (Qr c [40] r).2).2).2.a:=rfl;simp only[ha];exact⟨by omega,by omega⟩
 split
 . rename_i w hw;have hm:w.2.2<=2:=by
    have:=List.mem_of_find?_eq_some hw;simp only[QaN,Vd,Vu,Zt]at this;rcases this with rfl|rfl|rfl<;>decide
   exact Wt.call hW hT hm hF r
 . have:=hW.num (nmR c r).1 (Qk c r);have:=QwU hT r;exact⟨by simp only; omega,by simpa using this⟩
theorem Wt.lv:∀ d:Nat,Wt W K tw (lv c d).fac/\Wt W K tw (lv c d).nt/\Wt W K tw (Q6 c (lv c d)):=by
 have zz:Wt W K tw λr=>(zE,r):=λr=>⟨by have:=hW.z; simp only; omega,Vb _⟩;have key:∀ O A N,Wt W K tw O->Wt W K tw A->Wt W K tw N->Wt W K tw (lvS c O A N).fac/\Wt W K tw (lvS c O A N).nt/\Wt W K tw (Q6 c (lvS c O A N)):=by
  intro O A N hO hA hN;have h1:Wt W K tw (lvS c O A N).fac:=Wt.fac hW hT hO hA;have h2:Wt W K tw (lvS c O A N).nt:=Wt.nt hW hT (Wt.cmp hW hT (Wt.bin hW hT (Wt.bin hW hT h1))) hN;exact⟨h1,h2,Wt.bin hW hT (Wt.bin hW hT h2)⟩
 intro d
 induction d with
 |zero=>exact key _ _ _ zz zz zz
 |succ d ih=>exact key _ _ _ ih.2.2 ih.1 ih.2.1
end
theorem Qwm {W:Ex->Nat} {K b:Nat} (hW:WOk W K b) (l:ZE):W (QO l).1<=K+((Qi l).1.map λt=>2*K+b*t.tx.length).sum:=by
 have hz:=hW.z;unfold QO;split
 . simp only; omega
 . unfold QbL;simp only;have key:W (orT ⟨(Qi l).1,l.length⟩ ⟨0,0,0,0⟩).1<=K+((Qi l).1.map λt=>2*K+b*t.tx.length).sum:=by
    let c:Cx:=⟨(Qi l).1,l.length⟩
    let tw:Nat->Nat:=λi=>((c.ts.take i).map λt=>2*K+b*t.tx.length).sum
    have hT:TwOk c K b tw:=by
     have hs:∀ i (h:i<c.ts.length),tw (i+1)=tw i+(2*K+b*c.ts[i].tx.length):=by
      intro i h;show((c.ts.take (i+1)).map λt=>2*K+b*t.tx.length).sum=((c.ts.take i).map λt=>2*K+b*t.tx.length).sum+_;rw[<-Y5 h,Yn,List.sum_append];simp only[Vg,VF,VO,Yp,V6]
     refine⟨λi => ?_,λi h=>by rw[hs i h]; omega⟩;by_cases h:i<c.ts.length
     . rw[hs i h]; omega
     . have e1:c.ts.take (i+1)=c.ts.take i:=by rw[VB (by omega),VB (by omega)]
       show tw i<=((c.ts.take (i+1)).map _).sum;rw[e1]; exact Vb _
    have h:=((Wt.lv hW hT 40).2.2 ⟨0,0,0,0⟩).1;have hle:∀ i,tw i<=(c.ts.map λt=>2*K+b*t.tx.length).sum:=by
     intro i;have:c.ts=c.ts.take i++c.ts.drop i:=(Ym i c.ts).symm;show((c.ts.take i).map _).sum<=_;conv=>rhs; rw[this]
     rw[Yn,List.sum_append]; omega
    have h2:=hle (orT c ⟨0,0,0,0⟩).2.a;have h0:tw 0=0:=rfl;have h:W (orT c ⟨0,0,0,0⟩).1+tw 0<=K+tw (orT c ⟨0,0,0,0⟩).2.a:=h;show W (orT c ⟨0,0,0,0⟩).1<=K+(c.ts.map λt=>2*K+b*t.tx.length).sum;omega
   generalize (if(orT ⟨(Qi l).1,l.length⟩ ⟨0,0,0,0⟩).2.a<(Qi l).1.length then Qg ⟨(Qi l).1,l.length⟩ 11 (orT ⟨(Qi l).1,l.length⟩ ⟨0,0,0,0⟩).2 else(orT ⟨(Qi l).1,l.length⟩ ⟨0,0,0,0⟩).2)=r;split
   . simp only; omega
   . exact key
end Go.Proofs.YtmkdpmfhlfhjkaaGreatDoor
