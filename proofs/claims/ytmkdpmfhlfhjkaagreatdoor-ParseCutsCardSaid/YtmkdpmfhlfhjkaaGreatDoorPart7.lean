/- Steps of the proof. -/
import Derived.Test.YtmkdpmfhlfhjkaaGreatDoorPart5
import Derived.Test.YtmkdpmfhlfhjkaaGreatDoorPKb
import Derived.Test.YtmkdpmfhlfhjkaaGreatDoorPart4
set_option linter.all false
namespace Go.Proofs.YtmkdpmfhlfhjkaaGreatDoor
open Go.Ab
mutual
theorem prp_er:∀ {a b:Ex},a.er=b.er->b.prp->a.prp
 |.mk op n nm l p,.mk op' n' nm' l' p',h,hb=>by
  simp only[Ex.er,Ex.mk.injEq]at h;obtain⟨rfl,rfl,rfl,hl,_⟩:=h;unfold Ex.prp at hb ⊢;obtain⟨h1,h2,h3,h4⟩:=hb;have hle:=QcU hl;have hn:l=[]↔l'=[]:=by rw[<-Yb,<- Yb,hle]
  refine⟨?_,h2,h3,Qnr hl h4⟩;simp only[QdU,hle,ZC.2 hn]at h1 ⊢;exact h1
theorem Qnr:∀ {a b:List Ex},Ex.erL a=Ex.erL b->Ex.prpL b->Ex.prpL a
 |[],_,_,_=>Zo
 |x::a,[],h,_=>by simp[Ex.erL]at h
 |x::a,y::b,h,hb=>by
  simp only[Ex.erL,List.cons.injEq]at h;exact⟨prp_er h.1 hb.1,Qnr h.2 hb.2⟩
end
mutual
theorem QxH:∀ {a b:Ex},a.er=b.er->Qd3 a=Qd3 b
 |.mk op n nm l p,.mk op' n' nm' l' p',h=>by
  simp only[Ex.er,Ex.mk.injEq]at h;unfold Qd3;exact Qm6 h.2.2.2.1
theorem Qm6:∀ {a b:List Ex},Ex.erL a=Ex.erL b->QaZ a=QaZ b
 |[],[],_=>rfl
 |[],y::b,h=>by simp[Ex.erL]at h
 |x::a,[],h=>by simp[Ex.erL]at h
 |x::a,y::b,h=>by
  simp only[Ex.erL,List.cons.injEq]at h;unfold QaZ;rw[QxH h.1,Qm6 h.2]
end
theorem QbS.er {a b:List Ex} (h:Ex.erL a=Ex.erL b) (hb:QbS b):QbS a :=
 ⟨by rw[QcU h]; exact hb.len,Qir.1 (Qnr h (Qir.2 hb.prp)),by rw[Qm6 h]; exact hb.cst⟩
theorem QkH {α β:Type} {f:α->β} {P:α->Prop} {l m:List α} (h:l.map f=m.map f) (hp:∀ a b,f a=f b->P b->P a) (hm:∀ x∈m,P x):∀ x∈l,P x:=by
 intro x hx;obtain⟨i,hi,rfl⟩:=Y0 hx;have hl:l.length=m.length:=by simpa using Zp List.length h
 have:=Zp (λl=>l[i]?) h;exact hp _ (m[i]'(by omega)) (by simpa[hi,show i<m.length by omega]using this) (hm _ (Vu _))
theorem Qf3 {α β:Type} {f:α->β} {l m:List α} (h:l.map f=m.map f):l.length=m.length:=by simpa using Zp List.length h
theorem Qo.prp_er {a b:Qo} (h:a.er=b.er) (hb:b.prp):a.prp:=by
 simp only[Qo.er,Qo.mk.injEq]at h;exact⟨by rw[h.1]; exact hb.nm,hb.e.er (by simp only[Ex.erL,h.2.1])⟩
theorem Qm.prp_er {a b:Qm} (h:a.er=b.er) (hb:b.prp):a.prp:=by
 simp only[Qm.er,Qm.mk.injEq]at h;obtain⟨h1,h2,h3,h4,h5,_⟩:=h;exact⟨by rw[h1]; exact hb.nm,by rw[QcU h2]; exact hb.wh1,hb.wh.er h2,QkH h4 (λ_ _=>Qo.prp_er) hb.sets,by rw[Qf3 h4]; exact hb.len,by rw[h5]; exact hb.go⟩
theorem QgA {a b:List Ex} (h:Ex.erL a=Ex.erL b) (hb:b=[]):a=[]:=Yb.1 (by rw[QcU h,hb]; rfl)
theorem Qsm {α β:Type} {f:α->β} {l m:List α} (h:l.map f=m.map f) (hb:m=[]):l=[]:=Yb.1 (by rw[Qf3 h,hb]; rfl)
theorem Qb.prp_er {a b:Qb} (h:a.er=b.er) (hb:b.prp):a.prp:=by
 simp only[Qb.er,Qb.mk.injEq]at h;obtain⟨e1,e2,e3,e4,e5,e6,e7,e8,e9,e10,e11,_⟩:=h;refine⟨by rw[e2]; exact hb.lb,?_⟩;rcases hb.kd with ⟨k,d,h1,h2,h3⟩|⟨k,t⟩|⟨k,e⟩
 . exact .inl ⟨by rw[e1]; exact k,⟨by rw[e3]; exact d.nm,by rw[e4]; exact d.lo,by rw[e5]; exact d.hi,by rw[e8]; exact d.seen,by rw[e8]; exact d.len,by rw[QcU e6]; exact d.wt1,d.wt.er e6,by rw[e7,e8]; exact d.all⟩,QgA e9 h1,Qsm e10 h2,QgA e11 h3⟩
 . exact .inr (.inl ⟨by rw[e1]; exact k,⟨by rw[QcU e9]; exact t.who1,t.who.er e9,by rw[Qf3 e10]; exact t.acts0,QkH e10 (λ_ _=>Qm.prp_er) t.acts,by rw[Qf3 e10]; exact t.len,by rw[e3]; exact t.nm,by rw[e4]; exact t.lo,by rw[e5]; exact t.hi,QgA e6 t.wt,by rw[e7]; exact t.all,by rw[e8]; exact t.seen,QgA e11 t.pays⟩⟩)
 . exact .inr (.inr ⟨by rw[e1]; exact k,⟨by rw[QcU e11]; exact e.pays0,e.pays.er e11,by rw[e3]; exact e.nm,by rw[e4]; exact e.lo,by rw[e5]; exact e.hi,QgA e6 e.wt,by rw[e7]; exact e.all,by rw[e8]; exact e.seen,QgA e9 e.who,Qsm e10 e.acts⟩⟩)
theorem Ql.prp_er {a b:Ql} (h:a.er=b.er) (hb:b.prp):a.prp:=by
 simp only[Ql.er,Ql.mk.injEq]at h;exact⟨by rw[h.1]; exact hb.nm,by rw[h.2.1]; exact hb.lo,by rw[h.2.1]; exact hb.hi⟩
theorem Qx.prp_er {a b:Qx} (h:a.er=b.er) (hb:b.prp):a.prp:=by
 simp only[Qx.er,Qx.mk.injEq]at h;obtain⟨h1,h2,h3,h4⟩:=h;exact⟨by rw[h1]; exact hb.nm,by rw[h2]; exact hb.pl,QkH h3 (λ_ _=>Ql.prp_er) hb.vars,by rw[Qf3 h3]; exact hb.vlen,QkH h4 (λ_ _=>Qb.prp_er) hb.stages,by rw[Qf3 h4]; exact hb.slen,by rw[Qf3 h4]; exact hb.s0⟩
def okE (e:Ex):Bool:=Qit e&&decide (Qd3 e<=1000)
theorem Qiw {l:List Ex} (hl:l.length<=100) (h:l.all okE=true):QbS l:=by
 have h2:=Vm.1 h;refine⟨hl,λe he=>QlO (by have:=h2 e he; unfold okE at this; rw[Va]at this; exact this.1),?_⟩;have key:∀ l:List Ex,(∀ e∈l,okE e=true)->QaZ l<=1+1000*l.length:=by
  intro l
  induction l with
  |nil=>intro _; simp[QaZ]
  |cons x r ih =>
   intro h;have h1:=h x (by simp);have h3:=ih λe he=>h e (by simp[he]);unfold okE at h1;simp only[Va,Zq]at h1;unfold QaZ;simp only[Vh];omega
 have:=key l h2;omega
theorem Qo1:QfY 8 3 (λg=>okE (exE g))=true:=by kernel_rfl
theorem Qtp:QfY 4 3 (λg=>okE (cdE g))=true:=by kernel_rfl
theorem Qse:QfY 4 3 (λg=>upto 3 λp=>okE (QhH (some g) p)&&okE (QhH none p))=true:=by kernel_rfl
theorem QuV:upto 4 (λw=>upto 3 λx=>(wgE w x).all okE)=true:=by kernel_rfl
theorem Qtt:upto 10 (λi=>Qb8 (vN i)&&(Qb8 (sN i)&&(Qb8 (gN i)&&Qb8 (aN i))))=true:=by kernel_rfl
theorem Qjp {s:ZE} (h:Qb8 s=true):Qcp s:=by
 refine⟨?_,h⟩;have:=(QuE h).1.2.2.2;omega
theorem Qev {i:Nat} (h:i<10):Qcp (vN i)/\Qcp (sN i)/\Qcp (gN i)/\Qcp (aN i):=by
 have:=QbK Qtt h;simp only[Va]at this;exact⟨Qjp this.1,Qjp this.2.1,Qjp this.2.2.1,Qjp this.2.2.2⟩
theorem Qt4 {s:Nat×GX} {v:Nat} (hv:v<=3) (h:s.1<v/\s.2.Wf v 8):(Qgl s).prp :=
 ⟨(Qev (by omega)).1,Qiw (by simp) (by simpa[Qgl]using Qf7 Qo1 hv h.2)⟩
theorem Qux {k v i n:Nat} {g:GA} (hk:k<10) (hv:v<=3) (hn:n<=4) (h:g.Wf v i n):(Qfr k g).prp:=by
 refine⟨(Qev hk).2.2.2,?_,?_,?_,?_,?_⟩
 . unfold Qfr whL; cases g.wh<;>simp
 . unfold Qfr whL
   cases hw:g.wh with
   |none=>exact Qgd
   |some c=>exact Qiw (by simp) (by simpa using Qf7 Qtp hv (h.wh c hw))
 . intro s hs;obtain⟨x,hx,rfl⟩:=Vy.1 hs;exact Qt4 hv (h.sets x hx)
 . have:=h.len; simp[Qfr]; omega
 . unfold Qfr goN
   cases hg:g.go with
   |none=>exact .inl rfl
   |some t=>exact .inr (Qev (by have:=h.go t hg; omega)).2.1
theorem Qpi {v i n:Nat} (hv:v<=3) (hn:n<=4):∀ (l:List GA) (k:Nat),k+l.length<=10->(∀ a∈l,a.Wf v i n)->(∀ a∈QdQ k l,a.prp)/\(QdQ k l).length=l.length
 |[],k,_,_=>⟨λa ha=>by simp[QdQ]at ha,rfl⟩
 |g::r,k,hl,h=>by
  simp only[Vh]at hl;obtain⟨h1,h2⟩:=Qpi hv hn r (k+1) (by omega) λa ha=>h a (by simp[ha]);refine⟨λa ha => ?_,by simp[QdQ,h2]⟩;rcases Ve.1 ha with rfl|ha
  . exact Qux (by omega) hv hn (h g (by simp))
  . exact h1 a ha
theorem QvH {pl v n i:Nat} {g:GS} (hi:i<10) (hv:v<=3) (hn:n<=4) (hp:pl<=3) (h:g.Wf pl v n i):(QfQ i g).prp:=by
 cases g with
 |deal x r w s p =>
  obtain⟨h1,h2,h3,h4,h5⟩:=h;have hw1:(wgE w x).length<=100:=by
   unfold wgE;repeat' split
   all_goals simp
  have hw:QbS (wgE w x):=Qiw hw1 (QbK (QbK QuV h3) (by omega));refine⟨.inr (Qev hi).2.1,.inl ⟨rfl,⟨(Qev (by omega)).1,?_,?_,?_,?_,?_,hw,?_⟩,rfl,rfl,rfl⟩⟩
  . show(0:Int)<=(loV r:Int)/\(loV r:Int)<=1000000000;unfold loV; split<;>(try split)<;>omega
  . show(0:Int)<=(hiV r:Int)/\(hiV r:Int)<=1000000000;unfold hiV; split<;>(try split)<;>omega
  . intro m hm;have hm:m∈(if s=1 then [(p:Int)]else []):=hm;split at hm
    . simp at hm; omega
    . simp at hm
  . show(if s=1 then [(p:Int)]else []).length<_;split<;>simp
  . show(wgE w x).length<=1;unfold wgE; repeat' split
    all_goals simp
  . intro ha;have ha:decide (s=0)=true:=ha;show(if s=1 then [(p:Int)]else [])=[];rw[Zq]at ha;rw[Zm (by omega)]
 |turn w p acts =>
  obtain⟨h1,h2,h3,h4,h5⟩:=h;obtain⟨k1,k2⟩:=Qpi hv hn acts 0 (by omega) h5;have hw:QbS [QhH w p]:=Qiw (by simp) (by
   cases w with
   |none =>
    have:GX.Wf 3 4 ⟨0,0,0⟩:=⟨by decide,by decide,by decide⟩;have:=QbK (Qf7 Qse (Vb 3) this) (show p<3 by omega);rw[Va]at this;simpa using this.2
   |some g =>
    have:=QbK (Qf7 Qse hv (h1 g rfl)) (show p<3 by omega);rw[Va]at this;simpa using this.1)
  exact⟨.inr (Qev hi).2.1,.inr (.inl ⟨rfl,⟨rfl,hw,by show 0<(QdQ 0 acts).length; omega,k1,by show(QdQ 0 acts).length<_; omega,rfl,rfl,rfl,rfl,rfl,rfl,rfl⟩⟩)⟩
theorem QsS {pl v n:Nat} (hv:v<=3) (hn:n<=4) (hp:pl<=3):∀ (l:List GS) (i:Nat),i+l.length<=10->Qfh pl v n i l->(∀ x∈QdP i l,x.prp)/\(QdP i l).length=l.length
 |[],i,_,_=>⟨λa ha=>by simp[QdP]at ha,rfl⟩
 |g::r,i,hl,h=>by
  simp only[Vh]at hl;obtain⟨h1,h2⟩:=QsS hv hn hp r (i+1) (by omega) h.2;refine⟨λa ha => ?_,by simp[QdP,h2]⟩;rcases Ve.1 ha with rfl|ha
  . exact QvH (by omega) hv hn hp h.1
  . exact h1 a ha
theorem Qpd:∀ (l:List Nat) (i:Nat),i+l.length<=10->(∀ c∈l,c<4)->(∀ x∈Qdt i l,x.prp)/\(Qdt i l).length=l.length
 |[],i,_,_=>⟨λa ha=>by simp[Qdt]at ha,rfl⟩
 |c::r,i,hl,h=>by
  simp only[Vh]at hl;obtain⟨h1,h2⟩:=Qpd r (i+1) (by omega) λa ha=>h a (by simp[ha]);refine⟨λa ha => ?_,by simp[Qdt,h2]⟩;rcases Ve.1 ha with rfl|ha
  . refine⟨(Qev (by omega)).1,?_,?_⟩
    . show -1000000000<=Qff c;unfold Qff; repeat' split
      all_goals omega
    . show Qff c<=1000000000;unfold Qff; repeat' split
      all_goals omega
  . exact h1 a ha
theorem QAn {g:GR} (h:g.Wf):(QnO g).prp:=by
 have hs:=h.st4;have hv:=h.v3;have hp:=h.pl3;have hp1:=h.pl1;have hpl:=h.payl;obtain⟨k1,k2⟩:=QsS hv hs hp g.stages 0 (by omega) h.sts;obtain⟨j1,j2⟩:=Qpd g.ini 0 (by have:=h.inl; omega) h.ini;refine⟨(Qev (by have:=h.nm; omega)).2.2.1,by show(0:Int)<=(g.pl:Int)/\(g.pl:Int)<=_; omega,j1,by show(Qdt 0 g.ini).length<_; have:=h.inl; omega,?_,?_,?_⟩
 . intro x hx;rcases Vq.1 hx with hx|hx
   . exact k1 x hx
   . rw[VV.1 hx];refine⟨.inr (Qev (by omega)).2.1,.inr (.inr ⟨rfl,⟨?_,Qiw ?_ ?_,rfl,rfl,rfl,rfl,rfl,rfl,rfl,rfl⟩⟩)⟩
     . show 0<(g.pays.map exE).length;simp; omega
     . show(g.pays.map exE).length<=100;simp; omega
     . rw[Vm];intro e he;obtain⟨x,hx,rfl⟩:=Vy.1 he;exact Qf7 Qo1 hv (h.pays x hx)
 . show(QdP 0 g.stages++[_]).length<_;simp[k2]; omega
 . show 0<(QdP 0 g.stages++[_]).length;simp
structure Cp where
 c:Cx
 c':Cx
 m:Nat
 w:Nat
 k:Nat
 cut:Bool
def Tk (t t':Tok):Prop:=t'.k=t.k/\(t.k≠2->t'.tx=t.tx)/\(t.k=2->t'.n=t.n)
theorem Tk.peek {t t':Tok} (h:Tk t t') (s:ZE):(!decide (t'.k=2)&&decide (t'.tx=s))=(!decide (t.k=2)&&decide (t.tx=s)):=by
 rw[h.1];by_cases hk:t.k=2
 . simp[hk]
 . rw[h.2.1 hk]
structure Cp.Ok (s:Cp):Prop where
 tk:∀ a,a<s.k->∃ (h:a<s.c.ts.length) (h':a+s.m<s.c'.ts.length),Tk s.c.ts[a] s.c'.ts[a+s.m]
 fin:(s.cut=true/\s.c'.ts.length=s.k+s.m)\/(s.k=s.c.ts.length/\(s.c'.ts.length=s.k+s.m\/∃ h:s.k+s.m<s.c'.ts.length,s.c'.ts[s.k+s.m].k=3/\s.c'.ts[s.k+s.m].tx=[41]))
structure Cp.L (s:Cp) (d:Nat) (r r':Rd):Prop where
 e:r.e=0
 e':r'.e=0
 a:r'.a=r.a+s.m
 k:r.a<=s.k
 v:r.v+((d+s.w:Nat):Int)=40
 v':r'.v+(d:Int)=40
 d:d+s.w<=40
def Cp.E (s:Cp) (r:Rd):Prop:=s.cut=true/\r.e=0/\r.a=s.c'.ts.length
def Cp.X (s:Cp) (r:Rd):Prop:=(s.cut=true/\r.e=11/\r.p=s.c'.en)\/(s.w≠0/\r.e=5)
def Cp.B (s:Cp) (r:Rd):Prop:=s.E r\/s.X r
section
variable {s:Cp}
theorem Qdj {r:Rd} (h:s.X r):r.e≠0:=by rcases h with ⟨_,h,_⟩|⟨_,h⟩<;>omega
theorem Qtj {r:Rd} (h:s.E r) (f:Tok->Bool):Qal s.c' r f=false:=by
 unfold Qal;rw[Zz (by have:=h.2.2; omega)]; simp
theorem Qm8 {r:Rd} (h:s.B r) (f:Tok->Bool):Qal s.c' r f=false:=by
 rcases h with h|h
 . exact Qtj h f
 . unfold Qal; simp[Qdj h]
theorem Qa4 {r:Rd} (h:s.B r) (t:ZE):Qd s.c' t r=false:=Qm8 h _
theorem QfE {r:Rd} (h:s.B r):QP s.c' r=false:=Qm8 h _
theorem Qmk {r:Rd} (h:s.B r):QaW s.c' r=false:=Qm8 h _
theorem QiA {r:Rd} (h:s.B r) (ops:List (ZE×Int)):Qam s.c' ops r=none:=Qq9 λo _=>Qa4 h o.1
theorem Qlr {r:Rd} (h:s.B r):s.X (Qg s.c' 11 r):=by
 rcases h with h|h
 . refine .inl ⟨h.1,?_⟩;unfold Qg;rw[Zn h.2.1];refine⟨rfl,?_⟩;show Qk s.c' r=_;unfold Qk;rw[Zz (by have:=h.2.2; omega)]
 . rw[QeP (Qdj h)]; exact h
theorem Qdx {r:Rd} (h:s.B r) (t:ZE):s.X (Qh s.c' t r).2:=by
 unfold Qh;rw[Qa4 h]; exact Qlr h
theorem Qbq {r:Rd} (h:s.B r) (t:ZE):s.X (t2 s.c' t r):=Qdx h t
theorem QhK {r:Rd} (h:s.B r):s.X (QO s.c' r).2:=by
 unfold QO;rw[QfE h]; exact Qlr h
theorem Qfq {r:Rd} (h:s.B r):s.X (nmR s.c' r).2:=by
 unfold nmR;rw[Qmk h]; exact Qlr h
theorem B_up {r:Rd} (h:s.B r):s.B (upR r):=h
theorem B_dn {r:Rd} (h:s.B r):s.B (dnR r):=h
theorem Qjt {r:Rd} (h:s.X r):s.X (dnR r):=h
theorem QoG {r:Rd} (h:s.B r) (t:ZE):s.X (QB s.c' t r).2:=by
 unfold QB;rw[Qa4 h,Zm (by simp)];exact Qdx (B_up h) t
def Cp.Dn {α:Type} (s:Cp) (F:Rd->α×Rd):Prop:=∀ r,s.B r->s.B (F r).2
variable {F F' G G':Rd->Ex×Rd}
theorem Qhe {ops:List (ZE×Int)} {n:Nat} {e:Ex} {r:Rd} (h:s.B r):(QaX s.c' ops F' n e r).2=r:=by
 rw[Qd8 (QiA h ops)]
theorem Dn.bin {ops:List (ZE×Int)} (hF:s.Dn F'):s.Dn (Q7 s.c' ops F'):=λr h=>by
 unfold Q7;rw[Qhe (hF r h)]; exact hF r h
theorem Dn.cmp (hF:s.Dn F'):s.Dn (QaP s.c' F'):=λr h=>by
 unfold QaP;rw[QiA (hF r h)]; exact hF r h
theorem Dn.nt (hF:s.Dn F'):s.Dn (QaS s.c' F' G'):=λr h=>by
 unfold QaS;rw[Zm (by rw[Qa4 h]; decide)]; exact hF r h
theorem Dn.fac:s.Dn (QL s.c' F' G'):=λr h=>by
 unfold QL;split
 . exact h
 . rw[Zm (by rw[QfE h]; decide),Zm (by rw[Qa4 h]; decide),Zm (by rw[Qa4 h]; decide)];have:QaT.find? (λw=>Qd s.c' w.1 r)=none:=by
    rw[Y3]; intro w _; rw[Qa4 h]; decide
   rw[this];exact .inr (Qfq h)
theorem Dn.lv (d:Nat):s.Dn (lv s.c' d).fac/\s.Dn (lv s.c' d).nt/\s.Dn (Qcd s.c' (lv s.c' d)):=by
 have h1:s.Dn (Proofs.YtmkdpmfhlfhjkaaGreatDoor.lv s.c' d).fac:=by cases d<;>exact Dn.fac
 have h2:s.Dn (Proofs.YtmkdpmfhlfhjkaaGreatDoor.lv s.c' d).nt:=by cases d<;>exact Dn.nt (Dn.cmp (Dn.bin (Dn.bin Dn.fac)))
 exact⟨h1,h2,Dn.bin (Dn.bin h2)⟩
theorem QoL (hF:s.Dn F'):∀ (m:Nat) (l:List Ex) (r:Rd),s.B r->s.B (QU s.c' F' m l r).2
 |0,l,r,h=>h
 |m+1,l,r,h=>by
  rw[QU,Zn (Qdj (Qdx h [44]))];exact .inr (Qdx h [44])
def Cp.Sm {α:Type} (s:Cp) (d:Nat) (q:α->α->Prop) (F F':Rd->α×Rd):Prop :=
 ∀ r r',s.L d r r'->(F r).2.e=0->(s.L d (F r).2 (F' r').2/\r.a<=(F r).2.a/\q (F r).1 (F' r').1)\/s.B (F' r').2
def Cp.SmX {α:Type} (s:Cp) (d:Nat) (q:α->α->Prop) (F F':Rd->α×Rd):Prop :=
 ∀ r r',s.L d r r'->(F r).2.e=0->(s.L d (F r).2 (F' r').2/\r.a+1<=(F r).2.a/\q (F r).1 (F' r').1)\/s.X (F' r').2
def Cp.DnX {α:Type} (s:Cp) (F:Rd->α×Rd):Prop:=∀ r,s.B r->s.X (F r).2
def erq (x y:Ex):Prop:=y.er=x.er
def tt {α:Type} (_ _:α):Prop:=True
theorem Cp.Sm.step {α:Type} {d:Nat} {q:α->α->Prop} {F F':Rd->α×Rd} (hS:s.Sm d q F F') (hD:s.Dn F') {P:Prop} {r r':Rd} (h:(s.L d r r'/\P)\/s.B r') (h0:(F r).2.e=0) :
 (s.L d (F r).2 (F' r').2/\P/\r.a<=(F r).2.a/\q (F r).1 (F' r').1)\/s.B (F' r').2:=by
 rcases h with ⟨h,hp⟩|h
 . rcases hS r r' h h0 with ⟨h1,h2,h3⟩|h1
   . exact .inl ⟨h1,hp,h2,h3⟩
   . exact .inr h1
 . exact .inr (hD r' h)
theorem Cp.SmX.step {α:Type} {d:Nat} {q:α->α->Prop} {F F':Rd->α×Rd} (hS:s.SmX d q F F') (hD:s.DnX F') {P:Prop} {r r':Rd} (h:(s.L d r r'/\P)\/s.B r') (h0:(F r).2.e=0) :
 (s.L d (F r).2 (F' r').2/\P/\r.a+1<=(F r).2.a/\q (F r).1 (F' r').1)\/s.X (F' r').2:=by
 rcases h with ⟨h,hp⟩|h
 . rcases hS r r' h h0 with ⟨h1,h2,h3⟩|h1
   . exact .inl ⟨h1,hp,h2,h3⟩
   . exact .inr h1
 . exact .inr (hD r' h)
variable (hs:s.Ok)
include hs
theorem Qhp {d:Nat} {r r':Rd} (h:s.L d r r'):s.E r'\/(∃ (h1:r.a<s.c.ts.length) (h2:r'.a<s.c'.ts.length),r.a<s.k/\Tk s.c.ts[r.a] s.c'.ts[r'.a]) \/
 (r.a=s.c.ts.length/\s.c.ts.length=s.k/\(∀ f,Qal s.c r f=false)/\(∀ f,(∀ t:Tok,t.k=3->t.tx=[41]->f t=false)->Qal s.c' r' f=false)/\(s.c'.ts.length=r'.a\/∃ h:r'.a<s.c'.ts.length,s.c'.ts[r'.a].k=3/\s.c'.ts[r'.a].tx=[41])):=by
 have ha:=h.a;by_cases hk:r.a<s.k
 . obtain⟨h1,h2,h3⟩:=hs.tk r.a hk;refine .inr (.inl ⟨h1,by omega,hk,?_⟩);simp only[ha]; exact h3
 . have he:r.a=s.k:=by have:=h.k; omega
   rcases hs.fin with ⟨hc,hl⟩|⟨hk2,hl⟩
   . exact .inl ⟨hc,h.e',by rw[ha,he,hl]⟩
   . refine .inr (.inr ⟨by omega,hk2.symm,λf => ?_,λf hf => ?_,?_⟩)
     . unfold Qal; rw[Zz (by omega)]; simp
     . unfold Qal;split
       . rename_i h1;rcases hl with hl|⟨h2,h3,h4⟩
         . omega
         . have e:s.c'.ts[r'.a]=s.c'.ts[s.k+s.m]:=by congr 1; omega
           rw[e,hf _ h3 h4]; simp
       . simp
     . rcases hl with hl|⟨h2,h3,h4⟩
       . left; omega
       . right;refine⟨by omega,?_⟩;have e:s.c'.ts[r'.a]'(by omega)=s.c'.ts[s.k+s.m]:=by congr 1; omega
         rw[e]; exact⟨h3,h4⟩
theorem Qnt {d:Nat} {r r':Rd} (h:s.L d r r') {f:Tok->Bool} (hf:∀ t t',Tk t t'->f t'=f t) (hp:∀ t:Tok,t.k=3->t.tx=[41]->f t=false):s.E r'\/Qal s.c' r' f=Qal s.c r f:=by
 rcases Qhp hs h with h1|⟨h1,h2,_,h3⟩|⟨_,_,h1,h2,_⟩
 . exact .inl h1
 . right;unfold Qal;rw[Zy h1,Zy h2,hf _ _ h3,h.e,h.e']
 . right;rw[h1,h2 f hp]
theorem Qat {d:Nat} {r r':Rd} (h:s.L d r r') {t:ZE} (ht:t≠[41]):s.E r'\/Qd s.c' t r'=Qd s.c t r :=
 Qnt hs h (λ_ _ h=>h.peek t) (λt _ h2=>by simp[h2,ht.symm])
theorem Qgc {d:Nat} {r r':Rd} (h:s.L d r r'):s.E r'\/QP s.c' r'=QP s.c r :=
 Qnt hs h (λt t' h=>by
  by_cases hk:t.k=1
  . have:=h.2.1 (by omega);simp only[h.1,this]
  . simp[h.1,hk]) (λt h1 _=>by simp[h1])
theorem QlH {d:Nat} {r r':Rd} (h:s.L d r r'):s.E r'\/QaW s.c' r'=QaW s.c r :=
 Qnt hs h (λt t' h=>by simp only[h.1]) (λt h1 _=>by simp[h1])
theorem QnN {d:Nat} {r r':Rd} (h:s.L d r r') {ops:List (ZE×Int)} (ho:∀ o∈ops,o.1≠[41]):s.E r'\/Qam s.c' ops r'=Qam s.c ops r:=by
 by_cases hE:s.E r'
 . exact .inl hE
 . right;unfold Qam;congr 1
   induction ops with
   |nil=>rfl
   |cons o l ih =>
    rw[Yv,Yv,(Qat hs h (ho o (by simp))).resolve_left hE,ih λo h=>ho o (by simp[h])]
theorem QiK {d:Nat} {r r':Rd} (h:s.L d r r') (h1:r.a<s.c.ts.length):s.E r'\/(s.L d (Qa r) (Qa r')/\r'.a<s.c'.ts.length/\∃ h2:r'.a<s.c'.ts.length,Tk s.c.ts[r.a] s.c'.ts[r'.a]):=by
 rcases Qhp hs h with h2|⟨_,h2,h3,h4⟩|⟨h2,_⟩
 . exact .inl h2
 . exact .inr ⟨⟨h.e,h.e',by show r'.a+1=r.a+1+s.m; have:=h.a; omega,h3,h.v,h.v',h.d⟩,h2,h2,h4⟩
 . omega
theorem SmX.take (d:Nat) (t:ZE):s.SmX d tt (Qh s.c t) (Qh s.c' t):=by
 intro r r' h h0;by_cases hp:Qd s.c t r=true
 . rcases QiK hs h (Qaj hp)with h1|⟨h1,h2,h3,h4⟩
   . exact .inr (Qdx (.inl h1) t)
   . left;have hp':Qd s.c' t r'=true:=by
      unfold Qd Qal at hp ⊢;rw[Zy (Qaj hp)]at hp;rw[Zy h3,h.e'];rw[h.e]at hp;exact((Tk.peek h4 t).trans (by simpa using hp))
     unfold Qh;rw[hp,hp'];exact⟨h1,Vb _,Zo⟩
 . unfold Qh at h0;rw[Vi]at hp;rw[hp]at h0;exact absurd h0 (Qdf (by decide) r)
theorem SmX.word (d:Nat):s.SmX d (λx y=>y=x) (QO s.c) (QO s.c'):=by
 intro r r' h h0;by_cases hp:QP s.c r=true
 . obtain⟨_,hlt,_⟩:=Qb4 hp;rcases Qgc hs h with h1|h1
   . exact .inr (QhK (.inl h1))
   . rcases QiK hs h hlt with h2|⟨h2,h3,h4,h5⟩
     . exact .inr (QhK (.inl h2))
     . left;unfold QO;rw[h1,Zn hp,Zn hp];refine⟨h2,Vb _,?_⟩;simp only[VB,Vd hlt,Vd h4,VX];refine h5.2.1 ?_;have:=(Qb4 hp).2.2;simp only[Va,Zq]at this;omega
 . unfold QO at h0;rw[Zm hp]at h0;exact absurd h0 (Qdf (by decide) r)
theorem SmX.nm (d:Nat):s.SmX d (λx y=>y=x) (nmR s.c) (nmR s.c'):=by
 intro r r' h h0;by_cases hp:QaW s.c r=true
 . obtain⟨_,hlt,_⟩:=Qb4 hp;rcases QlH hs h with h1|h1
   . exact .inr (Qfq (.inl h1))
   . rcases QiK hs h hlt with h2|⟨h2,h3,h4,h5⟩
     . exact .inr (Qfq (.inl h2))
     . left;unfold nmR;rw[h1,Zn hp,Zn hp];refine⟨h2,Vb _,?_⟩;simp only[VB,Vd hlt,Vd h4,VX];refine h5.2.2 ?_;have:=(Qb4 hp).2.2;simpa using this
 . unfold nmR at h0;rw[Zm hp]at h0;exact absurd h0 (Qdf (by decide) r)
end
section
variable {s:Cp} {F F' G G':Rd->Ex×Rd} (hs:s.Ok)
include hs
theorem Qkh {d:Nat} {t:ZE} (ht:t≠[41]) {r r':Rd} (h:s.L d r r') (h0:(QB s.c t r).2.e=0) :
 s.X (QB s.c' t r').2\/∃ d0,d=d0+1/\s.L d0 (QB s.c t r).2 (QB s.c' t r').2/\r.a<=(QB s.c t r).2.a:=by
 by_cases hp:Qd s.c t r=true
 . have hv:r.v≠40:=by
    intro hv;unfold QB at h0;rw[Zn ⟨hp,hv⟩]at h0;have h1:(upR (Qg s.c 5 r)).e≠0:=Qdf (by decide) r;rw[QdE t _ h1]at h0;exact h1 h0
   rcases Qat hs h ht with h1|h1
   . exact .inl (QoG (.inl h1) t)
   . have hp':Qd s.c' t r'=true:=h1.trans hp;have e1:=h.v; have e2:=h.v'; have e3:=h.d;by_cases hv':r'.v=40
     . left;right;refine⟨by omega,?_⟩;unfold QB;rw[Zn ⟨hp',hv'⟩];have h2:(upR (Qg s.c' 5 r')).e=5:=by
        unfold Qg upR;rw[Zn h.e']
       rw[QdE t _ (ne5 h2)]; exact h2
     . obtain⟨d0,rfl⟩:∃ d0,d=d0+1:=⟨d-1,by omega⟩;unfold QB at h0 ⊢;have hn:¬ (Qd s.c t r=true/\r.v=40):=λh=>hv h.2;have hn':¬ (Qd s.c' t r'=true/\r'.v=40):=λh=>hv' h.2;rw[Zm hn]at h0 ⊢;rw[Zm hn'];have hw:IntKind.i64.wrap (r.v+1)=r.v+1:=Qae (by omega) (by omega);have hw':IntKind.i64.wrap (r'.v+1)=r'.v+1:=Qae (by omega) (by omega);have hL:s.L d0 (upR r) (upR r'):=⟨h.e,h.e',h.a,h.k,by show IntKind.i64.wrap (r.v+1)+_=40; rw[hw]; omega,by show IntKind.i64.wrap (r'.v+1)+_=40; rw[hw']; omega,by omega⟩;rcases SmX.take hs d0 t _ _ hL h0 with ⟨h2,h3,_⟩|h2
       . exact .inr ⟨d0,rfl,h2,YK h3⟩
       . exact .inl h2
 . exfalso;rw[Vi]at hp;unfold QB Qh at h0;rw[Zm (by rw[hp]; simp)]at h0;have:Qd s.c t (upR r)=false:=hp;rw[this]at h0;exact Qdf (by decide) _ h0
omit hs in
theorem Qjw {d:Nat} {r r':Rd} (h:s.L d r r') (hd:d+1+s.w<=40):s.L (d+1) (dnR r) (dnR r'):=by
 have e1:=h.v; have e2:=h.v'; have e3:=h.d;have hw:IntKind.i64.wrap (r.v-1)=r.v-1:=Qae (by omega) (by omega);have hw':IntKind.i64.wrap (r'.v-1)=r'.v-1:=Qae (by omega) (by omega);exact⟨h.e,h.e',h.a,h.k,by show IntKind.i64.wrap (r.v-1)+_=40; rw[hw]; omega,by show IntKind.i64.wrap (r'.v-1)+_=40; rw[hw']; omega,hd⟩
theorem QwL {d:Nat} {ops:List (ZE×Int)} (ho:∀ o∈ops,o.1≠[41]) (hF:s.Sm d erq F F') (hD:s.Dn F') (hst:Qq F) :
 ∀ (n n':Nat) (e e':Ex) (r r':Rd),e'.er=e.er->s.L d r r'->s.c.ts.length<=n+r.a->s.c'.ts.length<=n'+r'.a->(QaX s.c ops F n e r).2.e=0 ->
  (s.L d (QaX s.c ops F n e r).2 (QaX s.c' ops F' n' e' r').2/\r.a<=(QaX s.c ops F n e r).2.a/\(QaX s.c' ops F' n' e' r').1.er=(QaX s.c ops F n e r).1.er)\/s.B (QaX s.c' ops F' n' e' r').2:=by
 intro n
 induction n with
 |zero =>
  intro n' e e' r r' he h hn hn' h0;rcases QnN hs h ho with h1|h1
  . rw[Qhe (.inl h1)]; exact .inr (.inl h1)
  . have:Qam s.c ops r=none:=by
     cases hq:Qam s.c ops r with
     |none=>rfl
     |some op=>have:=(QdV hq).2; omega
    rw[Qd8 (h1.trans this),Qd8 this];exact .inl ⟨h,Vb _,he⟩
 |succ n ih =>
  intro n' e e' r r' he h hn hn' h0;rcases QnN hs h ho with h1|h1
  . rw[Qhe (.inl h1)]; exact .inr (.inl h1)
  . cases hq:Qam s.c ops r with
    |none =>
     rw[Qd8 (h1.trans hq),Qd8 hq];exact .inl ⟨h,Vb _,he⟩
    |some op =>
     have hlt:=(QdV hq).2;rcases QiK hs h hlt with h2|⟨h2,h3,_⟩
     . rw[Qhe (.inl h2)]; exact .inr (.inl h2)
     . obtain⟨m',rfl⟩:∃ m',n'=m'+1:=⟨n' - 1,by omega⟩;rw[QaX,hq]at h0;simp only at h0;have h4:(F (Qa r)).2.e=0:=by
        by_cases hb:(F (Qa r)).2.e=0
        . exact hb
        . rw[Qd8 (Qhf hb ops)]at h0; exact absurd h0 hb
       rw[QaX,hq,QaX,h1.trans hq];simp only;rcases hF _ _ h2 h4 with ⟨k1,k2,k3⟩|k1
       . have e1:(Qa r).a=r.a+1:=rfl;have e2:=k1.a;have e3:=h.a;rcases ih m' (.mk op 0 [] [e,(F (Qa r)).1] (Qk s.c r)) (.mk op 0 [] [e',(F' (Qa r')).1] (Qk s.c' r')) _ _ (by simp only[Ex.er,Ex.erL,he]; rw[k3]) k1 (by omega) (by omega) h0 with ⟨m1,m2,m3⟩|m1
         . exact .inl ⟨m1,by omega,m3⟩
         . exact .inr m1
       . rw[Qhe k1]; exact .inr k1
theorem Sm.bin {d:Nat} {ops:List (ZE×Int)} (ho:∀ o∈ops,o.1≠[41]) (hF:s.Sm d erq F F') (hD:s.Dn F') (hst:Qq F):s.Sm d erq (Q7 s.c ops F) (Q7 s.c' ops F'):=by
 intro r r' h h0;unfold Q7 at h0 ⊢;have h4:(F r).2.e=0:=by
  by_cases hb:(F r).2.e=0
  . exact hb
  . rw[Qd8 (Qhf hb ops)]at h0; exact absurd h0 hb
 rcases hF _ _ h h4 with ⟨k1,k2,k3⟩|k1
 . rcases QwL hs ho hF hD hst s.c.ts.length s.c'.ts.length _ (F' r').1 _ _ k3 k1 (by omega) (by omega) h0 with ⟨m1,m2,m3⟩|m1
   . exact .inl ⟨m1,by omega,m3⟩
   . exact .inr m1
 . rw[Qhe k1]; exact .inr k1
theorem Sm.cmp {d:Nat} (hF:s.Sm d erq F F') (hD:s.Dn F') (hst:Qq F):s.Sm d erq (QaP s.c F) (QaP s.c' F'):=by
 intro r r' h h0;have h4:(F r).2.e=0:=by
  by_cases hb:(F r).2.e=0
  . exact hb
  . unfold QaP at h0;rw[Qhf hb QaV]at h0; exact absurd h0 hb
 rcases hF _ _ h h4 with ⟨k1,k2,k3⟩|k1
 . unfold QaP at h0 ⊢;rcases QnN hs k1 (ops:=QaV) (by decide)with h1|h1
   . rw[QiA (.inl h1)]; exact .inr (.inl h1)
   . cases hq:Qam s.c QaV (F r).2 with
     |none=>rw[h1,hq]; exact .inl ⟨k1,k2,k3⟩
     |some op =>
      rw[hq]at h0;simp only at h0;have hlt:=(QdV hq).2;rw[h1,hq];simp only;rcases QiK hs k1 hlt with h2|⟨h2,h3,_⟩
      . rw[QiA (.inl h2)]at h1;rw[hq]at h1; cases h1
      . rcases hF _ _ h2 h0 with ⟨m1,m2,m3⟩|m1
        . have e1:(Qa (F r).2).a=(F r).2.a+1:=rfl;refine .inl ⟨m1,by omega,?_⟩;show(Ex.mk _ _ _ _ _).er=_;simp only[Ex.er,Ex.erL];rw[k3,m3]
        . exact .inr m1
 . unfold QaP;rw[QiA k1]; exact .inr k1
theorem Sm.nt {d:Nat} (hF:s.Sm d erq F F') (hD:s.Dn F') (hG:∀ d0,d=d0+1->s.Sm d0 erq G G'):s.Sm d erq (QaS s.c F G) (QaS s.c' F' G'):=by
 intro r r' h h0;rcases Qat hs h (t:=[110,111,116]) (by decide)with h1|h1
 . exact .inr (Dn.nt hD r' (.inl h1))
 . unfold QaS at h0 ⊢;by_cases hp:Qd s.c [110,111,116] r=true
   . rw[Zn hp]at h0 ⊢;rw[Zn (h1.trans hp)];by_cases ho:(QB s.c [110,111,116] r).2.e≠0
     . rw[Zn ho]at h0; exact absurd h0 ho
     . rw[Zm ho]at h0 ⊢;rcases Qkh hs (t:=[110,111,116]) (by decide) h (by simpa using ho)with k1|⟨d0,rfl,k1,k2⟩
       . rw[Zn (Qdj k1)]; exact .inr (.inr k1)
       . rw[Zm (by rw[k1.e']; simp)];rcases hG d0 rfl _ _ k1 h0 with ⟨m1,m2,m3⟩|m1
         . refine .inl ⟨Qjw m1 h.d,Vg k2 m2,?_⟩;show(Ex.mk _ _ _ _ _).er=_;simp only[Ex.er,Ex.erL];rw[m3]
         . exact .inr (B_dn m1)
   . rw[Zm hp]at h0 ⊢;rw[Zm (by rw[h1]; exact hp)];exact hF r r' h h0
theorem Qtc {d:Nat} (hF:s.Sm d erq F F') (hD:s.Dn F') (hst:Qq F):∀ (m:Nat) (acc acc':List Ex) (r r':Rd) (l:List Ex),Ex.erL acc'=Ex.erL acc->s.L d r r'->(QU s.c F m acc r).1=some l->(QU s.c F m acc r).2.e=0 ->
 (s.L d (QU s.c F m acc r).2 (QU s.c' F' m acc' r').2/\r.a<=(QU s.c F m acc r).2.a/\∃ l',(QU s.c' F' m acc' r').1=some l'/\Ex.erL l'=Ex.erL l)\/s.B (QU s.c' F' m acc' r').2
 |0,acc,acc',r,r',l,ha,h,hl,h0=>by
  simp only[QU,Option.some.injEq]at hl;subst hl;exact .inl ⟨h,Vb _,acc',rfl,ha⟩
 |m+1,acc,acc',r,r',l,ha,h,hl,h0=>by
  rw[QU]at hl h0 ⊢;by_cases hz:(Qh s.c [44] r).2.e≠0
  . rw[Zn hz]at hl; cases hl
  . rw[Zm hz]at hl h0 ⊢;rw[QU];rcases SmX.take hs d [44] r r' h (by simpa using hz)with ⟨k1,k2,_⟩|k1
    . rw[Zm (by rw[k1.e']; simp)];have h4:(F (Qh s.c [44] r).2).2.e=0:=by
       by_cases hb:(F (Qh s.c [44] r).2).2.e=0
       . exact hb
       . exfalso
         cases m with
         |zero=>exact hb h0
         |succ m =>
          rw[QU,Zn (by rw[QdE _ _ hb]; exact hb)]at hl
          cases hl
      rcases hF _ _ k1 h4 with ⟨m1,m2,m3⟩|m1
      . rcases Qtc hF hD hst m _ (acc'++[(F' (Qh s.c' [44] r').2).1]) _ _ l (by rw[QiL,QiL,ha]; simp only[Ex.erL]; rw[m3]) m1 hl h0 with ⟨n1,n2,n3⟩|n1
        . exact .inl ⟨n1,by omega,n3⟩
        . exact .inr n1
      . exact .inr (QoL hD m _ _ m1)
    . rw[Zn (Qdj k1)]; exact .inr (.inr k1)
theorem Sm.call {d:Nat} {t:ZE} {op p p':Int} {m:Nat} (hO:∀ d0,d=d0+1->s.Sm d0 erq F F') (hD:s.Dn F') (hst:Qq F):s.Sm d erq (QdC s.c F t op m p) (QdC s.c' F' t op m p'):=by
 intro r r' h h0;unfold QdC at h0 ⊢;simp only at h0 ⊢;by_cases hz:(QB s.c [40] (Qh s.c t r).2).2.e≠0
 . rw[Zn hz]at h0; exact absurd h0 hz
 rw[Zm hz]at h0 ⊢;have ht:(Qh s.c t r).2.e=0:=by
  by_cases hb:(Qh s.c t r).2.e=0
  . exact hb
  . exfalso;apply hz;unfold QB;rw[Zm (by rw[QaE hb]; simp)];have:(upR (Qh s.c t r).2).e≠0:=hb;rw[QdE _ _ this]; exact this
 rcases SmX.take hs d t r r' h ht with ⟨k1,k2,_⟩|k1
 . rcases Qkh hs (t:=[40]) (by decide) k1 (by simpa using hz)with j1|⟨d0,rfl,j1,j2⟩
   . rw[Zn (Qdj j1)]; exact .inr (.inr j1)
   . rw[Zm (by rw[j1.e']; simp)];generalize (QB s.c [40] (Qh s.c t r).2).2=q at *;generalize (QB s.c' [40] (Qh s.c' t r').2).2=q' at *;have hF:=hO d0 rfl
     cases hg:QU s.c F m [(F q).1] (F q).2 with
     |mk o r3 =>
      cases o with
      |none =>
       rw[hg]at h0;simp only at h0;exfalso;have key:∀ (m:Nat) (acc:List Ex) (r:Rd) (r3:Rd),QU s.c F m acc r=(none,r3)->r3.e≠0:=by
        intro m
        induction m with
        |zero=>intro acc r r3 h; simp[QU]at h
        |succ m ih =>
         intro acc r r3 h;rw[QU]at h;split at h
         . rename_i hh; cases h; exact hh
         . exact ih _ _ _ h
       exact key _ _ _ _ hg h0
      |some l =>
       rw[hg]at h0;simp only at h0;have h5:r3.e=0:=QX (QdE [41]) h0;have hl1:(QU s.c F m [(F q).1] (F q).2).1=some l:=by rw[hg]
       have he1:(QU s.c F m [(F q).1] (F q).2).2.e=0:=by rw[hg]; exact h5
       have h4:(F q).2.e=0:=by
        by_cases hb:(F q).2.e=0
        . exact hb
        . exfalso
          cases m with
          |zero=>rw[QU]at he1; exact hb he1
          |succ m =>
           rw[QU,Zn (by rw[QdE _ _ hb]; exact hb)]at hl1
           cases hl1
       have fin:∀ {x:Option (List Ex)×Rd},s.B x.2->s.B (match x with|(none,r3)=>(zE,r3)|(some l,r3)=>(Ex.mk op 0 [] l p',dnR (Qh s.c' [41] r3).2)).2:=by
        intro x hx;obtain⟨o,y⟩:=x
        cases o with
        |none=>exact hx
        |some l=>exact .inr (Qjt (Qdx hx _))
       rcases hF q q' j1 h4 with ⟨m1,m2,m3⟩|m1
       . rcases Qtc hs hF hD hst m _ [(F' q').1] _ _ l (by simp only[Ex.erL]; rw[m3]) m1 hl1 he1 with ⟨n1,n2,l',n3,n4⟩|n1
         . rw[hg]at n1 n2
           cases hg':QU s.c' F' m [(F' q').1] (F' q').2 with
           |mk o' r3' =>
            rw[hg']at n1 n3;simp only at n1 n3;subst n3;simp only;rcases SmX.take hs d0 [41] _ _ n1 h0 with ⟨i1,i2,_⟩|i1
            . refine .inl ⟨Qjw i1 h.d,?_,?_⟩
              . show r.a<=(Qh s.c [41] r3).2.a;simp only at n2; omega
              . show(Ex.mk _ _ _ _ _).er=_;simp only[Ex.er,n4]
            . exact .inr (.inr (Qjt i1))
         . exact .inr (fin n1)
       . exact .inr (fin (QoL hD m _ _ m1))
 . have:s.X (QB s.c' [40] (Qh s.c' t r').2).2:=QoG (.inr k1) _;rw[Zn (Qdj this)]; exact .inr (.inr this)
theorem Sm.fac {d:Nat} (hO:∀ d0,d=d0+1->s.Sm d0 erq F F') (hD:s.Dn F') (hst:Qq F) (hG:∀ d0,d=d0+1->s.Sm d0 erq G G') (hGst:Qq G):s.Sm d erq (QL s.c F G) (QL s.c' F' G'):=by
 intro r r' h h0;by_cases hE:s.E r'
 . exact .inr (Dn.fac r' (.inl hE))
 have g1:=(Qgc hs h).resolve_left hE;have g2:=(Qat hs h (t:=[45]) (by decide)).resolve_left hE;have g3:=(Qat hs h (t:=[40]) (by decide)).resolve_left hE;have g4:QaT.find? (λw=>Qd s.c' w.1 r')=QaT.find? (λw=>Qd s.c w.1 r):=by
  have k1:=(Qat hs h (t:=[109,105,110]) (by decide)).resolve_left hE;have k2:=(Qat hs h (t:=[109,97,120]) (by decide)).resolve_left hE;have k3:=(Qat hs h (t:=[105,102]) (by decide)).resolve_left hE;simp only[QaT,Yv,List.find?_nil,k1,k2,k3]
 have hn:¬ r.e≠0:=λhh=>hh h.e;have hn':¬ r'.e≠0:=λhh=>hh h.e';unfold QL at h0 ⊢;rw[Zm hn]at h0 ⊢;rw[Zm hn',g1,g2,g3,g4];by_cases hf:QP s.c r=true
 . rw[Zn hf]at h0 ⊢;rw[Zn hf];rcases SmX.word hs d _ _ h h0 with ⟨k1,k2,k3⟩|k1
   . refine .inl ⟨k1,YK k2,?_⟩;show(Ex.mk _ _ _ _ _).er=_;simp only[Ex.er]; rw[k3]
   . exact .inr (.inr k1)
 rw[Zm hf]at h0 ⊢;rw[Zm hf];by_cases hm:Qd s.c [45] r=true
 . rw[Zn hm]at h0 ⊢;rw[Zn hm];by_cases ho:(QB s.c [45] r).2.e≠0
   . rw[Zn ho]at h0; exact absurd h0 ho
   . rw[Zm ho]at h0 ⊢;rcases Qkh hs (t:=[45]) (by decide) h (by simpa using ho)with k1|⟨d0,rfl,k1,k2⟩
     . rw[Zn (Qdj k1)]; exact .inr (.inr k1)
     . rw[Zm (by rw[k1.e']; simp)];rcases hG d0 rfl _ _ k1 h0 with ⟨m1,m2,m3⟩|m1
       . refine .inl ⟨Qjw m1 h.d,Vg k2 m2,?_⟩;show(Ex.mk _ _ _ _ _).er=_;simp only[Ex.er,Ex.erL];rw[m3]
       . exact .inr (B_dn m1)
 rw[Zm hm]at h0 ⊢;rw[Zm hm];by_cases hq:Qd s.c [40] r=true
 . rw[Zn hq]at h0 ⊢;rw[Zn hq];by_cases ho:(QB s.c [40] r).2.e≠0
   . rw[Zn ho]at h0; exact absurd h0 ho
   . rw[Zm ho]at h0 ⊢;rcases Qkh hs (t:=[40]) (by decide) h (by simpa using ho)with k1|⟨d0,rfl,k1,k2⟩
     . rw[Zn (Qdj k1)]; exact .inr (.inr k1)
     . rw[Zm (by rw[k1.e']; simp)];have h5:(F (QB s.c [40] r).2).2.e=0:=QX (QdE [41]) h0;rcases hO d0 rfl _ _ k1 h5 with ⟨m1,m2,m3⟩|m1
       . rcases SmX.take hs d0 [41] _ _ m1 h0 with ⟨i1,i2,_⟩|i1
         . refine .inl ⟨Qjw i1 h.d,?_,m3⟩;show r.a<=(Qh s.c [41] (F (QB s.c [40] r).2).2).2.a;omega
         . exact .inr (.inr (Qjt i1))
       . exact .inr (.inr (Qjt (Qdx m1 _)))
 rw[Zm hq]at h0 ⊢;rw[Zm hq]
 cases hw:QaT.find? (λw=>Qd s.c w.1 r)with
 |none =>
  rw[hw]at h0;simp only at h0 ⊢;rcases SmX.nm hs d _ _ h h0 with ⟨k1,k2,k3⟩|k1
  . refine .inl ⟨k1,YK k2,?_⟩;show(Ex.mk _ _ _ _ _).er=_;simp only[Ex.er]; rw[k3]
  . exact .inr (.inr k1)
 |some w =>
  rw[hw]at h0;simp only at h0 ⊢;exact Sm.call hs hO hD hst r r' h h0
theorem Qov {d:Nat} {O O' A A' N N':Rd->Ex×Rd} (hO:∀ d0,d=d0+1->s.Sm d0 erq O O') (hOd:s.Dn O') (hOs:Qq O) (hA:∀ d0,d=d0+1->s.Sm d0 erq A A') (hAs:Qq A) (hN:∀ d0,d=d0+1->s.Sm d0 erq N N') :
 s.Sm d erq (lvS s.c O A N).fac (lvS s.c' O' A' N').fac/\s.Sm d erq (lvS s.c O A N).nt (lvS s.c' O' A' N').nt/\s.Sm d erq (Qcd s.c (lvS s.c O A N)) (Qcd s.c' (lvS s.c' O' A' N')):=by
 have h1:s.Sm d erq (QL s.c O A) (QL s.c' O' A'):=Sm.fac hs hO hOd hOs hA hAs;have h2:=Sm.bin hs (ops:=Qa6) (by decide) h1 Dn.fac Qfp;have h3:=Sm.bin hs (ops:=Qbe) (by decide) h2 (Dn.bin Dn.fac) (QdH Qfp);have h4:=Sm.cmp hs h3 (Dn.bin (Dn.bin Dn.fac)) (QdH (QdH Qfp));have h5:s.Sm d erq (lvS s.c O A N).nt (lvS s.c' O' A' N').nt:=Sm.nt hs h4 (Dn.cmp (Dn.bin (Dn.bin Dn.fac))) hN;have h6:s.Dn (lvS s.c' O' A' N').nt:=Dn.nt (Dn.cmp (Dn.bin (Dn.bin Dn.fac)));have h7:Qq (lvS s.c O A N).nt:=Qng (Qms (QdH (QdH Qfp)));have h8:=Sm.bin hs (ops:=QbM) (by decide) h5 h6 h7;exact⟨h1,h5,Sm.bin hs (ops:=orO) (by decide) h8 (Dn.bin h6) (QdH h7)⟩
omit hs in
theorem QwV (c:Cx) (n:Nat):∃ O A N,lv c n=lvS c O A N/\Qq O/\Qq A:=by
 cases n with
 |zero=>exact⟨_,_,_,rfl,λ_ _=>rfl,λ_ _=>rfl⟩
 |succ n=>exact⟨_,_,_,rfl,Qh8 c n,Qr8 n⟩
theorem Sm.lv:∀ d:Nat,s.Sm d erq (lv s.c (d+s.w)).fac (lv s.c' d).fac/\s.Sm d erq (lv s.c (d+s.w)).nt (lv s.c' d).nt/\s.Sm d erq (Qcd s.c (lv s.c (d+s.w))) (Qcd s.c' (lv s.c' d)):=by
 intro d
 induction d with
 |zero =>
  obtain⟨O,A,N,h1,h2,h3⟩:=QwV s.c (0+s.w);rw[h1];exact Qov hs (λd0 h=>by omega) (λ_ h=>h) h2 (λd0 h=>by omega) h3 (λd0 h=>by omega)
 |succ d ih =>
  rw[show d+1+s.w=(d+s.w)+1 by omega];exact Qov hs (λd0 h=>by obtain rfl:d=d0:=(by omega); exact ih.2.2) (Dn.lv d).2.2 (Qh8 s.c _) (λd0 h=>by obtain rfl:d=d0:=(by omega); exact ih.1) (Qr8 _) (λd0 h=>by obtain rfl:d=d0:=(by omega); exact ih.2.1)
end
section
variable {s:Cp} {F F':Rd->Ex×Rd}
theorem Dn.opt {t:ZE}:s.Dn (QaM s.c' F' t):=λr h=>by unfold QaM; rw[Zm (by rw[Qa4 h]; decide)]; exact h
theorem Dn.flag {t:ZE}:s.Dn (QaK s.c' t):=λr h=>by unfold QaK; rw[Zm (by rw[Qa4 h]; decide)]; exact h
theorem Dn.goto:s.Dn (Qa9 s.c'):=λr h=>by unfold Qa9; rw[Zm (by rw[Qa4 h]; decide)]; exact h
theorem DnX.take (t:ZE):s.DnX (Qh s.c' t):=λ_ h=>Qdx h t
theorem DnX.word:s.DnX (QO s.c'):=λ_ h=>QhK h
theorem DnX.nm:s.DnX (nmR s.c'):=λ_ h=>Qfq h
theorem DnX.set (hD:s.Dn F') (acc:List Qo):s.DnX (QaD s.c' F' acc):=λr h=>by
 unfold QaD;simp only;rw[Zm (by rw[QfE h]; simp)];exact Qbq (hD _ (.inr (Qbq (.inr (QhK h)) _))) _
theorem Qht (hD:s.Dn F'):∀ (n:Nat) (acc:List Qo) (r:Rd),s.B r->s.B (QaO s.c' F' n acc r).2
 |0,acc,r,h=>h
 |n+1,acc,r,h=>by
  rw[QaO];split
  . exact Qht hD n _ _ (.inr (DnX.set hD acc r h))
  . exact h
theorem Dn.act (hD:s.Dn F'):s.Dn (QM s.c' F'):=λ_ h =>
 Dn.goto _ (.inr (Qbq (Qht hD _ _ _ (.inr (Qbq (Dn.flag _ (Dn.opt _ (.inr (QhK (.inr (Qdx h _)))))) _))) _))
variable (hs:s.Ok)
include hs
theorem Sm.opt {d:Nat} {t:ZE} (ht:t≠[41]) (hF:s.Sm d erq F F') (hD:s.Dn F'):s.Sm d (λx y=>Ex.erL y=Ex.erL x) (QaM s.c F t) (QaM s.c' F' t):=by
 intro r r' h h0;rcases Qat hs h ht with h1|h1
 . exact .inr (Dn.opt r' (.inl h1))
 . unfold QaM at h0 ⊢;rw[h1];by_cases hp:Qd s.c t r=true
   . rw[Zn hp]at h0 ⊢;rw[Zn hp];have h4:(t2 s.c t r).e=0:=by
      have:Qd s.c t r=true:=hp;unfold t2 Qh;rw[hp]; exact h.e
     rcases hF.step hD (((SmX.take hs d t).step (DnX.take t) (P:=True) (.inl ⟨h,Zo⟩) h4).imp (λh=>⟨h.1,h.2⟩) .inr) h0 with ⟨k1,k2,k3,k4⟩|k1
     . refine .inl ⟨k1,?_,?_⟩
       . exact Vg (YK k2.2.1) k3
       . show Ex.erL [_]=Ex.erL [_];simp only[Ex.erL];exact Zp (· :: []) k4
     . exact .inr k1
   . rw[Zm hp]at h0 ⊢;rw[Zm hp];exact .inl ⟨h,Vb _,rfl⟩
theorem Sm.flag {d:Nat} {t:ZE} (ht:t≠[41]):s.Sm d (λx y=>y=x) (QaK s.c t) (QaK s.c' t):=by
 intro r r' h h0;rcases Qat hs h ht with h1|h1
 . exact .inr (Dn.flag r' (.inl h1))
 . unfold QaK at h0 ⊢;rw[h1];by_cases hp:Qd s.c t r=true
   . rw[Zn hp]at h0 ⊢;rw[Zn hp];rcases SmX.take hs d t r r' h h0 with ⟨k1,k2,_⟩|k1
     . exact .inl ⟨k1,YK k2,rfl⟩
     . exact .inr (.inr k1)
   . rw[Zm hp]at h0 ⊢;rw[Zm hp];exact .inl ⟨h,Vb _,rfl⟩
theorem Sm.goto {d:Nat}:s.Sm d (λx y=>y=x) (Qa9 s.c) (Qa9 s.c'):=by
 intro r r' h h0;rcases Qat hs h (t:=[103,111,116,111]) (by decide)with h1|h1
 . exact .inr (Dn.goto r' (.inl h1))
 . unfold Qa9 at h0 ⊢;rw[h1];by_cases hp:Qd s.c [103,111,116,111] r=true
   . rw[Zn hp]at h0 ⊢;rw[Zn hp];have e1:(QO s.c (t2 s.c [103,111,116,111] r)).2.e=0:=t2b h0;have e2:(t2 s.c [103,111,116,111] r).e=0:=QX Qd7 e1;have j1:=(SmX.take hs d [103,111,116,111]).step (DnX.take _) (P:=True) (.inl ⟨h,Zo⟩) e2;have j2:=(SmX.word hs d).step DnX.word (j1.imp_right .inr) e1;have j3:=(SmX.take hs d [59]).step (DnX.take _) (j2.imp_right .inr) h0;rcases j3 with ⟨k1,⟨⟨_,k2,_⟩,k3,k4⟩,k5,_⟩|k1
     . refine .inl ⟨k1,?_,k4⟩;unfold t2 at *;try simp only
       omega
     . exact .inr (.inr k1)
   . rw[Zm hp]at h0 ⊢;rw[Zm hp];exact .inl ⟨h,Vb _,rfl⟩
theorem SmX.set {d:Nat} (hF:s.Sm d erq F F') (hD:s.Dn F') (hst:Qq F) {acc acc':List Qo} (hl:acc'.length=acc.length):s.SmX d (λx y=>y.er=x.er) (QaD s.c F acc) (QaD s.c' F' acc'):=by
 intro r r' h h0;by_cases hE:s.E r'
 . exact .inr (DnX.set hD acc' r' (.inl hE))
 have g1:=(Qgc hs h).resolve_left hE;unfold QaD at h0 ⊢;simp only at h0 ⊢;have e1:=QX hst (t2b h0);have e2:=QX Qd7 (t2b e1);by_cases hz:acc.length=32/\QP s.c r=true
 . rw[Zn hz]at e2; exact absurd e2 (Qdf (by decide) r)
 . rw[Zm hz]at h0 e1 ⊢;rw[Zm (by rw[hl,g1]; exact hz)];have j1:=(SmX.word hs d).step DnX.word (P:=True) (.inl ⟨h,Zo⟩) (t2b e1);have j2:=(SmX.take hs d [61]).step (DnX.take _) (j1.imp_right .inr) e1;have j3:=hF.step hD (j2.imp_right .inr) (t2b h0);have j4:=(SmX.take hs d [59]).step (DnX.take _) j3 h0;rcases j4 with ⟨k1,⟨⟨⟨_,k2,k3⟩,k4,_⟩,k5,k6⟩,k7,_⟩|k1
   . refine .inl ⟨k1,?_,?_⟩
     . unfold t2 at *;try simp only
       omega
     . unfold Qo.er;simp only;rw[k3];congr 1
   . exact .inr k1
theorem Qv7 {d:Nat} (hF:s.Sm d erq F F') (hD:s.Dn F') (hst:Qq F):∀ (n n':Nat) (acc acc':List Qo) (r r':Rd),acc'.map Qo.er=acc.map Qo.er->s.L d r r'->s.c.ts.length<n+r.a->s.c'.ts.length<n'+r'.a->(QaO s.c F n acc r).2.e=0 ->
 (s.L d (QaO s.c F n acc r).2 (QaO s.c' F' n' acc' r').2/\r.a<=(QaO s.c F n acc r).2.a/\(QaO s.c' F' n' acc' r').1.map Qo.er=(QaO s.c F n acc r).1.map Qo.er)\/s.B (QaO s.c' F' n' acc' r').2:=by
 intro n
 induction n with
 |zero =>
  intro n' acc acc' r r' ha h hn hn' h0;exfalso;rcases Qhp hs h with h1|⟨h1,_⟩|⟨h1,_⟩
  . have h2:=h1.2.2; have h3:=h.a; have h4:=h.k;rcases hs.fin with ⟨_,h5⟩|⟨h5,_⟩
    . by_cases hk:s.k=0
      . omega
      . obtain⟨h6,_⟩:=hs.tk (s.k-1) (by omega); omega
    . omega
  . omega
  . omega
 |succ n ih =>
  intro n' acc acc' r r' ha h hn hn' h0;by_cases hE:s.E r'
  . exact .inr (Qht hD _ _ _ (.inl hE))
  have g1:=(Qat hs h (t:=[125]) (by decide)).resolve_left hE;obtain⟨m',rfl⟩:∃ m',n'=m'+1:=by
   cases n' with
   |zero =>
    exfalso;rcases Qhp hs h with h1|⟨_,h1,_⟩|⟨_,_,_,_,h1⟩
    . exact hE h1
    . omega
    . rcases h1 with h1|⟨h1,_⟩<;>omega
   |succ m=>exact⟨m,rfl⟩
  have hla:acc'.length=acc.length:=by simpa using Zp List.length ha
  rw[QaO]at h0 ⊢;rw[QaO,g1];by_cases hp:Qd s.c [125] r=false
  . rw[Zn ⟨h.e,hp⟩]at h0 ⊢;rw[Zn ⟨h.e',hp⟩];have e1:(QaD s.c F acc r).2.e=0:=QX (QnB n _) h0;rcases SmX.set hs hF hD hst hla r r' h e1 with ⟨k1,k2,k3⟩|k1
    . have e2:=k1.a; have e3:=h.a;rcases ih m' (acc++[(QaD s.c F acc r).1]) (acc'++[(QaD s.c' F' acc' r').1]) _ _ (by simp[ha,k3]) k1 (by omega) (by omega) h0 with ⟨m1,m2,m3⟩|m1
      . exact .inl ⟨m1,by omega,m3⟩
      . exact .inr m1
    . exact .inr (Qht hD _ _ _ (.inr k1))
  . rw[Zm (λh=>hp h.2)]at h0 ⊢;rw[Zm (λh=>hp h.2)];exact .inl ⟨h,Vb _,ha⟩
theorem SmP.act {d:Nat} (hF:s.Sm d erq F F') (hD:s.Dn F') (hst:Qq F) {r r':Rd} (h:s.L d r r') (h0:(QM s.c F r).2.e=0) :
 (s.L d (QM s.c F r).2 (QM s.c' F' r').2/\r.a+1<=(QM s.c F r).2.a/\(QM s.c' F' r').1.er=(QM s.c F r).1.er)\/s.B (QM s.c' F' r').2:=by
 unfold QM at h0 ⊢;simp only at h0 ⊢;have e4:=QX Qfy h0;have e5:=t2b e4;have e6:=QX (QnB _ _) e5;have e7:=t2b e6;have e8:=QX (Qge _) e7;have e9:=QX (QdM _) e8;have e10:=QX Qd7 e9;have j1:=(SmX.take hs d [97,99,116,105,111,110]).step (DnX.take _) (P:=True) (.inl ⟨h,Zo⟩) e10;have j2:=(SmX.word hs d).step DnX.word (j1.imp_right .inr) e9;have j3:=(Sm.opt hs (t:=[119,104,101,110]) (by decide) hF hD).step Dn.opt (j2.imp_right .inr) e8;have j4:=(Sm.flag hs (t:=[104,105,100,100,101,110]) (by decide)).step Dn.flag j3 e7;have j5:=(SmX.take hs d [123]).step (DnX.take _) j4 e6;rcases j5 with ⟨k1,⟨⟨⟨⟨_,i1,_⟩,i2,i3⟩,i4,i5⟩,i6,i7⟩,i8,_⟩|k1
 . have hlt:s.c.ts.length<s.c.ts.length+1+(t2 s.c [123] (QaK s.c [104,105,100,100,101,110] (QaM s.c F [119,104,101,110] (QO s.c (Qh s.c [97,99,116,105,111,110] r).2).2).2).2).a:=by omega
   rcases Qv7 hs hF hD hst (s.c.ts.length+1) (s.c'.ts.length+1) [] [] _ _ rfl k1 hlt (by omega) e5 with ⟨m1,m2,m3⟩|m1
   . have j6:=(SmX.take hs d [125]).step (DnX.take _) (P:=True) (.inl ⟨m1,Zo⟩) e4;have j7:=(Sm.goto hs).step Dn.goto (j6.imp_right .inr) h0;rcases j7 with ⟨n1,⟨_,n2,_⟩,n3,n4⟩|n1
     . refine .inl ⟨n1,?_,?_⟩
       . unfold t2 at *;omega
       . unfold Qm.er;simp only;unfold t2 at *;rw[i3,i7,m3,n4];congr 1
     . exact .inr n1
   . exact .inr (Dn.goto _ (.inr (Qbq m1 _)))
 . exact .inr (Dn.goto _ (.inr (Qbq (Qht hD _ _ _ (.inr k1)) _)))
end
section
variable {s:Cp} {F F':Rd->Ex×Rd}
theorem QrL {r:Rd} (h:s.B r):Qbw s.c' r=false:=by unfold Qbw; rw[Qmk h,QfE h]; simp[Qa4 h]
theorem Qgi:∀ (n:Nat) (l:List Int) (r:Rd),s.B r->(QaB s.c' n l r).2=r
 |0,l,r,h=>rfl
 |n+1,l,r,h=>by rw[QaB,Zm (by rw[Qa4 h]; decide)]
theorem Dn.seen:s.Dn (QaC s.c'):=λr h=>by unfold QaC; rw[Zm (by rw[Qa4 h]; decide)]; exact h
theorem Qhj (n:Nat) (l:List Qm) (r:Rd) (h:s.B r):(Qaf s.c' F' 0 n l r).2=r:=by
 cases n with
 |zero=>rfl
 |succ n=>rw[Qaf,Zm (by rw[Qa4 h]; decide)]
theorem QgG (n:Nat) (l:List Ex) (r:Rd) (h:s.B r):(Qak s.c' F' n l r).2=r:=by
 cases n with
 |zero=>rfl
 |succ n=>rw[Qak,Zm (by rw[Qa4 h]; decide)]
theorem Dn.exprs (hD:s.Dn F'):s.Dn (QcD s.c' F'):=λr h=>by
 unfold QcD;rw[QgG _ _ _ (hD r h)]; exact hD r h
theorem Dn.label:s.Dn (Qay s.c'):=λr h=>by unfold Qay; rw[Zm (by rw[QfE h]; decide)]; exact h
theorem DnX.stage (hD:s.Dn F'):s.DnX (Q0 s.c' F'):=λr h=>by
 unfold Q0;simp only;have h1:=Dn.label r h;rw[Zm (by rw[Qa4 h1]; decide),Zm (by rw[Qa4 h1]; decide)];exact Qbq (.inr (Qbq (Dn.exprs hD _ (.inr (Qbq (.inr (Qbq (.inr (Qdx h1 _)) _)) _))) _)) _
theorem QkE (n:Nat) (l:List Ql) (r:Rd) (h:s.B r):(Q6 s.c' n l r).2=r:=by
 cases n with
 |zero=>rfl
 |succ n=>rw[Q6,Zm (by rw[Qa4 h]; decide)]
variable (hs:s.Ok)
include hs
theorem QwB {d:Nat} {r r':Rd} (h:s.L d r r'):s.E r'\/Qbw s.c' r'=Qbw s.c r:=by
 by_cases hE:s.E r'
 . exact .inl hE
 . right;unfold Qbw;rw[(QlH hs h).resolve_left hE,(Qgc hs h).resolve_left hE,(Qat hs h (t:=[110,111,116]) (by decide)).resolve_left hE,(Qat hs h (t:=[45]) (by decide)).resolve_left hE,
    (Qat hs h (t:=[40]) (by decide)).resolve_left hE,(Qat hs h (t:=[109,105,110]) (by decide)).resolve_left hE,(Qat hs h (t:=[109,97,120]) (by decide)).resolve_left hE,(Qat hs h (t:=[105,102]) (by decide)).resolve_left hE]
theorem Qu3 {d:Nat}:∀ (n n':Nat) (l:List Int) (r r':Rd),s.L d r r'->s.c.ts.length<=n+r.a->s.c'.ts.length<=n'+r'.a->(QaB s.c n l r).2.e=0 ->
 (s.L d (QaB s.c n l r).2 (QaB s.c' n' l r').2/\r.a<=(QaB s.c n l r).2.a/\(QaB s.c' n' l r').1=(QaB s.c n l r).1)\/s.B (QaB s.c' n' l r').2:=by
 intro n
 induction n with
 |zero =>
  intro n' l r r' h hn hn' h0;by_cases hE:s.E r'
  . rw[Qgi _ _ _ (.inl hE)]; exact .inr (.inl hE)
  have g1:=(Qat hs h (t:=[44]) (by decide)).resolve_left hE;have g2:Qd s.c [44] r=false:=by
   rw[<-Vi]; intro hp; have:=Qaj hp; omega
  cases n' with
  |zero=>exact .inl ⟨h,Vb _,rfl⟩
  |succ n' =>
   have e1:QaB s.c' (n'+1) l r'=(l,r'):=by rw[QaB,Zm (by rw[g1,g2]; decide)]
   rw[e1]; exact .inl ⟨h,Vb _,rfl⟩
 |succ n ih =>
  intro n' l r r' h hn hn' h0;by_cases hE:s.E r'
  . rw[Qgi _ _ _ (.inl hE)]; exact .inr (.inl hE)
  have g1:=(Qat hs h (t:=[44]) (by decide)).resolve_left hE;rw[QaB]at h0 ⊢;by_cases hp:Qd s.c [44] r=true
  . have hlt':r'.a<s.c'.ts.length:=Qaj (g1.trans hp);obtain⟨m',rfl⟩:∃ m',n'=m'+1:=⟨n' - 1,by omega⟩;rw[QaB];rw[Zn hp]at h0 ⊢;rw[Zn (g1.trans hp)];simp only at h0 ⊢;generalize hr2:(if l.length=32/\(t2 s.c [44] r).a<s.c.ts.length/\Qal s.c { t2 s.c [44] r with e:=0 } (λt=>decide (t.k=2))=true then Qg s.c 12 (t2 s.c [44] r)else t2 s.c [44] r)=r2 at h0 ⊢;have e1:(nmR s.c r2).2.e=0:=QX (QmA n _) h0;have e2:r2.e=0:=QX Qch e1;have hz:¬ (l.length=32/\(t2 s.c [44] r).a<s.c.ts.length/\Qal s.c { t2 s.c [44] r with e:=0 } (λt=>decide (t.k=2))=true):=by
     intro hz; rw[Zn hz]at hr2; rw[<-hr2]at e2; exact Qdf (by decide) _ e2
    rw[Zm hz]at hr2;subst hr2;rcases SmX.take hs d [44] r r' h e2 with ⟨k1,k2,_⟩|k1
    . have k1:s.L d (t2 s.c [44] r) (t2 s.c' [44] r'):=k1;have k2:r.a+1<=(t2 s.c [44] r).a:=k2;have hz':¬ (l.length=32/\(t2 s.c' [44] r').a<s.c'.ts.length/\Qal s.c' { t2 s.c' [44] r' with e:=0 } (λt=>decide (t.k=2))=true):=by
       rintro⟨z1,z2,z3⟩;have q1:({ t2 s.c' [44] r' with e:=0 }:Rd)=t2 s.c' [44] r':=by
        have:=k1.e'; cases hq:t2 s.c' [44] r'; rw[hq]at this; simp only at this; rw[this]
       have q2:({ t2 s.c [44] r with e:=0 }:Rd)=t2 s.c [44] r:=by
        have:=k1.e; cases hq:t2 s.c [44] r; rw[hq]at this; simp only at this; rw[this]
       rw[q1]at z3;rcases QlH hs k1 with hh|hh
       . have:=Qmk (s:=s) (.inl hh); unfold QaW at this; rw[this]at z3; cases z3
       . have z4:QaW s.c (t2 s.c [44] r)=true:=by rw[<-hh]; exact z3
         exact hz ⟨z1,(Qb4 z4).2.1,by rw[q2]; exact z4⟩
      rw[Zm hz'];rcases SmX.nm hs d _ _ k1 e1 with ⟨m1,m2,m3⟩|m1
      . rw[m3];have:=m1.a; have:=h.a;rcases ih m' (l++[(nmR s.c (t2 s.c [44] r)).1]) _ _ m1 (by omega) (by omega) h0 with ⟨n1,n2,n3⟩|n1
        . exact .inl ⟨n1,by omega,n3⟩
        . exact .inr n1
      . rw[Qgi _ _ _ (.inr m1)]; exact .inr (.inr m1)
    . have k1:s.X (t2 s.c' [44] r'):=k1;have hB:s.X (nmR s.c' (if l.length=32/\(t2 s.c' [44] r').a<s.c'.ts.length/\Qal s.c' { t2 s.c' [44] r' with e:=0 } (λt=>decide (t.k=2))=true then Qg s.c' 12 (t2 s.c' [44] r')else t2 s.c' [44] r')).2:=by
       split
       . rw[QeP (Qdj k1)]; exact Qfq (.inr k1)
       . exact Qfq (.inr k1)
      rw[Qgi _ _ _ (.inr hB)]; exact .inr (.inr hB)
  . rw[Zm hp]at h0 ⊢
    cases n' with
    |zero=>exact .inl ⟨h,Vb _,rfl⟩
    |succ n' =>
     rw[QaB,Zm (by rw[g1]; exact hp)];exact .inl ⟨h,Vb _,rfl⟩
theorem Sm.seen {d:Nat}:s.Sm d (λx y=>y=x) (QaC s.c) (QaC s.c'):=by
 intro r r' h h0;by_cases hE:s.E r'
 . exact .inr (Dn.seen r' (.inl hE))
 have g1:=(Qat hs h (t:=[115,101,101,110]) (by decide)).resolve_left hE;unfold QaC at h0 ⊢;rw[g1];by_cases hp:Qd s.c [115,101,101,110] r=true
 . rw[Zn hp]at h0 ⊢;rw[Zn hp];simp only at h0 ⊢;generalize hr1:t2 s.c [98,121] (t2 s.c [115,101,101,110] r)=r1 at h0 ⊢;generalize hr1':t2 s.c' [98,121] (t2 s.c' [115,101,101,110] r')=r1';have e1:r1.e=0:=by
    by_cases hb:r1.e=0
    . exact hb
    . exfalso;rw[Zm (by rw[QaE hb]; decide)]at h0;simp only at h0;exact hb (QX Qch (QX (QmA _ _) h0))
   have e2:(t2 s.c [115,101,101,110] r).e=0:=t2b (by rw[hr1]; exact e1);have j1:=(SmX.take hs d [115,101,101,110]).step (DnX.take _) (P:=True) (.inl ⟨h,Zo⟩) e2;have j2:=(SmX.take hs d [98,121]).step (DnX.take _) (j1.imp_right .inr) (by unfold t2 at hr1; rw[hr1]; exact e1);unfold t2 at hr1 hr1';rw[hr1,hr1']at j2;rcases j2 with ⟨k1,⟨_,k2,_⟩,k3,_⟩|k1
   . rcases Qat hs k1 (t:=[97,108,108]) (by decide)with h1|h1
     . have hn:¬ Qd s.c' [97,108,108] r1'=true:=by rw[Qa4 (.inl h1)]; decide
       have hB:=Qfq (s:=s) (.inl h1);refine .inr ?_;rw[Zm hn];simp only;rw[Qgi _ _ _ (.inr hB)]; exact .inr hB
     . rw[h1];by_cases ha:Qd s.c [97,108,108] r1=true
       . rw[Zn ha]at h0 ⊢;rw[Zn ha];rcases SmX.take hs d [97,108,108] _ _ k1 h0 with ⟨m1,m2,_⟩|m1
         . refine .inl ⟨m1,?_,rfl⟩;unfold t2; try simp only
           omega
         . exact .inr (.inr m1)
       . rw[Zm ha]at h0 ⊢;rw[Zm ha];simp only at h0 ⊢;have e3:=QX (QmA _ _) h0;rcases SmX.nm hs d _ _ k1 e3 with ⟨m1,m2,m3⟩|m1
         . rw[m3];rcases Qu3 hs s.c.ts.length s.c'.ts.length [(nmR s.c r1).1] _ _ m1 (by omega) (by omega) h0 with ⟨n1,n2,n3⟩|n1
           . refine .inl ⟨n1,by omega,?_⟩;rw[n3]
           . exact .inr n1
         . rw[Qgi _ _ _ (.inr m1)]; exact .inr (.inr m1)
   . have hn:¬ Qd s.c' [97,108,108] r1'=true:=by rw[Qa4 (.inr k1)]; decide
     have hB:=Qfq (s:=s) (.inr k1);refine .inr ?_;rw[Zm hn];simp only;rw[Qgi _ _ _ (.inr hB)]; exact .inr hB
 . rw[Zm hp]at h0 ⊢;rw[Zm hp];exact .inl ⟨h,Vb _,rfl⟩
theorem SmX.deal {d:Nat} (hF:s.Sm d erq F F') (hD:s.Dn F') (hst:Qq F) (x:Qb):s.SmX d (λa b=>b.er=a.er) (QdJ s.c F x) (QdJ s.c' F' x):=by
 intro r r' h h0;unfold QdJ at h0 ⊢;simp only at h0 ⊢;have e1:=t2b h0;have e2:=QX QfR e1;have e3:=QX (QdM _) e2;have e4:=QX Qch e3;have e5:=t2b e4;have e6:=QX Qch e5;have e7:=t2b e6;have e8:=QX Qd7 e7;have j1:=(SmX.take hs d [100,101,97,108]).step (DnX.take _) (P:=True) (.inl ⟨h,Zo⟩) e8;have j2:=(SmX.word hs d).step DnX.word (j1.imp_right .inr) e7;have j3:=(SmX.take hs d [105,110]).step (DnX.take _) (j2.imp_right .inr) e6;have j4:=(SmX.nm hs d).step DnX.nm (j3.imp_right .inr) e5;have j5:=(SmX.take hs d [46,46]).step (DnX.take _) (j4.imp_right .inr) e4;have j6:=(SmX.nm hs d).step DnX.nm (j5.imp_right .inr) e3;have j7:=(Sm.opt hs (t:=[119,101,105,103,104,116]) (by decide) hF hD).step Dn.opt (j6.imp_right .inr) e2;have j8:=(Sm.seen hs).step Dn.seen j7 e1;have j9:=(SmX.take hs d [59]).step (DnX.take _) j8 h0;rcases j9 with ⟨k1,⟨⟨⟨⟨⟨⟨⟨⟨_,i1,_⟩,i2,q2⟩,i3,_⟩,i4,q4⟩,i5,_⟩,i6,q6⟩,i7,q7⟩,i8,q8⟩,i9,_⟩|k1
 . refine .inl ⟨k1,?_,?_⟩
   . unfold t2 at *;try simp only
     omega
   . unfold Qb.er;simp only;unfold t2 at *;rw[q2,q4,q6,q7,q8]
 . exact .inr k1
theorem QAJ {d:Nat} (hF:s.Sm d erq F F') (hD:s.Dn F') (hst:Qq F):∀ (n n':Nat) (l l':List Qm) (r r':Rd),l'.map Qm.er=l.map Qm.er->s.L d r r'->s.c.ts.length<=n+r.a->s.c'.ts.length<=n'+r'.a->(Qaf s.c F 0 n l r).2.e=0 ->
 (s.L d (Qaf s.c F 0 n l r).2 (Qaf s.c' F' 0 n' l' r').2/\r.a<=(Qaf s.c F 0 n l r).2.a/\(Qaf s.c' F' 0 n' l' r').1.map Qm.er=(Qaf s.c F 0 n l r).1.map Qm.er)\/s.B (Qaf s.c' F' 0 n' l' r').2:=by
 have hstl:∀ (n:Nat) (l:List Qm),Qq (Qaf s.c F 0 n l):=by
  intro n l r h
  cases n with
  |zero=>rfl
  |succ n=>rw[Qaf,Zm (by rw[QaE h]; decide)]
 intro n
 induction n with
 |zero =>
  intro n' l l' r r' ha h hn hn' h0;by_cases hE:s.E r'
  . rw[Qhj _ _ _ (.inl hE)]; exact .inr (.inl hE)
  have g1:=(Qat hs h (t:=[97,99,116,105,111,110]) (by decide)).resolve_left hE;have g2:Qd s.c [97,99,116,105,111,110] r=false:=by
   rw[<-Vi]; intro hp; have:=Qaj hp; omega
  cases n' with
  |zero=>exact .inl ⟨h,Vb _,ha⟩
  |succ n' =>
   have e1:Qaf s.c' F' 0 (n'+1) l' r'=(l',r'):=by rw[Qaf,Zm (by rw[g1,g2]; decide)]
   rw[e1]; exact .inl ⟨h,Vb _,ha⟩
 |succ n ih =>
  intro n' l l' r r' ha h hn hn' h0;by_cases hE:s.E r'
  . rw[Qhj _ _ _ (.inl hE)]; exact .inr (.inl hE)
  have g1:=(Qat hs h (t:=[97,99,116,105,111,110]) (by decide)).resolve_left hE;have hla:l'.length=l.length:=by simpa using Zp List.length ha
  rw[Qaf]at h0 ⊢;by_cases hp:Qd s.c [97,99,116,105,111,110] r=true
  . have hlt':r'.a<s.c'.ts.length:=Qaj (g1.trans hp);obtain⟨m',rfl⟩:∃ m',n'=m'+1:=⟨n' - 1,by omega⟩;rw[Qaf];rw[Zn hp]at h0 ⊢;rw[Zn (g1.trans hp)];simp only at h0 ⊢;have e1:=QX (hstl n _) h0;have e2:=QX QhD e1;have hz:¬ l.length=10:=by
     intro hz; rw[Zn hz]at e2; exact Qdf (by decide) _ e2
    rw[Zm hz]at h0 e1 ⊢;rw[Zm (by rw[hla]; exact hz)];rcases SmP.act hs hF hD hst h e1 with ⟨k1,k2,k3⟩|k1
    . have:=k1.a; have:=h.a;rcases ih m' (l++[(QM s.c F r).1]) (l'++[(QM s.c' F' r').1]) _ _ (by simp[ha,k3]) k1 (by omega) (by omega) h0 with ⟨n1,n2,n3⟩|n1
      . exact .inl ⟨n1,by omega,n3⟩
      . exact .inr n1
    . rw[Qhj _ _ _ k1]; exact .inr k1
  . rw[Zm hp]at h0 ⊢
    cases n' with
    |zero=>exact .inl ⟨h,Vb _,ha⟩
    |succ n' =>
     rw[Qaf,Zm (by rw[g1]; exact hp)];exact .inl ⟨h,Vb _,ha⟩
theorem SmX.turn {d:Nat} (hF:s.Sm d erq F F') (hD:s.Dn F') (hst:Qq F) (x:Qb):s.SmX d (λa b=>b.er=a.er) (QdF s.c F x) (QdF s.c' F' x):=by
 intro r r' h h0;have hstl:∀ (n:Nat) (l:List Qm),Qq (Qaf s.c F 0 n l):=by
  intro n l r h
  cases n with
  |zero=>rfl
  |succ n=>rw[Qaf,Zm (by rw[QaE h]; decide)]
 unfold QdF at h0 ⊢;simp only at h0 ⊢;have e1:=t2b h0;have e2:=QX (hstl _ _) e1;have e3:=QX QhD e2;have e4:=t2b e3;have e5:=QX hst e4;have j1:=(SmX.take hs d [116,117,114,110]).step (DnX.take _) (P:=True) (.inl ⟨h,Zo⟩) e5;have j2:=hF.step hD (j1.imp_right .inr) e4;have j3:=(SmX.take hs d [123]).step (DnX.take _) j2 e3;rcases j3 with ⟨k1,⟨⟨_,i1,_⟩,i2,q2⟩,i3,_⟩|k1
 . rcases SmP.act hs hF hD hst k1 e2 with ⟨m1,m2,m3⟩|m1
   . rcases QAJ hs hF hD hst s.c.ts.length s.c'.ts.length [_] [_] _ _ (by simp only[Vn,VU]; rw[m3]; rfl) m1 (by omega) (by omega) e1 with ⟨n1,n2,n3⟩|n1
     . rcases(SmX.take hs d [125]).step (DnX.take _) (P:=True) (.inl ⟨n1,Zo⟩) h0 with ⟨p1,_,p2,_⟩|p1
       . refine .inl ⟨p1,?_,?_⟩
         . unfold t2 at *;try simp only
           omega
         . unfold Qb.er;simp only[Ex.erL];rw[q2];have n3':=n3;unfold t2 at n3' ⊢;rw[n3']
       . exact .inr p1
     . exact .inr (Qbq n1 _)
   . have:=Qhj (s:=s) (F':=F') s.c'.ts.length [(QM s.c' F' (Qh s.c' [123] (F' (Qh s.c' [116,117,114,110] r').2).2).2).1] _ m1;refine .inr ?_;unfold t2 at *;rw[this];exact Qbq m1 _
 . refine .inr ?_;have hB:=Dn.act hD _ (.inr k1);have:=Qhj (s:=s) (F':=F') s.c'.ts.length [(QM s.c' F' (Qh s.c' [123] (F' (Qh s.c' [116,117,114,110] r').2).2).2).1] _ hB;unfold t2 at *;rw[this];exact Qbq hB _
end
theorem Qvq {c:Cx} {t:ZE} {r:Rd} (h0:(Qh c t r).2.e=0):(Qh c t r).2=Qa r/\∃ h:r.a<c.ts.length,c.ts[r.a].tx=t:=by
 by_cases hp:Qd c t r=true
 . obtain⟨_,h1,_,h2⟩:=Qf9 hp;unfold Qh;rw[hp];exact⟨rfl,h1,h2⟩
 . unfold Qh at h0;rw[Vi]at hp;rw[hp]at h0;exact absurd h0 (Qdf (by decide) r)
def Qhr (c:Cx) (a:Nat):Prop:=∃ q,a=q+1/\∃ h:q<c.ts.length,c.ts[q].tx=[59]\/c.ts[q].tx=[125]
theorem Qun {c:Cx} {F:Rd->Ex×Rd} {r:Rd} (h0:(Q0 c F r).2.e=0):Qhr c (Q0 c F r).2.a:=by
 have fin:∀ {t:ZE} {r:Rd},t=[59]\/t=[125]->(t2 c t r).e=0->Qhr c (t2 c t r).a:=by
  intro t r ht h;obtain⟨h1,h2,h3⟩:=Qvq (c:=c) (t:=t) (r:=r) h;refine⟨r.a,by show(Qh c t r).2.a=_; rw[h1]; rfl,h2,?_⟩;rw[h3]; exact ht
 unfold Q0 at h0 ⊢;simp only at h0 ⊢;split at h0
 . rename_i hp; rw[Zn hp]; exact fin (.inl rfl) h0
 . rename_i hp;rw[Zm hp];split at h0
   . rename_i hp; rw[Zn hp]; exact fin (.inr rfl) h0
   . rename_i hp; rw[Zm hp]; exact fin (.inr rfl) h0
theorem QuU {c:Cx} {l:List Qb} {r:Rd} (h:(QaR c l r).e=0):QaR c l r=r:=by
 unfold QaR at h ⊢;split
 . rename_i hz; rw[Zn hz]at h; exact absurd h (Qdf (by decide) r)
 . rfl
theorem Qs3 {c:Cx} {F:Rd->Ex×Rd}:∀ (n:Nat) (l:List Qb) (r:Rd),∃ m,(QF c F n l r).1=l++m
 |0,l,r=>⟨[],by simp[QF]⟩
 |n+1,l,r=>by
  rw[QF];split
  . obtain⟨m,h⟩:=Qs3 n (l++[(Q0 c F (QaR c l r)).1]) (Q0 c F (QaR c l r)).2;exact⟨(Q0 c F (QaR c l r)).1::m,by rw[h]; simp⟩
  . exact⟨[],by simp⟩
section
variable {s:Cp} {F F':Rd->Ex×Rd} (hs:s.Ok)
include hs
theorem QAc {d:Nat} (hF:s.Sm d erq F F') (hD:s.Dn F') (hst:Qq F):∀ (n n':Nat) (l l':List Ex) (r r':Rd),Ex.erL l'=Ex.erL l->s.L d r r'->s.c.ts.length<=n+r.a->s.c'.ts.length<=n'+r'.a->(Qak s.c F n l r).2.e=0 ->
 (s.L d (Qak s.c F n l r).2 (Qak s.c' F' n' l' r').2/\r.a<=(Qak s.c F n l r).2.a/\Ex.erL (Qak s.c' F' n' l' r').1=Ex.erL (Qak s.c F n l r).1)\/s.B (Qak s.c' F' n' l' r').2:=by
 have hstl:∀ (n:Nat) (l:List Ex),Qq (Qak s.c F n l):=by
  intro n l r h
  cases n with
  |zero=>rfl
  |succ n=>rw[Qak,Zm (by rw[QaE h]; decide)]
 intro n
 induction n with
 |zero =>
  intro n' l l' r r' ha h hn hn' h0;by_cases hE:s.E r'
  . rw[QgG _ _ _ (.inl hE)]; exact .inr (.inl hE)
  have g1:=(Qat hs h (t:=[44]) (by decide)).resolve_left hE;have g2:Qd s.c [44] r=false:=by
   rw[<-Vi]; intro hp; have:=Qaj hp; omega
  cases n' with
  |zero=>exact .inl ⟨h,Vb _,ha⟩
  |succ n' =>
   have e1:Qak s.c' F' (n'+1) l' r'=(l',r'):=by rw[Qak,Zm (by rw[g1,g2]; decide)]
   rw[e1]; exact .inl ⟨h,Vb _,ha⟩
 |succ n ih =>
  intro n' l l' r r' ha h hn hn' h0;by_cases hE:s.E r'
  . rw[QgG _ _ _ (.inl hE)]; exact .inr (.inl hE)
  have g1:=(Qat hs h (t:=[44]) (by decide)).resolve_left hE;have hla:l'.length=l.length:=by
   have:=Zp List.length ha;have e:∀ l:List Ex,(Ex.erL l).length=l.length:=by
    intro l; induction l with
    |nil=>rfl
    |cons x r ih=>simp[Ex.erL,ih]
   rw[e,e]at this; exact this
  rw[Qak]at h0 ⊢;by_cases hp:Qd s.c [44] r=true
  . have hlt':r'.a<s.c'.ts.length:=Qaj (g1.trans hp);obtain⟨m',rfl⟩:∃ m',n'=m'+1:=⟨n' - 1,by omega⟩;rw[Qak];rw[Zn hp]at h0 ⊢;rw[Zn (g1.trans hp)];simp only at h0 ⊢;have e1:=QX (hstl n _) h0;have e2:=QX hst e1;have hz:¬ (l.length=32/\Qbw s.c (t2 s.c [44] r)=true):=by
     intro hz; rw[Zn hz]at e2; exact Qdf (by decide) _ e2
    rw[Zm hz]at h0 e1 e2 ⊢;rcases SmX.take hs d [44] r r' h e2 with ⟨k1,k2,_⟩|k1
    . have k1:s.L d (t2 s.c [44] r) (t2 s.c' [44] r'):=k1;have k2:r.a+1<=(t2 s.c [44] r).a:=k2;have hz':¬ (l'.length=32/\Qbw s.c' (t2 s.c' [44] r')=true):=by
       rintro⟨z1,z2⟩;rcases QwB hs k1 with hh|hh
       . rw[QrL (.inl hh)]at z2; cases z2
       . exact hz ⟨by omega,by rw[<-hh]; exact z2⟩
      rw[Zm hz'];rcases hF _ _ k1 e1 with ⟨m1,m2,m3⟩|m1
      . have:=m1.a; have:=h.a;rcases ih m' (l++[(F (t2 s.c [44] r)).1]) (l'++[(F' (t2 s.c' [44] r')).1]) _ _ (by rw[QiL,QiL,ha]; simp only[Ex.erL]; rw[m3]) m1 (by omega) (by omega) h0 with ⟨n1,n2,n3⟩|n1
        . exact .inl ⟨n1,by omega,n3⟩
        . exact .inr n1
      . rw[QgG _ _ _ m1]; exact .inr m1
    . have k1:s.X (t2 s.c' [44] r'):=k1;have hz':¬ (l'.length=32/\Qbw s.c' (t2 s.c' [44] r')=true):=by
       rintro⟨_,z2⟩; rw[QrL (.inr k1)]at z2; cases z2
      rw[Zm hz'];have hB:=hD _ (.inr k1);rw[QgG _ _ _ hB]; exact .inr hB
  . rw[Zm hp]at h0 ⊢
    cases n' with
    |zero=>exact .inl ⟨h,Vb _,ha⟩
    |succ n' =>
     rw[Qak,Zm (by rw[g1]; exact hp)];exact .inl ⟨h,Vb _,ha⟩
theorem Sm.exprs {d:Nat} (hF:s.Sm d erq F F') (hD:s.Dn F') (hst:Qq F):s.Sm d (λx y=>Ex.erL y=Ex.erL x) (QcD s.c F) (QcD s.c' F'):=by
 intro r r' h h0;have hstl:∀ (n:Nat) (l:List Ex),Qq (Qak s.c F n l):=by
  intro n l r h
  cases n with
  |zero=>rfl
  |succ n=>rw[Qak,Zm (by rw[QaE h]; decide)]
 unfold QcD at h0 ⊢;have e1:=QX (hstl _ _) h0;rcases hF _ _ h e1 with ⟨m1,m2,m3⟩|m1
 . rcases QAc hs hF hD hst s.c.ts.length s.c'.ts.length [(F r).1] [(F' r').1] _ _ (by simp only[Ex.erL]; rw[m3]) m1 (by omega) (by omega) h0 with ⟨n1,n2,n3⟩|n1
   . exact .inl ⟨n1,by omega,n3⟩
   . exact .inr n1
 . rw[QgG _ _ _ m1]; exact .inr m1
theorem Sm.label {d:Nat}:s.Sm d (λx y=>y=x) (Qay s.c) (Qay s.c'):=by
 intro r r' h h0;rcases Qgc hs h with h1|h1
 . exact .inr (Dn.label r' (.inl h1))
 . unfold Qay at h0 ⊢;rw[h1];by_cases hp:QP s.c r=true
   . rw[Zn hp]at h0 ⊢;rw[Zn hp];have j1:=(SmX.word hs d).step DnX.word (P:=True) (.inl ⟨h,Zo⟩) (t2b h0);have j2:=(SmX.take hs d [58]).step (DnX.take _) (j1.imp_right .inr) h0;rcases j2 with ⟨k1,⟨_,k2,k3⟩,k4,_⟩|k1
     . refine .inl ⟨k1,?_,k3⟩;unfold t2 at *;try simp only
       omega
     . exact .inr (.inr k1)
   . rw[Zm hp]at h0 ⊢;rw[Zm hp];exact .inl ⟨h,Vb _,rfl⟩
theorem SmX.stage {d:Nat} (hF:s.Sm d erq F F') (hD:s.Dn F') (hst:Qq F):s.SmX d (λx y=>y.er=x.er) (Q0 s.c F) (Q0 s.c' F'):=by
 intro r r' h h0;unfold Q0 at h0 ⊢;simp only at h0 ⊢;have hstE:Qq (QcD s.c F):=Qhx hst;have e1:(Qay s.c r).2.e=0:=by
  by_cases hb:(Qay s.c r).2.e=0
  . exact hb
  . exfalso;rw[Zm (by rw[QaE hb]; decide),Zm (by rw[QaE hb]; decide)]at h0;simp only at h0;exact hb (QX (QdE _) (t2b (t2b (QX hstE (t2b (t2b h0))))))
 rcases Sm.label hs r r' h e1 with ⟨k1,k2,k3⟩|k1
 . by_cases hE:s.E (Qay s.c' r').2
   . refine .inr ?_;rw[Zm (by rw[Qa4 (.inl hE)]; decide),Zm (by rw[Qa4 (.inl hE)]; decide)];exact Qbq (.inr (Qbq (Dn.exprs hD _ (.inr (Qbq (.inr (Qbq (.inr (Qdx (.inl hE) _)) _)) _))) _)) _
   have g1:=(Qat hs k1 (t:=[100,101,97,108]) (by decide)).resolve_left hE;have g2:=(Qat hs k1 (t:=[116,117,114,110]) (by decide)).resolve_left hE;rw[g1,g2,k3];by_cases hp:Qd s.c [100,101,97,108] (Qay s.c r).2=true
   . rw[Zn hp]at h0 ⊢;rw[Zn hp];rcases SmX.deal hs hF hD hst _ _ _ k1 h0 with ⟨m1,m2,m3⟩|m1
     . exact .inl ⟨m1,by omega,m3⟩
     . exact .inr m1
   rw[Zm hp]at h0 ⊢;rw[Zm hp];by_cases hq:Qd s.c [116,117,114,110] (Qay s.c r).2=true
   . rw[Zn hq]at h0 ⊢;rw[Zn hq];rcases SmX.turn hs hF hD hst _ _ _ k1 h0 with ⟨m1,m2,m3⟩|m1
     . exact .inl ⟨m1,by omega,m3⟩
     . exact .inr m1
   rw[Zm hq]at h0 ⊢;rw[Zm hq];simp only at h0 ⊢;have f1:=t2b h0;have f2:=t2b f1;have f3:=QX hstE f2;have f4:=t2b f3;have f5:=t2b f4;have j1:=(SmX.take hs d [101,110,100]).step (DnX.take _) (P:=True) (.inl ⟨k1,Zo⟩) f5;have j2:=(SmX.take hs d [123]).step (DnX.take _) (j1.imp_right .inr) f4;have j3:=(SmX.take hs d [112,97,121]).step (DnX.take _) (j2.imp_right .inr) f3;have j4:=(Sm.exprs hs hF hD hst).step (Dn.exprs hD) (j3.imp_right .inr) f2;have j5:=(SmX.take hs d [59]).step (DnX.take _) j4 f1;have j6:=(SmX.take hs d [125]).step (DnX.take _) (j5.imp_right .inr) h0;rcases j6 with ⟨p1,⟨⟨⟨⟨⟨_,i1,_⟩,i2,_⟩,i3,_⟩,i4,q4⟩,i5,_⟩,i6,_⟩|p1
   . refine .inl ⟨p1,?_,?_⟩
     . unfold t2 at *;try simp only
       omega
     . unfold Qb.er;simp only;unfold t2 at *;rw[q4]
   . exact .inr p1
 . refine .inr ?_;rw[Zm (by rw[Qa4 k1]; decide),Zm (by rw[Qa4 k1]; decide)];exact Qbq (.inr (Qbq (Dn.exprs hD _ (.inr (Qbq (.inr (Qbq (.inr (Qdx k1 _)) _)) _))) _)) _
theorem SmX.var {d:Nat} {l l':List Ql} (hl:l'.length=l.length):s.SmX d (λx y=>y.er=x.er) (Qa7 s.c l) (Qa7 s.c' l'):=by
 intro r r' h h0;unfold Qa7 at h0 ⊢;simp only at h0 ⊢;have e1:=t2b h0;have e2:=QX Qch e1;have e3:=QX (Qge _) e2;have e4:=t2b e3;have e5:=QX Qd7 e4;have hz:¬ (l.length=40/\QP s.c (t2 s.c [118,97,114] r)=true):=by
  intro hz; rw[Zn hz]at e5; exact Qdf (by decide) _ e5
 rw[Zm hz]at h0 e1 e2 e3 e4 e5 ⊢;have j1:=(SmX.take hs d [118,97,114]).step (DnX.take _) (P:=True) (.inl ⟨h,Zo⟩) e5;have hz':¬ (l'.length=40/\QP s.c' (t2 s.c' [118,97,114] r')=true):=by
  rintro⟨z1,z2⟩;rcases j1 with ⟨k1,_⟩|k1
  . rcases Qgc hs k1 with hh|hh
    . have:=QfE (s:=s) (.inl hh); unfold t2 at z2; rw[this]at z2; cases z2
    . exact hz ⟨by omega,by unfold t2 at z2 ⊢; rw[<-hh]; exact z2⟩
  . have:=QfE (s:=s) (.inr k1); unfold t2 at z2; rw[this]at z2; cases z2
 rw[Zm hz'];have j2:=(SmX.word hs d).step DnX.word (j1.imp_right .inr) e4;have j3:=(SmX.take hs d [61]).step (DnX.take _) (j2.imp_right .inr) e3;have j4:=(Sm.flag hs (t:=[45]) (by decide)).step Dn.flag (j3.imp_right .inr) e2;have j5:=(SmX.nm hs d).step DnX.nm j4 e1;have j6:=(SmX.take hs d [59]).step (DnX.take _) (j5.imp_right .inr) h0;rcases j6 with ⟨p1,⟨⟨⟨⟨⟨_,i1,_⟩,i2,q2⟩,i3,_⟩,i4,q4⟩,i5,q5⟩,i6,_⟩|p1
 . refine .inl ⟨p1,?_,?_⟩
   . unfold t2 at *;try simp only
     omega
   . unfold Ql.er;simp only;unfold t2 at *;rw[q2,q4,q5]
 . exact .inr p1
theorem Qxi {d:Nat}:∀ (n n':Nat) (l l':List Ql) (r r':Rd),l'.map Ql.er=l.map Ql.er->s.L d r r'->s.c.ts.length<=n+r.a->s.c'.ts.length<=n'+r'.a->(Q6 s.c n l r).2.e=0 ->
 (s.L d (Q6 s.c n l r).2 (Q6 s.c' n' l' r').2/\r.a<=(Q6 s.c n l r).2.a/\(Q6 s.c' n' l' r').1.map Ql.er=(Q6 s.c n l r).1.map Ql.er)\/s.B (Q6 s.c' n' l' r').2:=by
 intro n
 induction n with
 |zero =>
  intro n' l l' r r' ha h hn hn' h0;by_cases hE:s.E r'
  . rw[QkE _ _ _ (.inl hE)]; exact .inr (.inl hE)
  have g1:=(Qat hs h (t:=[118,97,114]) (by decide)).resolve_left hE;have g2:Qd s.c [118,97,114] r=false:=by
   rw[<-Vi]; intro hp; have:=Qaj hp; omega
  cases n' with
  |zero=>exact .inl ⟨h,Vb _,ha⟩
  |succ n' =>
   have e1:Q6 s.c' (n'+1) l' r'=(l',r'):=by rw[Q6,Zm (by rw[g1,g2]; decide)]
   rw[e1]; exact .inl ⟨h,Vb _,ha⟩
 |succ n ih =>
  intro n' l l' r r' ha h hn hn' h0;by_cases hE:s.E r'
  . rw[QkE _ _ _ (.inl hE)]; exact .inr (.inl hE)
  have g1:=(Qat hs h (t:=[118,97,114]) (by decide)).resolve_left hE;have hla:l'.length=l.length:=by simpa using Zp List.length ha
  rw[Q6]at h0 ⊢;by_cases hp:Qd s.c [118,97,114] r=true
  . have hlt':r'.a<s.c'.ts.length:=Qaj (g1.trans hp);obtain⟨m',rfl⟩:∃ m',n'=m'+1:=⟨n' - 1,by omega⟩;rw[Q6];rw[Zn hp]at h0 ⊢;rw[Zn (g1.trans hp)];have e1:=QX (QqH n _) h0;rcases SmX.var hs hla _ _ h e1 with ⟨k1,k2,k3⟩|k1
    . have:=k1.a; have:=h.a;rcases ih m' (l++[(Qa7 s.c l r).1]) (l'++[(Qa7 s.c' l' r').1]) _ _ (by simp[ha,k3]) k1 (by omega) (by omega) h0 with ⟨n1,n2,n3⟩|n1
      . exact .inl ⟨n1,by omega,n3⟩
      . exact .inr n1
    . rw[QkE _ _ _ (.inr k1)]; exact .inr (.inr k1)
  . rw[Zm hp]at h0 ⊢
    cases n' with
    |zero=>exact .inl ⟨h,Vb _,ha⟩
    |succ n' =>
     rw[Q6,Zm (by rw[g1]; exact hp)];exact .inl ⟨h,Vb _,ha⟩
theorem Qt0 {d:Nat} (hF:s.Sm d erq F F') (hD:s.Dn F') (hst:Qq F) (hno:s.c'.ts.length=s.k+s.m) :
 ∀ (n n':Nat) (l l':List Qb) (r r':Rd),l'.map Qb.er=l.map Qb.er->(l≠[]->Qhr s.c r.a)->s.L d r r'->s.c.ts.length<n+r.a->s.c'.ts.length<n'+r'.a->(QF s.c F n l r).2.e=0 ->
  (s.cut=false/\(QF s.c' F' n' l' r').2.e=0/\(QF s.c' F' n' l' r').1.map Qb.er=(QF s.c F n l r).1.map Qb.er) \/
  (s.cut=true/\(QF s.c' F' n' l' r').2.e=0/\∃ j,1<=j/\j<=(QF s.c F n l r).1.length/\(QF s.c' F' n' l' r').1.map Qb.er=((QF s.c F n l r).1.take j).map Qb.er/\Qhr s.c s.k)\/s.X (QF s.c' F' n' l' r').2:=by
 have hstl:∀ (n:Nat) (l:List Qb),Qq (QF s.c F n l):=by
  intro n l r h
  cases n with
  |zero=>rfl
  |succ n=>rw[QF,Zm (λhh=>h hh.1)]
 have hXs:∀ (n:Nat) (l:List Qb) (r:Rd),s.X r->(QF s.c' F' n l r).2=r:=by
  intro n l r h
  cases n with
  |zero=>rfl
  |succ n=>rw[QF,Zm (λhh=>Qdj h hh.1)]
 intro n
 induction n with
 |zero =>
  intro n' l l' r r' ha hq h hn hn' h0;exfalso;have h4:=h.k;by_cases hk:s.k=0
  . omega
  . obtain⟨h6,_⟩:=hs.tk (s.k-1) (by omega); omega
 |succ n ih =>
  intro n' l l' r r' ha hq h hn hn' h0;have hla:l'.length=l.length:=by simpa using Zp List.length ha
  have e3:=h.a; have e4:=h.k;obtain⟨m',rfl⟩:∃ m',n'=m'+1:=⟨n' - 1,by omega⟩;by_cases hE:s.E r'
  . have hk:r.a=s.k:=by have:=hE.2.2; omega
    by_cases hl:l=[]
    . right; right;have hl':l'=[]:=Yb.1 (by rw[hla,hl]; rfl);rw[QF,Zn ⟨h.e',.inl hl'⟩];have hB:s.B (QaR s.c' l' r'):=by
       unfold QaR;rw[Zm (by rw[QfE (.inl hE)]; simp[Qa4 (s:=s) (.inl hE)])];exact .inl hE
      have:=DnX.stage hD _ hB;rw[hXs _ _ _ this]; exact this
    . right; left;have hl':l'≠[]:=λe=>hl (Yb.1 (by rw[<-hla,e]; rfl));have hstop:¬ (r'.e=0/\(l'=[]\/r'.a<s.c'.ts.length)):=by
       rintro⟨_,h1|h1⟩
       . exact hl' h1
       . have:=hE.2.2; omega
      obtain⟨m,hm⟩:=Qs3 (c:=s.c) (F:=F) (n+1) l r;rw[QF,Zm hstop];refine⟨hE.1,h.e',l.length,?_,?_,?_,by rw[<-hk]; exact hq hl⟩
      . cases l with
        |nil=>exact absurd rfl hl
        |cons x y=>simp
      . rw[hm]; simp
      . rw[hm]; simp[ha]
  . have hagree:(r.a<s.c.ts.length)↔(r'.a<s.c'.ts.length):=by
     rcases Qhp hs h with h1|⟨h1,h2,_⟩|⟨h1,h2,_⟩
     . exact absurd h1 hE
     . exact⟨λ_=>h2,λ_=>h1⟩
     . omega
    have hnil:l'=[]↔l=[]:=by rw[<-Yb,<- Yb,hla]
    rw[QF]at h0 ⊢;rw[QF];by_cases hgo:r.e=0/\(l=[]\/r.a<s.c.ts.length)
    . rw[Zn hgo]at h0 ⊢;rw[Zn ⟨h.e',by rw[hnil,<- hagree]; exact hgo.2⟩];have e1:=QX (hstl n _) h0;have e2:=QX (Qk0 hst) e1;have e5:=QuU e2;rw[e5]at h0 e1 ⊢;have e6:QaR s.c' l' r'=r':=by
       unfold QaR;rw[Zm];rintro⟨z1,z2⟩;rw[(Qgc hs h).resolve_left hE,(Qat hs h (t:=[100,101,97,108]) (by decide)).resolve_left hE,(Qat hs h (t:=[116,117,114,110]) (by decide)).resolve_left hE,(Qat hs h (t:=[101,110,100]) (by decide)).resolve_left hE]at z2;unfold QaR at e2;rw[Zn ⟨by omega,z2⟩]at e2;exact Qdf (by decide) _ e2
      rw[e6];rcases SmX.stage hs hF hD hst _ _ h e1 with ⟨k1,k2,k3⟩|k1
      . have:=k1.a;exact ih m' (l++[(Q0 s.c F r).1]) (l'++[(Q0 s.c' F' r').1]) _ _ (by simp[ha,k3]) (λ_=>Qun e1) k1 (by omega) (by omega) h0
      . right; right;rw[hXs _ _ _ k1]; exact k1
    . rw[Zm hgo]at h0 ⊢;rw[Zm (by rintro⟨_,z⟩; rw[hnil,<- hagree]at z; exact hgo ⟨h.e,z⟩)];refine .inl ⟨?_,h.e',ha⟩;rcases hs.fin with ⟨hc,hl⟩|⟨hk,_⟩
      . exfalso;apply hE;have hkl:s.k<=s.c.ts.length:=by
         by_cases hk:s.k=0
         . omega
         . obtain⟨h6,_⟩:=hs.tk (s.k-1) (by omega); omega
        have hna:¬ r.a<s.c.ts.length:=λhh=>hgo ⟨h.e,.inr hh⟩;exact⟨hc,h.e',by omega⟩
      . by_cases hc:s.cut=true
        . exfalso;apply hE;have hna:¬ r.a<s.c.ts.length:=λhh=>hgo ⟨h.e,.inr hh⟩;exact⟨hc,h.e',by omega⟩
        . simpa using hc
end
section
variable {s:Cp} (hs:s.Ok)
include hs
theorem Qww (hm:s.m=0) (hw:s.w=0) (hno:s.c'.ts.length=s.k) (h0:(QbL s.c (orT s.c)).2.1=0) :
 (s.cut=false/\(QbL s.c' (orT s.c')).2.1=0/\(QbL s.c' (orT s.c')).1.er=(QbL s.c (orT s.c)).1.er) \/
 (s.cut=true/\(QbL s.c' (orT s.c')).2.1=0/\Qhr s.c s.k/\∃ j,1<=j/\j<=(QbL s.c (orT s.c)).1.stages.length /\
  (QbL s.c' (orT s.c')).1.er=({ (QbL s.c (orT s.c)).1 with stages:=(QbL s.c (orT s.c)).1.stages.take j }:Qx).er) \/
 (s.cut=true/\(QbL s.c' (orT s.c')).2=((11:Int),(s.c'.en:Int))):=by
 have hF:s.Sm 40 erq (orT s.c) (orT s.c'):=by
  have:=(Sm.lv hs 40).2.2;rw[hw]at this; exact this
 have hD:s.Dn (orT s.c'):=(Dn.lv 40).2.2;have hst:Qq (orT s.c):=Qh8 s.c 40;have hstl:∀ (n:Nat) (l:List Qb),Qq (QF s.c (orT s.c) n l):=QpY;have hXs:∀ (n:Nat) (l:List Qb) (r:Rd),s.X r->(QF s.c' (orT s.c') n l r).2=r:=λn l r h=>QpY n l r (Qdj h);have h:s.L 40 ⟨0,0,0,0⟩ ⟨0,0,0,0⟩:=⟨rfl,rfl,by show 0=0+s.m; omega,Yc _,by show(0:Int)+((40+s.w:Nat):Int)=40; omega,rfl,by omega⟩;unfold QbL at h0 ⊢;simp only at h0 ⊢;generalize hr0:(⟨0,0,0,0⟩:Rd)=r0 at *;have hz:(QF s.c (orT s.c) (s.c.ts.length+1) [] (Q6 s.c s.c.ts.length [] (t2 s.c [59] (nmR s.c (t2 s.c [112,108,97,121,101,114,115] (t2 s.c [59] (QO s.c (t2 s.c [103,97,109,101] r0)).2))).2)).2).2.e=0:=by
  by_cases hb:(QF s.c (orT s.c) (s.c.ts.length+1) [] (Q6 s.c s.c.ts.length [] (t2 s.c [59] (nmR s.c (t2 s.c [112,108,97,121,101,114,115] (t2 s.c [59] (QO s.c (t2 s.c [103,97,109,101] r0)).2))).2)).2).2.e=0
  . exact hb
  . rw[Zn hb]at h0; exact absurd h0 hb
 have hE0:∀ {q:List Qb×Rd} {x:Qx},q.2.e=0->(if q.2.e≠0 then(Qeb,q.2.e,q.2.p)else(x,(0:Int),(0:Int)))=(x,(0:Int),(0:Int)):=λh=>Zm (λhh=>hh h);rw[hE0 hz];have e1:=QX (hstl _ _) hz;have e2:=QX (QqH _ _) e1;have e3:=t2b e2;have e4:=QX Qch e3;have e5:=t2b e4;have e6:=t2b e5;have e7:=QX Qd7 e6;have j1:=(SmX.take hs 40 [103,97,109,101]).step (DnX.take _) (P:=True) (.inl ⟨h,Zo⟩) e7;have j2:=(SmX.word hs 40).step DnX.word (j1.imp_right .inr) e6;have j3:=(SmX.take hs 40 [59]).step (DnX.take _) (j2.imp_right .inr) e5;have j4:=(SmX.take hs 40 [112,108,97,121,101,114,115]).step (DnX.take _) (j3.imp_right .inr) e4;have j5:=(SmX.nm hs 40).step DnX.nm (j4.imp_right .inr) e3;have j6:=(SmX.take hs 40 [59]).step (DnX.take _) (j5.imp_right .inr) e2;have hX:∀ {r:Rd},s.X r->s.cut=true/\r.e=11/\r.p=s.c'.en:=by
  intro r h;rcases h with h|⟨h,_⟩
  . exact h
  . exact absurd hw h
 have fin:∀ {q:List Qb×Rd} {x:Qx},s.X q.2->s.cut=true/\(if q.2.e≠0 then(Qeb,q.2.e,q.2.p)else(x,(0:Int),(0:Int))).2=((11:Int),(s.c'.en:Int)):=by
  intro q x hq;obtain⟨h1,h2,h3⟩:=hX hq;rw[Zn (Qdj hq)];exact⟨h1,by simp only; rw[h2,h3]⟩
 unfold t2 at *;rcases j6 with ⟨k1,⟨⟨⟨⟨⟨_,i1,_⟩,i2,q2⟩,i3,_⟩,i4,_⟩,i5,q5⟩,i6,_⟩|k1
 . rcases Qxi hs s.c.ts.length s.c'.ts.length [] [] _ _ rfl k1 (by omega) (by omega) e1 with ⟨m1,m2,m3⟩|m1
   . rcases Qt0 hs hF hD hst (by omega) (s.c.ts.length+1) (s.c'.ts.length+1) [] [] _ _ rfl (λh=>absurd rfl h) m1 (by omega) (by omega) hz with ⟨n0,n1,n2⟩|⟨n0,n1,j,n2,n3,n4,n5⟩|n1
     . left;rw[hE0 n1];refine⟨n0,rfl,?_⟩;unfold Qx.er;simp only;rw[q2,q5,m3,n2]
     . right; left;rw[hE0 n1];refine⟨n0,rfl,n5,j,n2,n3,?_⟩;unfold Qx.er;simp only;rw[q2,q5,m3,n4]
     . exact .inr (.inr (fin n1))
   . right; right;have hB:s.X (QF s.c' (orT s.c') (s.c'.ts.length+1) [] (Q6 s.c' s.c'.ts.length [] (Qh s.c' [59] (nmR s.c' (Qh s.c' [112,108,97,121,101,114,115] (Qh s.c' [59] (QO s.c' (Qh s.c' [103,97,109,101] r0).2).2).2).2).2).2).2).2:=by
      rcases m1 with hE|hXX
      . rw[QF,Zn ⟨hE.2.1,.inl rfl⟩];have hB:s.B (QaR s.c' [] (Q6 s.c' s.c'.ts.length [] (Qh s.c' [59] (nmR s.c' (Qh s.c' [112,108,97,121,101,114,115] (Qh s.c' [59] (QO s.c' (Qh s.c' [103,97,109,101] r0).2).2).2).2).2).2).2):=by
         unfold QaR;rw[Zm (by simp)];exact .inl hE
        have:=DnX.stage hD _ hB;rw[hXs _ _ _ this]; exact this
      . rw[hXs _ _ _ hXX]; exact hXX
     exact fin hB
 . right; right;have hV:=QkE (s:=s) s.c'.ts.length [] _ (.inr k1);have hB:s.X (QF s.c' (orT s.c') (s.c'.ts.length+1) [] (Q6 s.c' s.c'.ts.length [] (Qh s.c' [59] (nmR s.c' (Qh s.c' [112,108,97,121,101,114,115] (Qh s.c' [59] (QO s.c' (Qh s.c' [103,97,109,101] r0).2).2).2).2).2).2).2).2:=by
    rw[hV,hXs _ _ _ k1]; exact k1
   exact fin hB
end
theorem QmV:∀ (ps:List Pc) (n:Nat) (ts:List Tok),Plc n ps ts->∀ i (h:i<ts.length),∃ p1 k p2,ps=p1++.t k::p2/\(tks p1).length=i/\ts[i].p+ts[i].tx.length=n+(txt p1).length+k.tx.length
 |[],n,ts,hp,i,h=>by
  have hp:ts=[]:=hp;subst hp; simp at h
 |.b c::r,n,ts,hp,i,h=>by
  obtain⟨p1,k,p2,h1,h2,h3⟩:=QmV r (n+1) ts hp i h;exact⟨.b c::p1,k,p2,by rw[h1]; rfl,h2,by rw[h3]; simp[txt]; omega⟩
 |.t k::r,n,[],hp,i,h=>by simp at h
 |.t k::r,n,t::ts,hp,i,h=>by
  obtain⟨h1,⟨h2,_⟩,h3⟩:=hp
  cases i with
  |zero=>exact⟨[],k,r,rfl,rfl,by simp[h1,h2,txt]⟩
  |succ i =>
   obtain⟨p1,k',p2,g1,g2,g3⟩:=QmV r (n+k.tx.length) ts h3 i (by simpa using h);exact⟨.t k::p1,k',p2,by rw[g1]; rfl,by simp[tks,g2],by simp only[List.getElem_cons_succ]; rw[g3]; simp[txt]; omega⟩
theorem Qtm {k:TK} (h:k.ok):0<k.tx.length:=by
 cases k with
 |wd s=>exact Yl.2 h.1
 |sg s =>
  rcases h with ⟨c,_,rfl⟩|hd
  . exact Nat.one_pos
  . simp only[QaL,Ve,VC,Zu]at hd;rcases hd with rfl|rfl|rfl|rfl|rfl<;>decide
 |nm n=>exact Qlg 18 n
theorem Qp2 {k:TK} {a b:ZE} (h:k.sep a) (he:a.getD 0 0=b.getD 0 0\/b=[]):k.sep b:=by
 cases k with
 |sg s =>
  rcases he with he|rfl
  . exact h.imp_right λh=>by rwa [<-he]
  . exact .inr ⟨by decide,by decide⟩
 |wd s =>
  have h:cAt a 0≠2/\cAt a 0≠3:=h;rcases he with he|rfl
  . show cAt b 0≠2/\cAt b 0≠3;unfold cAt at h ⊢
    rwa [<-he]
  . exact⟨by decide,by decide⟩
 |nm n =>
  have h:cAt a 0≠2/\cAt a 0≠3:=h;rcases he with he|rfl
  . show cAt b 0≠2/\cAt b 0≠3;unfold cAt at h ⊢
    rwa [<-he]
  . exact⟨by decide,by decide⟩
theorem QlK:∀ (p1:List Pc) (k:TK) (p2:List Pc),QcQ (p1++.t k::p2)->QcQ (p1++[.t k])
 |[],k,p2,h=>⟨h.1,Qp2 h.2.1 (.inr rfl),Zo⟩
 |.b c::r,k,p2,h=>⟨h.1,QlK r k p2 h.2⟩
 |.t j::r,k,p2,h=>by
  refine⟨h.1,Qp2 h.2.1 (.inl ?_),QlK r k p2 h.2.2⟩;have hk:k.ok:=by
   have:∀ r:List Pc,QcQ (r++.t k::p2)->k.ok:=by
    intro r
    induction r with
    |nil=>exact λh=>h.1
    |cons x r ih =>
     intro h
     cases x with
     |b c=>exact ih h.2
     |t j=>exact ih h.2.2
   exact this r h.2.2
  show(txt (r++.t k::p2)).getD 0 0=(txt (r++[.t k])).getD 0 0;rw[Qbm,Qbm];have hl:=Qtm hk
  cases hr:txt r with
  |cons x y=>rfl
  |nil =>
   simp only[txt,Vx,VE]
   cases hkx:k.tx with
   |nil=>rw[hkx]at hl; simp at hl
   |cons x y=>rfl
theorem QrQ {ts:List Tok} {ks:List TK} (h:Qbo ts ks):∀ (i:Nat) (h1:i<ts.length) (h2:i<ks.length),QeF ts[i] ks[i]:=by
 induction h with
 |nil=>intro i h1; simp at h1
 |cons hf _ ih =>
  intro i h1 h2
  cases i with
  |zero=>exact hf
  |succ i=>exact ih i (by simpa using h1) (by simpa using h2)
theorem QvX {t t':Tok} {k:TK} (h:QeF t k) (h':QeF t' k):Tk t t':=by
 cases k with
 |wd s=>exact⟨by rw[h.1,h'.1],λ_=>by rw[h.2,h'.2],λe=>by rw[h.1]at e; exact absurd e (by decide)⟩
 |sg s=>exact⟨by rw[h.1,h'.1],λ_=>by rw[h.2,h'.2],λe=>by rw[h.1]at e; exact absurd e (by decide)⟩
 |nm n=>exact⟨by rw[h.1,h'.1],λe=>absurd h.1 e,λ_=>by rw[h.2,h'.2]⟩
theorem QmQ {ps:List Pc} (hg:QcQ ps) (h1:(txt ps).length<=20000) (h2:(tks ps).length<=5000):Plc 0 ps (Qv (txt ps)).1/\(Qv (txt ps)).2=(0,0):=by
 obtain⟨ts,g1,g2,g3⟩:=Qh0 ps hg [] (txt ps).length (Vb _) (.inl (.inl rfl));have g1:Qaz (txt ps)=ts.map .tok:=g1;have hf:=Qny ts 0 (by rw[QhM g2]; omega);unfold Qv;rw[Zm (by omega),g1,hf,Zn rfl,Ql6];exact⟨g3,rfl⟩
theorem Qzz {ps:List Pc} (hg:QcQ ps) (h1:(txt ps).length<=20000) (h2:(tks ps).length<=5000) (h0:(QJ (txt ps)).2.1=0) {i:Nat} (hi:i<(Qv (txt ps)).1.length) :
   let t:=(Qv (txt ps)).1[i]
   let e:=t.p+t.tx.length
   e<=(txt ps).length /\
   (((QJ ((txt ps).take e)).2.1=0/\(t.tx=[59]\/t.tx=[125])/\∃ j,1<=j/\j<=(QJ (txt ps)).1.stages.length /\
     (QJ ((txt ps).take e)).1.er=({ (QJ (txt ps)).1 with stages:=(QJ (txt ps)).1.stages.take j }:Qx).er) \/
    (QJ ((txt ps).take e)).2=((11:Int),(e:Int))):=by
 intro t e;obtain⟨hp,hs0⟩:=QmQ hg h1 h2;obtain⟨p1,k,p2,k1,k2,k3⟩:=QmV ps 0 _ hp i hi;have he:e=(txt (p1++[.t k])).length:=by
   show(Qv (txt ps)).1[i].p+(Qv (txt ps)).1[i].tx.length=_;rw[k3,Qbm]; simp[txt]
 have htp:txt ps=txt (p1++[.t k])++txt p2:=by rw[k1,Qbm,Qbm]; simp[txt]
 have htk:tks ps=tks (p1++[.t k])++tks p2:=by rw[k1,Qar,Qar]; simp[tks]
 have htake:(txt ps).take e=txt (p1++[.t k]):=by rw[htp,he,VG rfl]
 have hle:e<=(txt ps).length:=by rw[htp,Vj]; omega
 have hkl:(tks (p1++[.t k])).length=i+1:=by rw[Qar]; simp[tks,k2]
 have hg':QcQ (p1++[.t k]):=QlK p1 k p2 (by rw[<-k1]; exact hg);have h1':(txt (p1++[.t k])).length<=20000:=by omega
 have h2':(tks (p1++[.t k])).length<=5000:=by
   have:=Zp List.length htk;rw[Vj]at this; omega
 refine⟨hle,?_⟩;obtain⟨_,hs0'⟩:=QmQ hg' h1' h2';have A:=Qnv hg (by rw[hs0]);have A':=Qnv hg' (by rw[hs0']);have l1:=QhM A;have l2:=QhM A';rw[htake];have q1:QJ (txt ps)=QbL ⟨(Qv (txt ps)).1,(txt ps).length⟩ (orT ⟨(Qv (txt ps)).1,(txt ps).length⟩):=by
   unfold QJ; rw[Zm (by rw[hs0]; simp)]
 have q2:QJ (txt (p1++[.t k]))=QbL ⟨(Qv (txt (p1++[.t k]))).1,(txt (p1++[.t k])).length⟩ (orT ⟨(Qv (txt (p1++[.t k]))).1,(txt (p1++[.t k])).length⟩):=by
   unfold QJ; rw[Zm (by rw[hs0']; simp)]
 rw[q1]at h0;rw[q1,q2];let s:Cp:=⟨⟨(Qv (txt ps)).1,(txt ps).length⟩,⟨(Qv (txt (p1++[.t k]))).1,(txt (p1++[.t k])).length⟩,0,0,i+1,true⟩
 have hs:s.Ok:=by
   refine⟨λa ha => ?_,.inl ⟨rfl,?_⟩⟩
   . have ha:a<i+1:=ha;refine⟨by show a<(Qv (txt ps)).1.length; omega,by show a<(Qv (txt (p1++[.t k]))).1.length; omega,?_⟩;have f1:=QrQ A a (by omega) (by omega);have f2:=QrQ A' a (by omega) (by omega);have e1:(tks ps)[a]'(by omega)=(tks (p1++[.t k]))[a]'(by omega):=by
       have:(tks ps)[a]? = (tks (p1++[.t k]))[a]? := by rw[htk,Vc (by omega)]
       rw[Vd (by omega),Vd (by omega)]at this;exact Option.some.inj this
     rw[<-e1]at f2;exact QvX f1 f2
   . show(Qv (txt (p1++[.t k]))).1.length=i+1+0;omega
 rcases Qww hs rfl rfl (by show(Qv (txt (p1++[.t k]))).1.length=i+1; omega) h0 with ⟨hc,_⟩|⟨_,m1,⟨q,m2,m3,m4⟩,j,m5,m6,m7⟩|⟨_,m1⟩
 . cases hc
 . left;refine⟨m1,?_,j,m5,m6,m7⟩;have hq:q=i:=by have:i+1=q+1:=m2; omega
   subst hq;exact m4
 . right;rw[he]; exact m1
end Go.Proofs.YtmkdpmfhlfhjkaaGreatDoor
