/- Steps of the proof. -/
import Derived.Test.YtmkdpmfhlfhjkaaGreatDoorCore3
import Derived.Below
import Derived.ChangeArms
import Derived.DataReads
import Derived.WideShapes
import Derived.RowKit
import Derived.WalkKit
import Derived.ProofKit
import Derived.OpenShut
import Derived.ShutString
import Derived.ChangeOld
import Derived.Carry
import Derived.KernelRfl
import Derived.RecoverIn
import Derived.SizedLaws
set_option linter.all false
namespace Go.Ab
section
variable [QR] [QP] [Qv]
def Ev {α:Type} (v:α):α:=v
@[simp] theorem Ev_eq {α:Type} (v:α):Ev v=v:=Eq.trans rfl rfl
theorem QT {α:Type} {v w:α} (h:Ev v=w):v=w:=h
def Kn (K:ZF) (x:XE) (env:Env) (d:Option Nat) (v:SV) (H:ZG):Prop:=K x (env.put d v) H
@[congr] theorem QDa {K:ZF} {x:XE} {env:Env} {d:Option Nat} {v v':SV} {H H':ZG} (h1:Ev v=v') (h2:Ev H=H'):Kn K x env d v H=Kn K x env d v' H':=by rw[QT h1,QT h2]
@[simp] theorem QHL (K:ZF) (x:XE) (env:Env) (d:Nat) (v:SV) (H:ZG):Kn K x env (some d) v H=K x ((d,v)::env) H:=rfl
@[simp] theorem QFr (K:ZF) (x:XE) (env:Env) (v:SV) (H:ZG):Kn K x env none v H=K x env H:=rfl
def Ke (K:SV->ZG->Prop) (v:SV) (H:ZG):Prop:=K v H
@[congr] theorem QGw {K:SV->ZG->Prop} {v v':SV} {H H':ZG} (h1:Ev v=v') (h2:Ev H=H'):Ke K v H=Ke K v' H':=by rw[QT h1,QT h2]
@[simp] theorem Ke_go (K:SV->ZG->Prop) (v:SV) (H:ZG):Ke K v H=K v H:=rfl
section
variable {P:ZL} {N:Nat} {D:Array Oper->List Nat->List Ins->Bool}
@[simp ↓] theorem X_skip (env:Env) (H:ZG) (K:ZF):X P N D .skip env H K=K .normal env H:=rfl
@[simp ↓] theorem X_reg (l:List Ins) (env:Env) (H:ZG) (K:ZF):X P N D (.reg l) env H K=QbK P l env H K:=rfl
@[simp ↓] theorem X_drw (m:List Nat) (l:List Ins) (env:Env) (H:ZG) (K:ZF):X P N D (.drw m l) env H K=xd P [] l env H λx e H' =>
 match x with
 |.normal=>K .normal e H'
 |x=>K x (Qdc l env) H':=rfl
@[simp] theorem QGu (e:Env):Qdc [] e=e:=rfl
@[simp] theorem QEs (i:Ins) (r:List Ins) (e:Env):Qdc (i::r) e=(Qdc r e).put i.d .any:=rfl
@[simp ↓] theorem QCV (n0:Nat) (l:List Ins) (env:Env) (H:ZG) (K:ZF):xrt P n0 l [] env H K=True:=rfl
@[simp ↓] theorem QEl (n0:Nat) (l:List Ins) (o:List Nat) (os:List (List Nat)) (env:Env) (H:ZG) (K:ZF):xrt P n0 l (o::os) env H K=(QbK P (QcP n0 l o) env H K/\xrt P n0 l os env H K):=rfl
@[simp ↓] theorem QFJ (n0:Nat) (l:List Ins):QcP n0 l []=[]:=rfl
@[simp ↓] theorem QFK (n0:Nat) (l:List Ins) (i:Nat) (o:List Nat):QcP n0 l (i::o)=(match l[i-n0]? with|some x=>x::QcP n0 l o|none=>QcP n0 l o):=by
 unfold QcP; rw[Zi]; cases l[i-n0]? <;> rfl
@[simp ↓] theorem QC6 (l:List Ins) (env:Env) (H:ZG) (K:ZF):xre P l [] env H K=True:=rfl
@[simp ↓] theorem QHA (l:List Ins) (o:List Nat) (os:List (List Nat)) (env:Env) (H:ZG) (K:ZF):xre P l (o::os) env H K=(QbK P (Qnr l o) env H K/\xre P l os env H K):=rfl
@[simp ↓] theorem QDJ (l:List Ins):Qnr l []=[]:=rfl
@[simp ↓] theorem Qyv (a b:IC) (env:Env) (H:ZG) (K:ZF):X P N D (.seq a b) env H K=X P N D a env H λx env H =>
 match x with
 |.normal=>X P N D b env H K
 |x=>K x env H:=rfl
@[simp ↓] theorem Qrc (id:Nat) (a:IC) (env:Env) (H:ZG) (K:ZF):X P N D (.blk id a) env H K=X P N D a env H λx env H =>
 match x with
 |.exit i=>if i=id then K .normal env H else K (.exit i) env H
 |x=>K x env H:=rfl
@[simp ↓] theorem X_scp (a:IC) (env:Env) (H:ZG) (K:ZF):X P N D (.scp a) env H K=X P N D a env H λx env H =>
 match x with
 |.goto _=>False
 |x=>K x env H:=rfl
@[simp ↓] theorem X_lab (env:Env) (H:ZG) (K:ZF):X P N D .lab env H K=K .normal env H:=rfl
@[simp ↓] theorem X_exit (id:Nat) (env:Env) (H:ZG) (K:ZF):X P N D (.exit id) env H K=K (.exit id) env H:=rfl
@[simp ↓] theorem X_ret (env:Env) (H:ZG) (K:ZF):X P N D .ret env H K=K .ret env H:=rfl
@[simp ↓] theorem X_keep (ks:List Nat) (a:IC) (env:Env) (H:ZG) (K:ZF):X P N D (.keep ks a) env H K=X P N D a (env.keep ks) H K:=rfl
def QiY (c:SV) (a b:Prop):Prop:=c.isB=true/\if c.bool=true then a else b
@[congr] theorem QGt {c c':SV} {a b:Prop} (h:Ev c=c'):QiY c a b=QiY c' a b:=by rw[QT h]
@[simp] theorem QD5 (c:SV) (a b:Prop):QiY c a b=(c.isB=true/\if c.bool=true then a else b):=rfl
@[simp ↓] theorem X_cond (c:Od) (a b:IC) (env:Env) (H:ZG) (K:ZF):X P N D (.cond c a b) env H K=QiY (env.ev c) (X P N D a env H K) (X P N D b env H K):=by
 apply propext;simp only[X,QiY]
 cases (env.ev c).bool<;>simp
def Lp (P:ZL) (N:Nat) (D:Array Oper->List Nat->List Ins->Bool) (i:IC) (env:Env) (H:ZG) (K:ZF):Prop:=LI P N D i env H K
@[congr] theorem QCJ {i:IC} {env env':Env} {H H':ZG} {K:ZF} (h:Ev env=env') (h2:Ev H=H'):Lp P N D i env H K=Lp P N D i env' H' K:=by rw[QT h,QT h2]
@[simp ↓] theorem X_loop (i:IC) (env:Env) (H:ZG) (K:ZF):X P N D (.loop i) env H K=Lp P N D i env H K:=rfl
@[simp ↓] theorem QDR (env:Env) (H:ZG) (K:ZF):QbK P [] env H K=K .normal env H:=rfl
@[simp ↓] theorem QC7 (o:Ins) (r:List Ins) (env:Env) (H:ZG) (K:ZF):QbK P (o::r) env H K=xo P o env H λx env H =>
 match x with
 |.normal=>QbK P r env H K
 |x=>K x env H:=rfl
def Qdr (P:ZL) (f:SV) (args:ZH) (H:ZG) (K:Out->ZG->Prop):Prop:=∃ Pt:Out->ZG->Prop,QfB P f args H Pt/\∀ out H',Pt out H'->K out H'
@[congr] theorem QDi {f f':SV} {args args':ZH} {H H':ZG} {K:Out->ZG->Prop} (h1:Ev f=f') (h2:Ev args=args') (h3:Ev H=H'):Qdr P f args H K=Qdr P f' args' H' K:=by rw[QT h1,QT h2,QT h3]
theorem Qpc {k:ZN} {a b args:ZH} {H H':ZG} {out:Out} {K:Out->ZG->Prop} (h:Ok P k (a++args++b) H out H') (hk:K out H'):Qdr P (.fn (.func k) a b) args H K :=
 ⟨_,⟨rfl,h.toP⟩,λo h' hp=>by obtain⟨rfl,rfl⟩:=hp; exact hk⟩
theorem QrD {k:ZN} {a b args:ZH} {H:ZG} {Pt:Out->ZG->Prop} {K:Out->ZG->Prop} (h:OkP P k (a++args++b) H Pt) (hk:∀ out H',Pt out H'->K out H'):Qdr P (.fn (.func k) a b) args H K :=
 ⟨_,⟨rfl,h⟩,hk⟩
theorem Q5 {k:ZN} {args:ZH} {H:ZG} {Pt:Out->ZG->Prop} {K:Out->ZG->Prop} (h:OkP P k args H Pt) (hk:∀ out H',Pt out H'->K out H'):Qdr P (.fn (.func k) [] []) args H K :=
 QrD (by simpa using h) hk
theorem Qtt {f:SV} {args:ZH} {H:ZG} {Pt:Out->ZG->Prop} {K:Out->ZG->Prop} (h:QfB P f args H Pt) (hk:∀ out H',Pt out H'->K out H'):Qdr P f args H K:=⟨_,h,hk⟩
theorem QlM {k:ZN} {a b args:ZH} {H:ZG} {Pt:Out->ZG->Prop} (h:OkP P k (a++args++b) H Pt):QfB P (.fn (.func k) a b) args H Pt:=⟨rfl,h⟩
theorem Qc {k:ZN} {args:ZH} {H H':ZG} {out:Out} {K:Out->ZG->Prop} (h:Ok P k args H out H') (hk:K out H'):Qdr P (.fn (.func k) [] []) args H K :=
 Qpc (by simpa using h) hk
def QeB (P:ZL) (on:Bool) (f:SV) (args:ZH) (H:ZG) (K:SV->Prop):Prop:=∃ r,(on=true->OkC P f args H (.ret r) H)/\K r
@[congr] theorem QD8 {on on':Bool} {f f':SV} {args args':ZH} {H H':ZG} {K:SV->Prop} (h0:Ev on=on') (h1:Ev f=f') (h2:Ev args=args') (h3:Ev H=H'):QeB P on f args H K=QeB P on' f' args' H' K:=by rw[QT h0,QT h1,QT h2,QT h3]
theorem Quq {on:Bool} {k:ZN} {a b args:ZH} {H:ZG} {r:SV} {K:SV->Prop} (h:on=true->Ok P k (a++args++b) H (.ret r) H) (hk:K r):QeB P on (.fn (.func k) a b) args H K :=
 ⟨r,λho=>⟨rfl,h ho⟩,hk⟩
theorem QeF {on:Bool} {k:ZN} {args:ZH} {H:ZG} {r:SV} {K:SV->Prop} (h:on=true->Ok P k args H (.ret r) H) (hk:K r):QeB P on (.fn (.func k) [] []) args H K :=
 Quq (by simpa using h) hk
theorem Qcm (f:SV) (args:ZH) (H:ZG) (K:SV->Prop) (h:K .any):QeB P false f args H K:=⟨.any,λh=>by simp at h,h⟩
theorem Qod {k:ZN} {args:ZH} {H H':ZG} {out:Out} (h:Ok P k args H out H'):OkC P (.fn (.func k) [] []) args H out H':=⟨rfl,by show Ok P k ([]++args++[]) H out H'; simpa using h⟩
@[simp ↓] theorem xo_p (d:Option Nat) (i:I) (env:Env) (H:ZG) (K:ZF):xo P ⟨d,none,.p i⟩ env H K=((pv i env.ev H).1/\Kn K .normal env d (pv i env.ev H).2 H):=rfl
@[simp ↓] theorem QDB (d:Option Nat) (f:Od) (args:List Od) (env:Env) (H:ZG) (K:ZF):xo P ⟨d,none,.e (.call f args)⟩ env H K=Qdr P (env.ev f) (args.map env.ev) H λout H' =>
     match out with
     |.ret r=>K .normal (env.put d r) H'
     |.pan x=>K (.panic x) env H':=rfl
def sOn (c:SV) (want:Bool) (F:Bool->Prop):Prop:=c.bish=true/\F (c.on want)
@[congr] theorem QDc {c c':SV} {want:Bool} {F:Bool->Prop} (h:Ev c=c'):sOn c want F=sOn c' want F:=by rw[QT h]
def sGo (b:Bool) (F:Bool->Prop):Prop:=F b
@[congr] theorem QDI {b b':Bool} {F:Bool->Prop} (h:Ev b=b'):sGo b F=sGo b' F:=by rw[QT h]
@[simp] theorem sGo_go (b:Bool) (F:Bool->Prop):sGo b F=F b:=rfl
@[simp] theorem sOn_go (c:SV) (want:Bool) (F:Bool->Prop):sOn c want F=(c.bish=true/\sGo (c.on want) F):=rfl
@[simp ↓] theorem xo_gp (d:Option Nat) (s:Nat) (want:Bool) (i:I) (env:Env) (H:ZG) (K:ZF):xo P ⟨d,some (s,want),.p i⟩ env H K=sOn (env.get s) want λb=>(b=true->(pv i env.ev H).1)/\Kn K .normal env d (.gd b (pv i env.ev H).2) H:=rfl
@[simp ↓] theorem xo_gq (d:Option Nat) (s:Nat) (want:Bool) (f:Od) (args:List Od) (env:Env) (H:ZG) (K:ZF):xo P ⟨d,some (s,want),.q f args⟩ env H K=sOn (env.get s) want λb=>QeB P b (env.ev f) (args.map env.ev) H λr=>K .normal (env.put d (.gd b r)) H:=rfl
@[simp ↓] theorem xo_ge (d:Option Nat) (s:Nat) (want:Bool) (i:E) (env:Env) (H:ZG) (K:ZF):xo P ⟨d,some (s,want),.e i⟩ env H K=sOn (env.get s) want λb=>if b=true then xo P ⟨d,none,.e i⟩ env H K else K .normal (env.put d (.val undef)) H:=by
 apply propext;simp only[xo,sOn,xj]
 cases (env.get s).on want<;>simp
def xdn (P:ZL) (pend:List (Ins×SV)) (o:Ins) (v:SV) (r:List Ins) (env:Env) (H:ZG) (K:ZF):Prop:=xd P ((o,v)::pend) r (env.put o.d v) H K
@[congr] theorem QFx {pend:List (Ins×SV)} {o:Ins} {v v':SV} {r:List Ins} {env:Env} {H:ZG} {K:ZF} (h:Ev v=v'):xdn P pend o v r env H K=xdn P pend o v' r env H K:=by rw[QT h]
@[simp ↓] theorem xd_nil (pend:List (Ins×SV)) (env:Env) (H:ZG) (K:ZF):xd P pend [] env H K=K .normal env H:=rfl
@[simp ↓] theorem xd_p (pend:List (Ins×SV)) (d:Option Nat) (i:I) (r:List Ins) (env:Env) (H:ZG) (K:ZF):xd P pend (⟨d,none,.p i⟩::r) env H K=((pv i env.ev H).1/\xdn P pend ⟨d,none,.p i⟩ (pv i env.ev H).2 r env H K):=rfl
@[simp ↓] theorem xd_q (pend:List (Ins×SV)) (d:Option Nat) (f:Od) (args:List Od) (r:List Ins) (env:Env) (H:ZG) (K:ZF):xd P pend (⟨d,none,.q f args⟩::r) env H K=QeB P true (env.ev f) (args.map env.ev) H λv=>xd P ((⟨d,none,.q f args⟩,v)::pend) r (env.put d v) H K:=by
 simp only[QeB,true_implies]; rfl
@[simp ↓] theorem xd_gp (pend:List (Ins×SV)) (d:Option Nat) (s:Nat) (want:Bool) (i:I) (r:List Ins) (env:Env) (H:ZG) (K:ZF):xd P pend (⟨d,some (s,want),.p i⟩::r) env H K=sOn (env.get s) want λb=>(b=true->(pv i env.ev H).1)/\xdn P pend ⟨d,some (s,want),.p i⟩ (.gd b (pv i env.ev H).2) r env H K:=rfl
@[simp ↓] theorem xd_gq (pend:List (Ins×SV)) (d:Option Nat) (s:Nat) (want:Bool) (f:Od) (args:List Od) (r:List Ins) (env:Env) (H:ZG) (K:ZF):xd P pend (⟨d,some (s,want),.q f args⟩::r) env H K=sOn (env.get s) want λb=>QeB P b (env.ev f) (args.map env.ev) H λv=>xd P ((⟨d,some (s,want),.q f args⟩,.gd b v)::pend) r (env.put d (.gd b v)) H K:=rfl
def Qfo (P:ZL) (env:Env) (H:ZG):List (Ins×SV)->Prop
 |[]=>True
 |p::r=>QbP P p.1 env H p.2/\Qfo P env H r
theorem QpP (env:Env) (H:ZG):∀ l,Qfo P env H l=∀ p∈l,QbP P p.1 env H p.2
 |[]=>by simp[Qfo]
 |p::r=>by simp only[Qfo,QpP env H r,List.forall_mem_cons]
attribute [simp] QjC QfY Qgn Ins.slots J.slots I.ods E.ods Od.slots
@[simp] theorem QDf (env:Env) (H:ZG):Qfo P env H []=True:=rfl
@[simp] theorem QGk (env:Env) (H:ZG) (o:Ins) (v:SV) (r:List (Ins×SV)):Qfo P env H ((o,v)::r)=(QbP P o env H v/\Qfo P env H r):=rfl
@[simp ↓] theorem xd_e (pend:List (Ins×SV)) (d:Option Nat) (g:Option (Nat×Bool)) (i:E) (r:List Ins) (env:Env) (H:ZG) (K:ZF):xd P pend (⟨d,g,.e i⟩::r) env H K=xo P ⟨d,g,.e i⟩ env H λx env' H' =>
     match x with
     |.normal=>Qfo P env' H' (pend.filter λp=>QjC ⟨d,g,.e i⟩ pend p.1)/\xd P pend r env' H' K
     |x=>K x [] H':=by
 rw[xd,Zn (by simp[J.quiet])];congr 1;funext x env' H'
 cases x<;>try rfl
 simp only[QpP,V9,and_imp]
@[simp ↓] theorem QEm (d:Option Nat) (i:I) (env:Env) (H:ZG) (v:SV):QbP P ⟨d,none,.p i⟩ env H v=((pv i env.ev H).1/\v=(pv i env.ev H).2):=rfl
@[simp ↓] theorem QF3 (d:Option Nat) (f:Od) (args:List Od) (env:Env) (H:ZG) (v:SV):QbP P ⟨d,none,.q f args⟩ env H v=OkC P (env.ev f) (args.map env.ev) H (.ret v) H:=rfl
@[simp ↓] theorem QFe (d:Option Nat) (s:Nat) (want:Bool) (i:I) (env:Env) (H:ZG) (v:SV):QbP P ⟨d,some (s,want),.p i⟩ env H v=sOn (env.get s) want λb=>(b=true->(pv i env.ev H).1)/\v=.gd b (pv i env.ev H).2:=rfl
@[simp] theorem dep_p (i:I):J.dep (.p i)=(match i with|.ld1 _|.ldn _ _|.lkp _ _ _ _ _|.bys _=>true|_=>false):=by cases i<;>rfl
@[simp] theorem xdn_go (pend:List (Ins×SV)) (o:Ins) (v:SV) (r:List Ins) (env:Env) (H:ZG) (K:ZF):xdn P pend o v r env H K=xd P ((o,v)::pend) r (env.put o.d v) H K:=rfl
def Qj1 (T:ZK) (z:ZH) (H:ZG) (K:SV->ZG->Prop):Prop:=K (.ptr (.own H.length 0 0 0 0) 0) (H++[⟨z,T,0,true⟩])
@[congr] theorem QFD {T:ZK} {z:ZH} {H H':ZG} {K:SV->ZG->Prop} (h9:Ev H=H'):Qj1 T z H K=Qj1 T z H' K:=by rw[QT h9]
@[simp ↓] theorem xo_alc (d:Option Nat) (T:ZK) (z:ZH) (env:Env) (H:ZG) (K:ZF):xo P ⟨d,none,.e (.alc T z)⟩ env H K=Qj1 T z H λv H'=>K .normal (env.put d v) H':=rfl
@[simp] theorem QHD (T:ZK) (z:ZH) (H:ZG) (K:SV->ZG->Prop):Qj1 T z H K=(Ke K (.ptr (.own H.length 0 0 0 0) 0) (H++[⟨z,T,0,true⟩])):=rfl
def Qle (T:ZK) (x:SV) (H:ZG) (K:SV->ZG->Prop):Prop:=x.vd=true/\QD x.ug.flat/\K (.ptr (.own H.length 0 0 0 0) 0) (H++[⟨x.ug.flat,T,0,true⟩])
@[congr] theorem QGR {T:ZK} {x x':SV} {H H':ZG} {K:SV->ZG->Prop} (h0:Ev x=x') (h9:Ev H=H'):Qle T x H K=Qle T x' H' K:=by rw[QT h0,QT h9]
@[simp ↓] theorem xo_box (d:Option Nat) (T:ZK) (x:Od) (env:Env) (H:ZG) (K:ZF):xo P ⟨d,none,.e (.box T x)⟩ env H K=Qle T (env.ev x) H λv H'=>K .normal (env.put d v) H':=rfl
@[simp] theorem QC1 (T:ZK) (x:SV) (H:ZG) (K:SV->ZG->Prop):Qle T x H K=(x.vd=true/\QD x.ug.flat/\Ke K (.ptr (.own H.length 0 0 0 0) 0) (H++[⟨x.ug.flat,T,0,true⟩])):=rfl
def Qlv (T:ZK) (sz:Nat) (bytes:Nat) (z:ZH) (len:SV) (cap:SV) (H:ZG) (K:SV->ZG->Prop):Prop:=len.isN=true/\cap.isN=true/\0<=len.int/\len.int<=cap.int/\bytes*cap.int<=140737488355328/\cap.int<=140737488355328/\K (.own H.length 0 len.int.toNat sz 0) (H++[⟨(List.replicate len.int.toNat z).flatten,T,0,true⟩])
@[congr] theorem QE8 {T:ZK} {sz:Nat} {bytes:Nat} {z:ZH} {len len':SV} {cap cap':SV} {H H':ZG} {K:SV->ZG->Prop} (h0:Ev len=len') (h1:Ev cap=cap') (h9:Ev H=H'):Qlv T sz bytes z len cap H K=Qlv T sz bytes z len' cap' H' K:=by rw[QT h0,QT h1,QT h9]
@[simp ↓] theorem xo_mks (d:Option Nat) (T:ZK) (sz:Nat) (bytes:Nat) (z:ZH) (len:Od) (cap:Od) (env:Env) (H:ZG) (K:ZF):xo P ⟨d,none,.e (.mks T sz bytes z len cap)⟩ env H K=Qlv T sz bytes z (env.ev len) (env.ev cap) H λv H'=>K .normal (env.put d v) H':=rfl
@[simp] theorem QFf (T:ZK) (sz:Nat) (bytes:Nat) (z:ZH) (len:SV) (cap:SV) (H:ZG) (K:SV->ZG->Prop):Qlv T sz bytes z len cap H K=(len.isN=true/\cap.isN=true/\0<=len.int/\len.int<=cap.int/\bytes*cap.int<=140737488355328/\cap.int<=140737488355328/\Ke K (.own H.length 0 len.int.toNat sz 0) (H++[⟨(List.replicate len.int.toNat z).flatten,T,0,true⟩])):=rfl
def Qgm (T:ZK) (sz:Nat) (bytes:Nat) (s:SV) (x:SV) (H:ZG) (K:SV->ZG->Prop):Prop:=s.vd=true/\x.vd=true/\x.ug.isSl=true/\x.ug.slen*sz<=(x.ug.row H).length/\QD (x.ug.els H sz) /\
     (s.ug.slen+x.ug.slen)*bytes<=140737488355328/\s.ug.slen+x.ug.slen<=140737488355328 /\
     match s.ug with
     |.own i 0 n sz' ver =>
       sz'=sz/\(∃ o,H[i]? = some o/\o.live=true/\o.ver=ver/\o.ty=T/\o.cells.length=n*sz)/\K (.own i 0 (n+x.ug.slen) sz (ver+1)) (setObj H i λo=>o.grow (x.ug.els H sz))
     |v=>v.isNil=true/\K (.own H.length 0 x.ug.slen sz 1) (H++[⟨x.ug.els H sz,T,1,true⟩])
@[congr] theorem QDK {T:ZK} {sz:Nat} {bytes:Nat} {s s':SV} {x x':SV} {H H':ZG} {K:SV->ZG->Prop} (h0:Ev s=s') (h1:Ev x=x') (h9:Ev H=H'):Qgm T sz bytes s x H K=Qgm T sz bytes s' x' H' K:=by rw[QT h0,QT h1,QT h9]
@[simp ↓] theorem xo_app (d:Option Nat) (T:ZK) (sz:Nat) (bytes:Nat) (s:Od) (x:Od) (env:Env) (H:ZG) (K:ZF):xo P ⟨d,none,.e (.app T sz bytes s x)⟩ env H K=Qgm T sz bytes (env.ev s) (env.ev x) H λv H'=>K .normal (env.put d v) H':=rfl
def QbB (H:ZG) (i ver:Nat) (T:ZK) (m:Nat):Prop:=∃ o,H[i]? = some o/\o.live=true/\o.ver=ver/\o.ty=T/\o.cells.length=m
@[simp] theorem QFQ (T:ZK) (sz bytes i n sz' ver:Nat) (x:SV) (H:ZG) (K:SV->ZG->Prop):Qgm T sz bytes (.own i 0 n sz' ver) x H K=(x.vd=true/\x.ug.isSl=true/\x.ug.slen*sz<=(x.ug.row H).length/\QD (x.ug.els H sz) /\
     (n+x.ug.slen)*bytes<=140737488355328/\n+x.ug.slen<=140737488355328/\sz'=sz/\QbB H i ver T (n*sz)/\Ke K (.own i 0 (n+x.ug.slen) sz (ver+1)) (setObj H i λo=>o.grow (x.ug.els H sz))):=by
 simp[Qgm,SV.vd,SV.ug,SV.slen,QbB,Ke]
def Qhm (n:Nat) (p:SV) (x:SV) (H:ZG) (K:SV->ZG->Prop):Prop:=p.vd=true/\x.vd=true/\QD x.ug.flat/\x.ug.flat.length=n/\0<n /\
     match p.ug with
     |.ptr (.own i off _ _ ver) k=>off+k+n<=(Qo H i ver).length/\K (.val undef) (setObj H i λo=>o.put (off+k) x.ug.flat)
     |_=>False
@[congr] theorem QGr {n:Nat} {p p':SV} {x x':SV} {H H':ZG} {K:SV->ZG->Prop} (h0:Ev p=p') (h1:Ev x=x') (h9:Ev H=H'):Qhm n p x H K=Qhm n p' x' H' K:=by rw[QT h0,QT h1,QT h9]
@[simp ↓] theorem xo_st (d:Option Nat) (n:Nat) (p:Od) (x:Od) (env:Env) (H:ZG) (K:ZF):xo P ⟨d,none,.e (.st n p x)⟩ env H K=Qhm n (env.ev p) (env.ev x) H λv H'=>K .normal (env.put d v) H':=rfl
@[simp] theorem QFg (n i off len sz ver k:Nat) (x:SV) (H:ZG) (K:SV->ZG->Prop):Qhm n (.ptr (.own i off len sz ver) k) x H K=(x.vd=true/\QD x.ug.flat/\x.ug.flat.length=n/\0<n /\
     off+k+n<=(Qo H i ver).length/\Ke K (.val undef) (setObj H i λo=>o.put (off+k) x.ug.flat)):=by
 simp[Qhm,SV.vd,SV.ug,Ke]
def Qii (x:SV) (K:SV->Prop):Prop:=x.vd=true/\match x.ug with
 |.ifc t y=>K (.ifc t y)
 |_=>False
@[congr] theorem QDu {x x':SV} {K:SV->Prop} (h:Ev x=x'):Qii x K=Qii x' K:=by rw[QT h]
@[simp] theorem QDO (t:ZK) (y:SV) (K:SV->Prop):Qii (.ifc t y) K=K (.ifc t y):=by simp[Qii,SV.vd,SV.ug]
@[simp ↓] theorem xo_pan (d:Option Nat) (x:Od) (env:Env) (H:ZG) (K:ZF):xo P ⟨d,none,.e (.pan x)⟩ env H K=Qii (env.ev x) λy=>K (.panic y) env H:=rfl
@[simp ↓] theorem xo_stw (d:Option Nat) (ws:List Nat) (n:Nat) (p x:Od) (env:Env) (H:ZG) (K:ZF):xo P ⟨d,none,.e (.stw ws n p x)⟩ env H K=Qhm n (env.ev p) (env.ev x) H λv H'=>K .normal (env.put d v) H':=rfl
def QpW (T:ZK) (sz:Nat) (x:SV) (H:ZG) (K:SV->ZG->Prop):Prop:=x.vd=true/\x.ug.isNil=true/\K (.own H.length 0 0 sz 0) (H++[⟨[],T,0,true⟩])
@[simp ↓] theorem xo_nil (d:Option Nat) (T:ZK) (sz:Nat) (x:Od) (env:Env) (H:ZG) (K:ZF):xo P ⟨d,none,.e (.nil T sz x)⟩ env H K=QpW T sz (env.ev x) H λv H'=>K .normal (env.put d v) H':=rfl
@[simp] theorem QHl (T:ZK) (sz:Nat) (x:SV) (H:ZG) (K:SV->ZG->Prop):QpW T sz x H K=(x.vd=true/\x.ug.isNil=true/\Ke K (.own H.length 0 0 sz 0) (H++[⟨[],T,0,true⟩])):=rfl
def QuE (T:ZK) (sz:Nat) (x:SV) (H:ZG) (K:SV->ZG->Prop):Prop:=x.vd=true/\x.ug.isSl=true/\K (.own H.length 0 0 sz 0) (H++[⟨[],T,0,true⟩])
@[simp] theorem QDF (T:ZK) (sz:Nat) (x:SV) (H:ZG) (K:SV->ZG->Prop):QuE T sz x H K=(x.vd=true/\x.ug.isSl=true/\Ke K (.own H.length 0 0 sz 0) (H++[⟨[],T,0,true⟩])):=rfl
def Qia (T:ZK) (s:SV) (x:SV) (H:ZG) (K:SV->ZG->Prop):Prop:=s.vd=true/\x.isS=true/\s.ug.slen+x.str.size<=140737488355328 /\
     match s.ug with
     |.own i 0 n sz' ver =>
       sz'=1/\(∃ o,H[i]? = some o/\o.live=true/\o.ver=ver/\o.ty=T/\o.cells.length=n*1)/\K (.own i 0 (n+x.str.size) 1 (ver+1)) (setObj H i λo=>o.grow (Qai x.str))
     |v=>v.isNil=true/\K (.own H.length 0 x.str.size 1 1) (H++[⟨Qai x.str,T,1,true⟩])
@[congr] theorem QDU {T:ZK} {s s':SV} {x x':SV} {H H':ZG} {K:SV->ZG->Prop} (h0:Ev s=s') (h1:Ev x=x') (h9:Ev H=H'):Qia T s x H K=Qia T s' x' H' K:=by rw[QT h0,QT h1,QT h9]
@[simp ↓] theorem xo_aps (d:Option Nat) (T:ZK) (s:Od) (x:Od) (env:Env) (H:ZG) (K:ZF):xo P ⟨d,none,.e (.aps T s x)⟩ env H K=Qia T (env.ev s) (env.ev x) H λv H'=>K .normal (env.put d v) H':=rfl
@[simp] theorem QEt (T:ZK) (i n sz' ver:Nat) (x:SV) (H:ZG) (K:SV->ZG->Prop):Qia T (.own i 0 n sz' ver) x H K=(x.isS=true /\
     n+x.str.size<=140737488355328/\sz'=1/\QbB H i ver T (n*1)/\Ke K (.own i 0 (n+x.str.size) 1 (ver+1)) (setObj H i λo=>o.grow (Qai x.str))):=by
 simp[Qia,SV.vd,SV.ug,SV.slen,QbB,Ke]
def Qke (x:SV) (H:ZG) (K:SV->ZG->Prop):Prop:=x.isS=true/\K (.slc (Qai x.str) x.str.size) H
@[congr] theorem QC8 {x x':SV} {H H':ZG} {K:SV->ZG->Prop} (h0:Ev x=x') (h9:Ev H=H'):Qke x H K=Qke x' H' K:=by rw[QT h0,QT h9]
@[simp ↓] theorem xo_sby (d:Option Nat) (x:Od) (env:Env) (H:ZG) (K:ZF):xo P ⟨d,none,.e (.sby x)⟩ env H K=Qke (env.ev x) H λv H'=>K .normal (env.put d v) H':=rfl
@[simp] theorem QHm (x:SV) (H:ZG) (K:SV->ZG->Prop):Qke x H K=(x.isS=true/\Ke K (.slc (Qai x.str) x.str.size) H):=rfl
def Qi9 (T:ZK) (H:ZG) (K:SV->ZG->Prop):Prop:=K (.mp H.length 0) (H++[⟨[.mk []],T,0,false⟩])
@[congr] theorem QC2 {T:ZK} {H H':ZG} {K:SV->ZG->Prop} (h9:Ev H=H'):Qi9 T H K=Qi9 T H' K:=by rw[QT h9]
@[simp ↓] theorem xo_mkm (d:Option Nat) (T:ZK) (env:Env) (H:ZG) (K:ZF):xo P ⟨d,none,.e (.mkm T)⟩ env H K=Qi9 T H λv H'=>K .normal (env.put d v) H':=rfl
@[simp] theorem QEV (T:ZK) (H:ZG) (K:SV->ZG->Prop):Qi9 T H K=Ke K (.mp H.length 0) (H++[⟨[.mk []],T,0,false⟩]):=rfl
def Qlu (kk:KK) (m k v:SV) (H:ZG) (K:SV->ZG->Prop):Prop:=m.vd=true/\k.isK kk=true/\v.vd=true /\
     match m.ug,m.ug.mapOf H with
     |.mp i _,some x=>x.1.all kk.is=true/\(∀ v∈k.key kk::x.1,kk.knows v)/\K (.val undef) (setObj H i λo=>{ o with cells:=.mk (Qac (k.key kk) x.1)::Qaa (k.key kk) v.ug x.1 x.2 })
     |_,_=>False
@[congr] theorem QEI {kk:KK} {m m' k k' v v':SV} {H H':ZG} {K:SV->ZG->Prop} (h0:Ev m=m') (h1:Ev k=k') (h2:Ev v=v') (h9:Ev H=H'):Qlu kk m k v H K=Qlu kk m' k' v' H' K:=by rw[QT h0,QT h1,QT h2,QT h9]
@[simp ↓] theorem xo_mup (d:Option Nat) (kk:KK) (m k v:Od) (env:Env) (H:ZG) (K:ZF):xo P ⟨d,none,.e (.mup kk m k v)⟩ env H K=Qlu kk (env.ev m) (env.ev k) (env.ev v) H λw H'=>K .normal (env.put d w) H':=rfl
theorem QbX {kk:KK} {i ver:Nat} {k v:SV} {H:ZG} {K:SV->ZG->Prop} {x:ZI×ZH} (hm:(SV.mp i ver).mapOf H=some x) (hk:k.isK kk=true) (hv:v.vd=true) (ha:x.1.all kk.is=true)
 (h:K (.val undef) (setObj H i λo=>{ o with cells:=.mk (Qac (k.key kk) x.1)::Qaa (k.key kk) v.ug x.1 x.2 })) (hkn:∀ v∈k.key kk::x.1,kk.knows v:=by simp):Qlu kk (.mp i ver) k v H K:=by
 refine⟨rfl,hk,hv,?_⟩;simp only[SV.ug];rw[hm];exact⟨ha,hkn,h⟩
def QzE (neg:Bool) (right:Bool) (x:SV) (H:ZG) (K:SV->ZG->Prop):Prop:=x.vd=true/\x.ug.isSl=true/\(x.ug.slen≠0->K (bl neg) H)/\(x.ug.slen=0->K (bl neg) H/\K (bl (!neg)) H)
@[simp] theorem QDq (neg:Bool) (right:Bool) (x:SV) (H:ZG) (K:SV->ZG->Prop):QzE neg right x H K=(x.vd=true/\x.ug.isSl=true/\(x.ug.slen≠0->Ke K (bl neg) H)/\(x.ug.slen=0->Ke K (bl neg) H/\Ke K (bl (!neg)) H)):=rfl
def QiR (T:ZK) (sz len:Nat) (z:ZH) (parts:List (Nat×SV)) (H:ZG) (K:SV->ZG->Prop):Prop :=
 (∀ p∈parts,QaY sz p.2/\p.1*sz+sz<=len*sz)/\QD (Qbk (List.replicate len z).flatten (parts.map λp=>(p.1*sz,p.2))) /\
  K (.own H.length 0 len sz 0) (H++[⟨Qbk (List.replicate len z).flatten (parts.map λp=>(p.1*sz,p.2)),T,0,true⟩])
@[congr] theorem QCQ {T:ZK} {sz len:Nat} {z:ZH} {parts parts':List (Nat×SV)} {H H':ZG} {K:SV->ZG->Prop} (h:Ev parts=parts') (h2:Ev H=H'):QiR T sz len z parts H K=QiR T sz len z parts' H' K:=by rw[QT h,QT h2]
@[simp ↓] theorem xo_bsl (d:Option Nat) (T:ZK) (sz len:Nat) (z:ZH) (parts:List (Nat×Od)) (env:Env) (H:ZG) (K:ZF) :
 xo P ⟨d,none,.e (.bsl T sz len z parts)⟩ env H K=QiR T sz len z (parts.map λp=>(p.1,env.ev p.2)) H λv H'=>K .normal (env.put d v) H':=by
 simp only[xo,xj,xe,QiR,Yk,Function.comp_def,Zk]
@[simp] theorem QHi (T:ZK) (sz len:Nat) (z:ZH) (parts:List (Nat×SV)) (H:ZG) (K:SV->ZG->Prop):QiR T sz len z parts H K=(
 (∀ p∈parts,QaY sz p.2/\p.1*sz+sz<=len*sz)/\QD (Qbk (List.replicate len z).flatten (parts.map λp=>(p.1*sz,p.2))) /\
  Ke K (.own H.length 0 len sz 0) (H++[⟨Qbk (List.replicate len z).flatten (parts.map λp=>(p.1*sz,p.2)),T,0,true⟩])):=rfl
def ldv (H:ZG) (p:SV):SV:=(p.at H).headD .any
def Qoe (H:ZG) (p:SV) (n:Nat):ZH:=(p.at H).take n
def Qfm (H:ZG) (p:SV) (n:Nat):Prop:=n<=(p.at H).length
@[simp] theorem QGJ (H:ZG) (i off len sz ver k:Nat):ldv H (.ptr (.own i off len sz ver) k)=(((Qo H i ver).drop off).drop k).headD .any:=rfl
@[simp] theorem QEx (H:ZG) (c:ZH) (n k:Nat):ldv H (.ptr (.slc c n) k)=(c.drop k).headD .any:=rfl
@[simp] theorem QC3 (H:ZG) (i off len sz ver k n:Nat):Qoe H (.ptr (.own i off len sz ver) k) n=(((Qo H i ver).drop off).drop k).take n:=rfl
@[simp] theorem QDZ (H:ZG) (c:ZH) (m k n:Nat):Qoe H (.ptr (.slc c m) k) n=(c.drop k).take n:=rfl
@[simp] theorem QEG (H:ZG) (i off len sz ver k n:Nat):Qfm H (.ptr (.own i off len sz ver) k) n=(n<=(((Qo H i ver).drop off).drop k).length):=rfl
@[simp] theorem QHw (H:ZG) (c:ZH) (m k n:Nat):Qfm H (.ptr (.slc c m) k) n=(n<=(c.drop k).length):=rfl
variable (g:Od->SV) (H:ZG)
@[simp ↓] theorem QFd (x:Od):(pv (.mov x) g H).1=(True):=rfl
@[simp ↓] theorem QHe (x:Od):(pv (.mov x) g H).2=g x:=rfl
@[simp ↓] theorem QF4 (c:Od) (a:Od) (b:Od):(pv (.pick c a b) g H).1=((g c).isB=true/\(if(g c).bool=true then(g a).isB=true else(g b).isB=true)):=by
 first
 |rfl
 | (apply propext; simp only[pv]; cases (g c).bool<;>simp)
@[simp ↓] theorem QD7 (c:Od) (a:Od) (b:Od):(pv (.pick c a b) g H).2=bl (cond (g c).bool (g a).bool (g b).bool):=by
 first
 |rfl
 | (apply propext; simp only[pv]; cases (g c).bool<;>simp)
@[simp ↓] theorem QES (k:IntKind) (x:Od):(pv (.neg k x) g H).1=((g x).isI k=true):=rfl
@[simp ↓] theorem QEE (k:IntKind) (x:Od):(pv (.neg k x) g H).2=.val (.int k (k.wrap (0-(g x).int))):=rfl
@[simp ↓] theorem QEJ (x:Od):(pv (.not x) g H).1=((g x).isB=true):=rfl
@[simp ↓] theorem QEF (x:Od):(pv (.not x) g H).2=bl (!(g x).bool):=rfl
@[simp ↓] theorem QHh (k:IntKind) (x:Od):(pv (.cvi k x) g H).1=((g x).isN=true):=rfl
@[simp ↓] theorem QF1 (k:IntKind) (x:Od):(pv (.cvi k x) g H).2=.val (.int k (k.wrap (g x).int)):=rfl
@[simp ↓] theorem QEp (p:Od):(pv (.ld1 p) g H).1=((g p).vd=true/\Qfm H (g p).ug 1):=rfl
@[simp ↓] theorem QE4 (p:Od):(pv (.ld1 p) g H).2=ldv H (g p).ug:=rfl
@[simp ↓] theorem QFn (n:Nat) (p:Od):(pv (.ldn n p) g H).1=((g p).vd=true/\Qfm H (g p).ug n/\0<n):=rfl
@[simp ↓] theorem QGN (n:Nat) (p:Od):(pv (.ldn n p) g H).2=.agg (Qoe H (g p).ug n):=rfl
@[simp ↓] theorem pv1_ia (sz:Nat) (s:Od) (j:Od):(pv (.ia sz s j) g H).1=((g s).vd=true/\(g s).ug.isSl=true/\(g j).isN=true/\0<=(g j).int/\(g j).int<(g s).ug.slen):=rfl
@[simp ↓] theorem pv2_ia (sz:Nat) (s:Od) (j:Od):(pv (.ia sz s j) g H).2=.ptr (g s).ug ((g j).int.toNat*sz):=rfl
@[simp ↓] theorem QCW (s:Od) (j:Od):(pv (.ixs s j) g H).1=((g s).isS=true/\(g j).isN=true/\0<=(g j).int/\(g j).int<(g s).str.size):=rfl
@[simp ↓] theorem QGX (s:Od) (j:Od):(pv (.ixs s j) g H).2=.val (.int .u8 ((g s).str.data.toList.getD (g j).int.toNat 0).toNat):=rfl
@[simp ↓] theorem pv1_sl (sz:Nat) (x:Od) (lo:Option Od) (hi:Option Od):(pv (.sl sz x lo hi) g H).1=((g x).vd=true/\(g x).ug.isSl=true/\(g x).ug.szIs sz=true/\QcQ (lo.map g)/\QcQ (hi.map g)/\Qbv (lo.map g)<=Qbq (g x).ug.slen (hi.map g)/\Qbq (g x).ug.slen (hi.map g)<=(g x).ug.slen):=rfl
@[simp ↓] theorem pv2_sl (sz:Nat) (x:Od) (lo:Option Od) (hi:Option Od):(pv (.sl sz x lo hi) g H).2=(g x).ug.cut sz (Qbv (lo.map g)) (Qbq (g x).ug.slen (hi.map g)):=rfl
@[simp ↓] theorem QDz (x:Od) (lo:Option Od) (hi:Option Od):(pv (.sls x lo hi) g H).1=((g x).isS=true/\QcQ (lo.map g)/\QcQ (hi.map g)/\Qbv (lo.map g)<=Qbq (g x).str.size (hi.map g)/\Qbq (g x).str.size (hi.map g)<=(g x).str.size):=rfl
@[simp ↓] theorem QHG (x:Od) (lo:Option Od) (hi:Option Od):(pv (.sls x lo hi) g H).2=st ((g x).str.extract (Qbv (lo.map g)) (Qbq (g x).str.size (hi.map g))):=rfl
@[simp ↓] theorem QHB (x:Od):(pv (.len x) g H).1=((g x).vd=true/\(g x).ug.isSl=true):=rfl
@[simp ↓] theorem QGS (x:Od):(pv (.len x) g H).2=i64 (g x).ug.slen:=rfl
@[simp ↓] theorem QEn (x:Od):(pv (.lens x) g H).1=((g x).isS=true):=rfl
@[simp ↓] theorem QGP (x:Od):(pv (.lens x) g H).2=i64 (g x).str.size:=rfl
@[simp ↓] theorem pv1_mm (mx:Bool) (k:IntKind) (x:Od) (y:Od):(pv (.mm mx k x y) g H).1=((g x).isI k=true/\(g y).isI k=true):=rfl
@[simp ↓] theorem pv2_mm (mx:Bool) (k:IntKind) (x:Od) (y:Od):(pv (.mm mx k x y) g H).2=.val (.int k (if mx=true then max (g x).int (g y).int else min (g x).int (g y).int)):=rfl
@[simp ↓] theorem QEw (f:Fn) (first:List Od) (cap:List Od):(pv (.mkf f first cap) g H).1=(True):=rfl
@[simp ↓] theorem QDp (f:Fn) (first:List Od) (cap:List Od):(pv (.mkf f first cap) g H).2=.fn f (first.map g) (cap.map g):=rfl
@[simp ↓] theorem QEb (t:ZK) (x:Od):(pv (.mki t x) g H).1=(True):=rfl
@[simp ↓] theorem QHI (t:ZK) (x:Od):(pv (.mki t x) g H).2=.ifc t (g x):=rfl
@[simp ↓] theorem QD0 (T:ZK) (sz len:Nat) (z:ZH) (parts:List (Nat×SV)):(pv (.kro T sz len z parts) g H).1=True:=rfl
@[simp ↓] theorem QFU (T:ZK) (sz len:Nat) (z:ZH) (parts:List (Nat×SV)):(pv (.kro T sz len z parts) g H).2=.slc (Qbk (List.replicate len z).flatten (parts.map λp=>(p.1*sz,p.2))) len:=rfl
@[simp ↓] theorem QE9 (z:ZH) (parts:List (Nat×Nat×Od)):(pv (.bld z parts) g H).1=(∀ p∈parts.map (λp=>(p.1,p.2.1,g p.2.2)),QaY p.2.1 p.2.2/\p.1+p.2.1<=z.length):=by
 first
 |rfl
 | (apply propext; simp only[pv,Zk])
@[simp ↓] theorem QCI (z:ZH) (parts:List (Nat×Nat×Od)):(pv (.bld z parts) g H).2=.agg (Qbk z (parts.map λp=>(p.1,g p.2.2))):=by
 first
 |rfl
 | (apply propext; simp only[pv,Zk])
def SV.isPt:SV->Bool
 |.ptr _ _=>true
 |_=>false
def SV.isAg:SV->Bool
 |.agg _=>true
 |_=>false
def SV.isTu:SV->Bool
 |.tup _=>true
 |_=>false
def SV.isNc:SV->Bool
 |.ptr _ _=>true
 |.fn (.func _) _ _=>true
 |_=>false
def SV.els':SV->ZH
 |.agg l=>l
 |.tup l=>l
 |_=>[]
def SV.mv (off:Nat):SV->SV
 |.ptr s k=>.ptr s (k+off)
 |_=>.any
@[simp ↓] theorem pv1_fa (off:Nat) (p:Od):(pv (.fa off p) g H).1=((g p).ug.isPt=true/\(g p).vd=true):=by
 cases hu:(g p).ug<;>simp[pv,hu,SV.isPt]
@[simp ↓] theorem pv2_fa (off:Nat) (p:Od) (h:(g p).ug.isPt=true):(pv (.fa off p) g H).2=(g p).ug.mv off:=by
 cases hu:(g p).ug<;>simp[pv,hu,SV.isPt,SV.mv]at h ⊢
@[simp ↓] theorem QHJ (off:Nat) (x:Od):(pv (.fld1 off x) g H).1=((g x).ug.isAg=true/\(g x).vd=true/\off<(g x).ug.els'.length):=by
 cases hu:(g x).ug<;>simp[pv,hu,SV.isAg,SV.els']
@[simp ↓] theorem QDm (off:Nat) (x:Od) (h:(g x).ug.isAg=true):(pv (.fld1 off x) g H).2=(g x).ug.els'.getD off .any:=by
 cases hu:(g x).ug<;>simp[pv,hu,SV.isAg,SV.els']at h ⊢
@[simp ↓] theorem QDA (len:Nat) (sz:Nat) (p:Od) (j:Od):(pv (.iap len sz p j) g H).1=((g p).ug.isPt=true/\(g p).vd=true/\(g j).isN=true/\0<=(g j).int/\(g j).int<len):=by
 cases hu:(g p).ug<;>simp[pv,hu,SV.isPt]
@[simp ↓] theorem QEv (len:Nat) (sz:Nat) (p:Od) (j:Od) (h:(g p).ug.isPt=true):(pv (.iap len sz p j) g H).2=(g p).ug.mv ((g j).int.toNat*sz):=by
 cases hu:(g p).ug<;>simp[pv,hu,SV.isPt,SV.mv]at h ⊢
@[simp ↓] theorem QDd (len:Nat) (sz:Nat) (one:Bool) (x:Od) (j:Od):(pv (.ixa len sz one x j) g H).1=((g x).ug.isAg=true/\(g x).vd=true/\(g j).isN=true/\0<=(g j).int/\(g j).int<len/\(g x).ug.els'.length=len*sz/\(one=true->sz=1)):=by
 cases hu:(g x).ug<;>simp[pv,hu,SV.isAg,SV.els']
@[simp ↓] theorem QFp (len:Nat) (sz:Nat) (one:Bool) (x:Od) (j:Od) (h:(g x).ug.isAg=true):(pv (.ixa len sz one x j) g H).2=if one=true then(g x).ug.els'.getD (g j).int.toNat .any else .agg (((g x).ug.els'.drop ((g j).int.toNat*sz)).take sz):=by
 cases hu:(g x).ug<;>simp[pv,hu,SV.isAg,SV.els']at h ⊢
@[simp ↓] theorem QED (x:Od) (j:Nat):(pv (.ext x j) g H).1=((g x).ug.isTu=true/\(g x).vd=true/\j<(g x).ug.els'.length):=by
 cases hu:(g x).ug<;>simp[pv,hu,SV.isTu,SV.els']
@[simp ↓] theorem QFZ (x:Od) (j:Nat) (h:(g x).ug.isTu=true):(pv (.ext x j) g H).2=(g x).ug.els'.getD j .any:=by
 cases hu:(g x).ug<;>simp[pv,hu,SV.isTu,SV.els']at h ⊢
@[simp ↓] theorem QDW (x:Od):(pv (.nck x) g H).1=((g x).ug.isNc=true/\(g x).vd=true):=by
 cases hu:(g x).ug with
 |fn f a b=>cases f<;>simp[pv,hu,SV.isNc]
 |_=>simp[pv,hu,SV.isNc]
@[simp ↓] theorem QFa (x:Od) (h:(g x).ug.isNc=true):(pv (.nck x) g H).2=(g x).ug:=by
 cases hu:(g x).ug with
 |fn f a b=>rw[hu]at h; cases f<;>simp[pv,hu,SV.isNc]at h ⊢
 |_=>simp[hu,SV.isNc]at h ⊢ <;> simp[pv,hu]
@[simp ↓] theorem QG4 (neg:Bool) (ks:List CK) (x y:Od):(pv (.eqf neg ks x y) g H).1=((g x).ug.isAg=true/\(g y).ug.isAg=true/\(g x).vd=true/\(g y).vd=true/\QbI ks (g x).ug.els' (g y).ug.els'):=by
 cases hu:(g x).ug<;>cases hv:(g y).ug<;>simp[pv,hu,hv,SV.isAg,SV.els']
@[simp ↓] theorem QFk (neg:Bool) (ks:List CK) (x y:Od) (h:((g x).ug.isAg&&(g y).ug.isAg)=true):(pv (.eqf neg ks x y) g H).2=bl (if neg=true then !Qbs ks (g x).ug.els' (g y).ug.els' else Qbs ks (g x).ug.els' (g y).ug.els'):=by
 cases hu:(g x).ug<;>cases hv:(g y).ug<;>simp[pv,hu,hv,SV.isAg,SV.els']at h ⊢
@[simp ↓] theorem QFX (k:IntKind) (x y:Od):(pv (.bin .add (.i k) x y) g H).1=((g x).isI k=true/\(g y).isI k=true):=rfl
@[simp ↓] theorem QGF (k:IntKind) (x y:Od):(pv (.bin .add (.i k) x y) g H).2=.val (.int k (k.wrap ((g x).int+(g y).int))):=rfl
@[simp ↓] theorem QGf (k:IntKind) (x y:Od):(pv (.bin .sub (.i k) x y) g H).1=((g x).isI k=true/\(g y).isI k=true):=rfl
@[simp ↓] theorem QEj (k:IntKind) (x y:Od):(pv (.bin .sub (.i k) x y) g H).2=.val (.int k (k.wrap ((g x).int-(g y).int))):=rfl
@[simp ↓] theorem QCF (k:IntKind) (x y:Od):(pv (.bin .mul (.i k) x y) g H).1=((g x).isI k=true/\(g y).isI k=true):=rfl
@[simp ↓] theorem QEA (k:IntKind) (x y:Od):(pv (.bin .mul (.i k) x y) g H).2=.val (.int k (k.wrap ((g x).int*(g y).int))):=rfl
@[simp ↓] theorem QEd (k:IntKind) (x y:Od):(pv (.bin .quo (.i k) x y) g H).1=((g x).isI k=true/\(g y).isI k=true/\(g y).int≠0):=rfl
@[simp ↓] theorem QHx (k:IntKind) (x y:Od):(pv (.bin .quo (.i k) x y) g H).2=.val (.int k (k.wrap ((g x).int.tdiv (g y).int))):=rfl
@[simp ↓] theorem QCH (k:IntKind) (x y:Od):(pv (.bin .rem (.i k) x y) g H).1=((g x).isI k=true/\(g y).isI k=true/\(g y).int≠0):=rfl
@[simp ↓] theorem QEh (k:IntKind) (x y:Od):(pv (.bin .rem (.i k) x y) g H).2=.val (.int k ((g x).int.tmod (g y).int)):=rfl
@[simp ↓] theorem QHg (k:IntKind) (x y:Od):(pv (.bin .and (.i k) x y) g H).1=((g x).isI k=true/\(g y).isI k=true):=rfl
@[simp ↓] theorem QGZ (k:IntKind) (x y:Od):(pv (.bin .and (.i k) x y) g H).2=.val (.int k (QeQ .and k (g x).int (g y).int)):=rfl
@[simp ↓] theorem QEC (k:IntKind) (x y:Od):(pv (.bin .or (.i k) x y) g H).1=((g x).isI k=true/\(g y).isI k=true):=rfl
@[simp ↓] theorem QDs (k:IntKind) (x y:Od):(pv (.bin .or (.i k) x y) g H).2=.val (.int k (QeQ .or k (g x).int (g y).int)):=rfl
@[simp ↓] theorem QFi (k:IntKind) (x y:Od):(pv (.bin .xor (.i k) x y) g H).1=((g x).isI k=true/\(g y).isI k=true):=rfl
@[simp ↓] theorem QEi (k:IntKind) (x y:Od):(pv (.bin .xor (.i k) x y) g H).2=.val (.int k (QeQ .xor k (g x).int (g y).int)):=rfl
@[simp ↓] theorem QHz (k:IntKind) (x y:Od):(pv (.bin .andNot (.i k) x y) g H).1=((g x).isI k=true/\(g y).isI k=true):=rfl
@[simp ↓] theorem QD9 (k:IntKind) (x y:Od):(pv (.bin .andNot (.i k) x y) g H).2=.val (.int k (QeQ .andNot k (g x).int (g y).int)):=rfl
@[simp ↓] theorem QE3 (k:IntKind) (x y:Od):(pv (.bin .eql (.i k) x y) g H).1=((g x).isI k=true/\(g y).isI k=true):=rfl
@[simp ↓] theorem QEe (k:IntKind) (x y:Od):(pv (.bin .eql (.i k) x y) g H).2=bl (decide ((g x).int=(g y).int)):=rfl
@[simp ↓] theorem QFB (k:IntKind) (x y:Od):(pv (.bin .neq (.i k) x y) g H).1=((g x).isI k=true/\(g y).isI k=true):=rfl
@[simp ↓] theorem QGj (k:IntKind) (x y:Od):(pv (.bin .neq (.i k) x y) g H).2=bl (!decide ((g x).int=(g y).int)):=rfl
@[simp ↓] theorem QGs (k:IntKind) (x y:Od):(pv (.bin .lss (.i k) x y) g H).1=((g x).isI k=true/\(g y).isI k=true):=rfl
@[simp ↓] theorem QFo (k:IntKind) (x y:Od):(pv (.bin .lss (.i k) x y) g H).2=bl (decide ((g x).int<(g y).int)):=rfl
@[simp ↓] theorem QGp (k:IntKind) (x y:Od):(pv (.bin .leq (.i k) x y) g H).1=((g x).isI k=true/\(g y).isI k=true):=rfl
@[simp ↓] theorem QEQ (k:IntKind) (x y:Od):(pv (.bin .leq (.i k) x y) g H).2=bl (decide ((g x).int<=(g y).int)):=rfl
@[simp ↓] theorem QGi (k:IntKind) (x y:Od):(pv (.bin .gtr (.i k) x y) g H).1=((g x).isI k=true/\(g y).isI k=true):=rfl
@[simp ↓] theorem QHC (k:IntKind) (x y:Od):(pv (.bin .gtr (.i k) x y) g H).2=bl (decide ((g y).int<(g x).int)):=rfl
@[simp ↓] theorem QG3 (k:IntKind) (x y:Od):(pv (.bin .geq (.i k) x y) g H).1=((g x).isI k=true/\(g y).isI k=true):=rfl
@[simp ↓] theorem QGW (k:IntKind) (x y:Od):(pv (.bin .geq (.i k) x y) g H).2=bl (decide ((g y).int<=(g x).int)):=rfl
@[simp ↓] theorem QGK (x y:Od):(pv (.bin .eql .s x y) g H).1=((g x).isS=true/\(g y).isS=true):=rfl
@[simp ↓] theorem QFz (x y:Od):(pv (.bin .eql .s x y) g H).2=bl (decide ((g x).str.data.toList=(g y).str.data.toList)):=rfl
@[simp ↓] theorem QG6 (x y:Od):(pv (.bin .neq .s x y) g H).1=((g x).isS=true/\(g y).isS=true):=rfl
@[simp ↓] theorem QGA (x y:Od):(pv (.bin .neq .s x y) g H).2=bl (!decide ((g x).str.data.toList=(g y).str.data.toList)):=rfl
@[simp ↓] theorem QCD (x y:Od):(pv (.bin .add .s x y) g H).1=((g x).isS=true/\(g y).isS=true/\(g x).str.size+(g y).str.size<=9223372036854775807):=rfl
@[simp ↓] theorem QFF (x y:Od):(pv (.bin .add .s x y) g H).2=st ((g x).str++(g y).str):=rfl
@[simp ↓] theorem QDE (x y:Od):(pv (.bin .eql .b x y) g H).1=((g x).isB=true/\(g y).isB=true):=rfl
@[simp ↓] theorem QGx (x y:Od):(pv (.bin .eql .b x y) g H).2=bl ((g x).bool==(g y).bool):=rfl
@[simp ↓] theorem QDM (x y:Od):(pv (.bin .neq .b x y) g H).1=((g x).isB=true/\(g y).isB=true):=rfl
@[simp ↓] theorem QHp (x y:Od):(pv (.bin .neq .b x y) g H).2=bl ((g x).bool != (g y).bool):=rfl
@[simp ↓] theorem QCP (k len sz:Nat) (cs:ZH) (j:Od):(pv (.gix k len sz cs j) g H).1=((g j).isN=true/\0<=(g j).int/\(g j).int<len):=rfl
@[simp ↓] theorem QHj (k len sz:Nat) (cs:ZH) (j:Od):(pv (.gix k len sz cs j) g H).2=.ptr (.slc cs cs.length) ((g j).int.toNat*sz):=rfl
@[simp ↓] theorem QEu (neg right:Bool) (x:Od):(pv (.ifn neg right x) g H).1=((g x).vd=true/\(g x).ug.isIf=true):=rfl
@[simp ↓] theorem QD4 (neg right:Bool) (x:Od):(pv (.ifn neg right x) g H).2=bl (if(g x).ug.ifNil=true then !neg else neg):=rfl
@[simp ↓] theorem QGY (x:Od):(pv (.rst x) g H).1=((g x).isN=true):=rfl
@[simp ↓] theorem QFy (x:Od):(pv (.rst x) g H).2=.val (.string (Utf8.encode (g x).int)):=rfl
@[simp ↓] theorem QE5 (t:ZK) (ok:Bool) (z:SV) (x:Od):(pv (.tas t ok z x) g H).1=((g x).vd=true/\(g x).ug.isIf=true/\(ok=true\/(g x).ug.ifIs t=true)):=rfl
@[simp ↓] theorem QDh (t:ZK) (ok:Bool) (z:SV) (x:Od):(pv (.tas t ok z x) g H).2=if ok=true then(if(g x).ug.ifIs t=true then .tup [(g x).ug.ifVal,bl true]else .tup [z,bl false])else(g x).ug.ifVal:=rfl
@[simp ↓] theorem pv_lkp (kk:KK) (ok:Bool) (z:SV) (m k:Od):pv (.lkp kk ok z m k) g H=(match (g m).ug.mapOf H with
 |some x=>((g m).vd=true/\(g k).isK kk=true/\x.1.all kk.is=true/\(∀ v∈(g k).key kk::x.1,kk.knows v),
  if ok=true then .tup [(lkm ((g k).key kk) x.1 x.2).getD z,bl (lkm ((g k).key kk) x.1 x.2).isSome]else(lkm ((g k).key kk) x.1 x.2).getD z)
 |none=>(False,.any)):=rfl
@[simp ↓] theorem pv_iav (sz:Nat) (s j:Od):pv (.iav sz s j) g H=(match (g s).ug with
 |.val (.slice (some a) len _)=>((g s).vd=true/\(g j).isN=true/\0<=(g j).int/\(g j).int<len,.val (.pointer (some (a.add ((g j).int.toNat*sz)))))
 |_=>(False,.any)):=rfl
@[simp ↓] theorem pv_lnv (x:Od):pv (.lnv x) g H=(match (g x).ug with
 |.val (.slice _ len _)=>((g x).vd=true,i64 len)
 |_=>(False,.any)):=rfl
@[simp ↓] theorem QFE (x:Od):(pv (.bys x) g H).1=((g x).vd=true/\(g x).ug.isSl=true/\QgZ ((g x).ug.row H) (g x).ug.slen=true):=rfl
@[simp ↓] theorem QFA (x:Od):(pv (.bys x) g H).2=.val (.string (Qge (((g x).ug.row H).take (g x).ug.slen))):=rfl
@[simp ↓] theorem pv1_no:(pv .no g H).1=False:=rfl
@[simp ↓] theorem pv2_no:(pv .no g H).2=.any:=rfl
@[simp ↓] theorem QGc (op:BinOp) (k yk:IntKind) (x y:Od):pv (.bin op (.sh k yk) x y) g H=Qc9 op (.sh k yk) (g x) (g y):=rfl
@[simp ↓] theorem QF5 (op:BinOp) (r:Bool) (x y:Od):pv (.bin op (.pnil r) x y) g H=Qc9 op (.pnil r) (g x) (g y):=rfl
@[simp] theorem QHn (k yk:IntKind) (x y:SV):Qc9 .shl (.sh k yk) x y=(x.isI k=true/\y.isI yk=true/\0<=y.int,.val (.int k (k.wrap (x.int*2 ^ (min y.int.toNat k.bits))))):=rfl
@[simp] theorem QDY (k yk:IntKind) (x y:SV):Qc9 .shr (.sh k yk) x y=(x.isI k=true/\y.isI yk=true/\0<=y.int,.val (.int k (x.int.fdiv (2 ^ (min y.int.toNat k.bits))))):=rfl
@[simp] theorem QC4 (op:BinOp) (r:Bool) (x y:SV):Qc9 op (.pnil r) x y=(match op,(if r=true then x else y).ug with
 |.eql,.ptr _ _=>((if r=true then x else y).vd=true,bl false)
 |.neq,.ptr _ _=>((if r=true then x else y).vd=true,bl true)
 |.eql,.val (.pointer none)=>((if r=true then x else y).vd=true,bl true)
 |.neq,.val (.pointer none)=>((if r=true then x else y).vd=true,bl false)
 |_,_=>(False,.any)):=rfl
end
@[simp] theorem QET (e:Env) (k t:Nat) (v:SV):Env.get ((k,v)::e) t=if k=t then v else Env.get e t:=rfl
@[simp] theorem QDe (t:Nat):Env.get [] t=.any:=rfl
@[simp] theorem QCA (e:Env) (n:Nat):Env.ev e (.t n)=e.get n:=rfl
@[simp] theorem QE1 (e:Env) (s:SV):Env.ev e (.c s)=s:=rfl
@[simp] theorem QGH (e:Env) (d:Nat) (v:SV):Env.put e (some d) v=(d,v)::e:=rfl
@[simp] theorem QEX (e:Env) (v:SV):Env.put e none v=e:=rfl
@[simp] theorem QCE (e:Env):Env.keep e []=[]:=rfl
@[simp] theorem QFO (e:Env) (k:Nat) (r:List Nat):Env.keep e (k::r)=(k,e.get k)::Env.keep e r:=rfl
@[simp] theorem QFC (l:ZH):Qcl l=(List.range l.length).zip l:=rfl
attribute [simp] List.range_succ Qyn Qyo QAb QvH QBG QvR Qvi Qxe QA0 Qy5
@[simp] theorem vd_any  : SV.vd .any=true:=rfl
@[simp] theorem ug_any  : SV.ug .any=.any:=rfl
@[simp] theorem QFM  : SV.isCell .any=false:=rfl
@[simp] theorem QFL  : SV.flat .any=[.any]:=rfl
@[simp] theorem QGT  : SV.isPt .any=false:=rfl
@[simp] theorem QEf  : SV.isAg .any=false:=rfl
@[simp] theorem QC5  : SV.isTu .any=false:=rfl
@[simp] theorem vd_val (v:Value):SV.vd (.val v)=true:=rfl
@[simp] theorem ug_val (v:Value):SV.ug (.val v)=(.val v):=rfl
@[simp] theorem QGo (v:Value):SV.flat (.val v)=[(.val v)]:=rfl
@[simp] theorem QGh (v:Value):SV.isPt (.val v)=false:=rfl
@[simp] theorem QDb (v:Value):SV.isAg (.val v)=false:=rfl
@[simp] theorem QFj (v:Value):SV.isTu (.val v)=false:=rfl
@[simp] theorem QDS (n:Int):SV.isCell (i64 n)=true:=rfl
@[simp] theorem QDx (n:Int):SV.flat (i64 n)=[(i64 n)]:=rfl
@[simp] theorem QDj (n:Int):SV.isPt (i64 n)=false:=rfl
@[simp] theorem QDV (n:Int):SV.isAg (i64 n)=false:=rfl
@[simp] theorem QHf (n:Int):SV.isTu (i64 n)=false:=rfl
@[simp] theorem QCG (b:Bool):SV.isCell (bl b)=true:=rfl
@[simp] theorem QD6 (b:Bool):SV.flat (bl b)=[(bl b)]:=rfl
@[simp] theorem QG0 (b:Bool):SV.isPt (bl b)=false:=rfl
@[simp] theorem QG5 (b:Bool):SV.isAg (bl b)=false:=rfl
@[simp] theorem QE7 (b:Bool):SV.isTu (bl b)=false:=rfl
@[simp] theorem vd_st (s:ByteArray):SV.vd (st s)=true:=rfl
@[simp] theorem ug_st (s:ByteArray):SV.ug (st s)=(st s):=rfl
@[simp] theorem QHv (s:ByteArray):SV.isCell (st s)=true:=rfl
@[simp] theorem QG2 (s:ByteArray):SV.flat (st s)=[(st s)]:=rfl
@[simp] theorem QGG (s:ByteArray):SV.isPt (st s)=false:=rfl
@[simp] theorem QHa (s:ByteArray):SV.isAg (st s)=false:=rfl
@[simp] theorem QGB (s:ByteArray):SV.isTu (st s)=false:=rfl
@[simp] theorem vd_slc (c:ZH) (n:Nat):SV.vd (.slc c n)=true:=rfl
@[simp] theorem ug_slc (c:ZH) (n:Nat):SV.ug (.slc c n)=(.slc c n):=rfl
@[simp] theorem QDD (c:ZH) (n:Nat):SV.isCell (.slc c n)=true:=rfl
@[simp] theorem QDX (c:ZH) (n:Nat):SV.flat (.slc c n)=[(.slc c n)]:=rfl
@[simp] theorem QHs (c:ZH) (n:Nat):SV.isPt (.slc c n)=false:=rfl
@[simp] theorem QHF (c:ZH) (n:Nat):SV.isAg (.slc c n)=false:=rfl
@[simp] theorem QCY (c:ZH) (n:Nat):SV.isTu (.slc c n)=false:=rfl
@[simp] theorem vd_own (i off len sz ver:Nat):SV.vd (.own i off len sz ver)=true:=rfl
@[simp] theorem ug_own (i off len sz ver:Nat):SV.ug (.own i off len sz ver)=(.own i off len sz ver):=rfl
@[simp] theorem QG8 (i off len sz ver:Nat):SV.isCell (.own i off len sz ver)=true:=rfl
@[simp] theorem QDv (i off len sz ver:Nat):SV.flat (.own i off len sz ver)=[(.own i off len sz ver)]:=rfl
@[simp] theorem QFl (i off len sz ver:Nat):SV.isPt (.own i off len sz ver)=false:=rfl
@[simp] theorem QCU (i off len sz ver:Nat):SV.isAg (.own i off len sz ver)=false:=rfl
@[simp] theorem QCS (i off len sz ver:Nat):SV.isTu (.own i off len sz ver)=false:=rfl
@[simp] theorem vd_ptr (s:SV) (k:Nat):SV.vd (.ptr s k)=true:=rfl
@[simp] theorem ug_ptr (s:SV) (k:Nat):SV.ug (.ptr s k)=(.ptr s k):=rfl
@[simp] theorem QF2 (s:SV) (k:Nat):SV.isCell (.ptr s k)=true:=rfl
@[simp] theorem QFW (s:SV) (k:Nat):SV.flat (.ptr s k)=[(.ptr s k)]:=rfl
@[simp] theorem QHy (s:SV) (k:Nat):SV.isPt (.ptr s k)=true:=rfl
@[simp] theorem QDk (s:SV) (k:Nat):SV.isAg (.ptr s k)=false:=rfl
@[simp] theorem QEM (s:SV) (k:Nat):SV.isTu (.ptr s k)=false:=rfl
@[simp] theorem vd_agg (l:ZH):SV.vd (.agg l)=true:=rfl
@[simp] theorem ug_agg (l:ZH):SV.ug (.agg l)=(.agg l):=rfl
@[simp] theorem QEB (l:ZH):SV.isCell (.agg l)=false:=rfl
@[simp] theorem QGe (l:ZH):SV.isPt (.agg l)=false:=rfl
@[simp] theorem QDC (l:ZH):SV.isAg (.agg l)=true:=rfl
@[simp] theorem QDH (l:ZH):SV.isTu (.agg l)=false:=rfl
@[simp] theorem vd_tup (l:ZH):SV.vd (.tup l)=true:=rfl
@[simp] theorem ug_tup (l:ZH):SV.ug (.tup l)=(.tup l):=rfl
@[simp] theorem QEO (l:ZH):SV.isCell (.tup l)=false:=rfl
@[simp] theorem QGQ (l:ZH):SV.flat (.tup l)=[(.tup l)]:=rfl
@[simp] theorem QFN (l:ZH):SV.isPt (.tup l)=false:=rfl
@[simp] theorem QFS (l:ZH):SV.isAg (.tup l)=false:=rfl
@[simp] theorem QF6 (l:ZH):SV.isTu (.tup l)=true:=rfl
@[simp] theorem vd_fn (f:Fn) (a b:ZH):SV.vd (.fn f a b)=true:=rfl
@[simp] theorem ug_fn (f:Fn) (a b:ZH):SV.ug (.fn f a b)=(.fn f a b):=rfl
@[simp] theorem QGb (f:Fn) (a b:ZH):SV.isCell (.fn f a b)=true:=rfl
@[simp] theorem QFR (f:Fn) (a b:ZH):SV.flat (.fn f a b)=[(.fn f a b)]:=rfl
@[simp] theorem QHu (f:Fn) (a b:ZH):SV.isPt (.fn f a b)=false:=rfl
@[simp] theorem QE0 (f:Fn) (a b:ZH):SV.isAg (.fn f a b)=false:=rfl
@[simp] theorem QGn (f:Fn) (a b:ZH):SV.isTu (.fn f a b)=false:=rfl
@[simp] theorem vd_ifc (t:ZK) (x:SV):SV.vd (.ifc t x)=true:=rfl
@[simp] theorem ug_ifc (t:ZK) (x:SV):SV.ug (.ifc t x)=(.ifc t x):=rfl
@[simp] theorem QFv (t:ZK) (x:SV):SV.isCell (.ifc t x)=true:=rfl
@[simp] theorem QFt (t:ZK) (x:SV):SV.flat (.ifc t x)=[(.ifc t x)]:=rfl
@[simp] theorem QFs (t:ZK) (x:SV):SV.isPt (.ifc t x)=false:=rfl
@[simp] theorem QEN (t:ZK) (x:SV):SV.isAg (.ifc t x)=false:=rfl
@[simp] theorem QCN (t:ZK) (x:SV):SV.isTu (.ifc t x)=false:=rfl
@[simp] theorem QDw (v:Value):SV.isCell (.val v)=v.oneCell':=rfl
@[simp] theorem QHc (l:ZH):SV.flat (.agg l)=l:=rfl
@[simp] theorem vd_gd (b:Bool) (x:SV):SV.vd (.gd b x)=(b&&x.vd):=rfl
@[simp] theorem ug_gd (b:Bool) (x:SV):SV.ug (.gd b x)=x.ug:=rfl
@[simp] theorem isI_gd (k:IntKind) (b:Bool) (x:SV):SV.isI k (.gd b x)=(b&&x.isI k):=rfl
@[simp] theorem isN_gd (b:Bool) (x:SV):SV.isN (.gd b x)=(b&&x.isN):=rfl
@[simp] theorem isB_gd (b:Bool) (x:SV):SV.isB (.gd b x)=(b&&x.isB):=rfl
@[simp] theorem isS_gd (b:Bool) (x:SV):SV.isS (.gd b x)=(b&&x.isS):=rfl
@[simp] theorem int_gd (b:Bool) (x:SV):SV.int (.gd b x)=x.int:=rfl
@[simp] theorem QD1 (b:Bool) (x:SV):SV.bool (.gd b x)=x.bool:=rfl
@[simp] theorem str_gd (b:Bool) (x:SV):SV.str (.gd b x)=x.str:=rfl
@[simp] theorem QEr (k k':IntKind) (n:Int):SV.isI k (.val (.int k' n))=decide (k'=k):=rfl
@[simp] theorem QEo (k':IntKind) (n:Int):SV.isN (.val (.int k' n))=true:=rfl
@[simp] theorem QGa (k':IntKind) (n:Int):SV.int (.val (.int k' n))=n:=rfl
@[simp] theorem QCZ (b:Bool):SV.isB (.val (.bool b))=true:=rfl
@[simp] theorem QFm (b:Bool):SV.bool (.val (.bool b))=b:=rfl
@[simp] theorem isS_st (s:ByteArray):SV.isS (st s)=true:=rfl
@[simp] theorem str_st (s:ByteArray):SV.str (st s)=s:=rfl
@[simp] theorem on_bl (want b:Bool):SV.on want (bl b)=(b==want):=rfl
@[simp] theorem on_gd (want b:Bool) (x:SV):SV.on want (.gd b x)=(b&&x.on want):=rfl
@[simp] theorem QDN (b:Bool):SV.bish (bl b)=true:=rfl
@[simp] theorem QEg (b:Bool) (x:SV):SV.bish (.gd b x)=x.bish:=rfl
@[simp] theorem mv_ptr (off:Nat) (s:SV) (k:Nat):SV.mv off (.ptr s k)=.ptr s (k+off):=rfl
@[simp] theorem QEP (l:ZH):SV.els' (.agg l)=l:=rfl
@[simp] theorem QEZ (l:ZH):SV.els' (.tup l)=l:=rfl
@[simp] theorem QDL (s:SV) (k:Nat):SV.isNc (.ptr s k)=true:=rfl
@[simp] theorem QEc (f:ZN) (a b:ZH):SV.isNc (.fn (.func f) a b)=true:=rfl
@[simp] theorem QE2 (c:ZH) (n:Nat):SV.slen (.slc c n)=n:=rfl
@[simp] theorem QD3 (i off len sz ver:Nat):SV.slen (.own i off len sz ver)=len:=rfl
@[simp] theorem QHb (c:ZH) (n:Nat):SV.isSl (.slc c n)=true:=rfl
@[simp] theorem QFb (i off len sz ver:Nat):SV.isSl (.own i off len sz ver)=true:=rfl
@[simp] theorem QCL (H:ZG) (c:ZH) (n:Nat):SV.row H (.slc c n)=c:=rfl
@[simp] theorem QHk (H:ZG) (i off len sz ver:Nat):SV.row H (.own i off len sz ver)=(Qo H i ver).drop off:=rfl
@[simp] theorem Qjr (H:ZG) (s:SV) (k:Nat):SV.at H (.ptr s k)=(s.row H).drop k:=rfl
@[simp] theorem els_eq (H:ZG) (sz:Nat) (s:SV):SV.els H sz s=(s.row H).take (s.slen*sz):=rfl
@[simp] theorem QCC:SV.isNil (.val (.slice none 0 0))=true:=rfl
@[simp] theorem QG7 (sz i off len s ver:Nat):SV.szIs sz (.own i off len s ver)=(s==sz):=rfl
@[simp] theorem QHM (sz:Nat) (c:ZH) (n:Nat):SV.szIs sz (.slc c n)=true:=rfl
@[simp] theorem QGC (sz l h:Nat) (cs:ZH) (n:Nat):SV.cut sz l h (.slc cs n)=.slc ((cs.drop (l*sz)).take ((h-l)*sz)) (h-l):=rfl
@[simp] theorem QDQ (sz l h i off n s ver:Nat):SV.cut sz l h (.own i off n s ver)=.own i (off+l*sz) (h-l) s ver:=rfl
@[simp] theorem QF0 (x:SV):Qbv (some x)=x.int.toNat:=rfl
@[simp] theorem QEa:Qbv none=0:=rfl
@[simp] theorem QFc (n:Nat) (x:SV):Qbq n (some x)=x.int.toNat:=rfl
@[simp] theorem QF7 (n:Nat):Qbq n none=n:=rfl
@[simp] theorem QDl (x:SV):QcQ (some x)=(x.isN=true/\0<=x.int):=rfl
@[simp] theorem QHo:QcQ none=True:=rfl
@[simp] theorem QEk (n:Nat) (l:ZH):QaY n (.agg l)=(l.length=n):=by simp[QaY]
@[simp] theorem QF9 (n:Nat) (k:Int):QaY n (i64 k)=(n=1):=by
 show(n=1/\(i64 k).isCell=true/\true=true)=_;simp
@[simp] theorem QFh (n:Nat) (k:ByteArray):QaY n (st k)=(n=1):=by
 show(n=1/\(st k).isCell=true/\true=true)=_;simp
@[simp] theorem QG1 (n:Nat) (c:ZH) (k:Nat):QaY n (.slc c k)=(n=1):=by simp[QaY,SV.ug,SV.vd,SV.isCell]
@[simp] theorem QEK (n i off len sz ver:Nat):QaY n (.own i off len sz ver)=(n=1):=by simp[QaY,SV.ug,SV.vd,SV.isCell]
@[simp] theorem QGO (n:Nat) (x:SV):QaY n (.gd true x)=QaY n x:=by simp[QaY,SV.ug,SV.vd]
@[simp] theorem QGE (z:ZH):Qbk z []=z:=rfl
@[simp] theorem QC9 (z:ZH) (off:Nat) (v:SV) (r:List (Nat×SV)):Qbk z ((off,v)::r)=Qbk (z.take off++v.ug.flat++z.drop (off+v.ug.flat.length)) r:=rfl
@[simp] theorem QDP:QD []=True:=by simp[QD]
@[simp] theorem QGg (s:SV) (l:ZH):QD (s::l)=(s.isCell=true/\QD l):=by simp[QD]
@[simp] theorem QCO (a b:ZH):QD (a++b)=(QD a/\QD b):=by
 apply propext; constructor
 . intro h; exact⟨λs hs=>h s (by simp[hs]),λs hs=>h s (by simp[hs])⟩
 . rintro⟨h1,h2⟩ s hs; rcases Vq.1 hs with h|h
   . exact h1 s h
   . exact h2 s h
def QM (l:List Int):ZH:=l.map i64
@[simp] theorem QF8 (l:List Int):QD (QM l)=True:=by
 simp only[QD,QM,Vx,eq_iff_iff,iff_true]; rintro s ⟨n,_,rfl⟩; rfl
@[simp] theorem QDg (l:List Int):(QM l).length=l.length:=by simp[QM]
attribute [simp] QfX QvW Qji QwW
@[simp] theorem QHd (o:AO) (r:ZG) (ver:Nat):Qo (o::r) 0 ver=if(o.live&&o.ver==ver)=true then o.cells else []:=by simp[Qo]
@[simp] theorem Qxo (o:AO) (r:ZG) (k ver:Nat):Qo (o::r) (k+1) ver=Qo r k ver:=by simp[Qo]
@[simp] theorem QGv (o:AO) (r:ZG) (f:AO->AO):setObj (o::r) 0 f=f o::r:=by simp[setObj]
@[simp] theorem QFP (o:AO) (r:ZG) (k:Nat) (f:AO->AO):setObj (o::r) (k+1) f=o::setObj r k f:=by
 simp only[setObj,YJ]; cases r[k]? <;> simp
@[simp] theorem QrR (H L:ZG) (k ver:Nat) (T:ZK) (m:Nat):QbB (H++L) (H.length+k) ver T m=QbB L k ver T m:=by
 unfold QbB; rw[Vl (by omega)]; simp
@[simp] theorem QFT (H L:ZG) (ver:Nat) (T:ZK) (m:Nat):QbB (H++L) H.length ver T m=QbB L 0 ver T m:=QrR H L 0 ver T m
@[simp] theorem QGD (o:AO) (r:ZG) (ver:Nat) (T:ZK) (m:Nat):QbB (o::r) 0 ver T m=(o.live=true/\o.ver=ver/\o.ty=T/\o.cells.length=m):=by simp[QbB]
@[simp] theorem QHH (o:AO) (r:ZG) (k ver:Nat) (T:ZK) (m:Nat):QbB (o::r) (k+1) ver T m=QbB r k ver T m:=by simp[QbB]
attribute [simp] AO.put AO.grow QbI Qbs SV.under SV.underL Qet Qcw Qbn
@[simp] theorem QFu (n:Nat) (k:Int):SV.under n (i64 k)=true:=rfl
@[simp] theorem QGU (n:Nat) (b:Bool):SV.under n (bl b)=true:=rfl
@[simp] theorem QEU (n:Nat) (s:ByteArray):SV.under n (st s)=true:=rfl
@[simp] theorem QEY (n:Nat) (l:List Int):SV.underL n (QM l)=true:=by
 rw[SV.underL_iff]; simp only[QM,Vx]; rintro s ⟨k,_,rfl⟩; rfl
@[simp] theorem QDn (n0:Nat) (rs:List RS) (r:SV) (H':ZG) (env:Env) (H1:ZG):Ab.Fin n0 rs (.ret r) H' .normal env H1=((∀ s∈rs,s.side env H1)/\Cv n0 (Qa7 env H1 rs) H1 r H'):=rfl
@[simp] theorem QeJ (n0:Nat) (rs:List RS) (r:SV) (H':ZG) (env:Env) (H1:ZG):Ab.Fin n0 rs (.ret r) H' .ret env H1=((∀ s∈rs,s.side env H1)/\Cv n0 (Qa7 env H1 rs) H1 r H'):=rfl
@[simp] theorem QGV (n0:Nat) (rs:List RS) (Pt:Out->ZG->Prop) (env:Env) (H1:ZG):Ab.FinP n0 rs Pt .normal env H1=((∀ s∈rs,s.side env H1)/\Qdm n0 Pt (Qa7 env H1 rs) H1):=rfl
@[simp] theorem QEy (n0:Nat) (rs:List RS) (Pt:Out->ZG->Prop) (env:Env) (H1:ZG):Ab.FinP n0 rs Pt .ret env H1=((∀ s∈rs,s.side env H1)/\Qdm n0 Pt (Qa7 env H1 rs) H1):=rfl
@[congr] theorem QHE {n0:Nat} {Pt:Out->ZG->Prop} {v v':SV} {H H':ZG} (h:Ev v=v') (h1:Ev H=H'):Qdm n0 Pt v H=Qdm n0 Pt v' H':=by rw[QT h,QT h1]
@[simp] theorem QcT (n0:Nat) (rs:List RS) (x y:SV) (H':ZG) (env:Env) (H1:ZG):Ab.Fin n0 rs (.pan y) H' (.panic x) env H1=Cv n0 x H1 y H':=rfl
attribute [simp] RS.side RS.ev Qa7
theorem Qq {n0:Nat} {H L:ZG} {r r1:SV} (d:Nat) (hcl:closed H) (hn:n0=H.length) (h:r1.fz H.length [] L d=r):Cv n0 r1 (H++L) r H:=by
 subst h; exact Qzh d rfl (by omega) hcl
theorem Qj {n0:Nat} {H:ZG} {r:SV}:Cv n0 r H r H:=λS v hS hsim hv=>⟨S.ρ,by subst hS; exact Ext.refl _ _,by subst hS; exact hsim,by subst hS; exact hv⟩
theorem Qdh {n:Nat} {ks:List Nat} {L:ZG} {d:Nat} {s:SV} (h:s.under n=true):SV.fz n ks L (d+1) s=s:=by unfold SV.fz; rw[Zo h]
@[simp] theorem fz_i64 (n:Nat) (ks:List Nat) (L:ZG) (d:Nat) (k:Int):SV.fz n ks L (d+1) (i64 k)=i64 k:=Qdh rfl
@[simp] theorem fz_bl (n:Nat) (ks:List Nat) (L:ZG) (d:Nat) (k:Bool):SV.fz n ks L (d+1) (bl k)=bl k:=Qdh rfl
end
end Go.Ab
namespace Go.Ab
variable [QR] [QP] [Qv]
structure IsI (H:ZG) (x:SV) (l:List Int):Prop where
 vd:x.vd=true
 ug:x.ug=x
 sl:x.isSl=true
 cell:x.isCell=true
 sz:x.szIs 1=true
 len:x.slen=l.length
 und:x.under H.length=true
 row:(x.row H).take l.length=QM l
 flat:x.flat=[x]
theorem Qlt {H:ZG} {i ver:Nat} (L:ZG) (h:i<H.length):Qo (H++L) i ver=Qo H i ver:=by
 unfold Qo; rw[Vc h]
theorem Qun {H:ZG} {x:SV} (L:ZG) (h:x.under H.length=true):x.row (H++L)=x.row H:=by
 cases x<;>try rfl
 rename_i i off len sz ver;simp only[SV.row]; rw[Qlt L (by simpa[SV.under]using h)]
namespace IsI
variable {H:ZG} {x:SV} {l:List Int}
theorem rowlen (h:IsI H x l):l.length<=(x.row H).length:=by
 have:=Zp List.length h.row;simp at this; omega
theorem ldlen (h:IsI H x l) {k:Nat} (hk:k<l.length):k<(x.row H).length:=YM hk h.rowlen
theorem ld (h:IsI H x l) {k:Nat} (hk:k<l.length):((x.row H).drop k).headD .any=i64 (l.getD k 0):=by
 have h1:=h.ldlen hk;have h2:((x.row H).take l.length)[k]? = (QM l)[k]? := by rw[h.row]
 rw[YN hk]at h2;rw[Za,List.head?_drop,h2];simp[QM,hk]
theorem ok (h:IsI H x l) {k:Nat} (hk:k<l.length):Qfm H (.ptr x k) 1:=by
 have:=h.ldlen hk;simp only[Qfm,Qjr,YF]; omega
theorem v (h:IsI H x l) {k:Nat} (hk:k<l.length):ldv H (.ptr x k)=i64 (l[k]'hk):=by
 have:=h.ld hk;simp only[ldv,Qjr,this,Vz,Ve hk,VX]
theorem own0 (H:ZG) (L:ZG) (k ver:Nat) (l m:List Int) (T:ZK) (h:L[k]? = some ⟨QM (l++m),T,ver,true⟩):IsI (H++L) (.own (H.length+k) 0 l.length 1 ver) l:=by
 refine⟨rfl,rfl,rfl,rfl,rfl,rfl,?_,?_,rfl⟩
 . have:k<L.length:=Ql h;simp; omega
 . simp only[SV.row,QfX,Yx];unfold Qo;rw[h];simp[QM]
end IsI
theorem Qu {P:ZL} (hm:P.follows .mixedOrders=true) {N:Nat} {i j:IC} (e:i=j) {env:Env} {H:ZG} {K:ZF}
 (h:X P N Qf j env H λx env H=>match x with|.normal=>LI P N Qf i env H K|x=>K x env H):LI P N Qf i env H K:=by
 subst e; exact Qw5 hm h
@[congr] theorem QFH {P:ZL} {N:Nat} {D:Array Oper->List Nat->List Ins->Bool} {i:IC} {env env':Env} {H H':ZG} {K:ZF} (h:Ev env=env') (h2:Ev H=H'):LI P N D i env H K=LI P N D i env' H' K:=by rw[QT h,QT h2]
@[simp] theorem QD2 (n k:Nat):(n+k<n)=False:=by simp
theorem Qfn {n:Nat} (h:n<=9223372036854775807):IntKind.i64.wrap (n:Int)=n:=Qah (by omega) (by omega)
theorem QaJ {n:Nat} (h:n<9223372036854775807):IntKind.i64.wrap ((n:Int)+1)=(n:Int)+1:=Qah (by omega) (by omega)
theorem QlW {n:Nat} (h:n<9223372036854775807):IntKind.i64.wrap ((n:Int)+1)=((n+1:Nat):Int):=by rw[Qah (by omega) (by omega)]; rfl
@[simp] theorem ints_G {l:List Int} {k:Nat} (h:k<(QM l).length):(QM l)[k]=i64 (l[k]'(by simpa using h)):=by simp[QM]
def SV.strip:SV->SV
 |.gd true x=>x.strip
 |x=>x
theorem QAM {S:St} {s:SV} {v:Value} (h:VR S s v):VR S s.strip v:=by
 induction h with
 |gd b x v h0 h ih =>
  cases b with
  |true=>exact ih rfl
  |false=>exact .gd false x v h0 h
 |any v=>exact .any v
 |val v=>exact .val v
 |nilslc=>exact .nilslc
 |slc cells len a cap us hc hl hi h ih=>exact .slc cells len a cap us hc hl hi h
 |own i off len sz ver a cap o ho hv hc hz h=>exact .own i off len sz ver a cap o ho hv hc hz h
 |ptrI cells len k a us hl hi h ih=>exact .ptrI cells len k a us hl hi h
 |ptrO i off len sz ver k a o ho hv h=>exact .ptrO i off len sz ver k a o ho hv h
 |agg l us hl h ih=>exact .agg l us hl h
 |tup l us hl h ih=>exact .tup l us hl h
 |fn f x y us vs hl h hl' h' ih ih'=>exact .fn f x y us vs hl h hl' h'
 |ifc t x v h ih=>exact .ifc t x v h
 |yl i l o ho h=>exact .yl i l o ho h
 |mp i ver l o ho hv h=>exact .mp i ver l o ho hv h
 |mpf vs l es cl us hb hn hu hl h ih=>exact .mpf vs l es cl us hb hn hu hl h
theorem Ok.strip {P:ZL} {f:ZN} {args:ZH} {H H':ZG} {out:Out} (h:Ok P f (args.map SV.strip) H out H'):Ok P f args H out H' :=
 ⟨h.1,λS vs hH hS hv=>h.2 S vs hH hS (hv.map λs v hs=>QAM hs)⟩
theorem QZ {P:ZL} {on:Bool} {k:ZN} {args:ZH} {H:ZG} {r:SV} {K:SV->Prop} (h:on=true->Ok P k (args.map SV.strip) H (.ret r) H) (hk:K r):QeB P on (.fn (.func k) [] []) args H K :=
 QeF (λho=>(h ho).strip) hk
theorem Qq6 {P:ZL} {k:ZN} {args:ZH} {H H':ZG} {out:Out} {K:Out->ZG->Prop} (h:Ok P k (args.map SV.strip) H out H') (hk:K out H'):Qdr P (.fn (.func k) [] []) args H K :=
 Qc h.strip hk
theorem IsI.whole {H L:ZG} {T:ZK} {l:List Int} {k n ver:Nat} (h:L[k]? = some ⟨QM l,T,ver,true⟩) (hn:n=l.length):IsI (H++L) (.own (H.length+k) 0 n 1 ver) l:=by
 subst hn; exact IsI.own0 H L k ver l [] T (by simpa using h)
section
variable (n:Nat) (ks:List Nat) (L:ZG) (d:Nat)
theorem QcN {l:ZH} (h:SV.underL n l=true):l.map (SV.fz n ks L (d+1))=l:=by
 rw[SV.underL_iff]at h;have:l.map (SV.fz n ks L (d+1))=l.map id:=V8 λs hs=>Qdh (h s hs);simpa using this
@[simp] theorem fz_agg (l:ZH):SV.fz n ks L (d+2) (.agg l)=.agg (l.map (SV.fz n ks L (d+1))):=by
 by_cases h:(SV.agg l).under n=true
 . rw[Qdh h]; rw[QcN n ks L d (by simpa[SV.under]using h)]
 . conv=>lhs; unfold SV.fz
   rw[Zn h]
@[simp] theorem fz_tup (l:ZH):SV.fz n ks L (d+2) (.tup l)=.tup (l.map (SV.fz n ks L (d+1))):=by
 by_cases h:(SV.tup l).under n=true
 . rw[Qdh h]; rw[QcN n ks L d (by simpa[SV.under]using h)]
 . conv=>lhs; unfold SV.fz
   rw[Zn h]
@[simp] theorem fz_slc (l:ZH) (m:Nat):SV.fz n ks L (d+2) (.slc l m)=.slc (l.map (SV.fz n ks L (d+1))) m:=by
 by_cases h:(SV.slc l m).under n=true
 . rw[Qdh h]; rw[QcN n ks L d (by simpa[SV.under]using h)]
 . conv=>lhs; unfold SV.fz
   rw[Zn h]
@[simp] theorem fz_st (s:ByteArray):SV.fz n ks L (d+1) (st s)=st s:=Qdh rfl
@[simp] theorem fz_val (v:Value):SV.fz n ks L (d+1) (.val v)=.val v:=Qdh rfl
@[simp] theorem QAj (k off len sz ver:Nat):SV.fz n ks L (d+1) (.own (n+k) off len sz ver)=(match L[k]? with
     |some o =>
       match Qbn ks k with
       |some p=>if o.ver=ver then .own (n+p) off len sz 0 else .any
       |none=>if o.live=true/\o.ver=ver/\off+len*sz<=o.cells.length then .slc (((o.cells.drop off).take (len*sz)).map (SV.fz n ks L d)) len else .any
     |none=>.any):=by
 conv=>lhs; unfold SV.fz
 rw[Zn (by simp[SV.under])];have e:n+k-n=k:=by omega
 simp only[e]
 cases L[k]? with
 |none=>rfl
 |some o=>cases Qbn ks k<;>rfl
@[simp] theorem QCK (off len sz ver:Nat):SV.fz n ks L (d+1) (.own n off len sz ver)=(match L[0]? with
     |some o =>
       match Qbn ks 0 with
       |some p=>if o.ver=ver then .own (n+p) off len sz 0 else .any
       |none=>if o.live=true/\o.ver=ver/\off+len*sz<=o.cells.length then .slc (((o.cells.drop off).take (len*sz)).map (SV.fz n ks L d)) len else .any
     |none=>.any):=QAj n ks L d 0 off len sz ver
end
end Go.Ab
namespace Go.Ab
section
variable [QR] [QP] [Qv]
open Go.RowKit
def st0 (W:ZM):St:=⟨λ_=>none,[],W⟩
theorem sim0 (W:ZM) (hg:(st0 W).GL) (hk:Qv.kn=[]):Sim (st0 W) :=
 ⟨λi o h=>by simp[st0]at h,λi o h=>by simp[st0]at h,λi j o o' b h=>by simp[st0]at h,λi o h=>by simp[st0]at h,hg,λp hp=>by rw[hk]at hp; cases hp⟩
theorem rw0 (W:ZM) (k:Nat):¬ (st0 W).rw k:=by
 rintro⟨i,o,h,_⟩; simp[st0]at h
theorem Qu2 {W W':ZM} {ρ:Nat->Option Nat} {H:ZG} (h:Ext 0 (st0 W) ⟨ρ,H,W'⟩):Below W.heap.size W W' :=
 ⟨h.os,h.tape,h.output,h.size,λk hk=>(h.imm k hk (rw0 W k)).1⟩
theorem Qzk [QeR] {P:ZL} {f:ZN} {args:ZH} (h:Ok P f args [] (.ret (bl true)) []) {W:ZM} (hg:(st0 W).GL) {vs:ZI} (hv:VRs (st0 W) args vs) :
 Calls P f vs.toArray W λe W'=>e=.returned (.bool true)/\Below W.heap.size W W':=by
 refine(h.2 (st0 W) vs rfl (sim0 W hg QeR.nokn) hv).mono ?_;rintro e W' ⟨v,ρ',hext,_,rfl,hv⟩;refine⟨?_,Qu2 hext⟩;have:=hv.isB rfl;rw[this]; rfl
end
section
variable [QR] [QP] [Qv] [QeR] [Qff]
open Go.ChangeShapes Go.WideShapes Go.RowKit
inductive Sh where
 |int (k:IntKind)
 |bool
 |str
 |sl (e:Sh)
 |st (l:List Sh)
inductive Dt where
 |int (k:IntKind) (n:Int)
 |bool (b:Bool)
 |str (s:ByteArray)
 |sl (l:List Dt)
 |agg (l:List Dt)
 deriving Inhabited
mutual
def Dt.cells:Dt->ZH
 |.int k n=>[.val (.int k n)]
 |.bool b=>[bl b]
 |.str s=>[Ab.st s]
 |.sl l=>[.slc (Dt.cellsL l) l.length]
 |.agg l=>Dt.cellsL l
def Dt.cellsL:List Dt->ZH
 |[]=>[]
 |d::r=>d.cells++Dt.cellsL r
end
def Dt.sv:Dt->SV
 |.agg l=>.agg (Dt.cellsL l)
 |d=>d.cells.headD .any
mutual
def Sh.has:Sh->Dt->Prop
 |.int k,d=>∃ n,d=.int k n/\(Lit.int k n).wf=true
 |.bool,d=>∃ b,d=.bool b
 |.str,d=>∃ s,d=.str s/\s.size<=maxLen
 |.sl e,d=>∃ l,d=.sl l/\l.length<=maxLen/\∀ x∈l,e.has x
 |.st l,d=>∃ m,d=.agg m/\Sh.hasL l m
def Sh.hasL:List Sh->List Dt->Prop
 |[],m=>m=[]
 |s::r,m=>∃ d m',m=d::m'/\s.has d/\Sh.hasL r m'
end
mutual
def Sh.chk (P:ZL):Sh->ZK->Bool
 |.int k,t=>match P.underlying t with|some (.int k')=>decide (k'=k)|_=>false
 |.bool,t=>match P.underlying t with|some .bool=>true|_=>false
 |.str,t=>match P.underlying t with|some .string=>true|_=>false
 |.sl e,t=>match P.underlying t with|some (.slice e')=>e.chk P e'|_=>false
 |.st l,t=>match P.underlying t with|some (.struct fs)=>Sh.chkL P l fs.toList 0 (P.cellsOf t)|_=>false
def Sh.chkL (P:ZL):List Sh->List Field->Nat->Nat->Bool
 |[],fs,off,tot=>fs.isEmpty&&off==tot
 |s::r,fs,off,tot=>match fs with|[]=>false|f::fs=>f.offset==off&&s.chk P f.type&&Sh.chkL P r fs (off+P.cellsOf f.type) tot
end
section
variable {H:Type} {enc:ZK×Value->H} {P:ZL} {W:ZM} {base:Nat} {spare:Nat->Bool} {held:Bool}
theorem QsM (a b:List Dt):Dt.cellsL (a++b)=Dt.cellsL a++Dt.cellsL b:=by
 induction a with
 |nil=>rfl
 |cons x r ih=>simp[Dt.cellsL,ih]
theorem Qvz {e:ZK} {sh:Sh} {n:Nat} {a:Addr} {elems:List (DataW H×List MemPlace)}
 (ih:∀ cs x,DataW.trod enc P W base spare held n e cs=some x->∃ d,sh.has d/\VRs (st0 W) d.cells cs) :
 ∀ k,k<=elems.length->(∀ i,i<k->(W.cells? base (a.add (i*P.cellsOf e)) (P.cellsOf e)).bind (DataW.trod enc P W base spare held n e)=elems[i]?) ->
  ∃ (ds:List Dt) (us:ZI),ds.length=k/\(∀ x∈ds,sh.has x)/\VRs (st0 W) (Dt.cellsL ds) us/\us.length=k*P.cellsOf e/\∀ j u,us[j]? = some u->W.cell? (a.add j)=some u:=by
 intro k
 induction k with
 |zero=>intro _ _; exact⟨[],[],rfl,by simp,VRs.nil _,by simp,by simp⟩
 |succ k ihk =>
  intro hk hel;obtain⟨ds,us,h1,h2,h3,h4,h5⟩:=ihk (by omega) (λi hi=>hel i (by omega));have h6:=hel k (by omega);rw[Ve (by omega),Option.bind_eq_some_iff]at h6;obtain⟨cs,hcs,ht⟩:=h6;obtain⟨d,hd,hv⟩:=ih cs _ ht;obtain⟨_,hlen,hc⟩:=World.cells?_some hcs;refine⟨ds++[d],us++cs,by simp[h1],?_,?_,?_,?_⟩
  . intro x hx;rcases Vq.1 hx with hx|hx
    . exact h2 x hx
    . simp at hx; subst hx; exact hd
  . rw[QsM]; simpa[Dt.cellsL]using h3.append hv
  . simp[h4,hlen,Yb]
  . intro j u hj;by_cases hlt:j<us.length
    . rw[Vc hlt]at hj; exact h5 j u hj
    . rw[Vl (by omega)]at hj;have hj':j-us.length<cs.length:=Ql hj;have:=hc (j-us.length) (by omega);rw[hj,QgK]at this;rw[<-this]; congr 2; omega
mutual
theorem read (sh:Sh):∀ {t:ZK} {fuel:Nat} {cs:ZI} {x:DataW H×List MemPlace},sh.chk P t=true->DataW.trod enc P W base spare held fuel t cs=some x ->
 ∃ d,sh.has d/\VRs (st0 W) d.cells cs:=by
 intro t fuel cs x hc h
 cases sh with
 |int k =>
  simp only[Sh.chk]at hc;split at hc
  . rename_i k' ht;have:k'=k:=by simpa using hc
    subst this;obtain⟨n,rfl,_,hw⟩:=DataW.trod_int ht h;exact⟨.int k' n,⟨n,rfl,hw⟩,VRs.cons (.val _) (VRs.nil _)⟩
  . cases hc
 |bool =>
  simp only[Sh.chk]at hc;split at hc
  . rename_i ht;obtain⟨b,rfl⟩:∃ b,cs=[.bool b]:=by
     cases fuel with
     |zero=>simp[DataW.trod]at h
     |succ n =>
      unfold DataW.trod at h;rw[ht]at h;split at h<;>simp_all
    exact⟨.bool b,⟨b,rfl⟩,VRs.cons (.val _) (VRs.nil _)⟩
  . cases hc
 |str =>
  simp only[Sh.chk]at hc;split at hc
  . rename_i ht;obtain⟨s,rfl,_,hs⟩:=DataW.trod_string ht h;exact⟨.str s,⟨s,rfl,hs⟩,VRs.cons (.val _) (VRs.nil _)⟩
  . cases hc
 |sl e =>
  simp only[Sh.chk]at hc;split at hc
  . rename_i e' ht;rcases DataW.trod_slice ht h with ⟨rfl,_⟩|⟨a,len,cap,elems,rest,n,_,rfl,_,hb,hl,hm,hlen,hel,_,_⟩
    . exact⟨.sl [],⟨[],rfl,by simp,by simp⟩,VRs.cons .nilslc (VRs.nil _)⟩
    . obtain⟨ds,us,h1,h2,h3,h4,h5⟩:=Qvz (sh:=e) (λcs x hx=>read e hc hx) len (by omega) hel;refine⟨.sl ds,⟨ds,rfl,by omega,h2⟩,VRs.cons ?_ (VRs.nil _)⟩;have:ds.length=len:=h1;subst this;exact .slc _ _ a cap us hl h3.1 ⟨h5,λ_=>rw0 W _,λhf=>absurd (Qff.old.symm.trans hf) (by decide)⟩ h3.2
  . cases hc
 |st l =>
  simp only[Sh.chk]at hc;split at hc
  . rename_i fs ht;obtain⟨xs,n,_,_,hl,hlen,hf⟩:=DataW.trod_struct ht h;obtain⟨m,hm,hv⟩:=QoK l (n:=n) (cs:=cs) (fs:=fs.toList) (off:=0) (xs:=xs) hc (λi f hi=>by
     have hlt:i<xs.length:=by rw[hlen]; simpa using Ql hi
     refine⟨xs[i],?_⟩;rw[hf i f (by simpa using hi),Ve hlt]) hl
    exact⟨.agg m,⟨m,rfl,hm⟩,by rw[Dt.cells]; simpa using hv⟩
  . cases hc
theorem QoK (l:List Sh):∀ {n:Nat} {cs:ZI} {fs:List Field} {off tot:Nat} {xs:List (DataW H×List MemPlace)},Sh.chkL P l fs off tot=true ->
 (∀ (i:Nat) (f:Field),fs[i]? = some f->∃ x,DataW.trod enc P W base spare held n f.type ((cs.drop f.offset).take (P.cellsOf f.type))=some x)->cs.length=tot ->
 ∃ m,Sh.hasL l m/\VRs (st0 W) (Dt.cellsL m) (cs.drop off):=by
 intro n cs fs off tot xs hc hf hl
 cases l with
 |nil =>
  simp only[Sh.chkL,Va,List.isEmpty_iff,Zr]at hc;refine⟨[],rfl,?_⟩;rw[VS (by omega)];exact VRs.nil _
 |cons s r =>
  simp only[Sh.chkL]at hc;split at hc
  . cases hc
  . rename_i f fs';simp only[Va,Zr]at hc;obtain⟨⟨h1,h2⟩,h3⟩:=hc;obtain⟨x,hx⟩:=hf 0 f rfl;obtain⟨d,hd,hv⟩:=read s h2 hx;obtain⟨m,hm,hv'⟩:=QoK r (n:=n) (cs:=cs) (fs:=fs') (xs:=xs) h3 (λi f hi=>hf (i+1) f (by simpa using hi)) hl;refine⟨d::m,⟨d,m,rfl,hd,hm⟩,?_⟩;have:=hv.append hv';rw[h1,<- List.drop_drop,Ym]at this;simpa[Dt.cellsL]using this
end
end
end
section
variable [QR] [QP] [Qv] [QeR] [Qff]
open Go.ChangeShapes Go.WideShapes Go.ChangeAt Go.RowKit
section
variable {H:Type} {enc:ZK×Value->H} {P:ZL} {W:ZM} {base b0:Nat} {spare:Nat->Bool} {held:Bool} {r:Reach}
theorem Qpx (hl:laidOutB P=true) {W':ZM} (hb:Below W.heap.size W W'):∀ {ts:List ZK} {vs:ZI} {ds:List (DataW H)} {p:List MemPlace},
 (∀ t∈ts,P.readableRec t=true/\t<P.types.size)->DataW.TrodAll enc P W 0 (λ_=>true) true ts vs ds p->DataW.TrodAll enc P W' 0 (λb=>decide (b<W.heap.size)) true ts vs ds p
 |[],vs,ds,p,_,h=>by obtain⟨rfl,rfl,rfl⟩:=trodAll_nil h; exact trodAll_mk0
 |t::ts,vs,ds,p,hr,h=>by
  obtain⟨v,vs',d,ds',p,q,rfl,rfl,rfl,h1,h2⟩:=trodAll_cons h;have hlt:∀ x∈p,x.block<W.heap.size:=by obtain⟨m,hm⟩:=h1; exact DataW.trod_lt m _ _ _ hm
  exact trodAll_cons_mk (Below.trod hl (hr t (by simp)).1 (hr t (by simp)).2 h1 hb hlt) (Qpx hl hb (λt ht=>hr t (by simp[ht])) h2)
theorem Qqc:∀ {ts:List ZK} {vs:ZI} {ds:List (DataW H)} {p:List MemPlace},DataW.TrodAll enc P W base spare held ts vs ds p->ds.length=ts.length
 |[],vs,ds,p,h=>by obtain⟨rfl,rfl,rfl⟩:=trodAll_nil h; rfl
 |t::ts,vs,ds,p,h=>by
  obtain⟨v,vs',d,ds',p,q,rfl,rfl,rfl,h1,h2⟩:=trodAll_cons h;simp[Qqc h2]
end
end
section
variable [QR] [QP] [Qv]
def SV.gv (k ver:Nat) (cs:ZH):Nat->SV->SV
 |0,s=>s
 |d+1,s =>
  match s with
  |.own i off len sz v=>if i=k/\v=ver/\off+len*sz<=cs.length then .slc ((cs.drop off).take (len*sz)) len else .own i off len sz v
  |.agg l=>.agg (l.map (SV.gv k ver cs d))
  |.tup l=>.tup (l.map (SV.gv k ver cs d))
  |s=>s
section
variable {S:St} {k:Nat} {o:AO}
theorem Qnd (hS:Sim S) (ho:S.H[k]? = some o) (hl:o.live=true):∀ (d:Nat) (s:SV) (v:Value),VR S s v->VR ⟨S.ρ,S.H.set k o.dead,S.w⟩ (s.gv k o.ver o.cells d) v:=by
 have he:=Qjl ho;intro d
 induction d with
 |zero=>intro s v h; exact h.ext he
 |succ d ih =>
  intro s v h;unfold SV.gv;split
  . rename_i i off len sz ver;split
    . rename_i hc;obtain⟨rfl,rfl,hlen⟩:=hc;obtain⟨ad,cap,rfl,hcap,hz,hat⟩:=h.own_inv ho rfl;have h1:=hS.live i o ho hl;unfold St.OwnAt at hat
      cases hρ:S.ρ i with
      |none =>
       rw[hρ]at hat;obtain⟨rfl,rfl⟩:=hat
       cases ad with
       |none=>simpa using VR.nilslc
       |some a =>
        simp only[Yi,Yr];exact .slc [] 0 a 0 [] hcap rfl ⟨λj u hj=>by simp at hj,λhne=>absurd rfl hne,Qgq⟩ λj s u hj=>by simp at hj
      |some b =>
       rw[hρ]at hat h1;obtain⟨us,rest,hh,hvr⟩:=h1;have hul:us.length=o.cells.length:=hvr.1;have him:(⟨S.ρ,S.H.set i o.dead,S.w⟩:St).Imm ⟨b,off,none⟩ ((us.drop off).take (len*sz)):=by
        refine⟨?_,?_,λ_ _=>.inl ⟨_,_,hh⟩⟩
        . intro j u hj;rw[VK]at hj;split at hj
          . rw[VW]at hj;have hadd:(⟨b,off,none⟩:Addr).add j=⟨b,off+j,none⟩:=by unfold Addr.add; split<;>simp_all
            rw[hadd];show S.w.cell? _=_;unfold World.cell?;simp only[hh,Yq,Vw,Zu];simp[Vc (Ql hj),hj]
          . cases hj
        . rintro hne ⟨j,p,hp,hpl,hpρ⟩;simp only at hp hpρ;by_cases hij:j=i
          . subst hij; rw[Vo (Ql ho)]at hp; cases hp; simp[AO.dead,AO.own]at hpl
          . rw[Vf (by omega)]at hp;exact hij (hS.inj j i p o b hp ho hpl (AO.own_live hl) hpρ hρ)
       have hvs:VRs (⟨S.ρ,S.H.set i o.dead,S.w⟩:St) ((o.cells.drop off).take (len*sz)) ((us.drop off).take (len*sz)):=((hvr.ext he).drop off).take (len*sz)
       cases ad with
       |none =>
        have h0:=hz rfl;subst h0;have hc0:cap=0:=by
         rcases hat with h2|⟨h2,_⟩
         . exact h2
         . cases h2
        subst hc0;simpa using VR.nilslc
       |some a =>
        rcases hat with h2|⟨h2,_⟩
        . have:len=0:=by omega
          subst this;simp only[Yi,Yr];exact .slc [] 0 a cap [] hcap rfl ⟨λj u hj=>by simp at hj,λhne=>absurd rfl hne,Qgq⟩ λj s u hj=>by simp at hj
        . cases h2
          exact .slc _ len _ cap _ hcap hvs.1 him hvs.2
    . exact h.ext he
  . cases h with
    |agg _ us hl h=>exact VR.of_agg (VRs.map (S:=S) (us:=us) ⟨hl,h⟩ ih)
  . cases h with
    |tup _ us hl h=>exact VR.of_tup (VRs.map (S:=S) (us:=us) ⟨hl,h⟩ ih)
  . exact h.ext he
end
theorem Ok.give {P:ZL} {f:ZN} {args:ZH} {H H':ZG} {out:Out} (k:Nat) (d:Nat) {o:AO} (ho:H[k]? = some o) (hl:o.live=true)
 (h:Ok P f (args.map (SV.gv k o.ver o.cells d)) (setObj H k AO.dead) out H'):Ok P f args H out H':=by
 refine⟨h.1,?_⟩;intro S vs hH hS hvs;subst hH;have e:setObj S.H k AO.dead=S.H.set k o.dead:=by unfold setObj; rw[ho]
 have h1:=h.2 ⟨S.ρ,S.H.set k o.dead,S.w⟩ vs e.symm (QqO hS ho) (hvs.map (Qnd hS ho hl d));refine h1.mono ?_;rintro en w' ⟨v,ρ',hext,hsim,hout⟩;refine⟨v,ρ',(Qjl ho).trans (hext.mono (by simp)),hsim,hout⟩
@[simp] theorem QHr (o:AO):AO.dead o=⟨[],o.ty,o.ver+1,false⟩:=rfl
def AO.gv (k ver:Nat) (cs:ZH) (d:Nat) (p:AO):AO:={ p with cells:=p.cells.map (SV.gv k ver cs d) }
theorem Qm3 {k ver:Nat} {cs:ZH} {d:Nat} {p:AO} (h:(p.gv k ver cs d).own=true):p.own=true:=by
 simpa[AO.own,AO.gv]using h
theorem Qvw {k ver:Nat} {cs:ZH} {d:Nat} {s:SV} (h:s.isCell=true):(s.gv k ver cs d).isCell=true:=by
 cases d with
 |zero=>exact h
 |succ d =>
  unfold SV.gv;split
  . split
    . rfl
    . exact h
  . simp[SV.isCell]at h
  . simp[SV.isCell]at h
  . exact h
theorem Qx1 {k ver n:Nat} {cs:ZH} (hn:n<=k):∀ (d:Nat) (s:SV),s.under n=true->s.gv k ver cs d=s:=by
 intro d
 induction d with
 |zero=>intro s _; rfl
 |succ d ih =>
  intro s h;have hm:∀ l:ZH,SV.underL n l=true->l.map (SV.gv k ver cs d)=l:=by
   intro l hl;rw[SV.underL_iff]at hl;have:l.map (SV.gv k ver cs d)=l.map id:=V8 λs hs=>ih s (hl s hs);simpa using this
  unfold SV.gv;split
  . simp only[SV.under,Zq]at h;rw[Zn (by omega)]
  . simp only[SV.under]at h; rw[hm _ h]
  . simp only[SV.under]at h; rw[hm _ h]
  . rfl
section
variable (k ver:Nat) (cs:ZH) (d:Nat)
@[simp] theorem QFq (s:SV):SV.gv k ver cs 0 s=s:=rfl
@[simp] theorem gv_i64 (n:Int):SV.gv k ver cs d (i64 n)=i64 n:=by cases d<;>rfl
@[simp] theorem gv_bl (b:Bool):SV.gv k ver cs d (bl b)=bl b:=by cases d<;>rfl
@[simp] theorem gv_st (s:ByteArray):SV.gv k ver cs d (st s)=st s:=by cases d<;>rfl
@[simp] theorem gv_val (v:Value):SV.gv k ver cs d (.val v)=.val v:=by cases d<;>rfl
@[simp] theorem Qqg:SV.gv k ver cs d .any=.any:=by cases d<;>rfl
@[simp] theorem gv_slc (l:ZH) (n:Nat):SV.gv k ver cs d (.slc l n)=.slc l n:=by cases d<;>rfl
@[simp] theorem gv_ptr (s:SV) (n:Nat):SV.gv k ver cs d (.ptr s n)=.ptr s n:=by cases d<;>rfl
@[simp] theorem gv_fn (f:Fn) (a b:ZH):SV.gv k ver cs d (.fn f a b)=.fn f a b:=by cases d<;>rfl
@[simp] theorem gv_gd (b:Bool) (x:SV):SV.gv k ver cs d (.gd b x)=.gd b x:=by cases d<;>rfl
@[simp] theorem gv_agg (l:ZH):SV.gv k ver cs (d+1) (.agg l)=.agg (l.map (SV.gv k ver cs d)):=rfl
@[simp] theorem gv_tup (l:ZH):SV.gv k ver cs (d+1) (.tup l)=.tup (l.map (SV.gv k ver cs d)):=rfl
@[simp] theorem gv_own (i off len sz v:Nat):SV.gv k ver cs (d+1) (.own i off len sz v)=if i=k/\v=ver/\off+len*sz<=cs.length then .slc ((cs.drop off).take (len*sz)) len else .own i off len sz v:=rfl
end
theorem Qyc {P:ZL} {k:ZN} {args args':ZH} {H H':ZG} {out:Out} {K:Out->ZG->Prop} (i:Nat) (d:Nat) {o:AO} (ho:H[i]? = some o) (hl:o.live=true)
 (ha:args.map (SV.gv i o.ver o.cells d)=args') (h:Ok P k args' (setObj H i AO.dead) out H') (hk:K out H'):Qdr P (.fn (.func k) [] []) args H K :=
 Qc (Ok.give i d ho hl (by rw[ha]; exact h)) hk
theorem Qv0 {k ver n:Nat} {cs:ZH} (hc:SV.underL n cs=true):∀ (d:Nat) (s:SV),s.under n=true->(s.gv k ver cs d).under n=true:=by
 intro d
 induction d with
 |zero=>intro s h; exact h
 |succ d ih =>
  intro s h;have hm:∀ l:ZH,SV.underL n l=true->SV.underL n (l.map (SV.gv k ver cs d))=true:=by
   intro l hl;rw[SV.underL_iff]at hl ⊢;intro s hs;obtain⟨t,ht,rfl⟩:=Vx.1 hs;exact ih t (hl t ht)
  unfold SV.gv;split
  . split
    . rw[SV.under,SV.underL_iff];rw[SV.underL_iff]at hc;intro s hs;exact hc s (YQ (Yj hs))
    . exact h
  . simp only[SV.under]at h ⊢; exact hm _ h
  . simp only[SV.under]at h ⊢; exact hm _ h
  . exact h
section
variable {S:St} {H0 L:ZG} {k d:Nat} {o:AO}
def Qci (S:St) (H0 L:ZG) (k d:Nat) (o:AO):St:=⟨S.ρ,H0++(L.set k o.dead).map (AO.gv (H0.length+k) o.ver o.cells d),S.w⟩
theorem Qgy {i:Nat} {p:AO} (h:(Qci S H0 L k d o).H[i]? = some p) (ho:L[k]? = some o) :
 (i<H0.length/\H0[i]? = some p)\/(i=H0.length+k/\p=AO.gv (H0.length+k) o.ver o.cells d o.dead)\/(∃ p0 j,i=H0.length+j/\j≠k/\L[j]? = some p0/\p=AO.gv (H0.length+k) o.ver o.cells d p0):=by
 simp only[Qci]at h;by_cases hi:i<H0.length
 . rw[Vc hi]at h; exact .inl ⟨hi,h⟩
 . rw[Vl (by omega),Vp,VY]at h;obtain⟨p0,h1,rfl⟩:=h;right;by_cases hk:i-H0.length=k
   . left;rw[hk,Vo (Ql ho)]at h1
     cases h1
     exact⟨by omega,rfl⟩
   . right;rw[Vf (by omega)]at h1;exact⟨p0,i-H0.length,by omega,hk,h1,rfl⟩
theorem Qk4 (hH:S.H=H0++L) (ho:L[k]? = some o):Ext S.H.length S (Qci S H0 L k d o) where
 obj:=by
  intro i p hi hp;rw[hH]at hp hi;by_cases hlt:i<H0.length
  . rw[Vc hlt]at hp;exact⟨p,by simp only[Qci]; rw[Vc hlt]; exact hp,Vb _,λ_=>rfl⟩
  . rw[Vl (by omega)]at hp;by_cases hk:i-H0.length=k
    . rw[hk,ho]at hp; cases hp
      refine⟨AO.gv (H0.length+k) o.ver o.cells d o.dead,?_,by simp[AO.gv,AO.dead],λ_=>rfl⟩;simp only[Qci];rw[Vl (by omega),Vp,hk,Vo (Ql ho)]; rfl
    . refine⟨AO.gv (H0.length+k) o.ver o.cells d p,?_,Vb _,λ_=>rfl⟩;simp only[Qci];rw[Vl (by omega),Vp,Vf (by omega),hp]; rfl
 imm:=by
  intro b hb hn;refine⟨rfl,?_⟩;rintro⟨i,p,hp,hl,hρ⟩;rcases Qgy hp ho with ⟨h1,h2⟩|⟨rfl,rfl⟩|⟨p0,j,rfl,h1,h2,rfl⟩
  . exact hn ⟨i,p,by rw[hH,Vc h1]; exact h2,hl,hρ⟩
  . simp[AO.gv,AO.dead,AO.own]at hl
  . exact hn ⟨H0.length+j,p0,by rw[hH,Vl (by omega)]; simpa using h2,Qm3 hl,hρ⟩
 size:=Vb _
 shape:=λ_ _ _ h=>h
 loops:=λ_ r h=>⟨r,h⟩
 os:=rfl
 tape:=rfl
 output:=rfl
theorem Qm6 (hS:Sim S) (hH:S.H=H0++L) (ho:L[k]? = some o) (hl:o.live=true) (s:SV) (v:Value) (h:VR S s v):VR (Qci S H0 L k d o) (s.gv (H0.length+k) o.ver o.cells d) v:=by
 have ho':S.H[H0.length+k]? = some o:=by rw[hH,Vl (by omega)]; simpa using ho
 have h1:=Qnd hS ho' hl d s v h;refine h1.ext (S:=⟨S.ρ,S.H.set (H0.length+k) o.dead,S.w⟩) ?_;have hsz:(S.H.set (H0.length+k) o.dead).length=S.H.length:=by simp
 constructor
 . intro i p hi hp;simp only at hp hi;by_cases hik:i=H0.length+k
   . subst hik;rw[Vo (Ql ho')]at hp; cases hp
     refine⟨AO.gv (H0.length+k) o.ver o.cells d o.dead,?_,Vb _,λ_=>rfl⟩;simp only[Qci];rw[Vl (by omega),Vp,Zl,Vo (Ql ho)]; rfl
   . rw[Vf (by omega),hH]at hp;by_cases hlt:i<H0.length
     . rw[Vc hlt]at hp;exact⟨p,by simp only[Qci]; rw[Vc hlt]; exact hp,Vb _,λ_=>rfl⟩
     . rw[Vl (by omega)]at hp;refine⟨AO.gv (H0.length+k) o.ver o.cells d p,?_,Vb _,λ_=>rfl⟩;simp only[Qci];rw[Vl (by omega),Vp,Vf (by omega),hp]; rfl
 . intro b hb hn;refine⟨rfl,?_⟩;rintro⟨i,p,hp,hpl,hρ⟩;rcases Qgy hp ho with ⟨h1,h2⟩|⟨rfl,rfl⟩|⟨p0,j,rfl,h1,h2,rfl⟩
   . refine hn ⟨i,p,?_,hpl,hρ⟩;simp only;rw[Vf (by omega),hH,Vc h1]; exact h2
   . simp[AO.gv,AO.dead,AO.own]at hpl
   . refine hn ⟨H0.length+j,p0,?_,Qm3 hpl,hρ⟩;simp only;rw[Vf (by omega),hH,Vl (by omega)]; simpa using h2
 . exact Vb _
 . exact λ_ _ _ h=>h
 . exact λ_ r h=>⟨r,h⟩
 . rfl
 . rfl
 . rfl
theorem Qvs (hS:Sim S) (hH:S.H=H0++L) (hcl:closed H0) (ho:L[k]? = some o) (hl:o.live=true):Sim (Qci S H0 L k d o):=by
 have ho':S.H[H0.length+k]? = some o:=by rw[hH,Vl (by omega)]; simpa using ho
 have hlen:(Qci S H0 L k d o).H.length=S.H.length:=by simp[Qci,hH]
 have at0:∀ {i:Nat} {p:AO},H0[i]? = some p->S.H[i]? = some p:=by
  intro i p h; rw[hH,Vc (Ql h)]; exact h
 have at1:∀ {j:Nat} {p:AO},L[j]? = some p->S.H[H0.length+j]? = some p:=by
  intro j p h; rw[hH,Vl (by omega)]; simpa using h
 constructor
 . intro i p hp hpl;have key:∀ (p0:AO),S.H[i]? = some p0->p0.live=true->p.ty=p0.ty->(p.cells=p0.cells.map (SV.gv (H0.length+k) o.ver o.cells d)) ->
    match S.ρ i with
    |none=>p.cells=[]
    |some b=>∃ us rest,S.w.heap[b]? = some (.cells (us++rest).toArray p.ty (0,0))/\VRs (Qci S H0 L k d o) p.cells us:=by
    intro p0 h0 h0l hty hce;have h1:=hS.live i p0 h0 h0l
    cases hρ:S.ρ i with
    |none=>rw[hρ]at h1; simp only at h1 ⊢; rw[hce,h1]; rfl
    |some b =>
     rw[hρ]at h1;obtain⟨us,rest,h2,h3⟩:=h1;exact⟨us,rest,by rw[hty]; exact h2,by rw[hce]; exact h3.map λs v h=>Qm6 hS hH ho hl s v h⟩
   show match S.ρ i with
    |none=>p.cells=[]
    |some b=>∃ us rest,S.w.heap[b]? = some (.cells (us++rest).toArray p.ty (0,0))/\VRs (Qci S H0 L k d o) p.cells us
   rcases Qgy hp ho with ⟨h1,h2⟩|⟨rfl,rfl⟩|⟨p0,j,rfl,h1,h2,rfl⟩
   . refine key p (at0 h2) hpl rfl ?_;have:p.cells.map (SV.gv (H0.length+k) o.ver o.cells d)=p.cells.map id:=V8 λs hs=>Qx1 (Nat.le_add_right _ _) d s (hcl i p h2 s hs);rw[this]; simp
   . simp[AO.gv,AO.dead]at hpl
   . exact key p0 (at1 h2) hpl rfl rfl
 . intro i p hp s hs;rw[hlen];rcases Qgy hp ho with ⟨h1,h2⟩|⟨rfl,rfl⟩|⟨p0,j,rfl,h1,h2,rfl⟩
   . exact hS.bel i p (at0 h2) s hs
   . simp[AO.gv,AO.dead]at hs
   . simp only[AO.gv,Vx]at hs;obtain⟨t,ht,rfl⟩:=hs;have h3:=hS.bel _ p0 (at1 h2) t ht;refine⟨Qv0 ?_ d t h3.1,λhl=>Qvw (h3.2 hl)⟩;rw[SV.underL_iff];exact λu hu=>(hS.bel _ o ho' u hu).1
 . intro i j p q b hi hj hil hjl hρi hρj;have key:∀ {i:Nat} {p:AO},(Qci S H0 L k d o).H[i]? = some p->p.own=true->∃ p0,S.H[i]? = some p0/\p0.own=true:=by
    intro i p hp hpl;rcases Qgy hp ho with ⟨h1,h2⟩|⟨rfl,rfl⟩|⟨p0,j,rfl,h1,h2,rfl⟩
    . exact⟨p,at0 h2,hpl⟩
    . simp[AO.gv,AO.dead,AO.own]at hpl
    . exact⟨p0,at1 h2,Qm3 hpl⟩
   obtain⟨p0,h1,h2⟩:=key hi hil;obtain⟨q0,h3,h4⟩:=key hj hjl;exact hS.inj i j p0 q0 b h1 h3 h2 h4 hρi hρj
 . intro i p hp hl' hne;rcases Qgy hp ho with ⟨h1,h2⟩|⟨rfl,rfl⟩|⟨p0,j,rfl,h1,h2,rfl⟩
   . obtain⟨l,x,m,us,env,k1,k2,k3,k4,k6⟩:=hS.lp i p (at0 h2) hl' hne;exact⟨l,x,m,us,env,k1,k2,k3,k4,k6.ext (Qk4 hH ho)⟩
   . exact absurd rfl hne
   . have hne':p0.cells≠[]:=λe=>hne (by simp[AO.gv,e]);obtain⟨l,x,m,us,env,k1,k2,k3,k4,k6⟩:=hS.lp _ p0 (at1 h2) hl' hne';have hm:SV.gv (H0.length+k) o.ver o.cells d m=m:=by
      cases m<;>first|(simp[SpR]at k4; done)|(cases d<;>rfl)
     refine⟨l,x,m,us,env.map (SV.gv (H0.length+k) o.ver o.cells d),k1,?_,k3,k4,k6.map λs v h=>Qm6 hS hH ho hl s v h⟩;simp only[AO.gv,k2,Vg,hm]
 . exact hS.gl.ext (Qk4 hH ho)
 . exact hS.kf.ext (Qk4 hH ho)
theorem Qto (e:Env) (f:SV->SV) (hf:f .any=.any) (t:Nat):Env.get (e.map λp=>(p.1,f p.2)) t=f (e.get t):=by
 induction e with
 |nil=>exact hf.symm
 |cons p r ih =>
  obtain⟨k,v⟩:=p;simp only[Vg,Env.get];split
  . rfl
  . exact ih
end
attribute [simp] AO.gv
@[simp] theorem dep_q (f:Od) (args:List Od):J.dep (.q f args)=true:=rfl
attribute [simp] List.filter_cons
end
section
variable [QR] [QP] [Qv]
section
variable {P:ZL} {N:Nat} {D:Array Oper->List Nat->List Ins->Bool}
def QeT (n i:Nat):Nat:=n+i
@[simp] theorem rs_p (n:Nat) (d:Option Nat) (g:Option (Nat×Bool)) (i:I):Ins.rs n ⟨d,g,.p i⟩=⟨d,g,.p i⟩:=rfl
@[simp] theorem rs_q (n:Nat) (d:Option Nat) (g:Option (Nat×Bool)) (f:Od) (as:List Od):Ins.rs n ⟨d,g,.q f as⟩=⟨d,g,.q f as⟩:=rfl
@[simp] theorem rs_e (n:Nat) (d:Option Nat) (g:Option (Nat×Bool)) (i:E):Ins.rs n ⟨d,g,.e i⟩=⟨d,g,.e (i.rs n)⟩:=rfl
@[simp] theorem rs_st (n m:Nat) (p x:Od):E.rs n (.st m p x)=.st m p x:=rfl
@[simp] theorem rs_stw (n m:Nat) (ws:List Nat) (p x:Od):E.rs n (.stw ws m p x)=.stw ws m p x:=rfl
@[simp] theorem rs_app (n:Nat) (T:ZK) (sz b:Nat) (s x:Od):E.rs n (.app T sz b s x)=.app T sz b s x:=rfl
@[simp] theorem rs_aps (n:Nat) (T:ZK) (s x:Od):E.rs n (.aps T s x)=.aps T s x:=rfl
@[simp] theorem QFw (n:Nat) (f:Od) (as:List Od):E.rs n (.call f as)=.call f as:=rfl
@[simp] theorem rs_alc (n:Nat) (T:ZK) (z:ZH):E.rs n (.alc T z)=.alc T z:=rfl
@[simp] theorem rs_box (n:Nat) (T:ZK) (x:Od):E.rs n (.box T x)=.box T x:=rfl
def xdl (P:ZL) (l:List Ins) (env:Env) (H:ZG) (K:ZF):Prop:=xd P [] l env H K
@[congr] theorem QDt {l l':List Ins} {env:Env} {H:ZG} {K:ZF} (h:Ev l=l'):xdl P l env H K=xdl P l' env H K:=by rw[QT h]
@[simp] theorem xdl_go (l:List Ins) (env:Env) (H:ZG) (K:ZF):xdl P l env H K=xd P [] l env H K:=rfl
def Qk0 (P:ZL) (l:List Ins) (n:Nat) (env:Env) (H:ZG) (K:ZF):Prop:=xdl P (l.map (Ins.rs n)) env H K
@[congr] theorem QDy {l:List Ins} {n n':Nat} {env:Env} {H H':ZG} {K:ZF} (h:Ev n=n') (h2:Ev H=H'):Qk0 P l n env H K=Qk0 P l n' env H' K:=by rw[QT h,QT h2]
@[simp] theorem QCR (l:List Ins) (n:Nat) (env:Env) (H:ZG) (K:ZF):Qk0 P l n env H K=xdl P (l.map (Ins.rs n)) env H K:=rfl
@[simp ↓] theorem X_drq (Ts:List ZK) (n0:Nat) (m:List Nat) (l:List Ins) (os:List (List Nat)) (tl:List Ins) (env:Env) (H:ZG) (K:ZF):X P N D (.drq Ts n0 m l os tl) env H K=Qk0 P l H.length env (H++QcB Ts) λx env H' =>
 match x with
 |.normal=>xrt P n0 tl os env H' λx e H=>K x (e.keep (QhW tl env)) H
 |x=>K x env H':=rfl
@[simp] theorem QDr:QcB []=[]:=rfl
@[simp] theorem QHt (T:ZK) (r:List ZK):QcB (T::r)=⟨[],T,0,false⟩::QcB r:=rfl
end
@[simp] theorem QEL (H:ZG) (k:Nat):H.length+k+1=H.length+(k+1):=rfl
@[simp] theorem QG9 (T:ZK) (sz bytes:Nat) (x:SV) (H:ZG) (K:SV->ZG->Prop):Qgm T sz bytes (.val (.slice none 0 0)) x H K=(x.vd=true/\x.ug.isSl=true/\x.ug.slen*sz<=(x.ug.row H).length/\QD (x.ug.els H sz) /\
     x.ug.slen*bytes<=140737488355328/\x.ug.slen<=140737488355328/\Ke K (.own H.length 0 x.ug.slen sz 1) (H++[⟨x.ug.els H sz,T,1,true⟩])):=by
 simp[Qgm,SV.vd,SV.ug,SV.slen,SV.isNil,Ke]
section
variable (n:Nat) (L:ZG) (d:Nat)
@[simp] theorem Qv4 (k off len sz ver p:Nat):SV.fz n [] L (d+1) (.ptr (.own (n+k) off len sz ver) p)=(match L[k]? with
     |some o=>if o.live=true/\o.ver=ver/\off<o.cells.length then .ptr (.slc ((o.cells.drop off).map (SV.fz n [] L d)) 0) p else .any
     |none=>.any):=by
 conv=>lhs; unfold SV.fz
 rw[Zn (by simp[SV.under])];have e:n+k-n=k:=by omega
 simp only[e]
 cases L[k]? with
 |none=>rfl
 |some o=>rfl
@[simp] theorem QGM (off len sz ver p:Nat):SV.fz n [] L (d+1) (.ptr (.own n off len sz ver) p)=(match L[0]? with
     |some o=>if o.live=true/\o.ver=ver/\off<o.cells.length then .ptr (.slc ((o.cells.drop off).map (SV.fz n [] L d)) 0) p else .any
     |none=>.any):=Qv4 n L d 0 off len sz ver p
end
end
section
variable [QR] [QP] [Qv]
section
variable {P:ZL} {N:Nat}
def Rg (P:ZL) (N:Nat) (D:Array Oper->List Nat->List Ins->Bool) (kk:Nat) (ps:List Nat) (ia ib:IC) (f:SV) (env:Env) (H:ZG) (K:ZF):Prop :=
 f.vd=true/\match f.ug with
  |.fn (.func k) first cap=>∃ Pt:Out->ZG->Prop,OkP P k (first++[.yl H.length]++cap) (H++[lpo P N D kk ps ia ib (env.vals N) .ready]) Pt /\
   ∀ out H',Pt out H'->match out with
    |.ret _=>∃ k' ok st cs,H'[H.length]? = some ⟨.lp k' ok st::cs,0,0,false⟩/\st.out K env (H'.set H.length QfH)
    |.pan x=>K (.panic x) env H'
  |_=>False
@[congr] theorem QEW {D:Array Oper->List Nat->List Ins->Bool} {kk:Nat} {ps:List Nat} {ia ib:IC} {f f':SV} {env env':Env} {H H':ZG} {K:ZF} (h1:Ev f=f') (h2:Ev env=env') (h3:Ev H=H') :
 Rg P N D kk ps ia ib f env H K=Rg P N D kk ps ia ib f' env' H' K:=by rw[QT h1,QT h2,QT h3]
@[simp ↓] theorem X_rng (D:Array Oper->List Nat->List Ins->Bool) (kk:Nat) (g:Od) (ps:List Nat) (ia ib:IC) (env:Env) (H:ZG) (K:ZF):X P N D (.rng kk g ps ia ib) env H K=Rg P N D kk ps ia ib (env.ev g) env H K:=rfl
theorem Qrx {kk:Nat} {ps:List Nat} {ia ib:IC} {k:ZN} {first cap:ZH} {env:Env} {H:ZG} {K:ZF} {Pt:Out->ZG->Prop}
 (h:OkP P k (first++[.yl H.length]++cap) (H++[lpo P N Qf kk ps ia ib (env.vals N) .ready]) Pt)
 (hk:∀ out H',Pt out H'->match out with
  |.ret _=>∃ st cs,H'[H.length]? = some (lpo P N Qf kk ps ia ib cs st)/\st.out K env (H'.set H.length QfH)
  |.pan x=>K (.panic x) env H'):Rg P N Qf kk ps ia ib (.fn (.func k) first cap) env H K:=⟨rfl,Pt,h,λout H' hp=>by
 have:=hk out H' hp
 cases out with
 |ret r=>obtain⟨st,cs,h1,h2⟩:=this; exact⟨_,_,st,cs,h1,h2⟩
 |pan x=>exact this⟩
theorem QqN {i:Nat} {args:ZH} {H:ZG} {Pt:Out->ZG->Prop} {K:Out->ZG->Prop} (h:YlP P i args H Pt) (hk:∀ out H',Pt out H'->K out H'):Qdr P (.yl i) args H K :=
 ⟨Pt,⟨rfl,h⟩,hk⟩
theorem YlP.mono {i:Nat} {args:ZH} {H:ZG} {Pt Pt':Out->ZG->Prop} (h:YlP P i args H Pt) (hk:∀ out H',Pt out H'->Pt' out H'):YlP P i args H Pt':=by
 refine⟨h.1,λS vs l h1 h2 h3 h4 => ?_⟩;obtain⟨r,k1,k2,k3⟩:=h.2 S vs l h1 h2 h3 h4;exact⟨r,k1,k2,k3.mono λe w' ⟨out,H',v,ρ',h5,h6⟩=>⟨out,H',v,ρ',hk _ _ h5,h6⟩⟩
attribute [simp] Env.puts LSt.out
end
end
section
variable [QR] [QP] [Qv]
section
variable {S:St} {H0 H1 L:ZG} {ks:List Nat} {d:Nat}
structure Qds (H0 H1 L:ZG) (ks:List Nat) (d:Nat):Prop where
 len:H1.length=H0.length
 cell:∀ (i:Nat) (o':AO),H1[i]? = some o'->(H0[i]? = some o'/\∀ s∈o'.cells,s.under H0.length=true) \/
  (∃ o k,H0[i]? = some o/\o.live=true/\o'=⟨(o.cells.map (SV.fz H0.length ks L d)).take k,o.ty,o.ver,true⟩/\QD o'.cells)
def Qa5 (S:St) (H0 H1 L:ZG) (ks:List Nat) (d:Nat):St:=⟨QcF S H0.length ks,H1++Qet H0.length ks L d,S.w⟩
theorem Qds.up (hz:Qds H0 H1 L ks d) {i:Nat} {o:AO} (h:H0[i]? = some o):∃ o',H1[i]? = some o'/\o'.ver=o.ver/\o'.own=o.own/\o'.ty=o.ty:=by
 have hi:i<H1.length:=by rw[hz.len]; exact Ql h
 have h1:H1[i]? = some H1[i]:=Ve hi;rcases hz.cell i _ h1 with ⟨h2,_⟩|⟨o2,_,h2,h3,h4,_⟩
 . rw[h]at h2; cases h2
   exact⟨_,h1,rfl,rfl,rfl⟩
 . rw[h]at h2; cases h2
   refine⟨_,h1,by rw[h4],?_,by rw[h4]⟩;rw[h4,AO.own_live h3]; exact AO.own_live rfl
theorem QoY (hz:Qds H0 H1 L ks d) {i:Nat} {o':AO} (h:(Qa5 S H0 H1 L ks d).H[i]? = some o'):∃ o,(Qa1 S H0 L ks d).H[i]? = some o/\o.ver=o'.ver/\o.own=o'.own/\o.ty=o'.ty:=by
 simp only[Qa5]at h;simp only[Qa1];by_cases hi:i<H0.length
 . rw[Vc (by rw[hz.len]; exact hi)]at h;rw[Vc hi];obtain⟨o2,h1,h2,h3,h4⟩:=hz.up (Ve hi);rw[h]at h1; cases h1
   exact⟨_,Ve hi,h2.symm,h3.symm,h4.symm⟩
 . rw[Vl (by rw[hz.len]; omega),hz.len]at h;rw[Vl (by omega)];exact⟨_,h,rfl,rfl,rfl⟩
theorem Qmf (hz:Qds H0 H1 L ks d):Ext (Qa1 S H0 L ks d).H.length (Qa1 S H0 L ks d) (Qa5 S H0 H1 L ks d) where
 obj:=by
  intro i o hi ho;have hl:(Qa5 S H0 H1 L ks d).H.length=(Qa1 S H0 L ks d).H.length:=by simp[Qa5,Qa1,hz.len]
  have h1:(Qa5 S H0 H1 L ks d).H[i]? = some ((Qa5 S H0 H1 L ks d).H[i]'(by omega)):=Ve _;obtain⟨o2,h2,h3,_⟩:=QoY hz h1;rw[ho]at h2; cases h2
  exact⟨_,h1,by omega,λ_=>rfl⟩
 imm:=by
  refine λk _ hnr=>⟨rfl,?_⟩;rintro⟨i,o,ho,hl,hρ⟩;obtain⟨o2,h2,h3,h4,_⟩:=QoY hz ho;exact hnr ⟨i,o2,h2,by rw[h4]; exact hl,hρ⟩
 size:=Vb _
 shape:=λ_ _ _ h=>h
 loops:=λ_ r h=>⟨r,h⟩
 os:=rfl
 tape:=rfl
 output:=rfl
theorem QnB (hsim:Sim S) (hS:S.H=H0++L) (hz:Qds H0 H1 L ks d) (hk:Qcw H0.length ks L d ks) (s:SV) (v:Value) (h:VR S s v):VR (Qa5 S H0 H1 L ks d) (s.fz H0.length ks L d) v :=
 (Qnp hsim hS hk d (Vb _) s v h).ext (Qmf hz)
theorem Qjg (hz:Qds H0 H1 L ks d) (hk:Qcw H0.length ks L d ks) {i:Nat} {o:AO} (h:(Qa5 S H0 H1 L ks d).H[i]? = some o) :
 (i<H0.length/\(Qa5 S H0 H1 L ks d).ρ i=S.ρ i/\((H0[i]? = some o/\∀ s∈o.cells,s.under H0.length=true) \/
  ∃ o' k,H0[i]? = some o'/\o'.live=true/\o=⟨(o'.cells.map (SV.fz H0.length ks L d)).take k,o'.ty,o'.ver,true⟩/\QD o.cells)) \/
 (∃ p k o',i=H0.length+p/\ks[p]? = some k/\L[k]? = some o'/\o'.live=true/\QD o.cells /\
  o={ cells:=o'.cells.map (SV.fz H0.length ks L d),ty:=o'.ty,ver:=0,live:=true }/\(Qa5 S H0 H1 L ks d).ρ i=S.ρ (H0.length+k)):=by
 by_cases hi:i<H0.length
 . simp only[Qa5]at h;rw[Vc (by rw[hz.len]; exact hi)]at h;exact .inl ⟨hi,by simp[Qa5,QcF,hi],hz.cell i o h⟩
 . have h':(Qa1 S H0 L ks d).H[i]? = some o:=by
    simp only[Qa5]at h;rw[Vl (by rw[hz.len]; omega),hz.len]at h;simp only[Qa1];rw[Vl (by omega)]; exact h
   rcases QfQ hk h' with ⟨h1,_⟩|h1
   . exact absurd h1 hi
   . exact .inr h1
theorem QuU (hsim:Sim S) (hS:S.H=H0++L) (hz:Qds H0 H1 L ks d) (hk:Qcw H0.length ks L d ks):Sim (Qa5 S H0 H1 L ks d):=by
 have hat:∀ {i:Nat} {o:AO},H0[i]? = some o->S.H[i]? = some o:=λh=>by rw[hS,Vc (Ql h)]; exact h
 have hext:Ext H0.length S (Qa5 S H0 H1 L ks d):=(QfD hS hk).trans ((Qmf hz).mono (by simp[Qa1]));have hlive:∀ (i:Nat) (o:AO),(Qa5 S H0 H1 L ks d).H[i]? = some o->o.live=true ->
  match (Qa5 S H0 H1 L ks d).ρ i with
  |none=>o.cells=[]
  |some b=>∃ us rest,S.w.heap[b]? = some (.cells (us++rest).toArray o.ty (0,0))/\VRs (Qa5 S H0 H1 L ks d) o.cells us:=by
  intro i o ho hl;rcases Qjg (S:=S) hz hk ho with ⟨h1,h2,⟨h3,h4⟩|⟨o',m,h3,h4,rfl,h5⟩⟩|⟨p,k,o',rfl,h1,h2,h3,_,rfl,h5⟩
  . rw[h2];have h6:=hsim.live i o (hat h3) hl
    cases hρ:S.ρ i with
    |none=>rw[hρ]at h6; exact h6
    |some b =>
     rw[hρ]at h6;obtain⟨us,rest,h7,h8⟩:=h6;exact⟨us,rest,h7,h8.extB hext ((SV.underL_iff _ _).2 h4)⟩
  . rw[h2];have h6:=hsim.live i o' (hat h3) h4
    cases hρ:S.ρ i with
    |none=>rw[hρ]at h6; simp only; rw[h6]; simp
    |some b =>
     rw[hρ]at h6;obtain⟨us,rest,h7,h8⟩:=h6;refine⟨us.take m,us.drop m++rest,?_,(h8.map (QnB hsim hS hz hk)).take m⟩;rw[<-VC,Ym]; exact h7
  . rw[h5];have h4:=hsim.live (H0.length+k) o' (by rw[hS,Vl (by omega)]; simpa using h2) h3
    cases hρ:S.ρ (H0.length+k)with
    |none=>rw[hρ]at h4; simp only; rw[h4]; rfl
    |some b =>
     rw[hρ]at h4;obtain⟨us,rest,h6,h7⟩:=h4;exact⟨us,rest,h6,h7.map (QnB hsim hS hz hk)⟩
 have hlen:H0.length<=(Qa5 S H0 H1 L ks d).H.length:=by simp[Qa5,hz.len]
 have hbel:∀ (i:Nat) (o:AO),(Qa5 S H0 H1 L ks d).H[i]? = some o->o.live=true->∀ s∈o.cells,s.under (Qa5 S H0 H1 L ks d).H.length=true:=by
  intro i o ho hl s hs;have h8:=hlive _ _ ho hl;split at h8
  . rw[h8]at hs; cases hs
  . obtain⟨us,rest,h9,h10⟩:=h8;obtain⟨j,hj⟩:=Vy hs;obtain⟨u,_,h11⟩:=h10.get hj;exact h11.under
 refine⟨hlive,?_,?_,?_,hsim.gl.ext hext,hsim.kf.ext hext⟩
 . intro i o ho s hs;rcases Qjg (S:=S) hz hk ho with ⟨h1,h2,⟨h3,h4⟩|⟨o',m,h3,h4,h6,h5⟩⟩|⟨p,k,o',h0,h1,h2,h3,h6,h7,h5⟩
   . exact⟨SV.under_mono hlen s (h4 s hs),(hsim.bel i o (hat h3) s hs).2⟩
   . exact⟨hbel i o ho (by rw[h6]) s hs,λ_=>h5 s hs⟩
   . exact⟨hbel i o ho (by rw[h7]) s hs,λ_=>h6 s hs⟩
 . intro i j o o' b hi hj hl hl' hρ hρ';have key:∀ {i:Nat} {o:AO},(Qa5 S H0 H1 L ks d).H[i]? = some o->o.own=true->∃ i0 o0,S.H[i0]? = some o0/\o0.own=true/\(Qa5 S H0 H1 L ks d).ρ i=S.ρ i0/\((i<H0.length/\i0=i)\/∃ p k,i=H0.length+p/\ks[p]? = some k/\i0=H0.length+k):=by
    intro i o ho hl;rcases Qjg (S:=S) hz hk ho with ⟨h1,h2,⟨h3,h4⟩|⟨o',m,h3,h4,h6,h5⟩⟩|⟨p,k,o',rfl,h1,h2,h3,_,rfl,h5⟩
    . exact⟨i,o,hat h3,hl,h2,.inl ⟨h1,rfl⟩⟩
    . exact⟨i,o',hat h3,AO.own_live h4,h2,.inl ⟨h1,rfl⟩⟩
    . exact⟨H0.length+k,o',by rw[hS,Vl (by omega)]; simpa using h2,AO.own_live h3,h5,.inr ⟨p,k,rfl,h1,rfl⟩⟩
   obtain⟨i0,o0,a1,a2,a3,a4⟩:=key hi hl;obtain⟨j0,o1,b1,b2,b3,b4⟩:=key hj hl';have e:=hsim.inj i0 j0 o0 o1 b a1 b1 a2 b2 (by rw[<-a3]; exact hρ) (by rw[<-b3]; exact hρ');rcases a4 with ⟨a4,rfl⟩|⟨p,k,rfl,a4,rfl⟩<;>rcases b4 with ⟨b4,rfl⟩|⟨q,k',rfl,b4,rfl⟩
   . exact e
   . omega
   . omega
   . have:k=k':=by omega
     subst this;rw[QnG hk a4 b4]
 . intro i o ho hl hne;rcases Qjg (S:=S) hz hk ho with ⟨h1,h2,⟨h3,h4⟩|⟨o',m,h3,h4,rfl,h5⟩⟩|⟨p,k,o',rfl,h1,h2,h3,h6,rfl,h5⟩
   . obtain⟨l,x,m,us,env,k1,k2,k3,k4,k6⟩:=hsim.lp i o (hat h3) hl hne;rw[k2]at h4;exact⟨l,x,m,us,env,h2.trans k1,k2,k3,k4,k6.extB hext ((SV.underL_iff _ _).2 λs hs=>h4 s (by simp[hs]))⟩
   . cases hl
   . cases hl
theorem QBf {n0:Nat} {Hx:ZG} {r:SV} (d:Nat) (ks:List Nat) (h:Hx=H0++L) (hn:n0<=H0.length) (hz:Qds H0 H1 L ks d) (hk:Qcw H0.length ks L d ks) :
 Cv n0 r Hx (r.fz H0.length ks L d) (H1++Qet H0.length ks L d):=by
 intro S v hS hsim hv;subst h;exact⟨_,((QfD hS hk).trans ((Qmf hz).mono (by simp[Qa1]))).mono hn,QuU hsim hS hz hk,QnB hsim hS hz hk r v hv⟩
theorem Qz4 {n0:Nat} {Hx:ZG} {r:SV} (d:Nat) (h:Hx=H0++L) (hn:n0<=H0.length) (hz:Qds H0 H1 L [] d):Cv n0 r Hx (r.fz H0.length [] L d) H1:=by
 have:=QBf (r:=r) d [] h hn hz trivial;simpa[Qet]using this
end
theorem OkP.give {P:ZL} {f:ZN} {args:ZH} {H:ZG} {Pt:Out->ZG->Prop} (k:Nat) (d:Nat) {o:AO} (ho:H[k]? = some o) (hl:o.live=true)
 (h:OkP P f (args.map (SV.gv k o.ver o.cells d)) (H.set k o.dead) Pt):OkP P f args H Pt:=by
 refine⟨h.1,?_⟩;intro S vs hH hS hvs;subst hH;have h1:=h.2 ⟨S.ρ,S.H.set k o.dead,S.w⟩ vs rfl (QqO hS ho) (hvs.map (Qnd hS ho hl d));refine h1.mono ?_;rintro en w' ⟨out,H',v,ρ',hp,hext,hsim,hout⟩;exact⟨out,H',v,ρ',hp,(Qjl ho).trans (hext.mono (by simp)),hsim,hout⟩
section
variable {S:St}
theorem QgJ {j:Nat} {o:AO} (ho:S.H[j]? = some o) (hl:o.live=true) (cs:ZH):Ext S.H.length S ⟨S.ρ,S.H.set j ⟨cs,o.ty,o.ver,true⟩,S.w⟩ where
 obj:=by
  intro i p hi hp;by_cases e:i=j
  . subst e; rw[ho]at hp; cases hp
    exact⟨⟨cs,o.ty,o.ver,true⟩,by show(S.H.set i _)[i]? = _; rw[Vo hi],Vb _,λ_=>rfl⟩
  . exact⟨p,by show(S.H.set j _)[i]? = _; rw[Vf (by omega)]; exact hp,Vb _,λ_=>rfl⟩
 imm:=by
  refine λk _ hnr=>⟨rfl,?_⟩;rintro⟨i,p,hp,hw,hρ⟩;by_cases e:i=j
  . subst e;exact hnr ⟨i,o,ho,AO.own_live hl,hρ⟩
  . refine hnr ⟨i,p,?_,hw,hρ⟩;have hp':(S.H.set j ⟨cs,o.ty,o.ver,true⟩)[i]? = some p:=hp;rw[Vf (by omega)]at hp'; exact hp'
 size:=Vb _
 shape:=λ_ _ _ h=>h
 loops:=λ_ r h=>⟨r,h⟩
 os:=rfl
 tape:=rfl
 output:=rfl
def St.lies (S:St) (j:Nat) (T:ZK) (us:ZI):Prop:=match S.ρ j with
 |none=>us=[]
 |some b=>∃ rest,S.w.heap[b]? = some (.cells (us++rest).toArray T (0,0))
theorem Qoi (hS:Sim S) {j:Nat} {o:AO} (ho:S.H[j]? = some o) (hl:o.live=true) {cs:ZH} (hok:QD cs) (hc:∀ us,S.lies j o.ty us->VRs S o.cells us->∃ k,VRs S cs (us.take k)) :
 Sim ⟨S.ρ,S.H.set j ⟨cs,o.ty,o.ver,true⟩,S.w⟩:=by
 have he:=QgJ ho hl cs;have hat:∀ {i:Nat} {p:AO},(S.H.set j ⟨cs,o.ty,o.ver,true⟩)[i]? = some p->(i=j/\p=⟨cs,o.ty,o.ver,true⟩)\/(i≠j/\S.H[i]? = some p):=by
  intro i p hp;by_cases e:i=j
  . subst e; rw[Vo (Ql ho)]at hp; cases hp; exact .inl ⟨rfl,rfl⟩
  . rw[Vf (by omega)]at hp; exact .inr ⟨e,hp⟩
 have hlive:∀ (i:Nat) (p:AO),(S.H.set j ⟨cs,o.ty,o.ver,true⟩)[i]? = some p->p.live=true ->
  match S.ρ i with
  |none=>p.cells=[]
  |some b=>∃ us rest,S.w.heap[b]? = some (.cells (us++rest).toArray p.ty (0,0))/\VRs ⟨S.ρ,S.H.set j ⟨cs,o.ty,o.ver,true⟩,S.w⟩ p.cells us:=by
  intro i p hp hpl;rcases hat hp with ⟨rfl,rfl⟩|⟨hne,hp⟩
  . have h1:=hS.live i o ho hl
    cases hρ:S.ρ i with
    |none =>
     rw[hρ]at h1;obtain⟨k,h2⟩:=hc [] (by unfold St.lies; rw[hρ]) (by rw[h1]; exact VRs.nil S);exact VJ (by have:=h2.1; simpa using this.symm)
    |some b =>
     rw[hρ]at h1;obtain⟨us,rest,h2,h3⟩:=h1;obtain⟨k,h4⟩:=hc us (by unfold St.lies; rw[hρ]; exact⟨rest,h2⟩) h3;refine⟨us.take k,us.drop k++rest,?_,h4.ext he⟩;rw[<-VC,Ym]; exact h2
  . have h1:=hS.live i p hp hpl
    cases hρ:S.ρ i with
    |none=>rw[hρ]at h1; exact h1
    |some b =>
     rw[hρ]at h1;obtain⟨us,rest,h2,h3⟩:=h1;exact⟨us,rest,h2,h3.ext he⟩
 refine⟨hlive,?_,?_,?_,hS.gl.ext he,hS.kf.ext he⟩
 . intro i p hp s hs;rcases hat hp with ⟨rfl,rfl⟩|⟨hne,hp'⟩
   . refine⟨?_,λ_=>hok s hs⟩;have h8:=hlive _ _ hp rfl;split at h8
     . rw[h8]at hs; cases hs
     . obtain⟨us,rest,h9,h10⟩:=h8;obtain⟨q,hq⟩:=Vy hs;obtain⟨u,_,h11⟩:=h10.get hq;exact h11.under
   . have:=hS.bel i p hp' s hs;exact⟨by show s.under (S.H.set j _).length=true; simpa using this.1,this.2⟩
 . intro i i' p p' b hp hp' hw hw' hρ hρ';have key:∀ {i:Nat} {p:AO},(S.H.set j ⟨cs,o.ty,o.ver,true⟩)[i]? = some p->p.own=true->∃ q,S.H[i]? = some q/\q.own=true:=by
    intro i p hp hw;rcases hat hp with ⟨rfl,rfl⟩|⟨_,hp⟩
    . exact⟨o,ho,AO.own_live hl⟩
    . exact⟨p,hp,hw⟩
   obtain⟨q,h1,h2⟩:=key hp hw;obtain⟨q',h3,h4⟩:=key hp' hw';exact hS.inj i i' q q' b h1 h3 h2 h4 hρ hρ'
 . intro i p hp hpl hne;rcases hat hp with ⟨rfl,rfl⟩|⟨_,hp⟩
   . cases hpl
   . obtain⟨l,x,m,us,env,k1,k2,k3,k4,k6⟩:=hS.lp i p hp hpl hne;exact⟨l,x,m,us,env,k1,k2,k3,k4,k6.ext he⟩
theorem QmB (hS:Sim S) {j:Nat} {o:AO} (ho:S.H[j]? = some o) (hl:o.live=true) {cs:ZH} (hok:QD cs) (hc:∀ us,VRs S o.cells us->∃ k,VRs S cs (us.take k)) :
 Sim ⟨S.ρ,S.H.set j ⟨cs,o.ty,o.ver,true⟩,S.w⟩:=Qoi hS ho hl hok λus _ h=>hc us h
end
def Qaw (env:Env) (H:ZG) (env':Env) (H':ZG):Prop :=
 ∀ (S:St) (tmps:Array Value),S.H=H->Sim S->QJ S env tmps->∃ ρ',Ext S.H.length S ⟨ρ',H',S.w⟩/\Sim ⟨ρ',H',S.w⟩/\QJ ⟨ρ',H',S.w⟩ env' tmps
theorem LI.tell {P:ZL} {N:Nat} {D:Array Oper->List Nat->List Ins->Bool} {i:IC} {env env':Env} {H H':ZG} {K:ZF} (ht:Qaw env H env' H')
 (h:LI P N D i env' H' K):LI P N D i env H K:=by
 intro c hc db S a hH hS he hN hd;obtain⟨ρ',h1,h2,h3⟩:=ht S a.tmps hH hS he;exact QjB (h c hc db ⟨ρ',H',S.w⟩ a rfl h2 h3 hN (hd.ext hS h1)) λe a w hp=>Qaz.trans h1 hp
theorem Qaw.own0 {env:Env} {H:ZG} {j p:Nat} {o:AO} (ho:H[j]? = some o) (hl:o.live=true) (hp:o.cells[p]? = some (.val (.slice none 0 0))) (T:ZK) (sz:Nat) :
 Qaw env H env (H.set j ⟨o.cells.set p (.own H.length 0 0 sz 0),o.ty,o.ver,true⟩++[⟨[],T,0,true⟩]):=by
 intro S tmps hH hS he;subst hH;have h1:=Qhd S T;have h2:=QkZ hS T;have hj:=Ql ho;have ho':(S.newNil T).H[j]? = some o:=by show(S.H++_)[j]? = _; rw[Vc hj]; exact ho
 have hn:(S.newNil T).H[S.H.length]? = some ⟨[],T,0,true⟩:=by show(S.H++_)[S.H.length]? = _; simp
 have hval:VR (S.newNil T) (.own S.H.length 0 0 sz 0) (.slice none 0 0):=by
  refine .own _ _ _ _ _ none 0 _ hn (Vb _) (Vb _) (λ_=>rfl) λ_ => ?_;unfold St.OwnAt;have:(S.newNil T).ρ S.H.length=none:=QaZ _ _ _;rw[this]; exact⟨rfl,rfl⟩
 have hcell:QD (o.cells.set p (.own S.H.length 0 0 sz 0)):=by
  intro s hs;rcases Y2 hs with h|rfl
  . exact(hS.bel j o ho s h).2 hl
  . rfl
 have h3:=QgJ ho' hl (o.cells.set p (.own S.H.length 0 0 sz 0));have h4:=QmB h2 ho' hl hcell (λus hus=>⟨us.length,by
  rw[VI];obtain⟨u,hu1,hu2⟩:=hus.get hp;have:u=.slice none 0 0:=by cases hu2; rfl
  subst this;have:=hus.set p hval;have e:us.set p (.slice none 0 0)=us:=by
   apply V5;intro i;rw[YA];split
   . rename_i e; subst e;split
     . exact hu1.symm
     . rename_i hlt; rw[VP (by omega)]
   . rfl
  rw[e]at this; exact this⟩)
 have e:(S.newNil T).H.set j ⟨o.cells.set p (.own S.H.length 0 0 sz 0),o.ty,o.ver,true⟩=S.H.set j ⟨o.cells.set p (.own S.H.length 0 0 sz 0),o.ty,o.ver,true⟩++[⟨[],T,0,true⟩]:=by
  show(S.H++_).set j _=_;rw[Vm _ _ hj]
 rw[e]at h3 h4;exact⟨_,h1.trans (h3.mono (by simp[St.newNil])),h4,(he.ext h1).ext h3⟩
theorem Qaw.trunc {env:Env} {H:ZG} {j:Nat} {o:AO} (ho:H[j]? = some o) (hl:o.live=true) (k:Nat):Qaw env H env (H.set j ⟨o.cells.take k,o.ty,o.ver,true⟩):=by
 intro S tmps hH hS he;subst hH;have h3:=QgJ ho hl (o.cells.take k);exact⟨_,h3,QmB hS ho hl (λs hs=>(hS.bel j o ho s (Yj hs)).2 hl) (λus hus=>⟨k,hus.take k⟩),he.ext h3⟩
theorem Qaw.give {env:Env} {H0 L:ZG} (hcl:closed H0) (k d:Nat) {o:AO} (ho:L[k]? = some o) (hl:o.live=true) :
 Qaw env (H0++L) (env.map λp=>(p.1,p.2.gv (H0.length+k) o.ver o.cells d)) (H0++(L.set k o.dead).map (AO.gv (H0.length+k) o.ver o.cells d)):=by
 intro S tmps hH hS he;refine⟨_,Qk4 hH ho,Qvs hS hH hcl ho hl,⟨λt => ?_⟩⟩;rw[Qto env (SV.gv (H0.length+k) o.ver o.cells d) (Qqg _ _ _ _)];exact Qm6 hS hH ho hl _ _ (he.get t)
end
section
variable [QR] [QP] [Qv]
def rws {α:Type} (f:α->ZH):List α->ZH
 |[]=>[]
 |x::r=>f x++rws f r
section
variable {α:Type} {f:α->ZH} {sz:Nat}
theorem Qil (a b:List α):rws f (a++b)=rws f a++rws f b:=by
 induction a with
 |nil=>rfl
 |cons x r ih=>simp[rws,ih]
theorem Qa8 (hf:∀ x,(f x).length=sz) (l:List α):(rws f l).length=l.length*sz:=by
 induction l with
 |nil=>simp[rws]
 |cons x r ih=>simp only[rws,Vj,hf,ih,Vh]; rw[YG]; omega
theorem Qw3 (hf:∀ x,(f x).length=sz) (l:List α) (k:Nat) (hk:k<=l.length):(rws f l).drop (k*sz)=rws f (l.drop k):=by
 have e:rws f l=rws f (l.take k)++rws f (l.drop k):=by rw[<-Qil,Ym]
 have h:(rws f (l.take k)).length=k*sz:=by rw[Qa8 hf,YR,Nat.min_eq_left hk]
 rw[e,YY (by omega),VS (by omega),VA]
theorem Qeg (hf:∀ x,(f x).length=sz) {l:List α} {k:Nat} (hk:k<l.length):(rws f l).drop (k*sz)=f l[k]++rws f (l.drop (k+1)):=by
 rw[Qw3 hf l k (by omega),VT hk]; rfl
theorem QeU {n:Nat} (h:∀ x,SV.underL n (f x)=true) (l:List α):SV.underL n (rws f l)=true:=by
 induction l with
 |nil=>rfl
 |cons x r ih=>rw[rws,SV.underL_append,h,ih]; rfl
end
theorem QcZ {H:ZG} {j:Nat} {o:AO} (h:H[j]? = some o):H.set j o=H:=by
 apply V5;intro i;rw[YA]; split
 . rename_i e; subst e; rw[Zo (Ql h),h]
 . rfl
def SV.le (s s':SV):Prop:=∀ (S:St) (v:Value),VR S s v->VR S s' v
theorem SV.le.refl (s:SV):s.le s:=λ_ _ h=>h
theorem QdV:SV.le (.val (.slice none 0 0)) (.slc [] 0):=by
 intro S v h; cases h; exact .nilslc
def leL (l l':ZH):Prop:=l.length=l'.length/\∀ (j:Nat) (s s':SV),l[j]? = some s->l'[j]? = some s'->s.le s'
theorem leL.nil:leL [] []:=⟨rfl,λj s s' h=>by simp at h⟩
theorem leL.cons {s s':SV} {l l':ZH} (h:s.le s') (hl:leL l l'):leL (s::l) (s'::l'):=by
 refine⟨by simp[hl.1],λj a b h1 h2 => ?_⟩
 cases j with
 |zero=>simp at h1 h2; subst h1 h2; exact h
 |succ j=>simp at h1 h2; exact hl.2 j a b h1 h2
theorem leL.vrs {S:St} {l l':ZH} {us:ZI} (h:leL l l') (hv:VRs S l us):VRs S l' us:=by
 refine⟨by rw[hv.1,h.1],λj s u h1 h2 => ?_⟩;have hj:j<l.length:=by rw[h.1]; rcases Vs j l'.length with h3|h3; exact h3; rw[VP h3]at h1; cases h1
 exact h.2 j _ _ (Ve hj) h1 S u (hv.2 j _ u (Ve hj) h2)
theorem QlK {l l':ZH} (h:leL l l') (n:Nat):SV.le (.slc l n) (.slc l' n):=by
 intro S v hv
 cases hv with
 |nilslc =>
  have:l'=[]:=VJ (by rw[<-h.1]; rfl);subst this; exact .nilslc
 |slc _ _ a cap us hc hl hi hh =>
  have:=h.vrs ⟨hl,hh⟩;exact .slc _ _ a cap us hc this.1 hi this.2
theorem Qga {l l':ZH} (h:leL l l'):SV.le (.agg l) (.agg l'):=by
 intro S v hv
 cases hv with
 |agg _ us hl hh=>have:=h.vrs ⟨hl,hh⟩; exact .agg _ _ this.1 this.2
theorem OkP.le {P:ZL} {f:ZN} {args args':ZH} {H:ZG} {Pt:Out->ZG->Prop} (hle:leL args args') (h:OkP P f args' H Pt):OkP P f args H Pt :=
 ⟨h.1,λS vs hH hS hv=>h.2 S vs hH hS (hle.vrs hv)⟩
@[simp] theorem QE6 (o:AO) (r:ZG) (a b k ver:Nat):Qo (o::r) (a+(b+(k+1))) ver=Qo r (a+(b+k)) ver:=Qxo o r (a+(b+k)) ver
theorem LI.cong {P:ZL} {N:Nat} {D:Array Oper->List Nat->List Ins->Bool} {i:IC} {env:Env} {H H':ZG} {K:ZF} (e:H'=H) (h:LI P N D i env H' K):LI P N D i env H K:=by rw[<-e]; exact h
theorem OkP.cast {P:ZL} {f:ZN} {args args':ZH} {H H':ZG} {Pt:Out->ZG->Prop} (ha:args=args') (hH:H=H') (h:OkP P f args' H' Pt):OkP P f args H Pt:=by subst ha hH; exact h
theorem Qh5 {α:Type} (a b:List α) (k:Nat) (x:α):(a++b).set (a.length+k) x=a++b.set k x:=by rw[Yf _ _ (by omega)]; simp
theorem QpH {α:Type} (a b:List α) (k:Nat):(a++b)[a.length+k]? = b[k]? := by rw[Vl (by omega)]; simp
theorem Cv.le {n0:Nat} {r1 r r':SV} {H1 H':ZG} (h:Cv n0 r1 H1 r H') (hle:r.le r'):Cv n0 r1 H1 r' H':=by
 intro S v hS hsim hv;obtain⟨ρ,h1,h2,h3⟩:=h S v hS hsim hv;exact⟨ρ,h1,h2,hle _ _ h3⟩
theorem Qds.one {H0 L:ZG} {ks:List Nat} {d j:Nat} {o:AO} (hu:∀ (i:Nat) (o:AO),i≠j->H0[i]? = some o->∀ s∈o.cells,s.under H0.length=true) (ho:H0[j]? = some o) (hl:o.live=true)
 (hc:QD (o.cells.map (SV.fz H0.length ks L d))):Qds H0 (H0.set j ⟨o.cells.map (SV.fz H0.length ks L d),o.ty,o.ver,true⟩) L ks d:=by
 refine⟨by simp,λi o' h => ?_⟩;by_cases e:i=j
 . subst e;rw[Vo (Ql ho)]at h; cases h
   exact .inr ⟨o,(o.cells.map (SV.fz H0.length ks L d)).length,ho,hl,by rw[VI],hc⟩
 . rw[Vf (by omega)]at h;exact .inl ⟨h,hu i o' e h⟩
end
end Go.Ab
namespace Go.Ab
variable [QR] [QP] [Qv]
namespace IsL
variable {α:Type} {f:α->SV} {H:ZG} {x:SV} {l:List α}
end IsL
def u8 (n:Int):SV:=.val (.int .u8 n)
@[simp] theorem u8_eq (n:Int):SV.val (.int .u8 n)=u8 n:=rfl
section
variable (n:Int)
@[simp] theorem isI_u8 (k:IntKind):SV.isI k (u8 n)=decide (IntKind.u8=k):=rfl
@[simp] theorem isN_u8:SV.isN (u8 n)=true:=rfl
@[simp] theorem int_u8:SV.int (u8 n)=n:=rfl
@[simp] theorem ug_u8:SV.ug (u8 n)=u8 n:=rfl
@[simp] theorem vd_u8:SV.vd (u8 n)=true:=rfl
@[simp] theorem QCX:SV.isCell (u8 n)=true:=rfl
@[simp] theorem QEq:SV.flat (u8 n)=[u8 n]:=rfl
@[simp] theorem QFY:SV.isPt (u8 n)=false:=rfl
@[simp] theorem QEz:SV.isAg (u8 n)=false:=rfl
@[simp] theorem QDG:SV.isTu (u8 n)=false:=rfl
@[simp] theorem QGl (m:Nat):SV.under m (u8 n)=true:=rfl
@[simp] theorem gv_u8 (k ver:Nat) (cs:ZH) (d:Nat):SV.gv k ver cs d (u8 n)=u8 n:=by cases d<;>rfl
@[simp] theorem QEH:(u8 n).strip=u8 n:=rfl
end
theorem OkP.tell {P:ZL} {f:ZN} {args:ZH} {H H':ZG} {Pt:Out->ZG->Prop} (ht:Qaw [] H [] H') (hl:H.length<=H'.length) (h:OkP P f args H' Pt):OkP P f args H Pt:=by
 refine⟨h.1,?_⟩;intro S vs hH hS hvs;obtain⟨ρ',h1,h2,_⟩:=ht S #[] hH hS ⟨λt=>.any _⟩;have h3:=h.2 ⟨ρ',H',S.w⟩ vs rfl h2 (hvs.ext h1);refine h3.mono ?_;rintro en w' ⟨out,H2,v,ρ2,hp,hext,hsim,hout⟩;exact⟨out,H2,v,ρ2,hp,h1.trans (hext.mono (by subst hH; exact hl)),hsim,hout⟩
theorem QhY {P:ZL} {N:Nat} (hm:P.follows .mixedOrders=true) {i kk:Nat} {ps:List Nat} {ia ib ia' ib':IC} {env:Env} {args:ZH} {H:ZG} {Pt:Out->ZG->Prop} (hia:ia=ia') (hib:ib=ib')
 (ho:H[i]? = some (lpo P N Qf kk ps ia ib (env.vals N) .ready)) (he:(env.all λp=>decide (p.1<N))=true) (hp:(ps.all λp=>decide (p<N))=true) (hl:args.length=ps.length)
 (hx:closed H->X P N Qf ia' (env.puts ps args) H λx env1 H1=>x=.normal/\∃ cs,H1[i]? = some (lpo P N Qf kk ps ia ib cs .ready)/\X P N Qf ib' env1 (H1.set i (lpo P N Qf kk ps ia ib cs .busy)) (Qoa P N kk ps ia ib i H.length Pt)) :
 YlP P i args H Pt:=by
 subst hia hib;exact Qwf hm ho he hp hl hx
theorem Qhy {n0:Nat} {v:SV} {H1 H':ZG} (h:H1=H'):Cv n0 v H1 v H':=by subst h; exact Qj
theorem Qj9 {l l':ZH} (h:leL l l'):SV.le (.tup l) (.tup l'):=by
 intro S v hv
 cases hv with
 |tup _ us hl hh=>have:=h.vrs ⟨hl,hh⟩; exact .tup _ _ this.1 this.2
@[simp] theorem QAg (H L:ZG) (j:Nat) (o:AO) (k ver:Nat):Qo (H.set j o++L) (H.length+k) ver=Qo L k ver:=by
 have:=QfX (H:=H.set j o) (L:=L) (k:=k) (ver:=ver); simpa using this
@[simp] theorem QGz (H L:ZG) (j:Nat) (o:AO) (ver:Nat):Qo (H.set j o++L) H.length ver=Qo L 0 ver:=QAg H L j o 0 ver
theorem QwX (A B:ZG) (k:Nat) (f:AO->AO):setObj (A++B) (A.length+k) f=A++setObj B k f:=by
 unfold setObj;rw[QpH]
 cases h:B[k]? with
 |none=>rfl
 |some o=>simp only; rw[Qh5]
@[simp] theorem Qzb (H L:ZG) (j:Nat) (o:AO) (k:Nat) (f:AO->AO):setObj (H.set j o++L) (H.length+k) f=H.set j o++setObj L k f:=by
 have:=QwX (H.set j o) L k f; simpa using this
@[simp] theorem QHq (H L:ZG) (j:Nat) (o:AO) (f:AO->AO):setObj (H.set j o++L) H.length f=H.set j o++setObj L 0 f:=Qzb H L j o 0 f
@[simp] theorem QBj {α:Type} (H L:List α) (j:Nat) (o:α) (k:Nat):(H.set j o++L)[H.length+k]? = L[k]? := by
 have:=QpH (H.set j o) L k; simpa using this
@[simp] theorem QFG (H L:ZG) (j:Nat) (o:AO) (k ver:Nat) (T:ZK) (m:Nat):QbB (H.set j o++L) (H.length+k) ver T m=QbB L k ver T m:=by
 unfold QbB; rw[QBj]
theorem Qfj {H:ZG} (hcl:closed H) (j:Nat) {o:AO} (hu:SV.underL H.length o.cells=true):closed (H.set j o):=by
 intro i p hp s hs;rw[Yc];by_cases e:j=i
 . subst e;have hj:=Ql hp;rw[Vo (by simpa using hj)]at hp
   cases hp
   exact(SV.underL_iff _ _).1 hu s hs
 . rw[Vf e]at hp;exact hcl i p hp s hs
end Go.Ab
namespace Go.Ab
section
variable [QR] [QP] [Qv]
section
variable {P:ZL}
theorem Qqo {n0 D:Nat} {w w':ZM} (h1:n0<=D) (h2:w.heap[D]? = some (Obj.deferred (some []))) (ht:QeC n0 (w.putObj D (.deferred none)) w'):QeC n0 w w':=by
 refine⟨by rw[ht.size]; simp,λk => ?_,ht.os,ht.tape,ht.output⟩;by_cases hk:k=D
 . subst hk;right;refine⟨h1,h2,?_⟩;rcases ht.at_ k with h3|⟨_,h3,h4⟩
   . exact h3.trans (World.putObj_heap_same (QcU h2))
   . exact h4
 . rcases ht.at_ k with h3|⟨h3,h4,h5⟩
   . exact .inl (h3.trans (World.putObj_heap_other hk))
   . exact .inr ⟨h3,(World.putObj_heap_other hk).symm.trans h4,h5⟩
theorem QpA (n0:Nat) (w:ZM):QeC n0 w w:=⟨rfl,λ_=>.inl rfl,rfl,rfl,rfl⟩
theorem Qr4 {n0:Nat}:∀ (ms:List Nat) (w:ZM) (fr:Frame) (cs:List Frame),fr.mode≠.run->fr.defers=ms.map QcD->ms.Nodup->(∀ D∈ms,n0<=D/\w.heap[D]? = some (Obj.deferred (some []))) ->
 ∃ w',QeC n0 w w'/\StepsIn (Machine.fenced P (Fr none)) P (lone fr cs w) (lone { fr with defers:=[] } cs w')
 |[],w,fr,cs,hm,hd,_,_=>by
  refine⟨w,QpA _ _,?_⟩;have:({ fr with defers:=[] }:Frame)=fr:=by cases fr; simp_all
  rw[this];exact StepsIn.refl _
 |D::ms,w,fr,cs,hm,hd,hnd,hms=>by
  rw[Y0]at hnd;obtain⟨h1,h2⟩:=hms D (by simp);have hs:=step_collected (P:=P) (cs:=cs) (d:=QcD D) (ds:=ms.map QcD) hm hd rfl (run_takeDeferred h2);have i1:(lone fr cs w).fenced P (Fr none):=fenced_out (n:=0) trivial (Qhl _ _) hm hd (λg hg=>trivial);obtain⟨w',ht,hst⟩:=Qr4 ms (w.putObj D (.deferred none)) { fr with defers:=ms.map QcD } cs hm rfl hnd.2 (λD' hD'=>by
   refine⟨(hms D' (by simp[hD'])).1,?_⟩;have hne:D'≠D:=λe=>hnd.1 (e ▸ hD');exact(World.putObj_heap_other hne).trans (hms D' (by simp[hD'])).2)
  exact⟨w',Qqo h1 h2 ht,.head i1 hs hst⟩
def MD (S:St):Option SV->FrameMode->Prop
 |none,u=>u=.returning
 |some x,u=>∃ v,u=.panicking [{ v:=v,recovered:=false }]/\VR S x v
def rvD:Option SV->SV
 |none=>.val .nilIface
 |some x=>x
def OkD (P:ZL) (f:ZN) (args:ZH) (H:ZG) (m:Option SV) (Pt:ZG->Prop):Prop :=
 (∀ (vs:Array Value) (w:ZM),(callFunc f vs).run P w=.ok (.enter f vs) w) /\
 ∀ (S:St) (vs:ZI) (u:FrameMode),S.H=H->Sim S->VRs S args vs->MD S m u ->
  CallsDIn (Fr none) 0 P f vs.toArray u S.w λe u' w'=>∃ (v:Value) (H':ZG) (ρ':Nat->Option Nat),e=.returned v/\settle u'=.returning/\Pt H'/\Ext S.H.length S ⟨ρ',H',w'⟩/\Sim ⟨ρ',H',w'⟩
theorem Qyr {o:Oper} (ho:o.op=.call { callee:=.builtin .recover,args := #[],argTypes := #[] }) (ρ:Operand->Value) (w:ZM):(execOp ρ o).run P w=.ok .recover w:=by
 simp[execOp,ho,resolve,invoke,builtin]
variable {D:Array Oper->List Nat->List Ins->Bool}
theorem QvE (hD:DOk P D) {f:ZN} {fn:Func} {rid d:Nat} {ops:Array Oper} {o:Oper} {c2:Code} {insR:List Ins} {i2:IC} {args:ZH} {H:ZG} {m:Option SV} {Pt:ZG->Prop}
 (hf : P.funcs[f]? = some fn) (hb : fn.body = some (.seq (.region rid ops false) c2)) (hname : (fn.name == "runtime.NumGoroutine") = false) (hn : args.length <= fn.ntmps) (hr : Qcv P fn.results.toList [] = true)
 (hop:ops[0]? = some o) (ho:o.op=.call { callee:=.builtin .recover,args := #[],argTypes := #[] }) (hg:o.guard=none) (hdst:o.dst=some d) (hd:d<fn.ntmps) (hnd:ndB ops=true)
 (hl:chkL P fn.ntmps ops (ops.toList.drop 1) insR=true) (hc:Q2 P fn.ntmps D c2 i2=true)
 (hx:closed H->QbK P insR ((Qcl args).put (some d) (rvD m)) H λx env H1=>x=.normal/\X P fn.ntmps D i2 env H1 λx _ H2=>(x=.normal\/x=.ret)/\∃ H',Pt H'/\Cv H.length (.tup []) H2 (.tup []) H'):OkD P f args H m Pt:=by
 refine⟨λvs w=>Go.MuLone.run_callFunc_enter hf hname hb vs w,?_⟩;intro S vs u hH hS hvs hmd;subst hH;refine⟨trivial,λc₀ cs hu hroom => ?_⟩;obtain⟨b,hbk,hbr,hbf,henter⟩:∃ b:Frame,b.kind=.deferred/\b.roundOf=none/\b.fn=f/\Frame.enter P f vs.toArray .deferred=b.atR { tmps:=vs.toArray++Array.replicate (fn.ntmps-vs.toArray.size) undef,defers:=[] } [.code (.seq (.region rid ops false) c2)] :=
  ⟨{ (default:Frame)with fn:=f,kind:=.deferred,roundOf:=none },rfl,rfl,rfl,by simp[Frame.enter,Frame.atR,hf,hb]⟩
 rw[henter];have hlen:vs.length=args.length:=hvs.1;generalize ha0:({ tmps:=vs.toArray++Array.replicate (fn.ntmps-vs.toArray.size) undef,defers:=[] }:Act)=a0;have hN0:a0.tmps.size=fn.ntmps:=by subst ha0; simp; omega
 have hd0:a0.defers=[]:=by subst ha0; rfl
 have he0:QJ S (Qcl args) a0.tmps:=by subst ha0; exact Qnq hvs _
 have t1:StepsIn (Machine.fenced P (Fr none)) P (lone (b.atR a0 [.code (.seq (.region rid ops false) c2)]) (c₀::cs) S.w) (lone (b.atR a0 (.inRegion ops (List.range ops.size)::[.code c2])) (c₀::cs) S.w) :=
  .head (Qhu rfl) stepR_seq (.one (Qhu rfl) stepR_region)
 have hsz:0<ops.size:=by
  rcases Vs 0 ops.size with h|h
  . exact h
  . rw[V1 h]at hop; cases hop
 have hrange:List.range ops.size=0::List.range' 1 (ops.size-1):=by
  rw[YU];obtain⟨k,hk⟩:∃ k,ops.size=k+1:=⟨ops.size-1,by omega⟩;rw[hk,YT]; simp
 rw[hrange]at t1;obtain⟨rv,u1,hstep,hset,hvr⟩:∃ (rv:Value) (u1:FrameMode),step P (lone (b.atR a0 (.inRegion ops (0::List.range' 1 (ops.size-1))::[.code c2])) (c₀::cs) S.w) =
  .next (lone (b.atR (a0.put o.dst rv) (.inRegion ops (List.range' 1 (ops.size-1))::[.code c2])) ({ c₀ with mode:=u1 }::cs) S.w)/\settle u1=.returning/\VR S (rvD m) rv:=by
  have hw:Region.wanted o (yielded ops a0.tmps)=true:=by simp[Region.wanted,hg]
  have hgs:=stepGR_op (P:=P) (b:=b) (a:=a0) (k:=[.code c2]) (cs:=c₀::cs) (w:=S.w) (rest:=List.range' 1 (ops.size-1)) hop hw;rw[hbr,Oper.semAt_none]at hgs;have hfin:∀ v,(b.atR a0 (.inRegion ops (0::List.range' 1 (ops.size-1))::[.code c2])).finish v=b.atR (a0.put o.dst v) (.inRegion ops (List.range' 1 (ops.size-1))::[.code c2]):=by
   intro v; rw[Frame.finish_atR,hop]; rfl
  have hk:(b.atR a0 (.inRegion ops (0::List.range' 1 (ops.size-1))::[.code c2])).kind=.deferred:=hbk;have htr:=tryRecover_deferred hk (c₀::cs);have hrun:=Qyr (P:=P) ho a0.eval S.w
  cases m with
  |none =>
   have hu':u=.returning:=hmd;subst hu';refine⟨.nilIface,.returning,?_,rfl,.val _⟩;have hc0:({ c₀ with mode:=.returning }:Frame)=c₀:=by cases c₀; simp_all
   rw[hc0];have hrec:recoverD (c₀::cs)=none:=by simp[recoverD,hu]
   refine step_lone_go ?_;rw[hgs,<- hfin];simp only[Frame.atR,hbr]at htr ⊢;simp[stepG.apply,hrun,htr,hrec]
  |some x =>
   obtain⟨v,rfl,hv⟩:=hmd;refine⟨v,.panicking [{ v:=v,recovered:=true }],?_,rfl,hv⟩;have hrec:recoverD (c₀::cs)=some (v,{ c₀ with mode:=.panicking [{ v:=v,recovered:=true }] }::cs):=by simp[recoverD,hu]
   refine step_lone_go ?_;rw[hgs,<- hfin];simp only[Frame.atR,hbr]at htr ⊢;simp[stepG.apply,hrun,htr,hrec]
 have t2:=t1.trans (.one (fenced_oper (n:=0) trivial (Qhl _ _) hop (λf _=>trivial)) hstep);generalize hcc:({ c₀ with mode:=u1 }::cs:List Frame)=cc at t2;have hlt':∀ t,o.dst=some t->t<a0.tmps.size:=by intro t ht; rw[hdst]at ht; cases ht; rw[hN0]; exact hd
 have he1:QJ S ((Qcl args).put (some d) (rvD m)) (a0.put o.dst rv).tmps:=by
  have:=he0.put hlt' hvr
  rwa [hdst]at this ⊢
 have hdb:(⟨S.w.heap.size,[],none⟩:DB).Ok S.w (a0.put o.dst rv).defers:=by
  rw[QiQ,hd0];exact⟨Vb _,⟨[],rfl,YI,λD hD=>by simp at hD⟩,λl h=>by cases h⟩
 have hwl:=QnA (d:=⟨S.w.heap.size,[],none⟩) (ops:=ops) (ops.toList.drop 1) insR hS he1 (by rw[Qis,hN0]) hdb hl (hx hS.closed);have hlen2:(ops.toList.drop 1).length=ops.size-1:=by simp
 have heq:=QsK (P:=P) (ops:=ops) (Q:=Qaz S fn.ntmps ⟨S.w.heap.size,[],none⟩ λx env H1=>x=.normal/\X P fn.ntmps D i2 env H1 λx _ H2=>(x=.normal\/x=.ret)/\∃ H',Pt H'/\Cv S.H.length (.tup []) H2 (.tup []) H') (ops.toList.drop 1) 1 (λj=>by rw[VW]; simp);rw[<-heq,hlen2]at hwl;obtain⟨e1,a1,w1,hq1,harr1⟩:=wp_opsIn _ _ _ (QmF hnd none _ _ _ hwl) b [.code c2] cc hbr trivial (Qhl _ _);obtain⟨x1,env1,ρ1,H1,g1,g2,g3,g4,g5,g6,hx1,g7⟩:=hq1;subst hx1
 cases e1<;>simp only[ER]at g1
 have t3:=t2.trans harr1;obtain⟨e2,a2,w2,hq2,harr2⟩:=Qev hD i2 hc g7 ⟨S.w.heap.size,[],none⟩ ⟨ρ1,H1,w1⟩ a1 rfl g3 g4 g5 g6 b [] cc hbr trivial (Qhl _ _);obtain⟨x2,env2,ρ2,H2,k1,k2,k3,k4,k5,k6,hx2,H',hpt,hcv⟩:=hq2;obtain⟨ms,m1,m2,m3⟩:=k6.ms;simp only[VE]at m1;have hfinal:∃ todo,StepsIn (Machine.fenced P (Fr none)) P (lone (b.atR a0 [.code (.seq (.region rid ops false) c2)]) (c₀::cs) S.w) (lone { b.atR a2 todo with mode:=.returning } cc w2):=by
  rcases hx2 with rfl|rfl
  . cases e2<;>simp only[ER]at k1
    exact⟨[],t3.trans (StepsIn.trans harr2 (.one (Qhu rfl) (stepR_end hbr)))⟩
  . cases e2<;>simp only[ER]at k1
    obtain⟨todo,hs⟩:=harr2.1 hbr;exact⟨todo,t3.trans hs⟩
 obtain⟨todo,t4⟩:=hfinal;obtain⟨w3,ht,t5⟩:=Qr4 (P:=P) (n0:=S.w.heap.size) ms w2 { b.atR a2 todo with mode:=.returning } cc (by simp) m1 m2 m3;have hS2:=Qe0 ht k3;have hE2:QJ ⟨ρ2,H2,w3⟩ env2 a2.tmps:=⟨λt=>(k4.get t).extV (Qer ht) (.inl rfl)⟩;obtain⟨v,h3,h4⟩:=Qk6 (P:=P) (S:=⟨ρ2,H2,w3⟩) (rs:=[]) hS2 hE2 hr (λs hs=>by simp at hs);obtain⟨ρ',h5,h6,_⟩:=hcv ⟨ρ2,H2,w3⟩ v rfl hS2 h4;subst hcc;refine⟨.returned v,u1,w3,_,⟨v,H',ρ',rfl,hset,hpt,?_,h6⟩,t4.trans t5,hbk,hbf,rfl,rfl,fn,by rw[show({ b.atR a2 todo with mode:=.returning,defers:=[] }:Frame).fn=f from hbf]; exact hf,h3⟩;exact(Qg7 ht (g2.trans (k2.mono (g2.len (Vb _)))) (Vb _)).trans h5
theorem Qqn {fn:Func} {tmps:Array Value} {R:Ending->ZM->Prop} {n0:Nat} {u:FrameMode} {ds:List Deferred} (hu:u≠.run):∀ (ms:List Nat) (w:ZM),ms.Nodup->(∀ D∈ms,n0<=D/\w.heap[D]? = some (Obj.deferred (some []))) ->
 (∀ w',QeC n0 w w'->LeavesInM (Fr none) 0 P fn tmps R ds u w')->LeavesInM (Fr none) 0 P fn tmps R (ms.map QcD++ds) u w
 |[],w,_,_,h=>h w (QpA _ _)
 |D::ms,w,hnd,hms,h=>by
  rw[Y0]at hnd;obtain⟨h1,h2⟩:=hms D (by simp);refine⟨hu,.inl ⟨D,_,rfl,run_takeDeferred h2,?_⟩⟩;refine Qqn hu ms _ hnd.2 (λD' hD'=>⟨(hms D' (by simp[hD'])).1,?_⟩) λw' ht=>h w' (Qqo h1 h2 ht);have hne:D'≠D:=λe=>hnd.1 (e ▸ hD');exact(World.putObj_heap_other hne).trans (hms D' (by simp[hD'])).2
def Qhi (P:ZL) (n0:Nat) (rs:List RS) (Pt:Out->ZG->Prop) (k:ZN) (cap:ZH) (x:XE) (env:Env) (H1:ZG):Prop :=
 match x with
 |.normal=>∃ Pd,OkD P k cap H1 none Pd/\∀ H4,Pd H4->(∀ s∈rs,s.side env H4)/\Qdm n0 Pt (Qa7 env H4 rs) H4
 |.ret=>∃ Pd,OkD P k cap H1 none Pd/\∀ H4,Pd H4->(∀ s∈rs,s.side env H4)/\Qdm n0 Pt (Qa7 env H4 rs) H4
 |.panic y=>∃ Pd,OkD P k cap H1 (some y) Pd/\∀ H4,Pd H4->(∀ s∈rs,s.side env H4)/\Qdm n0 Pt (Qa7 env H4 rs) H4
 |_=>False
end
def Qlr (P:ZL) (D:Array Oper->List Nat->List Ins->Bool) (fn:Func) (d:Nat) (insR:List Ins) (i2:IC):Bool :=
 (match fn.body with
  |some (.seq (.region _ ops false) c2) =>
    (match ops.toList with
     |o::r=>(match o.op with|.call { callee:=.builtin .recover,args:=as,argTypes:=ts }=>as.isEmpty&&ts.isEmpty|_=>false)&&(o.guard.isNone&&(o.dst==some d&&(decide (d<fn.ntmps)&&(ndB ops&&(chkL P fn.ntmps ops r insR&&Q2 P fn.ntmps D c2 i2)))))
     |_=>false)
  | _ => false) && !(fn.name == "runtime.NumGoroutine") && Qcv P fn.results.toList [] && decide (fn.params.size + fn.nfree <= fn.ntmps)
theorem Qkc {P:ZL} (hm:P.follows .mixedOrders=true) {f:ZN} {fn:Func} {d:Nat} {insR:List Ins} {i2:IC} (hf:P.funcs[f]? = some fn) (hc:Qlr P Qf fn d insR i2=true)
 {args:ZH} {H:ZG} {m:Option SV} {Pt:ZG->Prop} (hn:args.length=fn.params.size+fn.nfree)
 (hx:closed H->QbK P insR ((Qcl args).put (some d) (rvD m)) H λx env H1=>x=.normal/\X P fn.ntmps Qf i2 env H1 λx _ H2=>(x=.normal\/x=.ret)/\∃ H',Pt H'/\Cv H.length (.tup []) H2 (.tup []) H'):OkD P f args H m Pt:=by
 unfold Qlr at hc;rw[Va,Va,Va]at hc;obtain⟨⟨⟨h1,h2⟩,h3⟩,h4⟩:=hc;split at h1
 . rename_i rid ops c2 hb;split at h1
   . rename_i o r hops;simp only[Va,Zr,Zq]at h1;obtain⟨k1,k2,k3,k4,k5,k6,k7⟩:=h1;split at k1
     . rename_i as ts ho;simp only[Va,Array.isEmpty_iff]at k1;obtain⟨rfl,rfl⟩:=k1;have h0:ops[0]? = some o:=by rw[<-YZ,hops]; rfl
       refine QvE (Qb1 hm) hf hb (by simpa using h2) (by rw[hn]; simpa using h4) h3 h0 ho (by simpa using k2) k3 k4 k5 ?_ k7 hx;rw[hops]; exact k6
     . cases k1
   . cases h1
 . cases h1
end
section
variable [QR] [QP] [Qv]
section
variable {P:ZL} {D:Array Oper->List Nat->List Ins->Bool}
theorem Qvp (hD:DOk P D) {fn:Func} {cb:Code} {rid:Nat} {o1 od:Oper} {f':Operand} {fo:Od} {ib:IC} {ins1:Ins} {rs:List RS} {Pt:Out->ZG->Prop}
 (hr:Qcv P fn.results.toList rs=true)
 (ho1:QdR P fn.ntmps #[o1,od] o1 ins1=true) (hnd1:∀ c,o1.op≠.defer c) (hod:od.op=.defer { callee:=.value f',args := #[],argTypes := #[] }) (hog:od.guard=none) (hdst:od.dst=none) (hfo:Qy f' fo=true)
 (hcb:Q2 P fn.ntmps D cb ib=true) {S:St} {a1:Act} {w1:ZM} {env1:Env} {ρ1:Nat->Option Nat} {H1:ZG}
 (g2:Ext S.H.length S ⟨ρ1,H1,w1⟩) (g3:Sim ⟨ρ1,H1,w1⟩) (g4:QJ ⟨ρ1,H1,w1⟩ env1 a1.tmps) (g5:a1.tmps.size=fn.ntmps) (g6:(⟨S.w.heap.size,[],none⟩:DB).Ok w1 a1.defers)
 (g7:xo P ins1 env1 H1 λx env2 H2=>x=.normal/\(env2.ev fo).vd=true/\∃ k cap,(env2.ev fo).ug=.fn (.func k) [] cap/\X P fn.ntmps D ib env2 H2 (Qhi P S.H.length rs Pt k cap)) :
 (Code.seq (.region rid #[o1,od] false) cb).wpIn (Fr none) 0 P (bodyPostM (Fr none) 0 P fn (λe w'=>∃ (out:Out) (H':ZG) (v:Value) (ρ':Nat->Option Nat),Pt out H'/\Ext S.H.length S ⟨ρ',H',w'⟩/\Sim ⟨ρ',H',w'⟩ /\
  match out with
  |.ret r=>e=.returned v/\VR ⟨ρ',H',w'⟩ r v
  |.pan x=>e=.panicked [{ v:=v,recovered:=false }]/\VR ⟨ρ',H',w'⟩ x v)) a1 w1:=by
 refine wpIn_seq ?_;refine wpIn_region ?_;have hstep:=QhJ (d:=⟨S.w.heap.size,[],none⟩) (N:=fn.ntmps) g3 g4 g5 g6 (ops := #[o1,od]) ho1 g7
  (next:=wpOpsIn (Fr none) 0 P #[o1,od] (Exit.then (cb.wpIn (Fr none) 0 P (bodyPostM (Fr none) 0 P fn λe w'=>∃ (out:Out) (H':ZG) (v:Value) (ρ':Nat->Option Nat),Pt out H'/\Ext S.H.length S ⟨ρ',H',w'⟩/\Sim ⟨ρ',H',w'⟩ /\
   match out with
   |.ret r=>e=.returned v/\VR ⟨ρ',H',w'⟩ r v
   |.pan x=>e=.panicked [{ v:=v,recovered:=false }]/\VR ⟨ρ',H',w'⟩ x v)) (bodyPostM (Fr none) 0 P fn λe w'=>∃ (out:Out) (H':ZG) (v:Value) (ρ':Nat->Option Nat),Pt out H'/\Ext S.H.length S ⟨ρ',H',w'⟩/\Sim ⟨ρ',H',w'⟩ /\
   match out with
   |.ret r=>e=.returned v/\VR ⟨ρ',H',w'⟩ r v
   |.pan x=>e=.panicked [{ v:=v,recovered:=false }]/\VR ⟨ρ',H',w'⟩ x v)) [1])
  (Q:=Exit.then (cb.wpIn (Fr none) 0 P (bodyPostM (Fr none) 0 P fn λe w'=>∃ (out:Out) (H':ZG) (v:Value) (ρ':Nat->Option Nat),Pt out H'/\Ext S.H.length S ⟨ρ',H',w'⟩/\Sim ⟨ρ',H',w'⟩ /\
   match out with
   |.ret r=>e=.returned v/\VR ⟨ρ',H',w'⟩ r v
   |.pan x=>e=.panicked [{ v:=v,recovered:=false }]/\VR ⟨ρ',H',w'⟩ x v)) (bodyPostM (Fr none) 0 P fn λe w'=>∃ (out:Out) (H':ZG) (v:Value) (ρ':Nat->Option Nat),Pt out H'/\Ext S.H.length S ⟨ρ',H',w'⟩/\Sim ⟨ρ',H',w'⟩ /\
   match out with
   |.ret r=>e=.returned v/\VR ⟨ρ',H',w'⟩ r v
   |.pan x=>e=.panicked [{ v:=v,recovered:=false }]/\VR ⟨ρ',H',w'⟩ x v)) ?_ ?_
 . -- the two operations
   show wpOpsIn (Fr none) 0 P #[o1,od] _ [0,1] a1 w1;simp only[wpOpsIn];have e0:(#[o1,od]:Array Oper)[0]? = some o1:=rfl;simp only[e0];unfold Qgg at hstep;split
   . rename_i hw;rw[Zo hw]at hstep;exact⟨λ_ _=>trivial,hstep⟩
   . rename_i hw;rw[Zn hw]at hstep;exact⟨λ_ _=>trivial,hstep⟩
 . -- the deferred call is laid down; the rest
   rintro a2 w2 ⟨x2,env2,ρ2,H2,k1,k2,k3,k4,k5,k6,hx2,hvd,k,cap,hug,k7⟩;subst hx2;have hfv:=(QA hfo k4).ug hvd;rw[hug]at hfv;obtain⟨us,cs,hv,hus,hcs⟩:=hfv.fn_inv;have hus0:us=[]:=by have:=hus.1; simpa using this
   subst hus0;obtain⟨ms1,m1,m2,m3⟩:=k6.ms;simp only[VE]at m1;simp only[wpOpsIn];have e1:(#[o1,od]:Array Oper)[1]? = some od:=rfl;simp only[e1];have hw:Region.wanted od (yielded #[o1,od] a2.tmps)=true:=by simp[Region.wanted,hog]
   rw[Zo hw];refine⟨λ_ _=>trivial,?_⟩;have hrun:(od.semAt (Fr none).round a2.eval).run P w2=.ok (.defer { target:=.fn (.func k) cs.toArray,args := #[] }) w2:=by
    show(od.semAt none a2.eval).run P w2=_;rw[Oper.semAt_none];simp[execOp,hod,resolve,hv,Deferred.ofValue]
   rw[hrun,Oper.uponIn_defer];have hput:({ a2 with defers:={ target:=.fn (.func k) cs.toArray,args := #[] }::a2.defers }:Act).put od.dst undef={ a2 with defers:={ target:=.fn (.func k) cs.toArray,args := #[] }::a2.defers }:=by rw[hdst]; rfl
   rw[hput];show cb.wpIn _ _ _ _ _ _;have hwb:=Qev hD ib hcb k7 ⟨w2.heap.size,{ target:=.fn (.func k) cs.toArray,args := #[] }::ms1.map QcD,none⟩ ⟨ρ2,H2,w2⟩ { a2 with defers:={ target:=.fn (.func k) cs.toArray,args := #[] }::a2.defers } rfl k3 k4 k5 ⟨Vb _,⟨[],by simp[m1],YI,λD hD=>by simp at hD⟩,λl h=>by cases h⟩;refine wq_mono hwb ?_;rintro e3 a3 w3 ⟨x3,env3,ρ3,H3,q1,q2,q3,q4,q5,q6,q7⟩;obtain⟨ms3,n1,n2,n3⟩:=q6.ms;have hE0:Ext S.H.length S ⟨ρ3,H3,w3⟩:=(g2.trans (k2.mono (g2.len (Vb _)))).trans (q2.mono ((g2.trans (k2.mono (g2.len (Vb _)))).len (Vb _)));have hdb1:(⟨S.w.heap.size,[],none⟩:DB).Ok w2 (ms1.map QcD):=⟨k6.le,⟨ms1,by simp,m2,m3⟩,λl h=>by cases h⟩;have main:∀ (m:Option SV) (u:FrameMode) (Pd:ZG->Prop),u≠.run->MD ⟨ρ3,H3,w3⟩ m u->OkD P k cap H3 m Pd->(∀ H4,Pd H4->(∀ s∈rs,s.side env3 H4)/\Qdm S.H.length Pt (Qa7 env3 H4 rs) H4) ->
    LeavesInM (Fr none) 0 P fn a3.tmps (λe w'=>∃ (out:Out) (H':ZG) (v:Value) (ρ':Nat->Option Nat),Pt out H'/\Ext S.H.length S ⟨ρ',H',w'⟩/\Sim ⟨ρ',H',w'⟩ /\
     match out with
     |.ret r=>e=.returned v/\VR ⟨ρ',H',w'⟩ r v
     |.pan x=>e=.panicked [{ v:=v,recovered:=false }]/\VR ⟨ρ',H',w'⟩ x v) a3.defers u w3:=by
    intro m u Pd hu hmd hok hres;rw[n1];refine Qqn hu ms3 w3 n2 n3 λw4 ht => ?_;have hS4:=Qe0 ht q3;have hE4:=Qg7 ht hE0 (g2.trans (k2.mono (g2.len (Vb _)))).size;have hcs4:VRs ⟨ρ3,H3,w4⟩ cap cs:=⟨hcs.1,λj s u h1 h2=>((hcs.2 j s u h1 h2).extV q2.v (.inl rfl)).extV (Qer ht) (.inl rfl)⟩;have hmd4:MD ⟨ρ3,H3,w4⟩ m u:=by
     cases m with
     |none=>exact hmd
     |some y=>obtain⟨v,h1,h2⟩:=hmd; exact⟨v,h1,h2.extV (Qer ht) (.inl rfl)⟩
    refine⟨hu,.inr ⟨QjZ,.func k,cs.toArray,k,cs.toArray,rfl,?_,λg hg=>trivial,?_⟩⟩
    . simp only[invoke];have:=hok.1 cs.toArray w4;simpa using this
    . refine(hok.2 ⟨ρ3,H3,w4⟩ cs u rfl hS4 hcs4 hmd4).mono ?_;rintro e5 u5 w5 ⟨v5,H5,ρ5,rfl,hset,hpd,hext5,hsim5⟩;obtain⟨r1,r2⟩:=hres H5 hpd;show LeavesInM _ _ _ _ _ _ (ms1.map QcD) (settle u5) w5;rw[hset];have hdb3:=hdb1.ext (S:=⟨ρ2,H2,w2⟩) (S':=⟨ρ3,H3,w3⟩) k3 q2;have hdb4:(⟨S.w.heap.size,[],none⟩:DB).Ok w4 (ms1.map QcD):=by
       refine⟨by rw[ht.size]; exact hdb3.le,⟨ms1,by simp,m2,λD hD=>⟨(m3 D hD).1,?_⟩⟩,λl h=>by cases h⟩;have h1:=QcU (m3 D hD).2;have h2:w3.heap[D]? = some (Obj.deferred (some [])):=by
        have h4:=(m3 D hD).2;refine((q2.imm D (QcU h4) ?_).1).trans h4;rintro⟨i,o,ho,hl,hρ⟩;rcases k3.own ho hl hρ with ⟨c,h5⟩|⟨r,h5⟩|⟨es,cl,h5⟩<;>(rw[h4]at h5; cases h5)
       rcases ht.at_ D with h3|⟨h3,_,_⟩
       . exact h3.trans h2
       . exact absurd (YM h1 h3) (Nat.lt_irrefl _)
      have hdb5:=hdb4.ext (S:=⟨ρ3,H3,w4⟩) (S':=⟨ρ5,H5,w5⟩) hS4 hext5;obtain⟨ms5,j1,j2,j3⟩:=hdb5.ms;have hE5:Ext S.H.length S ⟨ρ5,H5,w5⟩:=hE4.trans (hext5.mono (hE4.len (Vb _)));have hEnv5:QJ ⟨ρ5,H5,w5⟩ env3 a3.tmps:=QJ.ext (S:=⟨ρ3,H3,w4⟩) ⟨λt=>(q4.get t).extV (Qer ht) (.inl rfl)⟩ hext5;rw[j1];simp only[VE];refine QhX (by simp) ms5 w5 j2 j3 λw6 ht6 => ?_;obtain⟨v,h3,h4⟩:=Qk6 (P:=P) (S:=⟨ρ5,H5,w6⟩) (Qe0 ht6 hsim5) ⟨λt=>(hEnv5.get t).extV (Qer ht6) (.inl rfl)⟩ hr r1;obtain⟨r,H',hp,h2⟩:=r2;obtain⟨ρ',h5,h6,h7⟩:=h2 ⟨ρ5,H5,w6⟩ v rfl (Qe0 ht6 hsim5) h4;exact⟨v,h3,.ret r,H',v,ρ',hp,(Qg7 ht6 hE5 (Vb _)).trans h5,h6,rfl,h7⟩
   cases x3<;>cases e3<;>simp only[ER]at q1
   . obtain⟨Pd,y1,y2⟩:=q7;exact main none .returning Pd (by simp) rfl y1 y2
   . exact q7.elim
   . exact q7.elim
   . obtain⟨Pd,y1,y2⟩:=q7;exact main none .returning Pd (by simp) rfl y1 y2
   . obtain⟨Pd,y1,y2⟩:=q7;obtain⟨v,rfl,hv⟩:=q1;exact main (some _) (.panicking [{ v:=v,recovered:=false }]) Pd (by simp) ⟨v,rfl,hv⟩ y1 y2
 . rintro ch a' w' ⟨x2,env2,ρ2,H2,k1,k2,k3,k4,k5,k6,hx2,_⟩;subst hx2;simp[ER]at k1
def XL (P:ZL) (N:Nat) (D:Array Oper->List Nat->List Ins->Bool):List IC->Env->ZG->(ZF)->Prop
 |[],env,H,K=>K .normal env H
 |i::r,env,H,K=>X P N D i env H λx env H=>match x with
  |.normal=>XL P N D r env H K
  |x=>K x env H
def Qky (P:ZL) (N:Nat) (D:Array Oper->List Nat->List Ins->Bool) (k:Code->Bool):List IC->Code->Bool
 |[],c=>k c
 |i::r,.seq a b=>Q2 P N D a i&&Qky P N D k r b
 |_,_=>false
def Qhe (P:ZL) (n0:Nat) (rs:List RS) (Pt:Out->ZG->Prop) (nx:Env->ZG->Prop) (x:XE) (env:Env) (H:ZG):Prop :=
 match x with
 |.normal=>nx env H
 |.ret=>(∀ s∈rs,s.side env H)/\Qdm n0 Pt (Qa7 env H rs) H
 |_=>False
theorem Qve (hD:DOk P D) {fn:Func} {rs:List RS} {Pt:Out->ZG->Prop} (hr:Qcv P fn.results.toList rs=true) {kk:Code->Bool} {nx:Env->ZG->Prop} {S:St}
 (hk:∀ c,kk c=true->∀ (a1:Act) (w1:ZM) (env1:Env) (ρ1:Nat->Option Nat) (H1:ZG),Ext S.H.length S ⟨ρ1,H1,w1⟩->Sim ⟨ρ1,H1,w1⟩->QJ ⟨ρ1,H1,w1⟩ env1 a1.tmps->a1.tmps.size=fn.ntmps->(⟨S.w.heap.size,[],none⟩:DB).Ok w1 a1.defers->nx env1 H1 ->
  c.wpIn (Fr none) 0 P (bodyPostM (Fr none) 0 P fn (λe w'=>∃ (out:Out) (H':ZG) (v:Value) (ρ':Nat->Option Nat),Pt out H'/\Ext S.H.length S ⟨ρ',H',w'⟩/\Sim ⟨ρ',H',w'⟩ /\
  match out with
  |.ret r=>e=.returned v/\VR ⟨ρ',H',w'⟩ r v
  |.pan x=>e=.panicked [{ v:=v,recovered:=false }]/\VR ⟨ρ',H',w'⟩ x v)) a1 w1) :
 ∀ (ias:List IC) (c:Code) (a1:Act) (w1:ZM) (env1:Env) (ρ1:Nat->Option Nat) (H1:ZG),Qky P fn.ntmps D kk ias c=true->Ext S.H.length S ⟨ρ1,H1,w1⟩->Sim ⟨ρ1,H1,w1⟩->QJ ⟨ρ1,H1,w1⟩ env1 a1.tmps->a1.tmps.size=fn.ntmps ->
  (⟨S.w.heap.size,[],none⟩:DB).Ok w1 a1.defers->XL P fn.ntmps D ias env1 H1 (Qhe P S.H.length rs Pt nx) ->
  c.wpIn (Fr none) 0 P (bodyPostM (Fr none) 0 P fn (λe w'=>∃ (out:Out) (H':ZG) (v:Value) (ρ':Nat->Option Nat),Pt out H'/\Ext S.H.length S ⟨ρ',H',w'⟩/\Sim ⟨ρ',H',w'⟩ /\
  match out with
  |.ret r=>e=.returned v/\VR ⟨ρ',H',w'⟩ r v
  |.pan x=>e=.panicked [{ v:=v,recovered:=false }]/\VR ⟨ρ',H',w'⟩ x v)) a1 w1:=by
 intro ias
 induction ias with
 |nil=>exact λc a1 w1 env1 ρ1 H1 hc g2 g3 g4 g5 g6 hx=>hk c hc a1 w1 env1 ρ1 H1 g2 g3 g4 g5 g6 hx
 |cons i r ih =>
  intro c a1 w1 env1 ρ1 H1 hc g2 g3 g4 g5 g6 hx
  cases c<;>simp only[Qky,Vw,Va]at hc
  rename_i ca cb;have hwa:=Qev hD i hc.1 hx ⟨S.w.heap.size,[],none⟩ ⟨ρ1,H1,w1⟩ a1 rfl g3 g4 g5 g6;refine wpIn_seq (wq_mono hwa ?_);rintro e2 a2 w2 ⟨x,env2,ρ2,H2,k1,k2,k3,k4,k5,k6,k7⟩;have hE:Ext S.H.length S ⟨ρ2,H2,w2⟩:=g2.trans (k2.mono (g2.len (Vb _)))
  cases x<;>cases e2<;>simp only[ER]at k1
  . exact ih cb a2 w2 env2 ρ2 H2 hc.2 hE k3 k4 k5 k6 k7
  all_goals first|exact k7.elim|skip
  obtain⟨r1,r2⟩:=k7;obtain⟨ms,m1,m2,m3⟩:=k6.ms;simp only[VE]at m1;show LeavesInM (Fr none) 0 P fn a2.tmps _ a2.defers .returning w2;rw[m1];refine QhX (by simp) ms w2 m2 m3 λw6 ht6 => ?_;obtain⟨v,h3,h4⟩:=Qk6 (P:=P) (S:=⟨ρ2,H2,w6⟩) (Qe0 ht6 k3) ⟨λt=>(k4.get t).extV (Qer ht6) (.inl rfl)⟩ hr r1;obtain⟨r,H',hp,h2⟩:=r2;obtain⟨ρ',h5,h6,h7⟩:=h2 ⟨ρ2,H2,w6⟩ v rfl (Qe0 ht6 k3) h4;exact⟨v,h3,.ret r,H',v,ρ',hp,(Qg7 ht6 hE (Vb _)).trans h5,h6,rfl,h7⟩
def Qon (P:ZL) (D:Array Oper->List Nat->List Ins->Bool) (fn:Func) (ins1:Ins) (fo:Od) (ib:IC):Code->Bool
 |.seq (.region _ ops false) cb =>
  (match ops.toList with
   |[o1,od]=>QdR P fn.ntmps ops o1 ins1&&((match o1.op with|.defer _=>false|_=>true)&&((match od.op with|.defer { callee:=.value f',args:=as,argTypes:=ts }=>as.isEmpty&&(ts.isEmpty&&Qy f' fo)|_=>false) &&
    (od.guard.isNone&&(od.dst.isNone&&Q2 P fn.ntmps D cb ib))))
   |_=>false)
 |_=>false
def QkV (P:ZL) (D:Array Oper->List Nat->List Ins->Bool) (fn:Func) (ias:List IC) (ins1:Ins) (fo:Od) (ib:IC) (rs:List RS):Bool :=
 (match fn.body with
  |some c=>Qky P fn.ntmps D (Qon P D fn ins1 fo ib) ias c
  | none => false) && !(fn.name == "runtime.NumGoroutine") && Qcv P fn.results.toList rs && decide (fn.params.size + fn.nfree <= fn.ntmps)
theorem QsC {P:ZL} (hm:P.follows .mixedOrders=true) {f:ZN} {fn:Func} {ias:List IC} {ib:IC} {ins1:Ins} {fo:Od} {rs:List RS} (hf:P.funcs[f]? = some fn) (hc:QkV P Qf fn ias ins1 fo ib rs=true)
 {args:ZH} {H:ZG} {Pt:Out->ZG->Prop} (hn:args.length=fn.params.size+fn.nfree)
 (hx:closed H->XL P fn.ntmps Qf ias (Qcl args) H (Qhe P H.length rs Pt λenv1 H1=>xo P ins1 env1 H1 λx env2 H2=>x=.normal/\(env2.ev fo).vd=true/\∃ k cap,(env2.ev fo).ug=.fn (.func k) [] cap/\X P fn.ntmps Qf ib env2 H2 (Qhi P H.length rs Pt k cap))):OkP P f args H Pt:=by
 unfold QkV at hc;rw[Va,Va,Va]at hc;obtain⟨⟨⟨h1,h2⟩,h3⟩,h4⟩:=hc;split at h1
 . rename_i c hb;refine⟨λvs w=>Go.MuLone.run_callFunc_enter hf (by simpa using h2) hb vs w,?_⟩;intro S vs hH hS hvs;subst hH;refine callsIn_wide.1 (callsIn_of_wp_marks (F:=Fr none) (n:=0) hf hb trivial ?_);have hl:vs.length=args.length:=hvs.1;have h4:args.length<=fn.ntmps:=by rw[hn]; simpa using h4
   refine Qve (Qb1 hm) h3 (kk:=Qon P Qf fn ins1 fo ib) (nx:=_) ?_ ias c ⟨vs.toArray++Array.replicate (fn.ntmps-vs.toArray.size) undef,[]⟩ S.w (Qcl args) S.ρ S.H h1 (Ext.refl _ _) hS (Qnq hvs _) (by simp; omega) ⟨Vb _,⟨[],rfl,YI,λD hD=>by simp at hD⟩,λl h=>by cases h⟩ (hx hS.closed);intro c hc a1 w1 env1 ρ1 H1 g2 g3 g4 g5 g6 g7;unfold Qon at hc;split at hc
   . rename_i rid ops cb;split at hc
     . rename_i o1 od hops;simp only[Va]at hc;obtain⟨k2,k3,k4,k5,k6,k7⟩:=hc;have e:ops = #[o1,od]:=by apply Ys; simpa using hops
       subst e;split at k4
       . rename_i f' as ts hod;simp only[Va,Array.isEmpty_iff]at k4;obtain⟨rfl,rfl,k4⟩:=k4;exact Qvp (Qb1 hm) h3 k2 (λc e=>by rw[e]at k3; cases k3) hod (by simpa using k5) (by simpa using k6) k4 k7 g2 g3 g4 g5 g6 g7
       . cases k4
     . cases hc
   . cases hc
 . cases h1
end
end
section
variable [QR] [QP] [Qv]
set_option linter.unusedSectionVars false
section
variable {P:ZL} {N:Nat} {D:Array Oper->List Nat->List Ins->Bool}
theorem WI.of_X (hD:DOk P D) {i:IC} {env:Env} {H:ZG} {K:ZF} (h:X P N D i env H K):WI P N D i env H K:=λ_ hc=>Qev hD i hc h
theorem WI.seq (hD:DOk P D) {a b:IC} {env:Env} {H:ZG} {K:ZF} (h:X P N D a env H λx env H=>match x with|.normal=>WI P N D b env H K|x=>K x env H):WI P N D (.seq a b) env H K:=by
 intro c hc
 cases c<;>simp only[Q2,Vw,Va]at hc
 refine W.seq ((Qev hD a hc.1 h).mono ?_);intro x env H hk
 cases x<;>first|exact hk|exact hk _ hc.2
theorem WI.tell {i:IC} {env env':Env} {H H':ZG} {K:ZF} (ht:Qaw env H env' H') (h:WI P N D i env' H' K):WI P N D i env H K:=by
 intro c hc db S a hH hS he hN hd;obtain⟨ρ',h1,h2,h3⟩:=ht S a.tmps hH hS he;exact wq_mono (h c hc db ⟨ρ',H',S.w⟩ a rfl h2 h3 hN (hd.ext hS h1)) λe a w h=>Qaz.trans h1 h
theorem WI.cong {i:IC} {env:Env} {H H':ZG} {K:ZF} (e:H'=H) (h:WI P N D i env H' K):WI P N D i env H K:=by rw[<-e]; exact h
theorem Qkg {P:ZL} (hm:P.follows .mixedOrders=true) {f:ZN} {fn:Func} {i:IC} {rs:List RS} (hf:P.funcs[f]? = some fn) (hc:QdG P Qf fn i rs=true)
 {args:ZH} {H:ZG} {out:Out} {H':ZG} (hn:args.length=fn.params.size+fn.nfree)
 (hx:closed H->WI P fn.ntmps Qf i (Qcl args) H (Fin H.length rs out H')):Ok P f args H out H':=by
 unfold QdG at hc;rw[Va,Va,Va]at hc;obtain⟨⟨⟨h1,h2⟩,h3⟩,h4⟩:=hc;split at h1
 . rename_i c hb;exact(Qj0 hf hb (by simpa using h2) (by rw[hn]; simpa using h4) h3 λhcl=>(hx hcl c h1).mono λx env H h=>Qt2 h).toOk
 . cases h1
end
end
def IC.tl:Nat->IC->IC
 |0,a=>a
 |k+1,.seq _ b=>IC.tl k b
 |_,a=>a
def IC.nth:Nat->IC->IC
 |0,.seq a _=>a
 |k+1,.seq _ b=>IC.nth k b
 |_,a=>a
section
variable [QR] [QP]
theorem Sim.to (G0 G:Qv) {S:St} (h : @Sim _ _ G0 S) (hk : @St.KF _ G S) : @Sim _ _ G S := @Sim.mk _ _ G S (@Sim.live _ _ G0 S h) (@Sim.bel _ _ G0 S h) (@Sim.inj _ _ G0 S h) (@Sim.lp _ _ G0 S h) (@Sim.gl _ _ G0 S h) hk
variable [G0:Qv]
theorem LI.learn {P:ZL} {N:Nat} {D:Array Oper->List Nat->List Ins->Bool} {i:IC} {env:Env} {H:ZG} {K:ZF} (j p:Nat) {o:AO} {cells:ZH} {len:Nat}
 (ho:H[j]? = some o) (hl:o.live=true) (hp:o.cells[p]? = some (.slc cells len)) (hne:cells≠[]) (hu:SV.underL 0 cells=true)
 (h:∀ (a:Addr) (cap:Nat),@LI _ _ ⟨(.slc cells len,.slice (some a) len cap)::Qv.kn⟩ P N D i env (H.set j ⟨o.cells.set p (.val (.slice (some a) len cap)),o.ty,o.ver,true⟩) K) :
 LI P N D i env H K:=by
 intro c hc db S a hH hS he hN hd;subst hH;have h1:=hS.live j o ho hl
 cases hρ:S.ρ j with
 |none=>rw[hρ]at h1; rw[h1]at hp; simp at hp
 |some b =>
  rw[hρ]at h1;obtain⟨us,rest,h2,h3⟩:=h1;obtain⟨u,hu1,hu2⟩:=h3.get hp;obtain⟨ad,cap,rfl⟩:∃ ad cap,u=.slice (some ad) len cap:=by
   cases hu2 with
   |nilslc=>exact absurd rfl hne
   |slc cells len a cap us hc hl hi h=>exact⟨a,cap,rfl⟩
  have hS':Sim ⟨S.ρ,S.H.set j ⟨o.cells.set p (.val (.slice (some ad) len cap)),o.ty,o.ver,true⟩,S.w⟩:=by
   refine Qoi hS ho hl ?_ ?_
   . intro s hs;rcases Y2 hs with hs|rfl
     . exact(hS.bel j o ho s hs).2 hl
     . rfl
   . intro us' hl' hv';have e:us'.length=us.length:=hv'.1.trans h3.1.symm;have:us'=us:=by
      unfold St.lies at hl';rw[hρ]at hl';obtain⟨rest',h4⟩:=hl';rw[h2]at h4;have h5:us++rest=us'++rest':=by simpa using h4
      exact(List.append_inj h5 e.symm).1.symm
     subst this;refine⟨us'.length,?_⟩;rw[VI];refine⟨by simpa using h3.1,λk s v hs hv => ?_⟩;by_cases hk:k=p
     . subst hk;rw[hu1]at hv; cases hv
       rw[Vo (Ql hp)]at hs; cases hs
       exact .val _
     . rw[Vf (by omega)]at hs;exact h3.2 k s v hs hv
  have hx:=QgJ ho hl (o.cells.set p (.val (.slice (some ad) len cap)));have hkf : @St.KF _ ⟨(.slc cells len,.slice (some ad) len cap)::Qv.kn⟩ ⟨S.ρ,S.H.set j ⟨o.cells.set p (.val (.slice (some ad) len cap)),o.ty,o.ver,true⟩,S.w⟩:=by
   intro q hq;rcases Vd.1 hq with rfl|hq
   . exact⟨by simpa[SV.under]using hu,hu2.ext hx⟩
   . exact hS'.kf q hq
  have hd':=hd.ext hS hx;refine QjB (h ad cap c hc db ⟨S.ρ,S.H.set j ⟨o.cells.set p (.val (.slice (some ad) len cap)),o.ty,o.ver,true⟩,S.w⟩ a rfl (Sim.to G0 ⟨(.slc cells len,.slice (some ad) len cap)::Qv.kn⟩ hS' hkf) (he.ext hx) hN hd') λe a' w hp => ?_;obtain⟨x,env',ρ,H',k1,k2,k3,k4,k5,k6,k7⟩:=hp;refine⟨x,env',ρ,H',k1,hx.trans (k2.mono (hx.len (Vb _))),Sim.to ⟨(.slc cells len,.slice (some ad) len cap)::Qv.kn⟩ G0 k3 (λq hq => @Sim.kf _ _ ⟨(.slc cells len,.slice (some ad) len cap)::Qv.kn⟩ _ k3 q (VL _ hq)),k4,k5,k6,k7⟩
theorem Qaw.known {env:Env} {H:ZG} {j p:Nat} {o:AO} (ho:H[j]? = some o) (hl:o.live=true) {a:Addr} {len cap:Nat} (hp:o.cells[p]? = some (.val (.slice (some a) len cap))) {cells:ZH} (hk:(SV.slc cells len,Value.slice (some a) len cap)∈Qv.kn) :
 Qaw env H env (H.set j ⟨o.cells.set p (.slc cells len),o.ty,o.ver,true⟩):=by
 intro S tmps hH hS he;subst hH;have hx:=QgJ ho hl (o.cells.set p (.slc cells len));refine⟨S.ρ,hx,QmB hS ho hl ?_ (λus h=>⟨us.length,?_⟩),he.ext hx⟩
 . intro s hs;rcases Y2 hs with hs|rfl
   . exact(hS.bel j o ho s hs).2 hl
   . rfl
 . rw[VI];refine⟨by simpa using h.1,λk s v hs hv => ?_⟩;by_cases hk':k=p
   . subst hk';rw[Vo (Ql hp)]at hs; cases hs
     have:=h.2 _ _ _ hp hv
     cases this
     exact(hS.kf _ hk).2
   . rw[Vf (by omega)]at hs;exact h.2 k s v hs hv
end
section
variable [QR] [QP] [Qv] [QeR] [Qff]
open Go.ChangeShapes Go.WideShapes Go.ChangeAt Go.RowKit
mutual
def Sh.by:Sh->Nat
 |.int k=>k.bits / 8
 |.bool=>1
 |.str=>16
 |.sl _=>24
 |.st l=>Sh.byL l
def Sh.byL:List Sh->Nat
 |[]=>0
 |s::r=>s.by+Sh.byL r
end
section
variable {H:Type} {enc:ZK×Value->H} {P:ZL} {W:ZM} {base:Nat} {spare:Nat->Bool} {held:Bool}
def wOk (l:List Nat):Prop:=∀ n∈l,n<=reachBytes
theorem QkH {a b:List Nat}:wOk (a++b)↔wOk a/\wOk b:=by
 unfold wOk;constructor
 . intro h; exact⟨λn hn=>h n (by simp[hn]),λn hn=>h n (by simp[hn])⟩
 . rintro⟨h1,h2⟩ n hn;rcases Vq.1 hn with hn|hn
   . exact h1 n hn
   . exact h2 n hn
theorem QqH {t:ZK}:∀ {l:List (DataW H)},wOk (DataW.weightsAll P t l)->∀ d∈l,wOk (d.weights P t)
 |[],_,d,hd=>by simp at hd
 |x::r,h,d,hd=>by
  rw[DataW.weightsAll,QkH]at h;rcases Vd.1 hd with rfl|hd
  . exact h.1
  . exact QqH h.2 d hd
theorem QsF:∀ {ts:List ZK} {l:List (DataW H)},wOk (DataW.weightsEach P ts l)->∀ (i:Nat) (t:ZK) (d:DataW H),ts[i]? = some t->l[i]? = some d->wOk (d.weights P t)
 |[],_,_,i,t,d,ht,_=>by simp at ht
 |_::_,[],_,i,t,d,_,hd=>by simp at hd
 |t0::ts,d0::l,h,i,t,d,ht,hd=>by
  rw[DataW.weightsEach,QkH]at h
  cases i with
  |zero=>simp at ht hd; subst ht hd; exact h.1
  |succ i=>simp at ht hd; exact QsF h.2 i t d ht hd
end
end
section
variable [QR] [QP] [Qv] [QeR] [Qff]
open Go.ChangeShapes Go.WideShapes Go.ChangeAt Go.RowKit
mutual
def Dt.ty (P:ZL):Dt->ZK->Prop
 |.int k n,t=>P.underlying t=some (.int k)/\(Lit.int k n).wf=true
 |.bool _,t=>P.underlying t=some .bool
 |.str s,t=>P.underlying t=some .string/\s.size<=reachBytes
 |.sl l,t=>∃ e,P.underlying t=some (.slice e)/\l.length<=reachBytes/\Dt.tyA P l e
 |.agg l,t=>∃ fs,P.underlying t=some (.struct fs)/\Dt.tyL P l (fs.toList.map (·.type))
def Dt.tyA (P:ZL):List Dt->ZK->Prop
 |[],_=>True
 |d::r,t=>d.ty P t/\Dt.tyA P r t
def Dt.tyL (P:ZL):List Dt->List ZK->Prop
 |[],ts=>ts=[]
 |d::r,ts=>match ts with|[]=>False|t::ts=>d.ty P t/\Dt.tyL P r ts
end
def QhC (P:ZL):List Field->Nat->Nat->Bool
 |[],off,tot=>off==tot
 |f::fs,off,tot=>f.offset==off&&QhC P fs (off+P.cellsOf f.type) tot
def QiM (P:ZL) (S:List ZK) (t:ZK):Bool:=match P.underlying t with
 |some (.int _)=>true
 |some .bool=>true
 |some .string=>true
 |some (.slice e)=>S.contains e&&decide (1<=P.bytesOf e)
 |some (.struct fs)=>fs.toList.all (λf=>S.contains f.type)&&QhC P fs.toList 0 (P.cellsOf t)
 |_=>false
theorem Qs2 {P:ZL} {t:ZK}:∀ {l:List Dt},Dt.tyA P l t↔∀ x∈l,x.ty P t
 |[]=>by simp[Dt.tyA]
 |d::r=>by simp[Dt.tyA,Qs2 (l:=r)]
mutual
def Qc6 {H:Type}:DataW H->Nat
 |.lit (.string bytes)=>bytes.length+1
 |.lit _=>1
 |.nil=>1
 |.ptr d=>Qc6 d+1
 |.slice elems spare=>Qdo elems+Qdo spare+1
 |.agg parts=>Qdo parts+1
 |.iface _ d=>Qc6 d+1
 |.map entries=>blkE entries+1
 |.held _=>1
def Qdo {H:Type}:List (DataW H)->Nat
 |[]=>0
 |d::r=>Qc6 d+Qdo r
def blkE {H:Type}:List (Lit×DataW H)->Nat
 |[]=>0
 |x::r=>blkX x+blkE r
def blkX {H:Type}:Lit×DataW H->Nat
 | (.string bytes,d)=>bytes.length+Qc6 d+1
 | (_,d)=>Qc6 d+1
end
theorem Qnh {H:Type} (d:DataW H):1<=Qc6 d:=by
 unfold Qc6; split<;>omega
theorem Qs3 {H:Type}:∀ a b:List (DataW H),Qdo (a++b)=Qdo a+Qdo b
 |[],b=>by simp[Qdo]
 |x::a,b=>by simp[Qdo,Qs3 a b]; omega
mutual
def Dt.blk:Dt->Nat
 |.int _ _=>1
 |.bool _=>1
 |.str s=>s.size+1
 |.sl l=>Dt.blkL l+1
 |.agg l=>Dt.blkL l+1
def Dt.blkL:List Dt->Nat
 |[]=>0
 |d::r=>d.blk+Dt.blkL r
end
theorem Qox:∀ a b:List Dt,Dt.blkL (a++b)=Dt.blkL a+Dt.blkL b
 |[],b=>by simp[Dt.blkL]
 |x::a,b=>by simp[Dt.blkL,Qox a b]; omega
section
variable {H:Type} {enc:ZK×Value->H} {P:ZL} {W:ZM} {base:Nat} {spare:Nat->Bool} {held:Bool}
theorem Qzn {e:ZK} {n:Nat} {a:Addr} {elems:List (DataW H×List MemPlace)} (hw:∀ x∈elems,wOk (x.1.weights P e))
 (ih:∀ cs x,DataW.trod enc P W base spare held n e cs=some x->wOk (x.1.weights P e)->∃ d:Dt,d.ty P e/\VRs (st0 W) d.cells cs/\d.blk<=Qc6 x.1) :
 ∀ k,k<=elems.length->(∀ i,i<k->(W.cells? base (a.add (i*P.cellsOf e)) (P.cellsOf e)).bind (DataW.trod enc P W base spare held n e)=elems[i]?) ->
  ∃ (ds:List Dt) (us:ZI),ds.length=k/\(∀ x∈ds,x.ty P e)/\VRs (st0 W) (Dt.cellsL ds) us/\us.length=k*P.cellsOf e/\(∀ j u,us[j]? = some u->W.cell? (a.add j)=some u)/\Dt.blkL ds<=Qdo ((elems.take k).map (·.1)):=by
 intro k
 induction k with
 |zero=>intro _ _; exact⟨[],[],rfl,by simp,VRs.nil _,by simp,by simp,by simp[Dt.blkL]⟩
 |succ k ihk =>
  intro hk hel;obtain⟨ds,us,h1,h2,h3,h4,h5,hbk⟩:=ihk (by omega) (λi hi=>hel i (by omega));have h6:=hel k (by omega);rw[Ve (by omega),Option.bind_eq_some_iff]at h6;obtain⟨cs,hcs,ht⟩:=h6;obtain⟨d,hd,hv,hdb⟩:=ih cs _ ht (hw _ (Vt _));obtain⟨_,hlen,hc⟩:=World.cells?_some hcs;refine⟨ds++[d],us++cs,by simp[h1],?_,?_,?_,?_,?_⟩
  . intro x hx;rcases Vq.1 hx with hx|hx
    . exact h2 x hx
    . simp at hx; subst hx; exact hd
  . rw[QsM]; simpa[Dt.cellsL]using h3.append hv
  . simp[h4,hlen,Yb]
  . intro j u hj;by_cases hlt:j<us.length
    . rw[Vc hlt]at hj; exact h5 j u hj
    . rw[Vl (by omega)]at hj;have hj':j-us.length<cs.length:=Ql hj;have:=hc (j-us.length) (by omega);rw[hj,QgK]at this;rw[<-this]; congr 2; omega
  . rw[Yy (by omega),Yn,Qs3,Qox];simp only[Dt.blkL,Qdo,Vg,VF]; omega
theorem QrU {S:List ZK} {n:Nat} (ih:∀ (t:ZK) (cs:ZI) (x:DataW H×List MemPlace),DataW.trod enc P W base spare held n t cs=some x->wOk (x.1.weights P t)->t∈S->∃ d:Dt,d.ty P t/\VRs (st0 W) d.cells cs/\d.blk<=Qc6 x.1) :
 ∀ {fs:List Field} {off tot:Nat} {cs:ZI} {ys:List (DataW H)},QhC P fs off tot=true->(∀ f∈fs,f.type∈S) ->
 (∀ (i:Nat) (f:Field),fs[i]? = some f->∃ x,DataW.trod enc P W base spare held n f.type ((cs.drop f.offset).take (P.cellsOf f.type))=some x/\wOk (x.1.weights P f.type)/\ys[i]? = some x.1)->cs.length=tot ->
 ∃ m,Dt.tyL P m (fs.map (·.type))/\VRs (st0 W) (Dt.cellsL m) (cs.drop off)/\Dt.blkL m<=Qdo ys
 |[],off,tot,cs,ys,hc,_,_,hl=>by
  simp only[QhC,Zr]at hc;refine⟨[],rfl,?_,by simp[Dt.blkL]⟩;rw[VS (by omega)];exact VRs.nil _
 |f::fs,off,tot,cs,ys,hc,hS,hf,hl=>by
  simp only[QhC,Va,Zr]at hc;obtain⟨h1,h3⟩:=hc;obtain⟨x,hx,hwx,hy⟩:=hf 0 f rfl;obtain⟨d,hd,hv,hdb⟩:=ih _ _ _ hx hwx (hS f (by simp));obtain⟨y,ys',rfl⟩:∃ y ys',ys=y::ys':=by cases ys with
   |nil=>simp at hy
   |cons y ys'=>exact⟨y,ys',rfl⟩
  have hy:y=x.1:=by simpa using hy
  obtain⟨m,hm,hv',hmb⟩:=QrU ih (fs:=fs) (cs:=cs) (ys:=ys') h3 (λg hg=>hS g (by simp[hg])) (λi f hi=>hf (i+1) f (by simpa using hi)) hl;refine⟨d::m,⟨hd,hm⟩,?_,by simp only[Dt.blkL,Qdo]; rw[hy]; omega⟩;have:=hv.append hv';rw[h1,<- List.drop_drop,Ym]at this;simpa[Dt.cellsL]using this
theorem QA9 {S:List ZK} (hS:∀ t∈S,QiM P S t=true):∀ (fuel:Nat) (t:ZK) (cs:ZI) (x:DataW H×List MemPlace),DataW.trod enc P W base spare held fuel t cs=some x->wOk (x.1.weights P t)->t∈S ->
 ∃ d:Dt,d.ty P t/\VRs (st0 W) d.cells cs/\d.blk<=Qc6 x.1:=by
 intro fuel
 induction fuel with
 |zero=>intro t cs x h; simp[DataW.trod]at h
 |succ n ih =>
  intro t cs x h hw htS;have hc:=hS t htS;unfold QiM at hc;split at hc
  . rename_i k ht;obtain⟨m,rfl,_,hwf⟩:=DataW.trod_int ht h;exact⟨.int k m,⟨ht,hwf⟩,VRs.cons (.val _) (VRs.nil _),Qnh _⟩
  . rename_i ht;obtain⟨b,rfl⟩:∃ b,cs=[.bool b]:=by
     unfold DataW.trod at h;rw[ht]at h;split at h<;>simp_all
    exact⟨.bool b,ht,VRs.cons (.val _) (VRs.nil _),Qnh _⟩
  . rename_i ht;obtain⟨s,rfl,rfl,hs⟩:=DataW.trod_string ht h;refine⟨.str s,⟨ht,?_⟩,VRs.cons (.val _) (VRs.nil _),by simp[Dt.blk,Qc6]⟩;have:=hw s.data.toList.length (by simp[DataW.weights]);simpa using this
  . rename_i e ht;simp only[Va,Zq,List.contains_iff_mem]at hc;rcases DataW.trod_slice ht h with ⟨rfl,_⟩|⟨a,len,cap,elems,rest,m,hm',rfl,rfl,_,hl,hm,hlen,hel,_,_⟩
    . exact⟨.sl [],⟨e,ht,by simp,by simp[Dt.tyA]⟩,VRs.cons .nilslc (VRs.nil _),Qnh _⟩
    . cases hm'
      simp only[DataW.weights,ht]at hw;have hw0:=hw _ (YB ..);have hwa:wOk (DataW.weightsAll P e (elems.map (·.1))++DataW.weightsAll P e (rest.map (·.1))):=λn hn=>hw n (VL _ hn);rw[QkH]at hwa;have hwe:∀ x∈elems,wOk (x.1.weights P e):=λx hx=>QqH hwa.1 _ (List.mem_map_of_mem hx);obtain⟨ds,us,h1,h2,h3,h4,h5,hbk⟩:=Qzn hwe (λcs x hx hwx=>ih e cs x hx hwx hc.1) len (by omega) hel;refine⟨.sl ds,⟨e,ht,?_,Qs2.2 h2⟩,VRs.cons ?_ (VRs.nil _),by
       rw[VB (by omega)]at hbk;simp only[Dt.blk,Qc6]; omega⟩
      . simp only[Yl]at hw0;have k1:ds.length*1<=ds.length*P.bytesOf e:=Nat.mul_le_mul_left _ hc.2;have k2:ds.length*P.bytesOf e<=(elems.length+rest.length)*P.bytesOf e:=YW _ (by omega);omega
      . have:ds.length=len:=h1;subst this;exact .slc _ _ a cap us hl h3.1 ⟨h5,λ_=>rw0 W _,λhf=>absurd (Qff.old.symm.trans hf) (by decide)⟩ h3.2
  . rename_i fs ht;simp only[Va,Vn,List.contains_iff_mem]at hc;obtain⟨xs,m,hm',rfl,hl,hlen,hf⟩:=DataW.trod_struct ht h
    cases hm'
    simp only[DataW.weights,ht]at hw;have hwe:=QsF hw;obtain⟨m,hm,hv,hmb⟩:=QrU (S:=S) (n:=n) ih (fs:=fs.toList) (off:=0) (cs:=cs) (ys:=xs.map (·.1)) hc.2 hc.1 (λi f hi=>by
     have hlt:i<xs.length:=by rw[hlen]; simpa using Ql hi
     refine⟨xs[i],?_,hwe i f.type _ (by simp[hi]) (by simp[hlt]),by simp[hlt]⟩;rw[hf i f (by simpa using hi),Ve hlt]) hl
    exact⟨.agg m,⟨fs,ht,hm⟩,by rw[Dt.cells]; simpa using hv,by simp only[Dt.blk,Qc6]; omega⟩
  . cases hc
end
end
end Go.Ab
