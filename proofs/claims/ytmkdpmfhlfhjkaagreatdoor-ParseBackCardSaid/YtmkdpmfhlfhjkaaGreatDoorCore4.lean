/- Steps of the proof. -/
import Derived.Test.YtmkdpmfhlfhjkaaGreatDoorCore3
import Derived.Below
import Derived.ChangeArms
import Derived.DataReads
import Derived.WideShapes
import Derived.RowKit
import Derived.WalkKit
import Derived.ProofKit
import Derived.OpenShut
import Derived.ShutString
import Derived.ChangeOld
import Derived.Carry
import Derived.KernelRfl
import Derived.RecoverIn
import Derived.SizedLaws
set_option linter.all false
namespace Go.Ab
section
variable [QO] [QK] [Qv]
def Ev {α:Type} (v:α):α:=v
@[simp] theorem Ev_eq {α:Type} (v:α):Ev v=v:=Eq.trans rfl rfl
theorem QT {α:Type} {v w:α} (h:Ev v=w):v=w:=h
def Kn (K:ZH) (x:XE) (U:Env) (d:Option Nat) (v:SV) (H:ZI):Prop:=K x (U.put d v) H
@[congr] theorem QHn {K:ZH} {x:XE} {U:Env} {d:Option Nat} {v v':SV} {H H':ZI} (h1:Ev v=v') (h2:Ev H=H'):Kn K x U d v H=Kn K x U d v' H':=by rw[QT h1,QT h2]
@[simp] theorem QJh (K:ZH) (x:XE) (U:Env) (d:Nat) (v:SV) (H:ZI):Kn K x U (some d) v H=K x ((d,v)::U) H:=rfl
@[simp] theorem QEY (K:ZH) (x:XE) (U:Env) (v:SV) (H:ZI):Kn K x U none v H=K x U H:=rfl
def Ke (K:SV->ZI->Prop) (v:SV) (H:ZI):Prop:=K v H
@[congr] theorem QGD {K:SV->ZI->Prop} {v v':SV} {H H':ZI} (h1:Ev v=v') (h2:Ev H=H'):Ke K v H=Ke K v' H':=by rw[QT h1,QT h2]
@[simp] theorem Ke_go (K:SV->ZI->Prop) (v:SV) (H:ZI):Ke K v H=K v H:=rfl
section
variable {P:ZN} {N:Nat} {D:Array Oper->List Nat->List Ins->Bool}
@[simp ↓] theorem X_skip (U:Env) (H:ZI) (K:ZH):X P N D .skip U H K=K .normal U H:=rfl
@[simp ↓] theorem X_reg (l:List Ins) (U:Env) (H:ZI) (K:ZH):X P N D (.reg l) U H K=QbP P l U H K:=rfl
@[simp ↓] theorem X_drw (m:List Nat) (l:List Ins) (U:Env) (H:ZI) (K:ZH):X P N D (.drw m l) U H K=xd P [] l U H λx e H' =>
 match x with
 |.normal=>K .normal e H'
 |x=>K x (QdC l U) H':=rfl
@[simp] theorem QJs (e:Env):QdC [] e=e:=rfl
@[simp] theorem QFI (i:Ins) (r:List Ins) (e:Env):QdC (i::r) e=(QdC r e).put i.d .any:=rfl
@[simp ↓] theorem QHD (n0:Nat) (l:List Ins) (U:Env) (H:ZI) (K:ZH):xrt P n0 l [] U H K=True:=rfl
@[simp ↓] theorem QIi (n0:Nat) (l:List Ins) (o:List Nat) (os:List (List Nat)) (U:Env) (H:ZI) (K:ZH):xrt P n0 l (o::os) U H K=(QbP P (Qc9 n0 l o) U H K/\xrt P n0 l os U H K):=rfl
@[simp ↓] theorem QIo (n0:Nat) (l:List Ins):Qc9 n0 l []=[]:=rfl
@[simp ↓] theorem QF2 (n0:Nat) (l:List Ins) (i:Nat) (o:List Nat):Qc9 n0 l (i::o)=(match l[i-n0]? with|some x=>x::Qc9 n0 l o|none=>Qc9 n0 l o):=by
 unfold Qc9; rw[Zl]; cases l[i-n0]? <;> rfl
@[simp ↓] theorem QJO (l:List Ins) (U:Env) (H:ZI) (K:ZH):xre P l [] U H K=True:=rfl
@[simp ↓] theorem QIJ (l:List Ins) (o:List Nat) (os:List (List Nat)) (U:Env) (H:ZI) (K:ZH):xre P l (o::os) U H K=(QbP P (Qnl l o) U H K/\xre P l os U H K):=rfl
@[simp ↓] theorem QGR (l:List Ins):Qnl l []=[]:=rfl
@[simp ↓] theorem Qsf (a b:IC) (U:Env) (H:ZI) (K:ZH):X P N D (.seq a b) U H K=X P N D a U H λx U H =>
 match x with
 |.normal=>X P N D b U H K
 |x=>K x U H:=rfl
@[simp ↓] theorem Qrp (id:Nat) (a:IC) (U:Env) (H:ZI) (K:ZH):X P N D (.blk id a) U H K=X P N D a U H λx U H =>
 match x with
 |.exit i=>if i=id then K .normal U H else K (.exit i) U H
 |x=>K x U H:=rfl
@[simp ↓] theorem X_scp (a:IC) (U:Env) (H:ZI) (K:ZH):X P N D (.scp a) U H K=X P N D a U H λx U H =>
 match x with
 |.goto _=>False
 |x=>K x U H:=rfl
@[simp ↓] theorem X_lab (U:Env) (H:ZI) (K:ZH):X P N D .lab U H K=K .normal U H:=rfl
@[simp ↓] theorem X_exit (id:Nat) (U:Env) (H:ZI) (K:ZH):X P N D (.exit id) U H K=K (.exit id) U H:=rfl
@[simp ↓] theorem X_ret (U:Env) (H:ZI) (K:ZH):X P N D .ret U H K=K .ret U H:=rfl
@[simp ↓] theorem X_keep (ks:List Nat) (a:IC) (U:Env) (H:ZI) (K:ZH):X P N D (.keep ks a) U H K=X P N D a (U.keep ks) H K:=rfl
def Qin (c:SV) (a b:Prop):Prop:=c.isB=true/\if c.bool=true then a else b
@[congr] theorem QJg {c c':SV} {a b:Prop} (h:Ev c=c'):Qin c a b=Qin c' a b:=by rw[QT h]
@[simp] theorem QFa (c:SV) (a b:Prop):Qin c a b=(c.isB=true/\if c.bool=true then a else b):=rfl
@[simp ↓] theorem X_cond (c:Od) (a b:IC) (U:Env) (H:ZI) (K:ZH):X P N D (.cond c a b) U H K=Qin (U.ev c) (X P N D a U H K) (X P N D b U H K):=by
 apply propext;simp only[X,Qin]
 cases (U.ev c).bool<;>simp
def Lp (P:ZN) (N:Nat) (D:Array Oper->List Nat->List Ins->Bool) (i:IC) (U:Env) (H:ZI) (K:ZH):Prop:=LI P N D i U H K
@[congr] theorem QFn {i:IC} {U aw:Env} {H H':ZI} {K:ZH} (h:Ev U=aw) (h2:Ev H=H'):Lp P N D i U H K=Lp P N D i aw H' K:=by rw[QT h,QT h2]
@[simp ↓] theorem X_loop (i:IC) (U:Env) (H:ZI) (K:ZH):X P N D (.loop i) U H K=Lp P N D i U H K:=rfl
@[simp ↓] theorem QIG (U:Env) (H:ZI) (K:ZH):QbP P [] U H K=K .normal U H:=rfl
@[simp ↓] theorem QFN (o:Ins) (r:List Ins) (U:Env) (H:ZI) (K:ZH):QbP P (o::r) U H K=xo P o U H λx U H =>
 match x with
 |.normal=>QbP P r U H K
 |x=>K x U H:=rfl
def QdS (P:ZN) (f:SV) (args:ZJ) (H:ZI) (K:Out->ZI->Prop):Prop:=∃ Pt:Out->ZI->Prop,QeY P f args H Pt/\∀ out H',Pt out H'->K out H'
@[congr] theorem QF3 {f f':SV} {args args':ZJ} {H H':ZI} {K:Out->ZI->Prop} (h1:Ev f=f') (h2:Ev args=args') (h3:Ev H=H'):QdS P f args H K=QdS P f' args' H' K:=by rw[QT h1,QT h2,QT h3]
theorem Qio {k:ZP} {a b args:ZJ} {H H':ZI} {out:Out} {K:Out->ZI->Prop} (h:Ok P k (a++args++b) H out H') (hk:K out H'):QdS P (.fn (.func k) a b) args H K :=
 ⟨_,⟨rfl,h.toP⟩,λo h' hp=>by obtain⟨rfl,rfl⟩:=hp; exact hk⟩
theorem QtR {k:ZP} {a b args:ZJ} {H:ZI} {Pt:Out->ZI->Prop} {K:Out->ZI->Prop} (h:OkP P k (a++args++b) H Pt) (hk:∀ out H',Pt out H'->K out H'):QdS P (.fn (.func k) a b) args H K :=
 ⟨_,⟨rfl,h⟩,hk⟩
theorem QQ {k:ZP} {args:ZJ} {H:ZI} {Pt:Out->ZI->Prop} {K:Out->ZI->Prop} (h:OkP P k args H Pt) (hk:∀ out H',Pt out H'->K out H'):QdS P (.fn (.func k) [] []) args H K :=
 QtR (by simpa using h) hk
theorem Qre {f:SV} {args:ZJ} {H:ZI} {Pt:Out->ZI->Prop} {K:Out->ZI->Prop} (h:QeY P f args H Pt) (hk:∀ out H',Pt out H'->K out H'):QdS P f args H K:=⟨_,h,hk⟩
theorem QiW {k:ZP} {a b args:ZJ} {H:ZI} {Pt:Out->ZI->Prop} (h:OkP P k (a++args++b) H Pt):QeY P (.fn (.func k) a b) args H Pt:=⟨rfl,h⟩
theorem Qb {k:ZP} {args:ZJ} {H H':ZI} {out:Out} {K:Out->ZI->Prop} (h:Ok P k args H out H') (hk:K out H'):QdS P (.fn (.func k) [] []) args H K :=
 Qio (by simpa using h) hk
def QeI (P:ZN) (on:Bool) (f:SV) (args:ZJ) (H:ZI) (K:SV->Prop):Prop:=∃ r,(on=true->OkC P f args H (.ret r) H)/\K r
@[congr] theorem QEV {on on':Bool} {f f':SV} {args args':ZJ} {H H':ZI} {K:SV->Prop} (h0:Ev on=on') (h1:Ev f=f') (h2:Ev args=args') (h3:Ev H=H'):QeI P on f args H K=QeI P on' f' args' H' K:=by rw[QT h0,QT h1,QT h2,QT h3]
theorem QAZ {on:Bool} {k:ZP} {a b args:ZJ} {H:ZI} {r:SV} {K:SV->Prop} (h:on=true->Ok P k (a++args++b) H (.ret r) H) (hk:K r):QeI P on (.fn (.func k) a b) args H K :=
 ⟨r,λho=>⟨rfl,h ho⟩,hk⟩
theorem Qfn {on:Bool} {k:ZP} {args:ZJ} {H:ZI} {r:SV} {K:SV->Prop} (h:on=true->Ok P k args H (.ret r) H) (hk:K r):QeI P on (.fn (.func k) [] []) args H K :=
 QAZ (by simpa using h) hk
theorem Qcf (f:SV) (args:ZJ) (H:ZI) (K:SV->Prop) (h:K .any):QeI P false f args H K:=⟨.any,λh=>by simp at h,h⟩
theorem Qia {k:ZP} {args:ZJ} {H H':ZI} {out:Out} (h:Ok P k args H out H'):OkC P (.fn (.func k) [] []) args H out H':=⟨rfl,by show Ok P k ([]++args++[]) H out H'; simpa using h⟩
@[simp ↓] theorem xo_p (d:Option Nat) (i:I) (U:Env) (H:ZI) (K:ZH):xo P ⟨d,none,.p i⟩ U H K=((pv i U.ev H).1/\Kn K .normal U d (pv i U.ev H).2 H):=rfl
@[simp ↓] theorem QE2 (d:Option Nat) (f:Od) (args:List Od) (U:Env) (H:ZI) (K:ZH):xo P ⟨d,none,.e (.call f args)⟩ U H K=QdS P (U.ev f) (args.map U.ev) H λout H' =>
     match out with
     |.ret r=>K .normal (U.put d r) H'
     |.pan x=>K (.panic x) U H':=rfl
def sOn (c:SV) (want:Bool) (F:Bool->Prop):Prop:=c.bish=true/\F (c.on want)
@[congr] theorem QFi {c c':SV} {want:Bool} {F:Bool->Prop} (h:Ev c=c'):sOn c want F=sOn c' want F:=by rw[QT h]
def sGo (b:Bool) (F:Bool->Prop):Prop:=F b
@[congr] theorem QHe {b b':Bool} {F:Bool->Prop} (h:Ev b=b'):sGo b F=sGo b' F:=by rw[QT h]
@[simp] theorem sGo_go (b:Bool) (F:Bool->Prop):sGo b F=F b:=rfl
@[simp] theorem sOn_go (c:SV) (want:Bool) (F:Bool->Prop):sOn c want F=(c.bish=true/\sGo (c.on want) F):=rfl
@[simp ↓] theorem xo_gp (d:Option Nat) (s:Nat) (want:Bool) (i:I) (U:Env) (H:ZI) (K:ZH):xo P ⟨d,some (s,want),.p i⟩ U H K=sOn (U.get s) want λb=>(b=true->(pv i U.ev H).1)/\Kn K .normal U d (.gd b (pv i U.ev H).2) H:=rfl
@[simp ↓] theorem xo_gq (d:Option Nat) (s:Nat) (want:Bool) (f:Od) (args:List Od) (U:Env) (H:ZI) (K:ZH):xo P ⟨d,some (s,want),.q f args⟩ U H K=sOn (U.get s) want λb=>QeI P b (U.ev f) (args.map U.ev) H λr=>K .normal (U.put d (.gd b r)) H:=rfl
@[simp ↓] theorem xo_ge (d:Option Nat) (s:Nat) (want:Bool) (i:E) (U:Env) (H:ZI) (K:ZH):xo P ⟨d,some (s,want),.e i⟩ U H K=sOn (U.get s) want λb=>if b=true then xo P ⟨d,none,.e i⟩ U H K else K .normal (U.put d (.val undef)) H:=by
 apply propext;simp only[xo,sOn,xj]
 cases (U.get s).on want<;>simp
def xdn (P:ZN) (pend:List (Ins×SV)) (o:Ins) (v:SV) (r:List Ins) (U:Env) (H:ZI) (K:ZH):Prop:=xd P ((o,v)::pend) r (U.put o.d v) H K
@[congr] theorem QJx {pend:List (Ins×SV)} {o:Ins} {v v':SV} {r:List Ins} {U:Env} {H:ZI} {K:ZH} (h:Ev v=v'):xdn P pend o v r U H K=xdn P pend o v' r U H K:=by rw[QT h]
@[simp ↓] theorem xd_nil (pend:List (Ins×SV)) (U:Env) (H:ZI) (K:ZH):xd P pend [] U H K=K .normal U H:=rfl
@[simp ↓] theorem xd_p (pend:List (Ins×SV)) (d:Option Nat) (i:I) (r:List Ins) (U:Env) (H:ZI) (K:ZH):xd P pend (⟨d,none,.p i⟩::r) U H K=((pv i U.ev H).1/\xdn P pend ⟨d,none,.p i⟩ (pv i U.ev H).2 r U H K):=rfl
@[simp ↓] theorem xd_q (pend:List (Ins×SV)) (d:Option Nat) (f:Od) (args:List Od) (r:List Ins) (U:Env) (H:ZI) (K:ZH):xd P pend (⟨d,none,.q f args⟩::r) U H K=QeI P true (U.ev f) (args.map U.ev) H λv=>xd P ((⟨d,none,.q f args⟩,v)::pend) r (U.put d v) H K:=by
 simp only[QeI,true_implies]; rfl
@[simp ↓] theorem xd_gp (pend:List (Ins×SV)) (d:Option Nat) (s:Nat) (want:Bool) (i:I) (r:List Ins) (U:Env) (H:ZI) (K:ZH):xd P pend (⟨d,some (s,want),.p i⟩::r) U H K=sOn (U.get s) want λb=>(b=true->(pv i U.ev H).1)/\xdn P pend ⟨d,some (s,want),.p i⟩ (.gd b (pv i U.ev H).2) r U H K:=rfl
@[simp ↓] theorem xd_gq (pend:List (Ins×SV)) (d:Option Nat) (s:Nat) (want:Bool) (f:Od) (args:List Od) (r:List Ins) (U:Env) (H:ZI) (K:ZH):xd P pend (⟨d,some (s,want),.q f args⟩::r) U H K=sOn (U.get s) want λb=>QeI P b (U.ev f) (args.map U.ev) H λv=>xd P ((⟨d,some (s,want),.q f args⟩,.gd b v)::pend) r (U.put d (.gd b v)) H K:=rfl
def QfF (P:ZN) (U:Env) (H:ZI):List (Ins×SV)->Prop
 |[]=>True
 |p::r=>QbR P p.1 U H p.2/\QfF P U H r
theorem QuH (U:Env) (H:ZI):∀ l,QfF P U H l=∀ p∈l,QbR P p.1 U H p.2
 |[]=>by simp[QfF]
 |p::r=>by simp only[QfF,QuH U H r,List.forall_mem_cons]
attribute [simp] QkN Qgp Qgu Ins.slots J.slots I.ods E.ods Od.slots
@[simp] theorem QEN (U:Env) (H:ZI):QfF P U H []=True:=rfl
@[simp] theorem QE5 (U:Env) (H:ZI) (o:Ins) (v:SV) (r:List (Ins×SV)):QfF P U H ((o,v)::r)=(QbR P o U H v/\QfF P U H r):=rfl
@[simp ↓] theorem xd_e (pend:List (Ins×SV)) (d:Option Nat) (g:Option (Nat×Bool)) (i:E) (r:List Ins) (U:Env) (H:ZI) (K:ZH):xd P pend (⟨d,g,.e i⟩::r) U H K=xo P ⟨d,g,.e i⟩ U H λx aw H' =>
     match x with
     |.normal=>QfF P aw H' (pend.filter λp=>QkN ⟨d,g,.e i⟩ pend p.1)/\xd P pend r aw H' K
     |x=>K x [] H':=by
 rw[xd,Zq (by simp[J.quiet])];congr 1;funext x aw H'
 cases x<;>try rfl
 simp only[QuH,Yd,and_imp]
@[simp ↓] theorem QHM (d:Option Nat) (i:I) (U:Env) (H:ZI) (v:SV):QbR P ⟨d,none,.p i⟩ U H v=((pv i U.ev H).1/\v=(pv i U.ev H).2):=rfl
@[simp ↓] theorem QF4 (d:Option Nat) (f:Od) (args:List Od) (U:Env) (H:ZI) (v:SV):QbR P ⟨d,none,.q f args⟩ U H v=OkC P (U.ev f) (args.map U.ev) H (.ret v) H:=rfl
@[simp ↓] theorem QGa (d:Option Nat) (s:Nat) (want:Bool) (i:I) (U:Env) (H:ZI) (v:SV):QbR P ⟨d,some (s,want),.p i⟩ U H v=sOn (U.get s) want λb=>(b=true->(pv i U.ev H).1)/\v=.gd b (pv i U.ev H).2:=rfl
@[simp] theorem dep_p (i:I):J.dep (.p i)=(match i with|.ld1 _|.ldn _ _|.lkp _ _ _ _ _|.bys _=>true|_=>false):=by cases i<;>rfl
@[simp] theorem xdn_go (pend:List (Ins×SV)) (o:Ins) (v:SV) (r:List Ins) (U:Env) (H:ZI) (K:ZH):xdn P pend o v r U H K=xd P ((o,v)::pend) r (U.put o.d v) H K:=rfl
def Qj5 (T:ZM) (z:ZJ) (H:ZI) (K:SV->ZI->Prop):Prop:=K (.ptr (.own H.length 0 0 0 0) 0) (H++[⟨z,T,0,true⟩])
@[congr] theorem QFo {T:ZM} {z:ZJ} {H H':ZI} {K:SV->ZI->Prop} (h9:Ev H=H'):Qj5 T z H K=Qj5 T z H' K:=by rw[QT h9]
@[simp ↓] theorem xo_alc (d:Option Nat) (T:ZM) (z:ZJ) (U:Env) (H:ZI) (K:ZH):xo P ⟨d,none,.e (.alc T z)⟩ U H K=Qj5 T z H λv H'=>K .normal (U.put d v) H':=rfl
@[simp] theorem QIu (T:ZM) (z:ZJ) (H:ZI) (K:SV->ZI->Prop):Qj5 T z H K=(Ke K (.ptr (.own H.length 0 0 0 0) 0) (H++[⟨z,T,0,true⟩])):=rfl
def Qlr (T:ZM) (x:SV) (H:ZI) (K:SV->ZI->Prop):Prop:=x.vd=true/\QF x.ug.flat/\K (.ptr (.own H.length 0 0 0 0) 0) (H++[⟨x.ug.flat,T,0,true⟩])
@[congr] theorem QJQ {T:ZM} {x x':SV} {H H':ZI} {K:SV->ZI->Prop} (h0:Ev x=x') (h9:Ev H=H'):Qlr T x H K=Qlr T x' H' K:=by rw[QT h0,QT h9]
@[simp ↓] theorem xo_box (d:Option Nat) (T:ZM) (x:Od) (U:Env) (H:ZI) (K:ZH):xo P ⟨d,none,.e (.box T x)⟩ U H K=Qlr T (U.ev x) H λv H'=>K .normal (U.put d v) H':=rfl
@[simp] theorem QE8 (T:ZM) (x:SV) (H:ZI) (K:SV->ZI->Prop):Qlr T x H K=(x.vd=true/\QF x.ug.flat/\Ke K (.ptr (.own H.length 0 0 0 0) 0) (H++[⟨x.ug.flat,T,0,true⟩])):=rfl
def Quc (T:ZM) (sz:Nat) (bytes:Nat) (z:ZJ) (len:SV) (cap:SV) (H:ZI) (K:SV->ZI->Prop):Prop:=len.isN=true/\cap.isN=true/\0<=len.int/\len.int<=cap.int/\bytes*cap.int<=140737488355328/\cap.int<=140737488355328/\K (.own H.length 0 len.int.toNat sz 0) (H++[⟨(List.replicate len.int.toNat z).flatten,T,0,true⟩])
@[simp ↓] theorem xo_mks (d:Option Nat) (T:ZM) (sz:Nat) (bytes:Nat) (z:ZJ) (len:Od) (cap:Od) (U:Env) (H:ZI) (K:ZH):xo P ⟨d,none,.e (.mks T sz bytes z len cap)⟩ U H K=Quc T sz bytes z (U.ev len) (U.ev cap) H λv H'=>K .normal (U.put d v) H':=rfl
@[simp] theorem QHB (T:ZM) (sz:Nat) (bytes:Nat) (z:ZJ) (len:SV) (cap:SV) (H:ZI) (K:SV->ZI->Prop):Quc T sz bytes z len cap H K=(len.isN=true/\cap.isN=true/\0<=len.int/\len.int<=cap.int/\bytes*cap.int<=140737488355328/\cap.int<=140737488355328/\Ke K (.own H.length 0 len.int.toNat sz 0) (H++[⟨(List.replicate len.int.toNat z).flatten,T,0,true⟩])):=rfl
def Qge (T:ZM) (sz:Nat) (bytes:Nat) (s:SV) (x:SV) (H:ZI) (K:SV->ZI->Prop):Prop:=s.vd=true/\x.vd=true/\x.ug.isSl=true/\x.ug.slen*sz<=(x.ug.row H).length/\QF (x.ug.els H sz) /\
     (s.ug.slen+x.ug.slen)*bytes<=140737488355328/\s.ug.slen+x.ug.slen<=140737488355328 /\
     match s.ug with
     |.own i 0 n sz' ver =>
       sz'=sz/\(∃ o,H[i]? = some o/\o.live=true/\o.ver=ver/\o.ty=T/\o.cells.length=n*sz)/\K (.own i 0 (n+x.ug.slen) sz (ver+1)) (setObj H i λo=>o.grow (x.ug.els H sz))
     |v=>v.isNil=true/\K (.own H.length 0 x.ug.slen sz 1) (H++[⟨x.ug.els H sz,T,1,true⟩])
@[congr] theorem QJH {T:ZM} {sz:Nat} {bytes:Nat} {s s':SV} {x x':SV} {H H':ZI} {K:SV->ZI->Prop} (h0:Ev s=s') (h1:Ev x=x') (h9:Ev H=H'):Qge T sz bytes s x H K=Qge T sz bytes s' x' H' K:=by rw[QT h0,QT h1,QT h9]
@[simp ↓] theorem xo_app (d:Option Nat) (T:ZM) (sz:Nat) (bytes:Nat) (s:Od) (x:Od) (U:Env) (H:ZI) (K:ZH):xo P ⟨d,none,.e (.app T sz bytes s x)⟩ U H K=Qge T sz bytes (U.ev s) (U.ev x) H λv H'=>K .normal (U.put d v) H':=rfl
def QbC (H:ZI) (i ver:Nat) (T:ZM) (m:Nat):Prop:=∃ o,H[i]? = some o/\o.live=true/\o.ver=ver/\o.ty=T/\o.cells.length=m
@[simp] theorem QHR (T:ZM) (sz bytes i n sz' ver:Nat) (x:SV) (H:ZI) (K:SV->ZI->Prop):Qge T sz bytes (.own i 0 n sz' ver) x H K=(x.vd=true/\x.ug.isSl=true/\x.ug.slen*sz<=(x.ug.row H).length/\QF (x.ug.els H sz) /\
     (n+x.ug.slen)*bytes<=140737488355328/\n+x.ug.slen<=140737488355328/\sz'=sz/\QbC H i ver T (n*sz)/\Ke K (.own i 0 (n+x.ug.slen) sz (ver+1)) (setObj H i λo=>o.grow (x.ug.els H sz))):=by
 simp[Qge,SV.vd,SV.ug,SV.slen,QbC,Ke]
def QhO (n:Nat) (p:SV) (x:SV) (H:ZI) (K:SV->ZI->Prop):Prop:=p.vd=true/\x.vd=true/\QF x.ug.flat/\x.ug.flat.length=n/\0<n /\
     match p.ug with
     |.ptr (.own i off _ _ ver) k=>off+k+n<=(Qo H i ver).length/\K (.val undef) (setObj H i λo=>o.put (off+k) x.ug.flat)
     |_=>False
@[congr] theorem QHt {n:Nat} {p p':SV} {x x':SV} {H H':ZI} {K:SV->ZI->Prop} (h0:Ev p=p') (h1:Ev x=x') (h9:Ev H=H'):QhO n p x H K=QhO n p' x' H' K:=by rw[QT h0,QT h1,QT h9]
@[simp ↓] theorem xo_st (d:Option Nat) (n:Nat) (p:Od) (x:Od) (U:Env) (H:ZI) (K:ZH):xo P ⟨d,none,.e (.st n p x)⟩ U H K=QhO n (U.ev p) (U.ev x) H λv H'=>K .normal (U.put d v) H':=rfl
@[simp] theorem QFv (n i off len sz ver k:Nat) (x:SV) (H:ZI) (K:SV->ZI->Prop):QhO n (.ptr (.own i off len sz ver) k) x H K=(x.vd=true/\QF x.ug.flat/\x.ug.flat.length=n/\0<n /\
     off+k+n<=(Qo H i ver).length/\Ke K (.val undef) (setObj H i λo=>o.put (off+k) x.ug.flat)):=by
 simp[QhO,SV.vd,SV.ug,Ke]
def Qik (x:SV) (K:SV->Prop):Prop:=x.vd=true/\match x.ug with
 |.ifc t y=>K (.ifc t y)
 |_=>False
@[congr] theorem QHa {x x':SV} {K:SV->Prop} (h:Ev x=x'):Qik x K=Qik x' K:=by rw[QT h]
@[simp] theorem QFO (t:ZM) (y:SV) (K:SV->Prop):Qik (.ifc t y) K=K (.ifc t y):=by simp[Qik,SV.vd,SV.ug]
@[simp ↓] theorem xo_pan (d:Option Nat) (x:Od) (U:Env) (H:ZI) (K:ZH):xo P ⟨d,none,.e (.pan x)⟩ U H K=Qik (U.ev x) λy=>K (.panic y) U H:=rfl
@[simp ↓] theorem xo_stw (d:Option Nat) (ws:List Nat) (n:Nat) (p x:Od) (U:Env) (H:ZI) (K:ZH):xo P ⟨d,none,.e (.stw ws n p x)⟩ U H K=QhO n (U.ev p) (U.ev x) H λv H'=>K .normal (U.put d v) H':=rfl
def Qpe (T:ZM) (sz:Nat) (x:SV) (H:ZI) (K:SV->ZI->Prop):Prop:=x.vd=true/\x.ug.isNil=true/\K (.own H.length 0 0 sz 0) (H++[⟨[],T,0,true⟩])
@[simp ↓] theorem xo_nil (d:Option Nat) (T:ZM) (sz:Nat) (x:Od) (U:Env) (H:ZI) (K:ZH):xo P ⟨d,none,.e (.nil T sz x)⟩ U H K=Qpe T sz (U.ev x) H λv H'=>K .normal (U.put d v) H':=rfl
@[simp] theorem QG2 (T:ZM) (sz:Nat) (x:SV) (H:ZI) (K:SV->ZI->Prop):Qpe T sz x H K=(x.vd=true/\x.ug.isNil=true/\Ke K (.own H.length 0 0 sz 0) (H++[⟨[],T,0,true⟩])):=rfl
def QDp (T:ZM) (sz:Nat) (x:SV) (H:ZI) (K:SV->ZI->Prop):Prop:=x.vd=true/\x.ug.isSl=true/\K (.own H.length 0 0 sz 0) (H++[⟨[],T,0,true⟩])
@[simp] theorem QFY (T:ZM) (sz:Nat) (x:SV) (H:ZI) (K:SV->ZI->Prop):QDp T sz x H K=(x.vd=true/\x.ug.isSl=true/\Ke K (.own H.length 0 0 sz 0) (H++[⟨[],T,0,true⟩])):=rfl
def QiG (T:ZM) (s:SV) (x:SV) (H:ZI) (K:SV->ZI->Prop):Prop:=s.vd=true/\x.isS=true/\s.ug.slen+x.str.size<=140737488355328 /\
     match s.ug with
     |.own i 0 n sz' ver =>
       sz'=1/\(∃ o,H[i]? = some o/\o.live=true/\o.ver=ver/\o.ty=T/\o.cells.length=n*1)/\K (.own i 0 (n+x.str.size) 1 (ver+1)) (setObj H i λo=>o.grow (Qag x.str))
     |v=>v.isNil=true/\K (.own H.length 0 x.str.size 1 1) (H++[⟨Qag x.str,T,1,true⟩])
@[congr] theorem QH5 {T:ZM} {s s':SV} {x x':SV} {H H':ZI} {K:SV->ZI->Prop} (h0:Ev s=s') (h1:Ev x=x') (h9:Ev H=H'):QiG T s x H K=QiG T s' x' H' K:=by rw[QT h0,QT h1,QT h9]
@[simp ↓] theorem xo_aps (d:Option Nat) (T:ZM) (s:Od) (x:Od) (U:Env) (H:ZI) (K:ZH):xo P ⟨d,none,.e (.aps T s x)⟩ U H K=QiG T (U.ev s) (U.ev x) H λv H'=>K .normal (U.put d v) H':=rfl
@[simp] theorem QHg (T:ZM) (i n sz' ver:Nat) (x:SV) (H:ZI) (K:SV->ZI->Prop):QiG T (.own i 0 n sz' ver) x H K=(x.isS=true /\
     n+x.str.size<=140737488355328/\sz'=1/\QbC H i ver T (n*1)/\Ke K (.own i 0 (n+x.str.size) 1 (ver+1)) (setObj H i λo=>o.grow (Qag x.str))):=by
 simp[QiG,SV.vd,SV.ug,SV.slen,QbC,Ke]
def Qlf (x:SV) (H:ZI) (K:SV->ZI->Prop):Prop:=x.isS=true/\K (.slc (Qag x.str) x.str.size) H
@[congr] theorem QFV {x x':SV} {H H':ZI} {K:SV->ZI->Prop} (h0:Ev x=x') (h9:Ev H=H'):Qlf x H K=Qlf x' H' K:=by rw[QT h0,QT h9]
@[simp ↓] theorem xo_sby (d:Option Nat) (x:Od) (U:Env) (H:ZI) (K:ZH):xo P ⟨d,none,.e (.sby x)⟩ U H K=Qlf (U.ev x) H λv H'=>K .normal (U.put d v) H':=rfl
@[simp] theorem QJC (x:SV) (H:ZI) (K:SV->ZI->Prop):Qlf x H K=(x.isS=true/\Ke K (.slc (Qag x.str) x.str.size) H):=rfl
def QjL (T:ZM) (H:ZI) (K:SV->ZI->Prop):Prop:=K (.mp H.length 0) (H++[⟨[.mk []],T,0,false⟩])
@[congr] theorem QIl {T:ZM} {H H':ZI} {K:SV->ZI->Prop} (h9:Ev H=H'):QjL T H K=QjL T H' K:=by rw[QT h9]
@[simp ↓] theorem xo_mkm (d:Option Nat) (T:ZM) (U:Env) (H:ZI) (K:ZH):xo P ⟨d,none,.e (.mkm T)⟩ U H K=QjL T H λv H'=>K .normal (U.put d v) H':=rfl
@[simp] theorem QI0 (T:ZM) (H:ZI) (K:SV->ZI->Prop):QjL T H K=Ke K (.mp H.length 0) (H++[⟨[.mk []],T,0,false⟩]):=rfl
def QkS (kk:KK) (m k v:SV) (H:ZI) (K:SV->ZI->Prop):Prop:=m.vd=true/\k.isK kk=true/\v.vd=true /\
     match m.ug,m.ug.mapOf H with
     |.mp i _,some x=>x.1.all kk.is=true/\(∀ v∈k.key kk::x.1,kk.knows v)/\K (.val undef) (setObj H i λo=>{ o with cells:=.mk (Q9 (k.key kk) x.1)::Q6 (k.key kk) v.ug x.1 x.2 })
     |_,_=>False
@[congr] theorem QH4 {kk:KK} {m m' k k' v v':SV} {H H':ZI} {K:SV->ZI->Prop} (h0:Ev m=m') (h1:Ev k=k') (h2:Ev v=v') (h9:Ev H=H'):QkS kk m k v H K=QkS kk m' k' v' H' K:=by rw[QT h0,QT h1,QT h2,QT h9]
@[simp ↓] theorem xo_mup (d:Option Nat) (kk:KK) (m k v:Od) (U:Env) (H:ZI) (K:ZH):xo P ⟨d,none,.e (.mup kk m k v)⟩ U H K=QkS kk (U.ev m) (U.ev k) (U.ev v) H λw H'=>K .normal (U.put d w) H':=rfl
theorem Qb0 {kk:KK} {i ver:Nat} {k v:SV} {H:ZI} {K:SV->ZI->Prop} {x:ZK×ZJ} (hm:(SV.mp i ver).mapOf H=some x) (hk:k.isK kk=true) (hv:v.vd=true) (ha:x.1.all kk.is=true)
 (h:K (.val undef) (setObj H i λo=>{ o with cells:=.mk (Q9 (k.key kk) x.1)::Q6 (k.key kk) v.ug x.1 x.2 })) (hkn:∀ v∈k.key kk::x.1,kk.knows v:=by simp):QkS kk (.mp i ver) k v H K:=by
 refine⟨rfl,hk,hv,?_⟩;simp only[SV.ug];rw[hm];exact⟨ha,hkn,h⟩
def Qv7 (neg:Bool) (right:Bool) (x:SV) (H:ZI) (K:SV->ZI->Prop):Prop:=x.vd=true/\x.ug.isSl=true/\(x.ug.slen≠0->K (bl neg) H)/\(x.ug.slen=0->K (bl neg) H/\K (bl (!neg)) H)
@[simp] theorem QGd (neg:Bool) (right:Bool) (x:SV) (H:ZI) (K:SV->ZI->Prop):Qv7 neg right x H K=(x.vd=true/\x.ug.isSl=true/\(x.ug.slen≠0->Ke K (bl neg) H)/\(x.ug.slen=0->Ke K (bl neg) H/\Ke K (bl (!neg)) H)):=rfl
def QiZ (T:ZM) (sz len:Nat) (z:ZJ) (parts:List (Nat×SV)) (H:ZI) (K:SV->ZI->Prop):Prop :=
 (∀ p∈parts,QaW sz p.2/\p.1*sz+sz<=len*sz)/\QF (Qba (List.replicate len z).flatten (parts.map λp=>(p.1*sz,p.2))) /\
  K (.own H.length 0 len sz 0) (H++[⟨Qba (List.replicate len z).flatten (parts.map λp=>(p.1*sz,p.2)),T,0,true⟩])
@[congr] theorem QJD {T:ZM} {sz len:Nat} {z:ZJ} {parts parts':List (Nat×SV)} {H H':ZI} {K:SV->ZI->Prop} (h:Ev parts=parts') (h2:Ev H=H'):QiZ T sz len z parts H K=QiZ T sz len z parts' H' K:=by rw[QT h,QT h2]
@[simp ↓] theorem xo_bsl (d:Option Nat) (T:ZM) (sz len:Nat) (z:ZJ) (parts:List (Nat×Od)) (U:Env) (H:ZI) (K:ZH) :
 xo P ⟨d,none,.e (.bsl T sz len z parts)⟩ U H K=QiZ T sz len z (parts.map λp=>(p.1,U.ev p.2)) H λv H'=>K .normal (U.put d v) H':=by
 simp only[xo,xj,xe,QiZ,YJ,Function.comp_def,Zn]
@[simp] theorem QI8 (T:ZM) (sz len:Nat) (z:ZJ) (parts:List (Nat×SV)) (H:ZI) (K:SV->ZI->Prop):QiZ T sz len z parts H K=(
 (∀ p∈parts,QaW sz p.2/\p.1*sz+sz<=len*sz)/\QF (Qba (List.replicate len z).flatten (parts.map λp=>(p.1*sz,p.2))) /\
  Ke K (.own H.length 0 len sz 0) (H++[⟨Qba (List.replicate len z).flatten (parts.map λp=>(p.1*sz,p.2)),T,0,true⟩])):=rfl
def ldv (H:ZI) (p:SV):SV:=(p.at H).headD .any
def QmG (H:ZI) (p:SV) (n:Nat):ZJ:=(p.at H).take n
def Qf4 (H:ZI) (p:SV) (n:Nat):Prop:=n<=(p.at H).length
@[simp] theorem QIE (H:ZI) (i off len sz ver k:Nat):ldv H (.ptr (.own i off len sz ver) k)=(((Qo H i ver).drop off).drop k).headD .any:=rfl
@[simp] theorem QIQ (H:ZI) (c:ZJ) (n k:Nat):ldv H (.ptr (.slc c n) k)=(c.drop k).headD .any:=rfl
@[simp] theorem QF1 (H:ZI) (i off len sz ver k n:Nat):QmG H (.ptr (.own i off len sz ver) k) n=(((Qo H i ver).drop off).drop k).take n:=rfl
@[simp] theorem QIO (H:ZI) (c:ZJ) (m k n:Nat):QmG H (.ptr (.slc c m) k) n=(c.drop k).take n:=rfl
@[simp] theorem QIL (H:ZI) (i off len sz ver k n:Nat):Qf4 H (.ptr (.own i off len sz ver) k) n=(n<=(((Qo H i ver).drop off).drop k).length):=rfl
@[simp] theorem QGy (H:ZI) (c:ZJ) (m k n:Nat):Qf4 H (.ptr (.slc c m) k) n=(n<=(c.drop k).length):=rfl
variable (g:Od->SV) (H:ZI)
@[simp ↓] theorem QIw (x:Od):(pv (.mov x) g H).1=(True):=rfl
@[simp ↓] theorem QE1 (x:Od):(pv (.mov x) g H).2=g x:=rfl
@[simp ↓] theorem QGN (c:Od) (a:Od) (b:Od):(pv (.pick c a b) g H).1=((g c).isB=true/\(if(g c).bool=true then(g a).isB=true else(g b).isB=true)):=by
 first
 |rfl
 | (apply propext; simp only[pv]; cases (g c).bool<;>simp)
@[simp ↓] theorem QIq (c:Od) (a:Od) (b:Od):(pv (.pick c a b) g H).2=bl (cond (g c).bool (g a).bool (g b).bool):=by
 first
 |rfl
 | (apply propext; simp only[pv]; cases (g c).bool<;>simp)
@[simp ↓] theorem QIx (k:IntKind) (x:Od):(pv (.neg k x) g H).1=((g x).isI k=true):=rfl
@[simp ↓] theorem QIz (k:IntKind) (x:Od):(pv (.neg k x) g H).2=.val (.int k (k.wrap (0-(g x).int))):=rfl
@[simp ↓] theorem QJL (x:Od):(pv (.not x) g H).1=((g x).isB=true):=rfl
@[simp ↓] theorem QJA (x:Od):(pv (.not x) g H).2=bl (!(g x).bool):=rfl
@[simp ↓] theorem QIC (k:IntKind) (x:Od):(pv (.cvi k x) g H).1=((g x).isN=true):=rfl
@[simp ↓] theorem QH3 (k:IntKind) (x:Od):(pv (.cvi k x) g H).2=.val (.int k (k.wrap (g x).int)):=rfl
@[simp ↓] theorem QJR (p:Od):(pv (.ld1 p) g H).1=((g p).vd=true/\Qf4 H (g p).ug 1):=rfl
@[simp ↓] theorem QGt (p:Od):(pv (.ld1 p) g H).2=ldv H (g p).ug:=rfl
@[simp ↓] theorem QHP (n:Nat) (p:Od):(pv (.ldn n p) g H).1=((g p).vd=true/\Qf4 H (g p).ug n/\0<n):=rfl
@[simp ↓] theorem QER (n:Nat) (p:Od):(pv (.ldn n p) g H).2=.agg (QmG H (g p).ug n):=rfl
@[simp ↓] theorem pv1_ia (sz:Nat) (s:Od) (j:Od):(pv (.ia sz s j) g H).1=((g s).vd=true/\(g s).ug.isSl=true/\(g j).isN=true/\0<=(g j).int/\(g j).int<(g s).ug.slen):=rfl
@[simp ↓] theorem pv2_ia (sz:Nat) (s:Od) (j:Od):(pv (.ia sz s j) g H).2=.ptr (g s).ug ((g j).int.toNat*sz):=rfl
@[simp ↓] theorem QIF (s:Od) (j:Od):(pv (.ixs s j) g H).1=((g s).isS=true/\(g j).isN=true/\0<=(g j).int/\(g j).int<(g s).str.size):=rfl
@[simp ↓] theorem QHq (s:Od) (j:Od):(pv (.ixs s j) g H).2=.val (.int .u8 ((g s).str.data.toList.getD (g j).int.toNat 0).toNat):=rfl
@[simp ↓] theorem pv1_sl (sz:Nat) (x:Od) (lo:Option Od) (hi:Option Od):(pv (.sl sz x lo hi) g H).1=((g x).vd=true/\(g x).ug.isSl=true/\(g x).ug.szIs sz=true/\Qdi (lo.map g)/\Qdi (hi.map g)/\Qbr (lo.map g)<=Qbj (g x).ug.slen (hi.map g)/\Qbj (g x).ug.slen (hi.map g)<=(g x).ug.slen):=rfl
@[simp ↓] theorem pv2_sl (sz:Nat) (x:Od) (lo:Option Od) (hi:Option Od):(pv (.sl sz x lo hi) g H).2=(g x).ug.cut sz (Qbr (lo.map g)) (Qbj (g x).ug.slen (hi.map g)):=rfl
@[simp ↓] theorem QIB (x:Od) (lo:Option Od) (hi:Option Od):(pv (.sls x lo hi) g H).1=((g x).isS=true/\Qdi (lo.map g)/\Qdi (hi.map g)/\Qbr (lo.map g)<=Qbj (g x).str.size (hi.map g)/\Qbj (g x).str.size (hi.map g)<=(g x).str.size):=rfl
@[simp ↓] theorem QFW (x:Od) (lo:Option Od) (hi:Option Od):(pv (.sls x lo hi) g H).2=st ((g x).str.extract (Qbr (lo.map g)) (Qbj (g x).str.size (hi.map g))):=rfl
@[simp ↓] theorem QIM (x:Od):(pv (.len x) g H).1=((g x).vd=true/\(g x).ug.isSl=true):=rfl
@[simp ↓] theorem QFh (x:Od):(pv (.len x) g H).2=V (g x).ug.slen:=rfl
@[simp ↓] theorem QId (x:Od):(pv (.lens x) g H).1=((g x).isS=true):=rfl
@[simp ↓] theorem QFd (x:Od):(pv (.lens x) g H).2=V (g x).str.size:=rfl
@[simp ↓] theorem pv1_mm (mx:Bool) (k:IntKind) (x:Od) (y:Od):(pv (.mm mx k x y) g H).1=((g x).isI k=true/\(g y).isI k=true):=rfl
@[simp ↓] theorem pv2_mm (mx:Bool) (k:IntKind) (x:Od) (y:Od):(pv (.mm mx k x y) g H).2=.val (.int k (if mx=true then max (g x).int (g y).int else min (g x).int (g y).int)):=rfl
@[simp ↓] theorem QJI (f:Fn) (first:List Od) (cap:List Od):(pv (.mkf f first cap) g H).1=(True):=rfl
@[simp ↓] theorem QHJ (f:Fn) (first:List Od) (cap:List Od):(pv (.mkf f first cap) g H).2=.fn f (first.map g) (cap.map g):=rfl
@[simp ↓] theorem QFt (t:ZM) (x:Od):(pv (.mki t x) g H).1=(True):=rfl
@[simp ↓] theorem QHF (t:ZM) (x:Od):(pv (.mki t x) g H).2=.ifc t (g x):=rfl
@[simp ↓] theorem QHU (T:ZM) (sz len:Nat) (z:ZJ) (parts:List (Nat×SV)):(pv (.kro T sz len z parts) g H).1=True:=rfl
@[simp ↓] theorem QJP (T:ZM) (sz len:Nat) (z:ZJ) (parts:List (Nat×SV)):(pv (.kro T sz len z parts) g H).2=.slc (Qba (List.replicate len z).flatten (parts.map λp=>(p.1*sz,p.2))) len:=rfl
@[simp ↓] theorem QGg (z:ZJ) (parts:List (Nat×Nat×Od)):(pv (.bld z parts) g H).1=(∀ p∈parts.map (λp=>(p.1,p.2.1,g p.2.2)),QaW p.2.1 p.2.2/\p.1+p.2.1<=z.length):=by
 first
 |rfl
 | (apply propext; simp only[pv,Zn])
@[simp ↓] theorem QIt (z:ZJ) (parts:List (Nat×Nat×Od)):(pv (.bld z parts) g H).2=.agg (Qba z (parts.map λp=>(p.1,g p.2.2))):=by
 first
 |rfl
 | (apply propext; simp only[pv,Zn])
def SV.isPt:SV->Bool
 |.ptr _ _=>true
 |_=>false
def SV.isAg:SV->Bool
 |.agg _=>true
 |_=>false
def SV.isTu:SV->Bool
 |.tup _=>true
 |_=>false
def SV.isNc:SV->Bool
 |.ptr _ _=>true
 |.fn (.func _) _ _=>true
 |_=>false
def SV.els':SV->ZJ
 |.agg l=>l
 |.tup l=>l
 |_=>[]
def SV.mv (off:Nat):SV->SV
 |.ptr s k=>.ptr s (k+off)
 |_=>.any
@[simp ↓] theorem pv1_fa (off:Nat) (p:Od):(pv (.fa off p) g H).1=((g p).ug.isPt=true/\(g p).vd=true):=by
 cases hu:(g p).ug<;>simp[pv,hu,SV.isPt]
@[simp ↓] theorem pv2_fa (off:Nat) (p:Od) (h:(g p).ug.isPt=true):(pv (.fa off p) g H).2=(g p).ug.mv off:=by
 cases hu:(g p).ug<;>simp[pv,hu,SV.isPt,SV.mv]at h ⊢
@[simp ↓] theorem QJd (off:Nat) (x:Od):(pv (.fld1 off x) g H).1=((g x).ug.isAg=true/\(g x).vd=true/\off<(g x).ug.els'.length):=by
 cases hu:(g x).ug<;>simp[pv,hu,SV.isAg,SV.els']
@[simp ↓] theorem QI3 (off:Nat) (x:Od) (h:(g x).ug.isAg=true):(pv (.fld1 off x) g H).2=(g x).ug.els'.getD off .any:=by
 cases hu:(g x).ug<;>simp[pv,hu,SV.isAg,SV.els']at h ⊢
@[simp ↓] theorem QGG (len:Nat) (sz:Nat) (p:Od) (j:Od):(pv (.iap len sz p j) g H).1=((g p).ug.isPt=true/\(g p).vd=true/\(g j).isN=true/\0<=(g j).int/\(g j).int<len):=by
 cases hu:(g p).ug<;>simp[pv,hu,SV.isPt]
@[simp ↓] theorem QIA (len:Nat) (sz:Nat) (p:Od) (j:Od) (h:(g p).ug.isPt=true):(pv (.iap len sz p j) g H).2=(g p).ug.mv ((g j).int.toNat*sz):=by
 cases hu:(g p).ug<;>simp[pv,hu,SV.isPt,SV.mv]at h ⊢
@[simp ↓] theorem QFX (len:Nat) (sz:Nat) (one:Bool) (x:Od) (j:Od):(pv (.ixa len sz one x j) g H).1=((g x).ug.isAg=true/\(g x).vd=true/\(g j).isN=true/\0<=(g j).int/\(g j).int<len/\(g x).ug.els'.length=len*sz/\(one=true->sz=1)):=by
 cases hu:(g x).ug<;>simp[pv,hu,SV.isAg,SV.els']
@[simp ↓] theorem QGc (len:Nat) (sz:Nat) (one:Bool) (x:Od) (j:Od) (h:(g x).ug.isAg=true):(pv (.ixa len sz one x j) g H).2=if one=true then(g x).ug.els'.getD (g j).int.toNat .any else .agg (((g x).ug.els'.drop ((g j).int.toNat*sz)).take sz):=by
 cases hu:(g x).ug<;>simp[pv,hu,SV.isAg,SV.els']at h ⊢
@[simp ↓] theorem QG6 (x:Od) (j:Nat):(pv (.ext x j) g H).1=((g x).ug.isTu=true/\(g x).vd=true/\j<(g x).ug.els'.length):=by
 cases hu:(g x).ug<;>simp[pv,hu,SV.isTu,SV.els']
@[simp ↓] theorem QFR (x:Od) (j:Nat) (h:(g x).ug.isTu=true):(pv (.ext x j) g H).2=(g x).ug.els'.getD j .any:=by
 cases hu:(g x).ug<;>simp[pv,hu,SV.isTu,SV.els']at h ⊢
@[simp ↓] theorem QFq (x:Od):(pv (.nck x) g H).1=((g x).ug.isNc=true/\(g x).vd=true):=by
 cases hu:(g x).ug with
 |fn f a b=>cases f<;>simp[pv,hu,SV.isNc]
 |_=>simp[pv,hu,SV.isNc]
@[simp ↓] theorem QGL (x:Od) (h:(g x).ug.isNc=true):(pv (.nck x) g H).2=(g x).ug:=by
 cases hu:(g x).ug with
 |fn f a b=>rw[hu]at h; cases f<;>simp[pv,hu,SV.isNc]at h ⊢
 |_=>simp[hu,SV.isNc]at h ⊢ <;> simp[pv,hu]
@[simp ↓] theorem QIT (neg:Bool) (ks:List CK) (x y:Od):(pv (.eqf neg ks x y) g H).1=((g x).ug.isAg=true/\(g y).ug.isAg=true/\(g x).vd=true/\(g y).vd=true/\QbH ks (g x).ug.els' (g y).ug.els'):=by
 cases hu:(g x).ug<;>cases hv:(g y).ug<;>simp[pv,hu,hv,SV.isAg,SV.els']
@[simp ↓] theorem QHf (neg:Bool) (ks:List CK) (x y:Od) (h:((g x).ug.isAg&&(g y).ug.isAg)=true):(pv (.eqf neg ks x y) g H).2=bl (if neg=true then !Qbu ks (g x).ug.els' (g y).ug.els' else Qbu ks (g x).ug.els' (g y).ug.els'):=by
 cases hu:(g x).ug<;>cases hv:(g y).ug<;>simp[pv,hu,hv,SV.isAg,SV.els']at h ⊢
@[simp ↓] theorem QH7 (k:IntKind) (x y:Od):(pv (.bin .add (.i k) x y) g H).1=((g x).isI k=true/\(g y).isI k=true):=rfl
@[simp ↓] theorem QIs (k:IntKind) (x y:Od):(pv (.bin .add (.i k) x y) g H).2=.val (.int k (k.wrap ((g x).int+(g y).int))):=rfl
@[simp ↓] theorem QGT (k:IntKind) (x y:Od):(pv (.bin .sub (.i k) x y) g H).1=((g x).isI k=true/\(g y).isI k=true):=rfl
@[simp ↓] theorem QGJ (k:IntKind) (x y:Od):(pv (.bin .sub (.i k) x y) g H).2=.val (.int k (k.wrap ((g x).int-(g y).int))):=rfl
@[simp ↓] theorem QFp (k:IntKind) (x y:Od):(pv (.bin .mul (.i k) x y) g H).1=((g x).isI k=true/\(g y).isI k=true):=rfl
@[simp ↓] theorem QG9 (k:IntKind) (x y:Od):(pv (.bin .mul (.i k) x y) g H).2=.val (.int k (k.wrap ((g x).int*(g y).int))):=rfl
@[simp ↓] theorem QF9 (k:IntKind) (x y:Od):(pv (.bin .quo (.i k) x y) g H).1=((g x).isI k=true/\(g y).isI k=true/\(g y).int≠0):=rfl
@[simp ↓] theorem QIP (k:IntKind) (x y:Od):(pv (.bin .quo (.i k) x y) g H).2=.val (.int k (k.wrap ((g x).int.tdiv (g y).int))):=rfl
@[simp ↓] theorem QIp (k:IntKind) (x y:Od):(pv (.bin .rem (.i k) x y) g H).1=((g x).isI k=true/\(g y).isI k=true/\(g y).int≠0):=rfl
@[simp ↓] theorem QJy (k:IntKind) (x y:Od):(pv (.bin .rem (.i k) x y) g H).2=.val (.int k ((g x).int.tmod (g y).int)):=rfl
@[simp ↓] theorem QH2 (k:IntKind) (x y:Od):(pv (.bin .and (.i k) x y) g H).1=((g x).isI k=true/\(g y).isI k=true):=rfl
@[simp ↓] theorem QI6 (k:IntKind) (x y:Od):(pv (.bin .and (.i k) x y) g H).2=.val (.int k (Qe7 .and k (g x).int (g y).int)):=rfl
@[simp ↓] theorem QGI (k:IntKind) (x y:Od):(pv (.bin .or (.i k) x y) g H).1=((g x).isI k=true/\(g y).isI k=true):=rfl
@[simp ↓] theorem QI1 (k:IntKind) (x y:Od):(pv (.bin .or (.i k) x y) g H).2=.val (.int k (Qe7 .or k (g x).int (g y).int)):=rfl
@[simp ↓] theorem QHh (k:IntKind) (x y:Od):(pv (.bin .xor (.i k) x y) g H).1=((g x).isI k=true/\(g y).isI k=true):=rfl
@[simp ↓] theorem QJa (k:IntKind) (x y:Od):(pv (.bin .xor (.i k) x y) g H).2=.val (.int k (Qe7 .xor k (g x).int (g y).int)):=rfl
@[simp ↓] theorem QHO (k:IntKind) (x y:Od):(pv (.bin .andNot (.i k) x y) g H).1=((g x).isI k=true/\(g y).isI k=true):=rfl
@[simp ↓] theorem QGk (k:IntKind) (x y:Od):(pv (.bin .andNot (.i k) x y) g H).2=.val (.int k (Qe7 .andNot k (g x).int (g y).int)):=rfl
@[simp ↓] theorem QF0 (k:IntKind) (x y:Od):(pv (.bin .eql (.i k) x y) g H).1=((g x).isI k=true/\(g y).isI k=true):=rfl
@[simp ↓] theorem QIn (k:IntKind) (x y:Od):(pv (.bin .eql (.i k) x y) g H).2=bl (decide ((g x).int=(g y).int)):=rfl
@[simp ↓] theorem QHE (k:IntKind) (x y:Od):(pv (.bin .neq (.i k) x y) g H).1=((g x).isI k=true/\(g y).isI k=true):=rfl
@[simp ↓] theorem QHl (k:IntKind) (x y:Od):(pv (.bin .neq (.i k) x y) g H).2=bl (!decide ((g x).int=(g y).int)):=rfl
@[simp ↓] theorem QGX (k:IntKind) (x y:Od):(pv (.bin .lss (.i k) x y) g H).1=((g x).isI k=true/\(g y).isI k=true):=rfl
@[simp ↓] theorem QGw (k:IntKind) (x y:Od):(pv (.bin .lss (.i k) x y) g H).2=bl (decide ((g x).int<(g y).int)):=rfl
@[simp ↓] theorem QIe (k:IntKind) (x y:Od):(pv (.bin .leq (.i k) x y) g H).1=((g x).isI k=true/\(g y).isI k=true):=rfl
@[simp ↓] theorem QJS (k:IntKind) (x y:Od):(pv (.bin .leq (.i k) x y) g H).2=bl (decide ((g x).int<=(g y).int)):=rfl
@[simp ↓] theorem QIv (k:IntKind) (x y:Od):(pv (.bin .gtr (.i k) x y) g H).1=((g x).isI k=true/\(g y).isI k=true):=rfl
@[simp ↓] theorem QJU (k:IntKind) (x y:Od):(pv (.bin .gtr (.i k) x y) g H).2=bl (decide ((g y).int<(g x).int)):=rfl
@[simp ↓] theorem QJw (k:IntKind) (x y:Od):(pv (.bin .geq (.i k) x y) g H).1=((g x).isI k=true/\(g y).isI k=true):=rfl
@[simp ↓] theorem QFj (k:IntKind) (x y:Od):(pv (.bin .geq (.i k) x y) g H).2=bl (decide ((g y).int<=(g x).int)):=rfl
@[simp ↓] theorem QGh (x y:Od):(pv (.bin .eql .s x y) g H).1=((g x).isS=true/\(g y).isS=true):=rfl
@[simp ↓] theorem QJj (x y:Od):(pv (.bin .eql .s x y) g H).2=bl (decide ((g x).str.data.toList=(g y).str.data.toList)):=rfl
@[simp ↓] theorem QFJ (x y:Od):(pv (.bin .neq .s x y) g H).1=((g x).isS=true/\(g y).isS=true):=rfl
@[simp ↓] theorem QGQ (x y:Od):(pv (.bin .neq .s x y) g H).2=bl (!decide ((g x).str.data.toList=(g y).str.data.toList)):=rfl
@[simp ↓] theorem QHr (x y:Od):(pv (.bin .add .s x y) g H).1=((g x).isS=true/\(g y).isS=true/\(g x).str.size+(g y).str.size<=9223372036854775807):=rfl
@[simp ↓] theorem QHc (x y:Od):(pv (.bin .add .s x y) g H).2=st ((g x).str++(g y).str):=rfl
@[simp ↓] theorem QJN (x y:Od):(pv (.bin .eql .b x y) g H).1=((g x).isB=true/\(g y).isB=true):=rfl
@[simp ↓] theorem QFc (x y:Od):(pv (.bin .eql .b x y) g H).2=bl ((g x).bool==(g y).bool):=rfl
@[simp ↓] theorem QJr (x y:Od):(pv (.bin .neq .b x y) g H).1=((g x).isB=true/\(g y).isB=true):=rfl
@[simp ↓] theorem QGj (x y:Od):(pv (.bin .neq .b x y) g H).2=bl ((g x).bool != (g y).bool):=rfl
@[simp ↓] theorem QI5 (k len sz:Nat) (cs:ZJ) (j:Od):(pv (.gix k len sz cs j) g H).1=((g j).isN=true/\0<=(g j).int/\(g j).int<len):=rfl
@[simp ↓] theorem QE9 (k len sz:Nat) (cs:ZJ) (j:Od):(pv (.gix k len sz cs j) g H).2=.ptr (.slc cs cs.length) ((g j).int.toNat*sz):=rfl
@[simp ↓] theorem QHy (neg right:Bool) (x:Od):(pv (.ifn neg right x) g H).1=((g x).vd=true/\(g x).ug.isIf=true):=rfl
@[simp ↓] theorem QGf (neg right:Bool) (x:Od):(pv (.ifn neg right x) g H).2=bl (if(g x).ug.ifNil=true then !neg else neg):=rfl
@[simp ↓] theorem QFw (x:Od):(pv (.rst x) g H).1=((g x).isN=true):=rfl
@[simp ↓] theorem QGE (x:Od):(pv (.rst x) g H).2=.val (.string (Utf8.encode (g x).int)):=rfl
@[simp ↓] theorem QGO (t:ZM) (ok:Bool) (z:SV) (x:Od):(pv (.tas t ok z x) g H).1=((g x).vd=true/\(g x).ug.isIf=true/\(ok=true\/(g x).ug.ifIs t=true)):=rfl
@[simp ↓] theorem QGW (t:ZM) (ok:Bool) (z:SV) (x:Od):(pv (.tas t ok z x) g H).2=if ok=true then(if(g x).ug.ifIs t=true then .tup [(g x).ug.ifVal,bl true]else .tup [z,bl false])else(g x).ug.ifVal:=rfl
@[simp ↓] theorem pv_lkp (kk:KK) (ok:Bool) (z:SV) (m k:Od):pv (.lkp kk ok z m k) g H=(match (g m).ug.mapOf H with
 |some x=>((g m).vd=true/\(g k).isK kk=true/\x.1.all kk.is=true/\(∀ v∈(g k).key kk::x.1,kk.knows v),
  if ok=true then .tup [(lkm ((g k).key kk) x.1 x.2).getD z,bl (lkm ((g k).key kk) x.1 x.2).isSome]else(lkm ((g k).key kk) x.1 x.2).getD z)
 |none=>(False,.any)):=rfl
@[simp ↓] theorem pv_iav (sz:Nat) (s j:Od):pv (.iav sz s j) g H=(match (g s).ug with
 |.val (.slice (some a) len _)=>((g s).vd=true/\(g j).isN=true/\0<=(g j).int/\(g j).int<len,.val (.pointer (some (a.add ((g j).int.toNat*sz)))))
 |_=>(False,.any)):=rfl
@[simp ↓] theorem pv_lnv (x:Od):pv (.lnv x) g H=(match (g x).ug with
 |.val (.slice _ len _)=>((g x).vd=true,V len)
 |_=>(False,.any)):=rfl
@[simp ↓] theorem QH6 (x:Od):(pv (.bys x) g H).1=((g x).vd=true/\(g x).ug.isSl=true/\Qhu ((g x).ug.row H) (g x).ug.slen=true):=rfl
@[simp ↓] theorem QGA (x:Od):(pv (.bys x) g H).2=.val (.string (Qgr (((g x).ug.row H).take (g x).ug.slen))):=rfl
@[simp ↓] theorem pv1_no:(pv .no g H).1=False:=rfl
@[simp ↓] theorem pv2_no:(pv .no g H).2=.any:=rfl
@[simp ↓] theorem QI7 (op:BinOp) (k yk:IntKind) (x y:Od):pv (.bin op (.sh k yk) x y) g H=QdL op (.sh k yk) (g x) (g y):=rfl
@[simp ↓] theorem QIX (op:BinOp) (r:Bool) (x y:Od):pv (.bin op (.pnil r) x y) g H=QdL op (.pnil r) (g x) (g y):=rfl
@[simp] theorem QHX (k yk:IntKind) (x y:SV):QdL .shl (.sh k yk) x y=(x.isI k=true/\y.isI yk=true/\0<=y.int,.val (.int k (k.wrap (x.int*2 ^ (min y.int.toNat k.bits))))):=rfl
@[simp] theorem QIa (k yk:IntKind) (x y:SV):QdL .shr (.sh k yk) x y=(x.isI k=true/\y.isI yk=true/\0<=y.int,.val (.int k (x.int.fdiv (2 ^ (min y.int.toNat k.bits))))):=rfl
@[simp] theorem QF8 (op:BinOp) (r:Bool) (x y:SV):QdL op (.pnil r) x y=(match op,(if r=true then x else y).ug with
 |.eql,.ptr _ _=>((if r=true then x else y).vd=true,bl false)
 |.neq,.ptr _ _=>((if r=true then x else y).vd=true,bl true)
 |.eql,.val (.pointer none)=>((if r=true then x else y).vd=true,bl true)
 |.neq,.val (.pointer none)=>((if r=true then x else y).vd=true,bl false)
 |_,_=>(False,.any)):=rfl
end
@[simp] theorem QHd (e:Env) (k t:Nat) (v:SV):Env.get ((k,v)::e) t=if k=t then v else Env.get e t:=rfl
@[simp] theorem QIY (t:Nat):Env.get [] t=.any:=rfl
@[simp] theorem QHu (e:Env) (n:Nat):Env.ev e (.t n)=e.get n:=rfl
@[simp] theorem QGx (e:Env) (s:SV):Env.ev e (.c s)=s:=rfl
@[simp] theorem QFS (e:Env) (d:Nat) (v:SV):Env.put e (some d) v=(d,v)::e:=rfl
@[simp] theorem QGn (e:Env) (v:SV):Env.put e none v=e:=rfl
@[simp] theorem QJv (e:Env):Env.keep e []=[]:=rfl
@[simp] theorem QE7 (e:Env) (k:Nat) (r:List Nat):Env.keep e (k::r)=(k,e.get k)::Env.keep e r:=rfl
@[simp] theorem QHj (l:ZJ):Qcq l=(List.range l.length).zip l:=rfl
attribute [simp] List.range_succ QDf Qvz QvO QzV QBu QEb QDJ QED QEk Qzx
@[simp] theorem vd_any  : SV.vd .any=true:=rfl
@[simp] theorem ug_any  : SV.ug .any=.any:=rfl
@[simp] theorem QIf  : SV.isCell .any=false:=rfl
@[simp] theorem QIU  : SV.flat .any=[.any]:=rfl
@[simp] theorem QH9  : SV.isPt .any=false:=rfl
@[simp] theorem QG0  : SV.isAg .any=false:=rfl
@[simp] theorem QFG  : SV.isTu .any=false:=rfl
@[simp] theorem vd_val (v:Value):SV.vd (.val v)=true:=rfl
@[simp] theorem ug_val (v:Value):SV.ug (.val v)=(.val v):=rfl
@[simp] theorem QE3 (v:Value):SV.flat (.val v)=[(.val v)]:=rfl
@[simp] theorem QFZ (v:Value):SV.isPt (.val v)=false:=rfl
@[simp] theorem QII (v:Value):SV.isAg (.val v)=false:=rfl
@[simp] theorem QE6 (v:Value):SV.isTu (.val v)=false:=rfl
@[simp] theorem QIK (n:Int):SV.isCell (V n)=true:=rfl
@[simp] theorem QHv (n:Int):SV.flat (V n)=[(V n)]:=rfl
@[simp] theorem QGH (n:Int):SV.isPt (V n)=false:=rfl
@[simp] theorem QHS (n:Int):SV.isAg (V n)=false:=rfl
@[simp] theorem QEX (n:Int):SV.isTu (V n)=false:=rfl
@[simp] theorem QEZ (b:Bool):SV.isCell (bl b)=true:=rfl
@[simp] theorem QG1 (b:Bool):SV.flat (bl b)=[(bl b)]:=rfl
@[simp] theorem QJc (b:Bool):SV.isPt (bl b)=false:=rfl
@[simp] theorem QHZ (b:Bool):SV.isAg (bl b)=false:=rfl
@[simp] theorem QID (b:Bool):SV.isTu (bl b)=false:=rfl
@[simp] theorem vd_st (s:ByteArray):SV.vd (st s)=true:=rfl
@[simp] theorem ug_st (s:ByteArray):SV.ug (st s)=(st s):=rfl
@[simp] theorem QGY (s:ByteArray):SV.isCell (st s)=true:=rfl
@[simp] theorem QEQ (s:ByteArray):SV.flat (st s)=[(st s)]:=rfl
@[simp] theorem QEP (s:ByteArray):SV.isPt (st s)=false:=rfl
@[simp] theorem QHQ (s:ByteArray):SV.isAg (st s)=false:=rfl
@[simp] theorem QJV (s:ByteArray):SV.isTu (st s)=false:=rfl
@[simp] theorem vd_slc (c:ZJ) (n:Nat):SV.vd (.slc c n)=true:=rfl
@[simp] theorem ug_slc (c:ZJ) (n:Nat):SV.ug (.slc c n)=(.slc c n):=rfl
@[simp] theorem QFC (c:ZJ) (n:Nat):SV.isCell (.slc c n)=true:=rfl
@[simp] theorem QGv (c:ZJ) (n:Nat):SV.flat (.slc c n)=[(.slc c n)]:=rfl
@[simp] theorem QFk (c:ZJ) (n:Nat):SV.isPt (.slc c n)=false:=rfl
@[simp] theorem QHK (c:ZJ) (n:Nat):SV.isAg (.slc c n)=false:=rfl
@[simp] theorem QH8 (c:ZJ) (n:Nat):SV.isTu (.slc c n)=false:=rfl
@[simp] theorem vd_own (i off len sz ver:Nat):SV.vd (.own i off len sz ver)=true:=rfl
@[simp] theorem ug_own (i off len sz ver:Nat):SV.ug (.own i off len sz ver)=(.own i off len sz ver):=rfl
@[simp] theorem QHI (i off len sz ver:Nat):SV.isCell (.own i off len sz ver)=true:=rfl
@[simp] theorem QJu (i off len sz ver:Nat):SV.flat (.own i off len sz ver)=[(.own i off len sz ver)]:=rfl
@[simp] theorem QGi (i off len sz ver:Nat):SV.isPt (.own i off len sz ver)=false:=rfl
@[simp] theorem QJB (i off len sz ver:Nat):SV.isAg (.own i off len sz ver)=false:=rfl
@[simp] theorem QHL (i off len sz ver:Nat):SV.isTu (.own i off len sz ver)=false:=rfl
@[simp] theorem vd_ptr (s:SV) (k:Nat):SV.vd (.ptr s k)=true:=rfl
@[simp] theorem ug_ptr (s:SV) (k:Nat):SV.ug (.ptr s k)=(.ptr s k):=rfl
@[simp] theorem QJE (s:SV) (k:Nat):SV.isCell (.ptr s k)=true:=rfl
@[simp] theorem QJb (s:SV) (k:Nat):SV.flat (.ptr s k)=[(.ptr s k)]:=rfl
@[simp] theorem QIm (s:SV) (k:Nat):SV.isPt (.ptr s k)=true:=rfl
@[simp] theorem QGl (s:SV) (k:Nat):SV.isAg (.ptr s k)=false:=rfl
@[simp] theorem QFP (s:SV) (k:Nat):SV.isTu (.ptr s k)=false:=rfl
@[simp] theorem vd_agg (l:ZJ):SV.vd (.agg l)=true:=rfl
@[simp] theorem ug_agg (l:ZJ):SV.ug (.agg l)=(.agg l):=rfl
@[simp] theorem QFg (l:ZJ):SV.isCell (.agg l)=false:=rfl
@[simp] theorem QJk (l:ZJ):SV.isPt (.agg l)=false:=rfl
@[simp] theorem QEU (l:ZJ):SV.isAg (.agg l)=true:=rfl
@[simp] theorem QIc (l:ZJ):SV.isTu (.agg l)=false:=rfl
@[simp] theorem vd_tup (l:ZJ):SV.vd (.tup l)=true:=rfl
@[simp] theorem ug_tup (l:ZJ):SV.ug (.tup l)=(.tup l):=rfl
@[simp] theorem QIV (l:ZJ):SV.isCell (.tup l)=false:=rfl
@[simp] theorem QHo (l:ZJ):SV.flat (.tup l)=[(.tup l)]:=rfl
@[simp] theorem QI4 (l:ZJ):SV.isPt (.tup l)=false:=rfl
@[simp] theorem QIR (l:ZJ):SV.isAg (.tup l)=false:=rfl
@[simp] theorem QJo (l:ZJ):SV.isTu (.tup l)=true:=rfl
@[simp] theorem vd_fn (f:Fn) (a b:ZJ):SV.vd (.fn f a b)=true:=rfl
@[simp] theorem ug_fn (f:Fn) (a b:ZJ):SV.ug (.fn f a b)=(.fn f a b):=rfl
@[simp] theorem QFQ (f:Fn) (a b:ZJ):SV.isCell (.fn f a b)=true:=rfl
@[simp] theorem QFm (f:Fn) (a b:ZJ):SV.flat (.fn f a b)=[(.fn f a b)]:=rfl
@[simp] theorem QFl (f:Fn) (a b:ZJ):SV.isPt (.fn f a b)=false:=rfl
@[simp] theorem QIy (f:Fn) (a b:ZJ):SV.isAg (.fn f a b)=false:=rfl
@[simp] theorem QJG (f:Fn) (a b:ZJ):SV.isTu (.fn f a b)=false:=rfl
@[simp] theorem vd_ifc (t:ZM) (x:SV):SV.vd (.ifc t x)=true:=rfl
@[simp] theorem ug_ifc (t:ZM) (x:SV):SV.ug (.ifc t x)=(.ifc t x):=rfl
@[simp] theorem QJf (t:ZM) (x:SV):SV.isCell (.ifc t x)=true:=rfl
@[simp] theorem QEW (t:ZM) (x:SV):SV.flat (.ifc t x)=[(.ifc t x)]:=rfl
@[simp] theorem QGz (t:ZM) (x:SV):SV.isPt (.ifc t x)=false:=rfl
@[simp] theorem QGo (t:ZM) (x:SV):SV.isAg (.ifc t x)=false:=rfl
@[simp] theorem QJe (t:ZM) (x:SV):SV.isTu (.ifc t x)=false:=rfl
@[simp] theorem QJJ (v:Value):SV.isCell (.val v)=v.oneCell':=rfl
@[simp] theorem QH1 (l:ZJ):SV.flat (.agg l)=l:=rfl
@[simp] theorem vd_gd (b:Bool) (x:SV):SV.vd (.gd b x)=(b&&x.vd):=rfl
@[simp] theorem ug_gd (b:Bool) (x:SV):SV.ug (.gd b x)=x.ug:=rfl
@[simp] theorem isI_gd (k:IntKind) (b:Bool) (x:SV):SV.isI k (.gd b x)=(b&&x.isI k):=rfl
@[simp] theorem isN_gd (b:Bool) (x:SV):SV.isN (.gd b x)=(b&&x.isN):=rfl
@[simp] theorem isB_gd (b:Bool) (x:SV):SV.isB (.gd b x)=(b&&x.isB):=rfl
@[simp] theorem isS_gd (b:Bool) (x:SV):SV.isS (.gd b x)=(b&&x.isS):=rfl
@[simp] theorem int_gd (b:Bool) (x:SV):SV.int (.gd b x)=x.int:=rfl
@[simp] theorem QGM (b:Bool) (x:SV):SV.bool (.gd b x)=x.bool:=rfl
@[simp] theorem str_gd (b:Bool) (x:SV):SV.str (.gd b x)=x.str:=rfl
@[simp] theorem QG8 (k k':IntKind) (n:Int):SV.isI k (.val (.int k' n))=decide (k'=k):=rfl
@[simp] theorem QGr (k':IntKind) (n:Int):SV.isN (.val (.int k' n))=true:=rfl
@[simp] theorem QFs (k':IntKind) (n:Int):SV.int (.val (.int k' n))=n:=rfl
@[simp] theorem QJn (b:Bool):SV.isB (.val (.bool b))=true:=rfl
@[simp] theorem QHw (b:Bool):SV.bool (.val (.bool b))=b:=rfl
@[simp] theorem isS_st (s:ByteArray):SV.isS (st s)=true:=rfl
@[simp] theorem str_st (s:ByteArray):SV.str (st s)=s:=rfl
@[simp] theorem on_bl (want b:Bool):SV.on want (bl b)=(b==want):=rfl
@[simp] theorem on_gd (want b:Bool) (x:SV):SV.on want (.gd b x)=(b&&x.on want):=rfl
@[simp] theorem QGq (b:Bool):SV.bish (bl b)=true:=rfl
@[simp] theorem QI2 (b:Bool) (x:SV):SV.bish (.gd b x)=x.bish:=rfl
@[simp] theorem mv_ptr (off:Nat) (s:SV) (k:Nat):SV.mv off (.ptr s k)=.ptr s (k+off):=rfl
@[simp] theorem QFT (l:ZJ):SV.els' (.agg l)=l:=rfl
@[simp] theorem QHi (l:ZJ):SV.els' (.tup l)=l:=rfl
@[simp] theorem QGU (s:SV) (k:Nat):SV.isNc (.ptr s k)=true:=rfl
@[simp] theorem QHH (f:ZP) (a b:ZJ):SV.isNc (.fn (.func f) a b)=true:=rfl
@[simp] theorem QHY (c:ZJ) (n:Nat):SV.slen (.slc c n)=n:=rfl
@[simp] theorem QFz (i off len sz ver:Nat):SV.slen (.own i off len sz ver)=len:=rfl
@[simp] theorem QGK (c:ZJ) (n:Nat):SV.isSl (.slc c n)=true:=rfl
@[simp] theorem QFb (i off len sz ver:Nat):SV.isSl (.own i off len sz ver)=true:=rfl
@[simp] theorem QGu (H:ZI) (c:ZJ) (n:Nat):SV.row H (.slc c n)=c:=rfl
@[simp] theorem QIN (H:ZI) (i off len sz ver:Nat):SV.row H (.own i off len sz ver)=(Qo H i ver).drop off:=rfl
@[simp] theorem Qk6 (H:ZI) (s:SV) (k:Nat):SV.at H (.ptr s k)=(s.row H).drop k:=rfl
@[simp] theorem els_eq (H:ZI) (sz:Nat) (s:SV):SV.els H sz s=(s.row H).take (s.slen*sz):=rfl
@[simp] theorem QGZ:SV.isNil (.val (.slice none 0 0))=true:=rfl
@[simp] theorem QFE (sz i off len s ver:Nat):SV.szIs sz (.own i off len s ver)=(s==sz):=rfl
@[simp] theorem QIh (sz:Nat) (c:ZJ) (n:Nat):SV.szIs sz (.slc c n)=true:=rfl
@[simp] theorem QJq (sz l h:Nat) (cs:ZJ) (n:Nat):SV.cut sz l h (.slc cs n)=.slc ((cs.drop (l*sz)).take ((h-l)*sz)) (h-l):=rfl
@[simp] theorem QGe (sz l h i off n s ver:Nat):SV.cut sz l h (.own i off n s ver)=.own i (off+l*sz) (h-l) s ver:=rfl
@[simp] theorem QG5 (x:SV):Qbr (some x)=x.int.toNat:=rfl
@[simp] theorem QIg:Qbr none=0:=rfl
@[simp] theorem QE0 (n:Nat) (x:SV):Qbj n (some x)=x.int.toNat:=rfl
@[simp] theorem QGC (n:Nat):Qbj n none=n:=rfl
@[simp] theorem QJm (x:SV):Qdi (some x)=(x.isN=true/\0<=x.int):=rfl
@[simp] theorem QHW:Qdi none=True:=rfl
@[simp] theorem QHp (n:Nat) (l:ZJ):QaW n (.agg l)=(l.length=n):=by simp[QaW]
@[simp] theorem QFU (n:Nat) (k:Int):QaW n (V k)=(n=1):=by
 show(n=1/\(V k).isCell=true/\true=true)=_;simp
@[simp] theorem QFK (n:Nat) (k:ByteArray):QaW n (st k)=(n=1):=by
 show(n=1/\(st k).isCell=true/\true=true)=_;simp
@[simp] theorem QHs (n:Nat) (c:ZJ) (k:Nat):QaW n (.slc c k)=(n=1):=by simp[QaW,SV.ug,SV.vd,SV.isCell]
@[simp] theorem QFF (n i off len sz ver:Nat):QaW n (.own i off len sz ver)=(n=1):=by simp[QaW,SV.ug,SV.vd,SV.isCell]
@[simp] theorem QGp (n:Nat) (x:SV):QaW n (.gd true x)=QaW n x:=by simp[QaW,SV.ug,SV.vd]
@[simp] theorem QHT (z:ZJ):Qba z []=z:=rfl
@[simp] theorem QF5 (z:ZJ) (off:Nat) (v:SV) (r:List (Nat×SV)):Qba z ((off,v)::r)=Qba (z.take off++v.ug.flat++z.drop (off+v.ug.flat.length)) r:=rfl
@[simp] theorem QE4:QF []=True:=by simp[QF]
@[simp] theorem QJi (s:SV) (l:ZJ):QF (s::l)=(s.isCell=true/\QF l):=by simp[QF]
@[simp] theorem QGb (a b:ZJ):QF (a++b)=(QF a/\QF b):=by
 apply propext; constructor
 . intro h; exact⟨λs hs=>h s (by simp[hs]),λs hs=>h s (by simp[hs])⟩
 . rintro⟨h1,h2⟩ s hs; rcases Vt.1 hs with h|h
   . exact h1 s h
   . exact h2 s h
def QE (l:List Int):ZJ:=l.map V
@[simp] theorem QIW (l:List Int):QF (QE l)=True:=by
 simp only[QF,QE,VC,eq_iff_iff,iff_true]; rintro s ⟨n,_,rfl⟩; rfl
@[simp] theorem Qyl (l:List Int):(QE l).length=l.length:=by simp[QE]
attribute [simp] QgN QDo QkD QzE
@[simp] theorem QGP (o:AO) (r:ZI) (ver:Nat):Qo (o::r) 0 ver=if(o.live&&o.ver==ver)=true then o.cells else []:=by simp[Qo]
@[simp] theorem QBO (o:AO) (r:ZI) (k ver:Nat):Qo (o::r) (k+1) ver=Qo r k ver:=by simp[Qo]
@[simp] theorem QG3 (o:AO) (r:ZI) (f:AO->AO):setObj (o::r) 0 f=f o::r:=by simp[setObj]
@[simp] theorem QHN (o:AO) (r:ZI) (k:Nat) (f:AO->AO):setObj (o::r) (k+1) f=o::setObj r k f:=by
 simp only[setObj,YD]; cases r[k]? <;> simp
@[simp] theorem Qpz (H L:ZI) (k ver:Nat) (T:ZM) (m:Nat):QbC (H++L) (H.length+k) ver T m=QbC L k ver T m:=by
 unfold QbC; rw[Vk (by omega)]; simp
@[simp] theorem QFe (H L:ZI) (ver:Nat) (T:ZM) (m:Nat):QbC (H++L) H.length ver T m=QbC L 0 ver T m:=Qpz H L 0 ver T m
@[simp] theorem QFH (o:AO) (r:ZI) (ver:Nat) (T:ZM) (m:Nat):QbC (o::r) 0 ver T m=(o.live=true/\o.ver=ver/\o.ty=T/\o.cells.length=m):=by simp[QbC]
@[simp] theorem QH0 (o:AO) (r:ZI) (k ver:Nat) (T:ZM) (m:Nat):QbC (o::r) (k+1) ver T m=QbC r k ver T m:=by simp[QbC]
attribute [simp] AO.put AO.grow QbH Qbu SV.under SV.underL Qel QcM Qbf
@[simp] theorem QIb (n:Nat) (k:Int):SV.under n (V k)=true:=rfl
@[simp] theorem QFA (n:Nat) (b:Bool):SV.under n (bl b)=true:=rfl
@[simp] theorem QJF (n:Nat) (s:ByteArray):SV.under n (st s)=true:=rfl
@[simp] theorem QG4 (n:Nat) (l:List Int):SV.underL n (QE l)=true:=by
 rw[SV.underL_iff]; simp only[QE,VC]; rintro s ⟨k,_,rfl⟩; rfl
@[simp] theorem QHb (n0:Nat) (rs:List RS) (r:SV) (H':ZI) (U:Env) (H1:ZI):Ab.Fin n0 rs (.ret r) H' .normal U H1=((∀ s∈rs,s.side U H1)/\Cv n0 (Qa2 U H1 rs) H1 r H'):=rfl
@[simp] theorem QeT (n0:Nat) (rs:List RS) (r:SV) (H':ZI) (U:Env) (H1:ZI):Ab.Fin n0 rs (.ret r) H' .ret U H1=((∀ s∈rs,s.side U H1)/\Cv n0 (Qa2 U H1 rs) H1 r H'):=rfl
@[simp] theorem QIj (n0:Nat) (rs:List RS) (Pt:Out->ZI->Prop) (U:Env) (H1:ZI):Ab.FinP n0 rs Pt .normal U H1=((∀ s∈rs,s.side U H1)/\Qdw n0 Pt (Qa2 U H1 rs) H1):=rfl
@[simp] theorem QJM (n0:Nat) (rs:List RS) (Pt:Out->ZI->Prop) (U:Env) (H1:ZI):Ab.FinP n0 rs Pt .ret U H1=((∀ s∈rs,s.side U H1)/\Qdw n0 Pt (Qa2 U H1 rs) H1):=rfl
@[congr] theorem QJt {n0:Nat} {Pt:Out->ZI->Prop} {v v':SV} {H H':ZI} (h:Ev v=v') (h1:Ev H=H'):Qdw n0 Pt v H=Qdw n0 Pt v' H':=by rw[QT h,QT h1]
@[simp] theorem Qc3 (n0:Nat) (rs:List RS) (x y:SV) (H':ZI) (U:Env) (H1:ZI):Ab.Fin n0 rs (.pan y) H' (.panic x) U H1=Cv n0 x H1 y H':=rfl
attribute [simp] RS.side RS.ev Qa2
theorem Qq {n0:Nat} {H L:ZI} {r r1:SV} (d:Nat) (Z:closed H) (hn:n0=H.length) (h:r1.fz H.length [] L d=r):Cv n0 r1 (H++L) r H:=by
 subst h; exact QzQ d rfl (by omega) Z
theorem Qi {n0:Nat} {H:ZI} {r:SV}:Cv n0 r H r H:=λS v hS aj hv=>⟨S.ρ,by subst hS; exact Ext.refl _ _,by subst hS; exact aj,by subst hS; exact hv⟩
theorem Qdl {n:Nat} {ks:List Nat} {L:ZI} {d:Nat} {s:SV} (h:s.under n=true):SV.fz n ks L (d+1) s=s:=by unfold SV.fz; rw[Zr h]
@[simp] theorem fz_i64 (n:Nat) (ks:List Nat) (L:ZI) (d:Nat) (k:Int):SV.fz n ks L (d+1) (V k)=V k:=Qdl rfl
@[simp] theorem fz_bl (n:Nat) (ks:List Nat) (L:ZI) (d:Nat) (k:Bool):SV.fz n ks L (d+1) (bl k)=bl k:=Qdl rfl
end
end Go.Ab
namespace Go.Ab
variable [QO] [QK] [Qv]
structure IsI (H:ZI) (x:SV) (l:List Int):Prop where
 vd:x.vd=true
 ug:x.ug=x
 sl:x.isSl=true
 cell:x.isCell=true
 sz:x.szIs 1=true
 len:x.slen=l.length
 und:x.under H.length=true
 row:(x.row H).take l.length=QE l
 flat:x.flat=[x]
theorem Qma {H:ZI} {i ver:Nat} (L:ZI) (h:i<H.length):Qo (H++L) i ver=Qo H i ver:=by
 unfold Qo; rw[Vc h]
theorem QBj {H:ZI} {x:SV} (L:ZI) (h:x.under H.length=true):x.row (H++L)=x.row H:=by
 cases x<;>try rfl
 rename_i i off len sz ver;simp only[SV.row]; rw[Qma L (by simpa[SV.under]using h)]
namespace IsI
variable {H:ZI} {x:SV} {l:List Int}
theorem rowlen (h:IsI H x l):l.length<=(x.row H).length:=by
 have:=Zt List.length h.row;simp at this; omega
theorem ldlen (h:IsI H x l) {k:Nat} (hk:k<l.length):k<(x.row H).length:=YO hk h.rowlen
theorem ld (h:IsI H x l) {k:Nat} (hk:k<l.length):((x.row H).drop k).headD .any=V (l.getD k 0):=by
 have h1:=h.ldlen hk;have h2:((x.row H).take l.length)[k]? = (QE l)[k]? := by rw[h.row]
 rw[YP hk]at h2;rw[Zc,List.head?_drop,h2];simp[QE,hk]
theorem ok (h:IsI H x l) {k:Nat} (hk:k<l.length):Qf4 H (.ptr x k) 1:=by
 have:=h.ldlen hk;simp only[Qf4,Qk6,Yq]; omega
theorem v (h:IsI H x l) {k:Nat} (hk:k<l.length):ldv H (.ptr x k)=V (l[k]'hk):=by
 have:=h.ld hk;simp only[ldv,Qk6,this,Vy,Ve hk,V8]
theorem own0 (H:ZI) (L:ZI) (k ver:Nat) (l m:List Int) (T:ZM) (h:L[k]? = some ⟨QE (l++m),T,ver,true⟩):IsI (H++L) (.own (H.length+k) 0 l.length 1 ver) l:=by
 refine⟨rfl,rfl,rfl,rfl,rfl,rfl,?_,?_,rfl⟩
 . have:k<L.length:=Qk h;simp; omega
 . simp only[SV.row,QgN,Yr];unfold Qo;rw[h];simp[QE]
end IsI
theorem Qp {P:ZN} (hm:P.follows .mixedOrders=true) {N:Nat} {i j:IC} (e:i=j) {U:Env} {H:ZI} {K:ZH}
 (h:X P N Qf j U H λx U H=>match x with|.normal=>LI P N Qf i U H K|x=>K x U H):LI P N Qf i U H K:=by
 subst e; exact QyE hm h
@[congr] theorem QGS {P:ZN} {N:Nat} {D:Array Oper->List Nat->List Ins->Bool} {i:IC} {U aw:Env} {H H':ZI} {K:ZH} (h:Ev U=aw) (h2:Ev H=H'):LI P N D i U H K=LI P N D i aw H' K:=by rw[QT h,QT h2]
@[simp] theorem QJz (n k:Nat):(n+k<n)=False:=by simp
theorem QfM {n:Nat} (h:n<=9223372036854775807):IntKind.i64.wrap (n:Int)=n:=Qam (by omega) (by omega)
theorem Qaj {n:Nat} (h:n<9223372036854775807):IntKind.i64.wrap ((n:Int)+1)=(n:Int)+1:=Qam (by omega) (by omega)
theorem QoW {n:Nat} (h:n<9223372036854775807):IntKind.i64.wrap ((n:Int)+1)=((n+1:Nat):Int):=by rw[Qam (by omega) (by omega)]; rfl
@[simp] theorem Qpg {l:List Int} {k:Nat} (h:k<(QE l).length):(QE l)[k]=V (l[k]'(by simpa using h)):=by simp[QE]
def SV.strip:SV->SV
 |.gd true x=>x.strip
 |x=>x
theorem QoA {S:St} {s:SV} {v:Value} (h:VR S s v):VR S s.strip v:=by
 induction h with
 |gd b x v h0 h ih =>
  cases b with
  |true=>exact ih rfl
  |false=>exact .gd false x v h0 h
 |any v=>exact .any v
 |val v=>exact .val v
 |nilslc=>exact .nilslc
 |slc cells len a cap us hc hl hi h ih=>exact .slc cells len a cap us hc hl hi h
 |own i off len sz ver a cap o ho hv hc hz h=>exact .own i off len sz ver a cap o ho hv hc hz h
 |ptrI cells len k a us hl hi h ih=>exact .ptrI cells len k a us hl hi h
 |ptrO i off len sz ver k a o ho hv h=>exact .ptrO i off len sz ver k a o ho hv h
 |agg l us hl h ih=>exact .agg l us hl h
 |tup l us hl h ih=>exact .tup l us hl h
 |fn f x y us vs hl h hl' h' ih ih'=>exact .fn f x y us vs hl h hl' h'
 |ifc t x v h ih=>exact .ifc t x v h
 |yl i l o ho h=>exact .yl i l o ho h
 |mp i ver l o ho hv h=>exact .mp i ver l o ho hv h
 |mpf vs l es cl us hb hn hu hl h ih=>exact .mpf vs l es cl us hb hn hu hl h
theorem Ok.strip {P:ZN} {f:ZP} {args:ZJ} {H H':ZI} {out:Out} (h:Ok P f (args.map SV.strip) H out H'):Ok P f args H out H' :=
 ⟨h.1,λS vs hH hS hv=>h.2 S vs hH hS (hv.map λs v hs=>QoA hs)⟩
theorem QL {P:ZN} {on:Bool} {k:ZP} {args:ZJ} {H:ZI} {r:SV} {K:SV->Prop} (h:on=true->Ok P k (args.map SV.strip) H (.ret r) H) (hk:K r):QeI P on (.fn (.func k) [] []) args H K :=
 Qfn (λho=>(h ho).strip) hk
theorem QtE {P:ZN} {k:ZP} {args:ZJ} {H H':ZI} {out:Out} {K:Out->ZI->Prop} (h:Ok P k (args.map SV.strip) H out H') (hk:K out H'):QdS P (.fn (.func k) [] []) args H K :=
 Qb h.strip hk
theorem IsI.whole {H L:ZI} {T:ZM} {l:List Int} {k n ver:Nat} (h:L[k]? = some ⟨QE l,T,ver,true⟩) (hn:n=l.length):IsI (H++L) (.own (H.length+k) 0 n 1 ver) l:=by
 subst hn; exact IsI.own0 H L k ver l [] T (by simpa using h)
section
variable (n:Nat) (ks:List Nat) (L:ZI) (d:Nat)
theorem QcY {l:ZJ} (h:SV.underL n l=true):l.map (SV.fz n ks L (d+1))=l:=by
 rw[SV.underL_iff]at h;have:l.map (SV.fz n ks L (d+1))=l.map id:=Yg λs hs=>Qdl (h s hs);simpa using this
@[simp] theorem fz_agg (l:ZJ):SV.fz n ks L (d+2) (.agg l)=.agg (l.map (SV.fz n ks L (d+1))):=by
 by_cases h:(SV.agg l).under n=true
 . rw[Qdl h]; rw[QcY n ks L d (by simpa[SV.under]using h)]
 . conv=>lhs; unfold SV.fz
   rw[Zq h]
@[simp] theorem fz_tup (l:ZJ):SV.fz n ks L (d+2) (.tup l)=.tup (l.map (SV.fz n ks L (d+1))):=by
 by_cases h:(SV.tup l).under n=true
 . rw[Qdl h]; rw[QcY n ks L d (by simpa[SV.under]using h)]
 . conv=>lhs; unfold SV.fz
   rw[Zq h]
@[simp] theorem fz_slc (l:ZJ) (m:Nat):SV.fz n ks L (d+2) (.slc l m)=.slc (l.map (SV.fz n ks L (d+1))) m:=by
 by_cases h:(SV.slc l m).under n=true
 . rw[Qdl h]; rw[QcY n ks L d (by simpa[SV.under]using h)]
 . conv=>lhs; unfold SV.fz
   rw[Zq h]
@[simp] theorem fz_st (s:ByteArray):SV.fz n ks L (d+1) (st s)=st s:=Qdl rfl
@[simp] theorem fz_val (v:Value):SV.fz n ks L (d+1) (.val v)=.val v:=Qdl rfl
@[simp] theorem QAm (k off len sz ver:Nat):SV.fz n ks L (d+1) (.own (n+k) off len sz ver)=(match L[k]? with
     |some o =>
       match Qbf ks k with
       |some p=>if o.ver=ver then .own (n+p) off len sz 0 else .any
       |none=>if o.live=true/\o.ver=ver/\off+len*sz<=o.cells.length then .slc (((o.cells.drop off).take (len*sz)).map (SV.fz n ks L d)) len else .any
     |none=>.any):=by
 conv=>lhs; unfold SV.fz
 rw[Zq (by simp[SV.under])];have e:n+k-n=k:=by omega
 simp only[e]
 cases L[k]? with
 |none=>rfl
 |some o=>cases Qbf ks k<;>rfl
@[simp] theorem QGm (off len sz ver:Nat):SV.fz n ks L (d+1) (.own n off len sz ver)=(match L[0]? with
     |some o =>
       match Qbf ks 0 with
       |some p=>if o.ver=ver then .own (n+p) off len sz 0 else .any
       |none=>if o.live=true/\o.ver=ver/\off+len*sz<=o.cells.length then .slc (((o.cells.drop off).take (len*sz)).map (SV.fz n ks L d)) len else .any
     |none=>.any):=QAm n ks L d 0 off len sz ver
end
end Go.Ab
namespace Go.Ab
section
variable [QO] [QK] [Qv]
open Go.RowKit
def st0 (W:ZO):St:=⟨λ_=>none,[],W⟩
theorem sim0 (W:ZO) (hg:(st0 W).GL) (hk:Qv.kn=[]):Sim (st0 W) :=
 ⟨λi o h=>by simp[st0]at h,λi o h=>by simp[st0]at h,λi j o o' b h=>by simp[st0]at h,λi o h=>by simp[st0]at h,hg,λp hp=>by rw[hk]at hp; cases hp⟩
theorem rw0 (W:ZO) (k:Nat):¬ (st0 W).rw k:=by
 rintro⟨i,o,h,_⟩; simp[st0]at h
theorem QB8 {W W':ZO} {ρ:Nat->Option Nat} {H:ZI} (h:Ext 0 (st0 W) ⟨ρ,H,W'⟩):Below W.heap.size W W' :=
 ⟨h.os,h.tape,h.output,h.size,λk hk=>(h.imm k hk (rw0 W k)).1⟩
theorem QDN [Qe5] {P:ZN} {f:ZP} {args:ZJ} (h:Ok P f args [] (.ret (bl true)) []) {W:ZO} (hg:(st0 W).GL) {vs:ZK} (hv:VRs (st0 W) args vs) :
 Calls P f vs.toArray W λe W'=>e=.returned (.bool true)/\Below W.heap.size W W':=by
 refine(h.2 (st0 W) vs rfl (sim0 W hg Qe5.nokn) hv).mono ?_;rintro e W' ⟨v,ρ',am,_,rfl,hv⟩;refine⟨?_,QB8 am⟩;have:=hv.isB rfl;rw[this]; rfl
end
section
variable [QO] [QK] [Qv] [Qe5] [QfY]
open Go.ChangeShapes Go.WideShapes Go.RowKit
inductive Sh where
 |int (k:IntKind)
 |bool
 |str
 |sl (e:Sh)
 |st (l:List Sh)
inductive Dt where
 |int (k:IntKind) (n:Int)
 |bool (b:Bool)
 |str (s:ByteArray)
 |sl (l:List Dt)
 |agg (l:List Dt)
 deriving Inhabited
mutual
def Dt.cells:Dt->ZJ
 |.int k n=>[.val (.int k n)]
 |.bool b=>[bl b]
 |.str s=>[Ab.st s]
 |.sl l=>[.slc (Dt.cellsL l) l.length]
 |.agg l=>Dt.cellsL l
def Dt.cellsL:List Dt->ZJ
 |[]=>[]
 |d::r=>d.cells++Dt.cellsL r
end
def Dt.sv:Dt->SV
 |.agg l=>.agg (Dt.cellsL l)
 |d=>d.cells.headD .any
mutual
def Sh.has:Sh->Dt->Prop
 |.int k,d=>∃ n,d=.int k n/\(Lit.int k n).wf=true
 |.bool,d=>∃ b,d=.bool b
 |.str,d=>∃ s,d=.str s/\s.size<=maxLen
 |.sl e,d=>∃ l,d=.sl l/\l.length<=maxLen/\∀ x∈l,e.has x
 |.st l,d=>∃ m,d=.agg m/\Sh.hasL l m
def Sh.hasL:List Sh->List Dt->Prop
 |[],m=>m=[]
 |s::r,m=>∃ d m',m=d::m'/\s.has d/\Sh.hasL r m'
end
mutual
def Sh.chk (P:ZN):Sh->ZM->Bool
 |.int k,t=>match P.underlying t with|some (.int k')=>decide (k'=k)|_=>false
 |.bool,t=>match P.underlying t with|some .bool=>true|_=>false
 |.str,t=>match P.underlying t with|some .string=>true|_=>false
 |.sl e,t=>match P.underlying t with|some (.slice e')=>e.chk P e'|_=>false
 |.st l,t=>match P.underlying t with|some (.struct fs)=>Sh.chkL P l fs.toList 0 (P.cellsOf t)|_=>false
def Sh.chkL (P:ZN):List Sh->List Field->Nat->Nat->Bool
 |[],fs,off,tot=>fs.isEmpty&&off==tot
 |s::r,fs,off,tot=>match fs with|[]=>false|f::fs=>f.offset==off&&s.chk P f.type&&Sh.chkL P r fs (off+P.cellsOf f.type) tot
end
section
variable {H:Type} {enc:ZM×Value->H} {P:ZN} {W:ZO} {base:Nat} {spare:Nat->Bool} {held:Bool}
theorem Qqk (a b:List Dt):Dt.cellsL (a++b)=Dt.cellsL a++Dt.cellsL b:=by
 induction a with
 |nil=>rfl
 |cons x r ih=>simp[Dt.cellsL,ih]
theorem Qws {e:ZM} {sh:Sh} {n:Nat} {a:Addr} {elems:List (DataW H×List MemPlace)}
 (ih:∀ cs x,DataW.trod enc P W base spare held n e cs=some x->∃ d,sh.has d/\VRs (st0 W) d.cells cs) :
 ∀ k,k<=elems.length->(∀ i,i<k->(W.cells? base (a.add (i*P.cellsOf e)) (P.cellsOf e)).bind (DataW.trod enc P W base spare held n e)=elems[i]?) ->
  ∃ (ds:List Dt) (us:ZK),ds.length=k/\(∀ x∈ds,sh.has x)/\VRs (st0 W) (Dt.cellsL ds) us/\us.length=k*P.cellsOf e/\∀ j u,us[j]? = some u->W.cell? (a.add j)=some u:=by
 intro k
 induction k with
 |zero=>intro _ _; exact⟨[],[],rfl,by simp,VRs.nil _,by simp,by simp⟩
 |succ k ihk =>
  intro hk hel;obtain⟨ds,us,h1,h2,h3,h4,h5⟩:=ihk (by omega) (λi hi=>hel i (by omega));have h6:=hel k (by omega);rw[Ve (by omega),Option.bind_eq_some_iff]at h6;obtain⟨cs,hcs,ht⟩:=h6;obtain⟨d,hd,hv⟩:=ih cs _ ht;obtain⟨_,hlen,hc⟩:=World.cells?_some hcs;refine⟨ds++[d],us++cs,by simp[h1],?_,?_,?_,?_⟩
  . intro x hx;rcases Vt.1 hx with hx|hx
    . exact h2 x hx
    . simp at hx; subst hx; exact hd
  . rw[Qqk]; simpa[Dt.cellsL]using h3.append hv
  . simp[h4,hlen,V9]
  . intro j u hj;by_cases hlt:j<us.length
    . rw[Vc hlt]at hj; exact h5 j u hj
    . rw[Vk (by omega)]at hj;have hj':j-us.length<cs.length:=Qk hj;have:=hc (j-us.length) (by omega);rw[hj,Qhb]at this;rw[<-this]; congr 2; omega
mutual
theorem read (sh:Sh):∀ {t:ZM} {fuel:Nat} {cs:ZK} {x:DataW H×List MemPlace},sh.chk P t=true->DataW.trod enc P W base spare held fuel t cs=some x ->
 ∃ d,sh.has d/\VRs (st0 W) d.cells cs:=by
 intro t fuel cs x hc h
 cases sh with
 |int k =>
  simp only[Sh.chk]at hc;split at hc
  . rename_i k' ht;have:k'=k:=by simpa using hc
    subst this;obtain⟨n,rfl,_,hw⟩:=DataW.trod_int ht h;exact⟨.int k' n,⟨n,rfl,hw⟩,VRs.cons (.val _) (VRs.nil _)⟩
  . cases hc
 |bool =>
  simp only[Sh.chk]at hc;split at hc
  . rename_i ht;obtain⟨b,rfl⟩:∃ b,cs=[.bool b]:=by
     cases fuel with
     |zero=>simp[DataW.trod]at h
     |succ n =>
      unfold DataW.trod at h;rw[ht]at h;split at h<;>simp_all
    exact⟨.bool b,⟨b,rfl⟩,VRs.cons (.val _) (VRs.nil _)⟩
  . cases hc
 |str =>
  simp only[Sh.chk]at hc;split at hc
  . rename_i ht;obtain⟨s,rfl,_,hs⟩:=DataW.trod_string ht h;exact⟨.str s,⟨s,rfl,hs⟩,VRs.cons (.val _) (VRs.nil _)⟩
  . cases hc
 |sl e =>
  simp only[Sh.chk]at hc;split at hc
  . rename_i e' ht;rcases DataW.trod_slice ht h with ⟨rfl,_⟩|⟨a,len,cap,elems,rest,n,_,rfl,_,hb,hl,hm,hlen,hel,_,_⟩
    . exact⟨.sl [],⟨[],rfl,by simp,by simp⟩,VRs.cons .nilslc (VRs.nil _)⟩
    . obtain⟨ds,us,h1,h2,h3,h4,h5⟩:=Qws (sh:=e) (λcs x hx=>read e hc hx) len (by omega) hel;refine⟨.sl ds,⟨ds,rfl,by omega,h2⟩,VRs.cons ?_ (VRs.nil _)⟩;have:ds.length=len:=h1;subst this;exact .slc _ _ a cap us hl h3.1 ⟨h5,λ_=>rw0 W _,λhf=>absurd (QfY.old.symm.trans hf) (by decide)⟩ h3.2
  . cases hc
 |st l =>
  simp only[Sh.chk]at hc;split at hc
  . rename_i fs ht;obtain⟨xs,n,_,_,hl,hlen,hf⟩:=DataW.trod_struct ht h;obtain⟨m,hm,hv⟩:=Qpy l (n:=n) (cs:=cs) (fs:=fs.toList) (off:=0) (xs:=xs) hc (λi f hi=>by
     have hlt:i<xs.length:=by rw[hlen]; simpa using Qk hi
     refine⟨xs[i],?_⟩;rw[hf i f (by simpa using hi),Ve hlt]) hl
    exact⟨.agg m,⟨m,rfl,hm⟩,by rw[Dt.cells]; simpa using hv⟩
  . cases hc
theorem Qpy (l:List Sh):∀ {n:Nat} {cs:ZK} {fs:List Field} {off tot:Nat} {xs:List (DataW H×List MemPlace)},Sh.chkL P l fs off tot=true ->
 (∀ (i:Nat) (f:Field),fs[i]? = some f->∃ x,DataW.trod enc P W base spare held n f.type ((cs.drop f.offset).take (P.cellsOf f.type))=some x)->cs.length=tot ->
 ∃ m,Sh.hasL l m/\VRs (st0 W) (Dt.cellsL m) (cs.drop off):=by
 intro n cs fs off tot xs hc hf hl
 cases l with
 |nil =>
  simp only[Sh.chkL,Va,List.isEmpty_iff,Zu]at hc;refine⟨[],rfl,?_⟩;rw[VZ (by omega)];exact VRs.nil _
 |cons s r =>
  simp only[Sh.chkL]at hc;split at hc
  . cases hc
  . rename_i f fs';simp only[Va,Zu]at hc;obtain⟨⟨h1,h2⟩,h3⟩:=hc;obtain⟨x,hx⟩:=hf 0 f rfl;obtain⟨d,hd,hv⟩:=read s h2 hx;obtain⟨m,hm,hv'⟩:=Qpy r (n:=n) (cs:=cs) (fs:=fs') (xs:=xs) h3 (λi f hi=>hf (i+1) f (by simpa using hi)) hl;refine⟨d::m,⟨d,m,rfl,hd,hm⟩,?_⟩;have:=hv.append hv';rw[h1,<- List.drop_drop,Ys]at this;simpa[Dt.cellsL]using this
end
end
end
section
variable [QO] [QK] [Qv] [Qe5] [QfY]
open Go.ChangeShapes Go.WideShapes Go.ChangeAt Go.RowKit
section
variable {H:Type} {enc:ZM×Value->H} {P:ZN} {W:ZO} {base b0:Nat} {spare:Nat->Bool} {held:Bool} {r:Reach}
theorem QsF (hl:laidOutB P=true) {W':ZO} (hb:Below W.heap.size W W'):∀ {ts:List ZM} {vs:ZK} {ds:List (DataW H)} {p:List MemPlace},
 (∀ t∈ts,P.readableRec t=true/\t<P.types.size)->DataW.TrodAll enc P W 0 (λ_=>true) true ts vs ds p->DataW.TrodAll enc P W' 0 (λb=>decide (b<W.heap.size)) true ts vs ds p
 |[],vs,ds,p,_,h=>by obtain⟨rfl,rfl,rfl⟩:=trodAll_nil h; exact trodAll_mk0
 |t::ts,vs,ds,p,hr,h=>by
  obtain⟨v,vs',d,ds',p,q,rfl,rfl,rfl,h1,h2⟩:=trodAll_cons h;have hlt:∀ x∈p,x.block<W.heap.size:=by obtain⟨m,hm⟩:=h1; exact DataW.trod_lt m _ _ _ hm
  exact trodAll_cons_mk (Below.trod hl (hr t (by simp)).1 (hr t (by simp)).2 h1 hb hlt) (QsF hl hb (λt ht=>hr t (by simp[ht])) h2)
theorem QpL:∀ {ts:List ZM} {vs:ZK} {ds:List (DataW H)} {p:List MemPlace},DataW.TrodAll enc P W base spare held ts vs ds p->ds.length=ts.length
 |[],vs,ds,p,h=>by obtain⟨rfl,rfl,rfl⟩:=trodAll_nil h; rfl
 |t::ts,vs,ds,p,h=>by
  obtain⟨v,vs',d,ds',p,q,rfl,rfl,rfl,h1,h2⟩:=trodAll_cons h;simp[QpL h2]
end
end
section
variable [QO] [QK] [Qv]
def SV.gv (k ver:Nat) (cs:ZJ):Nat->SV->SV
 |0,s=>s
 |d+1,s =>
  match s with
  |.own i off len sz v=>if i=k/\v=ver/\off+len*sz<=cs.length then .slc ((cs.drop off).take (len*sz)) len else .own i off len sz v
  |.agg l=>.agg (l.map (SV.gv k ver cs d))
  |.tup l=>.tup (l.map (SV.gv k ver cs d))
  |s=>s
section
variable {S:St} {k:Nat} {o:AO}
theorem QpU (hS:Sim S) (ho:S.H[k]? = some o) (hl:o.live=true):∀ (d:Nat) (s:SV) (v:Value),VR S s v->VR ⟨S.ρ,S.H.set k o.dead,S.w⟩ (s.gv k o.ver o.cells d) v:=by
 have he:=QoS ho;intro d
 induction d with
 |zero=>intro s v h; exact h.ext he
 |succ d ih =>
  intro s v h;unfold SV.gv;split
  . rename_i i off len sz ver;split
    . rename_i hc;obtain⟨rfl,rfl,hlen⟩:=hc;obtain⟨ad,cap,rfl,hcap,hz,hat⟩:=h.own_inv ho rfl;have h1:=hS.live i o ho hl;unfold St.OwnAt at hat
      cases hρ:S.ρ i with
      |none =>
       rw[hρ]at hat;obtain⟨rfl,rfl⟩:=hat
       cases ad with
       |none=>simpa using VR.nilslc
       |some a =>
        simp only[Yn,Yx];exact .slc [] 0 a 0 [] hcap rfl ⟨λj u hj=>by simp at hj,λhne=>absurd rfl hne,Qhs⟩ λj s u hj=>by simp at hj
      |some b =>
       rw[hρ]at hat h1;obtain⟨us,rest,hh,hvr⟩:=h1;have hul:us.length=o.cells.length:=hvr.1;have him:(⟨S.ρ,S.H.set i o.dead,S.w⟩:St).Imm ⟨b,off,none⟩ ((us.drop off).take (len*sz)):=by
        refine⟨?_,?_,λ_ _=>.inl ⟨_,_,hh⟩⟩
        . intro j u hj;rw[VQ]at hj;split at hj
          . rw[VU]at hj;have hadd:(⟨b,off,none⟩:Addr).add j=⟨b,off+j,none⟩:=by unfold Addr.add; split<;>simp_all
            rw[hadd];show S.w.cell? _=_;unfold World.cell?;simp only[hh,Yv,Vz,Zx];simp[Vc (Qk hj),hj]
          . cases hj
        . rintro hne ⟨j,p,hp,hpl,hpρ⟩;simp only at hp hpρ;by_cases hij:j=i
          . subst hij; rw[Vq (Qk ho)]at hp; cases hp; simp[AO.dead,AO.own]at hpl
          . rw[Vg (by omega)]at hp;exact hij (hS.inj j i p o b hp ho hpl (AO.own_live hl) hpρ hρ)
       have hvs:VRs (⟨S.ρ,S.H.set i o.dead,S.w⟩:St) ((o.cells.drop off).take (len*sz)) ((us.drop off).take (len*sz)):=((hvr.ext he).drop off).take (len*sz)
       cases ad with
       |none =>
        have h0:=hz rfl;subst h0;have hc0:cap=0:=by
         rcases hat with h2|⟨h2,_⟩
         . exact h2
         . cases h2
        subst hc0;simpa using VR.nilslc
       |some a =>
        rcases hat with h2|⟨h2,_⟩
        . have:len=0:=by omega
          subst this;simp only[Yn,Yx];exact .slc [] 0 a cap [] hcap rfl ⟨λj u hj=>by simp at hj,λhne=>absurd rfl hne,Qhs⟩ λj s u hj=>by simp at hj
        . cases h2
          exact .slc _ len _ cap _ hcap hvs.1 him hvs.2
    . exact h.ext he
  . cases h with
    |agg _ us hl h=>exact VR.of_agg (VRs.map (S:=S) (us:=us) ⟨hl,h⟩ ih)
  . cases h with
    |tup _ us hl h=>exact VR.of_tup (VRs.map (S:=S) (us:=us) ⟨hl,h⟩ ih)
  . exact h.ext he
end
@[simp] theorem QG7 (o:AO):AO.dead o=⟨[],o.ty,o.ver+1,false⟩:=rfl
def AO.gv (k ver:Nat) (cs:ZJ) (d:Nat) (p:AO):AO:={ p with cells:=p.cells.map (SV.gv k ver cs d) }
theorem QnX {k ver:Nat} {cs:ZJ} {d:Nat} {p:AO} (h:(p.gv k ver cs d).own=true):p.own=true:=by
 simpa[AO.own,AO.gv]using h
theorem QDR {k ver:Nat} {cs:ZJ} {d:Nat} {s:SV} (h:s.isCell=true):(s.gv k ver cs d).isCell=true:=by
 cases d with
 |zero=>exact h
 |succ d =>
  unfold SV.gv;split
  . split
    . rfl
    . exact h
  . simp[SV.isCell]at h
  . simp[SV.isCell]at h
  . exact h
theorem Qww {k ver n:Nat} {cs:ZJ} (hn:n<=k):∀ (d:Nat) (s:SV),s.under n=true->s.gv k ver cs d=s:=by
 intro d
 induction d with
 |zero=>intro s _; rfl
 |succ d ih =>
  intro s h;have hm:∀ l:ZJ,SV.underL n l=true->l.map (SV.gv k ver cs d)=l:=by
   intro l hl;rw[SV.underL_iff]at hl;have:l.map (SV.gv k ver cs d)=l.map id:=Yg λs hs=>ih s (hl s hs);simpa using this
  unfold SV.gv;split
  . simp only[SV.under,Zs]at h;rw[Zq (by omega)]
  . simp only[SV.under]at h; rw[hm _ h]
  . simp only[SV.under]at h; rw[hm _ h]
  . rfl
section
variable (k ver:Nat) (cs:ZJ) (d:Nat)
@[simp] theorem QJl (s:SV):SV.gv k ver cs 0 s=s:=rfl
@[simp] theorem gv_i64 (n:Int):SV.gv k ver cs d (V n)=V n:=by cases d<;>rfl
@[simp] theorem gv_bl (b:Bool):SV.gv k ver cs d (bl b)=bl b:=by cases d<;>rfl
@[simp] theorem gv_st (s:ByteArray):SV.gv k ver cs d (st s)=st s:=by cases d<;>rfl
@[simp] theorem gv_val (v:Value):SV.gv k ver cs d (.val v)=.val v:=by cases d<;>rfl
@[simp] theorem Qts:SV.gv k ver cs d .any=.any:=by cases d<;>rfl
@[simp] theorem gv_slc (l:ZJ) (n:Nat):SV.gv k ver cs d (.slc l n)=.slc l n:=by cases d<;>rfl
@[simp] theorem gv_ptr (s:SV) (n:Nat):SV.gv k ver cs d (.ptr s n)=.ptr s n:=by cases d<;>rfl
@[simp] theorem gv_fn (f:Fn) (a b:ZJ):SV.gv k ver cs d (.fn f a b)=.fn f a b:=by cases d<;>rfl
@[simp] theorem gv_gd (b:Bool) (x:SV):SV.gv k ver cs d (.gd b x)=.gd b x:=by cases d<;>rfl
@[simp] theorem gv_agg (l:ZJ):SV.gv k ver cs (d+1) (.agg l)=.agg (l.map (SV.gv k ver cs d)):=rfl
@[simp] theorem gv_tup (l:ZJ):SV.gv k ver cs (d+1) (.tup l)=.tup (l.map (SV.gv k ver cs d)):=rfl
@[simp] theorem gv_own (i off len sz v:Nat):SV.gv k ver cs (d+1) (.own i off len sz v)=if i=k/\v=ver/\off+len*sz<=cs.length then .slc ((cs.drop off).take (len*sz)) len else .own i off len sz v:=rfl
end
theorem QDL {k ver n:Nat} {cs:ZJ} (hc:SV.underL n cs=true):∀ (d:Nat) (s:SV),s.under n=true->(s.gv k ver cs d).under n=true:=by
 intro d
 induction d with
 |zero=>intro s h; exact h
 |succ d ih =>
  intro s h;have hm:∀ l:ZJ,SV.underL n l=true->SV.underL n (l.map (SV.gv k ver cs d))=true:=by
   intro l hl;rw[SV.underL_iff]at hl ⊢;intro s hs;obtain⟨t,ht,rfl⟩:=VC.1 hs;exact ih t (hl t ht)
  unfold SV.gv;split
  . split
    . rw[SV.under,SV.underL_iff];rw[SV.underL_iff]at hc;intro s hs;exact hc s (YR (Yo hs))
    . exact h
  . simp only[SV.under]at h ⊢; exact hm _ h
  . simp only[SV.under]at h ⊢; exact hm _ h
  . exact h
section
variable {S:St} {H0 L:ZI} {k d:Nat} {o:AO}
def Qcu (S:St) (H0 L:ZI) (k d:Nat) (o:AO):St:=⟨S.ρ,H0++(L.set k o.dead).map (AO.gv (H0.length+k) o.ver o.cells d),S.w⟩
theorem Qg0 {i:Nat} {p:AO} (h:(Qcu S H0 L k d o).H[i]? = some p) (ho:L[k]? = some o) :
 (i<H0.length/\H0[i]? = some p)\/(i=H0.length+k/\p=AO.gv (H0.length+k) o.ver o.cells d o.dead)\/(∃ p0 j,i=H0.length+j/\j≠k/\L[j]? = some p0/\p=AO.gv (H0.length+k) o.ver o.cells d p0):=by
 simp only[Qcu]at h;by_cases hi:i<H0.length
 . rw[Vc hi]at h; exact .inl ⟨hi,h⟩
 . rw[Vk (by omega),Vs,V1]at h;obtain⟨p0,h1,rfl⟩:=h;right;by_cases hk:i-H0.length=k
   . left;rw[hk,Vq (Qk ho)]at h1
     cases h1
     exact⟨by omega,rfl⟩
   . right;rw[Vg (by omega)]at h1;exact⟨p0,i-H0.length,by omega,hk,h1,rfl⟩
theorem QkF (hH:S.H=H0++L) (ho:L[k]? = some o):Ext S.H.length S (Qcu S H0 L k d o) where
 obj:=by
  intro i p hi hp;rw[hH]at hp hi;by_cases hlt:i<H0.length
  . rw[Vc hlt]at hp;exact⟨p,by simp only[Qcu]; rw[Vc hlt]; exact hp,Vb _,λ_=>rfl⟩
  . rw[Vk (by omega)]at hp;by_cases hk:i-H0.length=k
    . rw[hk,ho]at hp; cases hp
      refine⟨AO.gv (H0.length+k) o.ver o.cells d o.dead,?_,by simp[AO.gv,AO.dead],λ_=>rfl⟩;simp only[Qcu];rw[Vk (by omega),Vs,hk,Vq (Qk ho)]; rfl
    . refine⟨AO.gv (H0.length+k) o.ver o.cells d p,?_,Vb _,λ_=>rfl⟩;simp only[Qcu];rw[Vk (by omega),Vs,Vg (by omega),hp]; rfl
 imm:=by
  intro b hb hn;refine⟨rfl,?_⟩;rintro⟨i,p,hp,hl,hρ⟩;rcases Qg0 hp ho with ⟨h1,h2⟩|⟨rfl,rfl⟩|⟨p0,j,rfl,h1,h2,rfl⟩
  . exact hn ⟨i,p,by rw[hH,Vc h1]; exact h2,hl,hρ⟩
  . simp[AO.gv,AO.dead,AO.own]at hl
  . exact hn ⟨H0.length+j,p0,by rw[hH,Vk (by omega)]; simpa using h2,QnX hl,hρ⟩
 size:=Vb _
 shape:=λ_ _ _ h=>h
 loops:=λ_ r h=>⟨r,h⟩
 os:=rfl
 tape:=rfl
 output:=rfl
theorem QnG (hS:Sim S) (hH:S.H=H0++L) (ho:L[k]? = some o) (hl:o.live=true) (s:SV) (v:Value) (h:VR S s v):VR (Qcu S H0 L k d o) (s.gv (H0.length+k) o.ver o.cells d) v:=by
 have ho':S.H[H0.length+k]? = some o:=by rw[hH,Vk (by omega)]; simpa using ho
 have h1:=QpU hS ho' hl d s v h;refine h1.ext (S:=⟨S.ρ,S.H.set (H0.length+k) o.dead,S.w⟩) ?_;have hsz:(S.H.set (H0.length+k) o.dead).length=S.H.length:=by simp
 constructor
 . intro i p hi hp;simp only at hp hi;by_cases hik:i=H0.length+k
   . subst hik;rw[Vq (Qk ho')]at hp; cases hp
     refine⟨AO.gv (H0.length+k) o.ver o.cells d o.dead,?_,Vb _,λ_=>rfl⟩;simp only[Qcu];rw[Vk (by omega),Vs,Zo,Vq (Qk ho)]; rfl
   . rw[Vg (by omega),hH]at hp;by_cases hlt:i<H0.length
     . rw[Vc hlt]at hp;exact⟨p,by simp only[Qcu]; rw[Vc hlt]; exact hp,Vb _,λ_=>rfl⟩
     . rw[Vk (by omega)]at hp;refine⟨AO.gv (H0.length+k) o.ver o.cells d p,?_,Vb _,λ_=>rfl⟩;simp only[Qcu];rw[Vk (by omega),Vs,Vg (by omega),hp]; rfl
 . intro b hb hn;refine⟨rfl,?_⟩;rintro⟨i,p,hp,hpl,hρ⟩;rcases Qg0 hp ho with ⟨h1,h2⟩|⟨rfl,rfl⟩|⟨p0,j,rfl,h1,h2,rfl⟩
   . refine hn ⟨i,p,?_,hpl,hρ⟩;simp only;rw[Vg (by omega),hH,Vc h1]; exact h2
   . simp[AO.gv,AO.dead,AO.own]at hpl
   . refine hn ⟨H0.length+j,p0,?_,QnX hpl,hρ⟩;simp only;rw[Vg (by omega),hH,Vk (by omega)]; simpa using h2
 . exact Vb _
 . exact λ_ _ _ h=>h
 . exact λ_ r h=>⟨r,h⟩
 . rfl
 . rfl
 . rfl
theorem QAD (hS:Sim S) (hH:S.H=H0++L) (Z:closed H0) (ho:L[k]? = some o) (hl:o.live=true):Sim (Qcu S H0 L k d o):=by
 have ho':S.H[H0.length+k]? = some o:=by rw[hH,Vk (by omega)]; simpa using ho
 have hlen:(Qcu S H0 L k d o).H.length=S.H.length:=by simp[Qcu,hH]
 have at0:∀ {i:Nat} {p:AO},H0[i]? = some p->S.H[i]? = some p:=by
  intro i p h; rw[hH,Vc (Qk h)]; exact h
 have at1:∀ {j:Nat} {p:AO},L[j]? = some p->S.H[H0.length+j]? = some p:=by
  intro j p h; rw[hH,Vk (by omega)]; simpa using h
 constructor
 . intro i p hp hpl;have key:∀ (p0:AO),S.H[i]? = some p0->p0.live=true->p.ty=p0.ty->(p.cells=p0.cells.map (SV.gv (H0.length+k) o.ver o.cells d)) ->
    match S.ρ i with
    |none=>p.cells=[]
    |some b=>∃ us rest,S.w.heap[b]? = some (.cells (us++rest).toArray p.ty (0,0))/\VRs (Qcu S H0 L k d o) p.cells us:=by
    intro p0 h0 h0l hty hce;have h1:=hS.live i p0 h0 h0l
    cases hρ:S.ρ i with
    |none=>rw[hρ]at h1; simp only at h1 ⊢; rw[hce,h1]; rfl
    |some b =>
     rw[hρ]at h1;obtain⟨us,rest,h2,h3⟩:=h1;exact⟨us,rest,by rw[hty]; exact h2,by rw[hce]; exact h3.map λs v h=>QnG hS hH ho hl s v h⟩
   show match S.ρ i with
    |none=>p.cells=[]
    |some b=>∃ us rest,S.w.heap[b]? = some (.cells (us++rest).toArray p.ty (0,0))/\VRs (Qcu S H0 L k d o) p.cells us
   rcases Qg0 hp ho with ⟨h1,h2⟩|⟨rfl,rfl⟩|⟨p0,j,rfl,h1,h2,rfl⟩
   . refine key p (at0 h2) hpl rfl ?_;have:p.cells.map (SV.gv (H0.length+k) o.ver o.cells d)=p.cells.map id:=Yg λs hs=>Qww (Nat.le_add_right _ _) d s (Z i p h2 s hs);rw[this]; simp
   . simp[AO.gv,AO.dead]at hpl
   . exact key p0 (at1 h2) hpl rfl rfl
 . intro i p hp s hs;rw[hlen];rcases Qg0 hp ho with ⟨h1,h2⟩|⟨rfl,rfl⟩|⟨p0,j,rfl,h1,h2,rfl⟩
   . exact hS.bel i p (at0 h2) s hs
   . simp[AO.gv,AO.dead]at hs
   . simp only[AO.gv,VC]at hs;obtain⟨t,ht,rfl⟩:=hs;have h3:=hS.bel _ p0 (at1 h2) t ht;refine⟨QDL ?_ d t h3.1,λhl=>QDR (h3.2 hl)⟩;rw[SV.underL_iff];exact λu hu=>(hS.bel _ o ho' u hu).1
 . intro i j p q b hi hj hil hjl hρi hρj;have key:∀ {i:Nat} {p:AO},(Qcu S H0 L k d o).H[i]? = some p->p.own=true->∃ p0,S.H[i]? = some p0/\p0.own=true:=by
    intro i p hp hpl;rcases Qg0 hp ho with ⟨h1,h2⟩|⟨rfl,rfl⟩|⟨p0,j,rfl,h1,h2,rfl⟩
    . exact⟨p,at0 h2,hpl⟩
    . simp[AO.gv,AO.dead,AO.own]at hpl
    . exact⟨p0,at1 h2,QnX hpl⟩
   obtain⟨p0,h1,h2⟩:=key hi hil;obtain⟨q0,h3,h4⟩:=key hj hjl;exact hS.inj i j p0 q0 b h1 h3 h2 h4 hρi hρj
 . intro i p hp hl' hne;rcases Qg0 hp ho with ⟨h1,h2⟩|⟨rfl,rfl⟩|⟨p0,j,rfl,h1,h2,rfl⟩
   . obtain⟨l,x,m,us,U,k1,k2,k3,k4,k6⟩:=hS.lp i p (at0 h2) hl' hne;exact⟨l,x,m,us,U,k1,k2,k3,k4,k6.ext (QkF hH ho)⟩
   . exact absurd rfl hne
   . have hne':p0.cells≠[]:=λe=>hne (by simp[AO.gv,e]);obtain⟨l,x,m,us,U,k1,k2,k3,k4,k6⟩:=hS.lp _ p0 (at1 h2) hl' hne';have hm:SV.gv (H0.length+k) o.ver o.cells d m=m:=by
      cases m<;>first|(simp[SpR]at k4; done)|(cases d<;>rfl)
     refine⟨l,x,m,us,U.map (SV.gv (H0.length+k) o.ver o.cells d),k1,?_,k3,k4,k6.map λs v h=>QnG hS hH ho hl s v h⟩;simp only[AO.gv,k2,Vl,hm]
 . exact hS.gl.ext (QkF hH ho)
 . exact hS.kf.ext (QkF hH ho)
theorem Qsi (e:Env) (f:SV->SV) (hf:f .any=.any) (t:Nat):Env.get (e.map λp=>(p.1,f p.2)) t=f (e.get t):=by
 induction e with
 |nil=>exact hf.symm
 |cons p r ih =>
  obtain⟨k,v⟩:=p;simp only[Vl,Env.get];split
  . rfl
  . exact ih
end
attribute [simp] AO.gv
@[simp] theorem dep_q (f:Od) (args:List Od):J.dep (.q f args)=true:=rfl
attribute [simp] List.filter_cons
end
section
variable [QO] [QK] [Qv]
section
variable {P:ZN} {N:Nat} {D:Array Oper->List Nat->List Ins->Bool}
def QeP (n i:Nat):Nat:=n+i
@[simp] theorem rs_p (n:Nat) (d:Option Nat) (g:Option (Nat×Bool)) (i:I):Ins.rs n ⟨d,g,.p i⟩=⟨d,g,.p i⟩:=rfl
@[simp] theorem rs_q (n:Nat) (d:Option Nat) (g:Option (Nat×Bool)) (f:Od) (as:List Od):Ins.rs n ⟨d,g,.q f as⟩=⟨d,g,.q f as⟩:=rfl
@[simp] theorem rs_e (n:Nat) (d:Option Nat) (g:Option (Nat×Bool)) (i:E):Ins.rs n ⟨d,g,.e i⟩=⟨d,g,.e (i.rs n)⟩:=rfl
@[simp] theorem rs_st (n m:Nat) (p x:Od):E.rs n (.st m p x)=.st m p x:=rfl
@[simp] theorem rs_stw (n m:Nat) (ws:List Nat) (p x:Od):E.rs n (.stw ws m p x)=.stw ws m p x:=rfl
@[simp] theorem rs_app (n:Nat) (T:ZM) (sz b:Nat) (s x:Od):E.rs n (.app T sz b s x)=.app T sz b s x:=rfl
@[simp] theorem rs_aps (n:Nat) (T:ZM) (s x:Od):E.rs n (.aps T s x)=.aps T s x:=rfl
@[simp] theorem QHm (n:Nat) (f:Od) (as:List Od):E.rs n (.call f as)=.call f as:=rfl
@[simp] theorem rs_alc (n:Nat) (T:ZM) (z:ZJ):E.rs n (.alc T z)=.alc T z:=rfl
@[simp] theorem rs_box (n:Nat) (T:ZM) (x:Od):E.rs n (.box T x)=.box T x:=rfl
def xdl (P:ZN) (l:List Ins) (U:Env) (H:ZI) (K:ZH):Prop:=xd P [] l U H K
@[congr] theorem QFf {l l':List Ins} {U:Env} {H:ZI} {K:ZH} (h:Ev l=l'):xdl P l U H K=xdl P l' U H K:=by rw[QT h]
@[simp] theorem xdl_go (l:List Ins) (U:Env) (H:ZI) (K:ZH):xdl P l U H K=xd P [] l U H K:=rfl
def QkA (P:ZN) (l:List Ins) (n:Nat) (U:Env) (H:ZI) (K:ZH):Prop:=xdl P (l.map (Ins.rs n)) U H K
@[congr] theorem QHk {l:List Ins} {n n':Nat} {U:Env} {H H':ZI} {K:ZH} (h:Ev n=n') (h2:Ev H=H'):QkA P l n U H K=QkA P l n' U H' K:=by rw[QT h,QT h2]
@[simp] theorem QES (l:List Ins) (n:Nat) (U:Env) (H:ZI) (K:ZH):QkA P l n U H K=xdl P (l.map (Ins.rs n)) U H K:=rfl
@[simp ↓] theorem X_drq (Ts:List ZM) (n0:Nat) (m:List Nat) (l:List Ins) (os:List (List Nat)) (tl:List Ins) (U:Env) (H:ZI) (K:ZH):X P N D (.drq Ts n0 m l os tl) U H K=QkA P l H.length U (H++QcU Ts) λx U H' =>
 match x with
 |.normal=>xrt P n0 tl os U H' λx e H=>K x (e.keep (Qiu tl U)) H
 |x=>K x U H':=rfl
@[simp] theorem QHG:QcU []=[]:=rfl
@[simp] theorem QJK (T:ZM) (r:List ZM):QcU (T::r)=⟨[],T,0,false⟩::QcU r:=rfl
end
@[simp] theorem QI9 (H:ZI) (k:Nat):H.length+k+1=H.length+(k+1):=rfl
@[simp] theorem QFM (T:ZM) (sz bytes:Nat) (x:SV) (H:ZI) (K:SV->ZI->Prop):Qge T sz bytes (.val (.slice none 0 0)) x H K=(x.vd=true/\x.ug.isSl=true/\x.ug.slen*sz<=(x.ug.row H).length/\QF (x.ug.els H sz) /\
     x.ug.slen*bytes<=140737488355328/\x.ug.slen<=140737488355328/\Ke K (.own H.length 0 x.ug.slen sz 1) (H++[⟨x.ug.els H sz,T,1,true⟩])):=by
 simp[Qge,SV.vd,SV.ug,SV.slen,SV.isNil,Ke]
theorem VRs.strip3 {S:St} {a l b:ZJ} {us:ZK} (h:VRs S (a++l++b) us):VRs S (a++l.map SV.strip++b) us:=by
 refine⟨by simpa using h.1,λj s u hs hu => ?_⟩;have h1:=h.2 j;by_cases j1:j<a.length
 . rw[Vr,Vc j1]at hs;exact h1 s u (by rw[Vr,Vc j1]; exact hs) hu
 . by_cases j2:j-a.length<l.length
   . rw[Vr,Vk (by omega),Vc (by simpa using j2),Vs]at hs
     cases hl:l[j-a.length]? with
     |none=>rw[hl]at hs; cases hs
     |some x =>
      rw[hl]at hs; cases hs
      exact QoA (h1 x u (by rw[Vr,Vk (by omega),Vc j2]; exact hl) hu)
   . rw[Vr,Vk (by omega),Vk (by simp; omega)]at hs;exact h1 s u (by rw[Vr,Vk (by omega),Vk (by omega)]; simpa using hs) hu
theorem QuV {P:ZN} {f:SV} {args:ZJ} {H:ZI} {Pt:Out->ZI->Prop} {K:Out->ZI->Prop} (h:QeY P f (args.map SV.strip) H Pt) (hk:∀ out H',Pt out H'->K out H'):QdS P (.gd true f) args H K:=by
 refine⟨Pt,⟨by simpa[SV.vd]using h.1,?_⟩,hk⟩;have h2:=h.2;show match f.ug with
  |.fn (.func k) first cap=>OkP P k (first++args++cap) H Pt
  |.yl i=>YlP P i args H Pt
  |_=>False
 split at h2
 . rename_i k first cap hug
   rw[hug];exact⟨h2.1,λS vs h1 h3 h4=>h2.2 S vs h1 h3 h4.strip3⟩
 . rename_i i hug;rw[hug];exact⟨h2.1,λS vs l h1 h3 h4=>h2.2 S vs l h1 h3 (by simpa using (h4.map λs v hs=>QoA hs:VRs S (args.map SV.strip) vs))⟩
 . exact h2.elim
section
variable (n:Nat) (L:ZI) (d:Nat)
@[simp] theorem QEs (k off len sz ver p:Nat):SV.fz n [] L (d+1) (.ptr (.own (n+k) off len sz ver) p)=(match L[k]? with
     |some o=>if o.live=true/\o.ver=ver/\off<o.cells.length then .ptr (.slc ((o.cells.drop off).map (SV.fz n [] L d)) 0) p else .any
     |none=>.any):=by
 conv=>lhs; unfold SV.fz
 rw[Zq (by simp[SV.under])];have e:n+k-n=k:=by omega
 simp only[e]
 cases L[k]? with
 |none=>rfl
 |some o=>rfl
@[simp] theorem QJT (off len sz ver p:Nat):SV.fz n [] L (d+1) (.ptr (.own n off len sz ver) p)=(match L[0]? with
     |some o=>if o.live=true/\o.ver=ver/\off<o.cells.length then .ptr (.slc ((o.cells.drop off).map (SV.fz n [] L d)) 0) p else .any
     |none=>.any):=QEs n L d 0 off len sz ver p
end
end
section
variable [QO] [QK] [Qv]
section
variable {P:ZN} {N:Nat}
def Rg (P:ZN) (N:Nat) (D:Array Oper->List Nat->List Ins->Bool) (kk:Nat) (ps:List Nat) (ia ib:IC) (f:SV) (U:Env) (H:ZI) (K:ZH):Prop :=
 f.vd=true/\match f.ug with
  |.fn (.func k) first cap=>∃ Pt:Out->ZI->Prop,OkP P k (first++[.yl H.length]++cap) (H++[lpo P N D kk ps ia ib (U.vals N) .ready]) Pt /\
   ∀ out H',Pt out H'->match out with
    |.ret _=>∃ k' ok st cs,H'[H.length]? = some ⟨.lp k' ok st::cs,0,0,false⟩/\st.out K U (H'.set H.length Qf6)
    |.pan x=>K (.panic x) U H'
  |_=>False
@[congr] theorem QET {D:Array Oper->List Nat->List Ins->Bool} {kk:Nat} {ps:List Nat} {ia ib:IC} {f f':SV} {U aw:Env} {H H':ZI} {K:ZH} (h1:Ev f=f') (h2:Ev U=aw) (h3:Ev H=H') :
 Rg P N D kk ps ia ib f U H K=Rg P N D kk ps ia ib f' aw H' K:=by rw[QT h1,QT h2,QT h3]
@[simp ↓] theorem X_rng (D:Array Oper->List Nat->List Ins->Bool) (kk:Nat) (g:Od) (ps:List Nat) (ia ib:IC) (U:Env) (H:ZI) (K:ZH):X P N D (.rng kk g ps ia ib) U H K=Rg P N D kk ps ia ib (U.ev g) U H K:=rfl
theorem QsD {kk:Nat} {ps:List Nat} {ia ib:IC} {k:ZP} {first cap:ZJ} {U:Env} {H:ZI} {K:ZH} {Pt:Out->ZI->Prop}
 (h:OkP P k (first++[.yl H.length]++cap) (H++[lpo P N Qf kk ps ia ib (U.vals N) .ready]) Pt)
 (hk:∀ out H',Pt out H'->match out with
  |.ret _=>∃ st cs,H'[H.length]? = some (lpo P N Qf kk ps ia ib cs st)/\st.out K U (H'.set H.length Qf6)
  |.pan x=>K (.panic x) U H'):Rg P N Qf kk ps ia ib (.fn (.func k) first cap) U H K:=⟨rfl,Pt,h,λout H' hp=>by
 have:=hk out H' hp
 cases out with
 |ret r=>obtain⟨st,cs,h1,h2⟩:=this; exact⟨_,_,st,cs,h1,h2⟩
 |pan x=>exact this⟩
theorem Qq6 {i:Nat} {args:ZJ} {H:ZI} {Pt:Out->ZI->Prop} {K:Out->ZI->Prop} (h:YlP P i args H Pt) (hk:∀ out H',Pt out H'->K out H'):QdS P (.yl i) args H K :=
 ⟨Pt,⟨rfl,h⟩,hk⟩
theorem YlP.mono {i:Nat} {args:ZJ} {H:ZI} {Pt Pt':Out->ZI->Prop} (h:YlP P i args H Pt) (hk:∀ out H',Pt out H'->Pt' out H'):YlP P i args H Pt':=by
 refine⟨h.1,λS vs l h1 h2 h3 h4 => ?_⟩;obtain⟨r,k1,k2,k3⟩:=h.2 S vs l h1 h2 h3 h4;exact⟨r,k1,k2,k3.mono λe w' ⟨out,H',v,ρ',h5,h6⟩=>⟨out,H',v,ρ',hk _ _ h5,h6⟩⟩
attribute [simp] Env.puts LSt.out
end
end
section
variable [QO] [QK] [Qv]
section
variable {S:St} {H0 H1 L:ZI} {ks:List Nat} {d:Nat}
structure Qd0 (H0 H1 L:ZI) (ks:List Nat) (d:Nat):Prop where
 len:H1.length=H0.length
 cell:∀ (i:Nat) (o':AO),H1[i]? = some o'->(H0[i]? = some o'/\∀ s∈o'.cells,s.under H0.length=true) \/
  (∃ o k,H0[i]? = some o/\o.live=true/\o'=⟨(o.cells.map (SV.fz H0.length ks L d)).take k,o.ty,o.ver,true⟩/\QF o'.cells)
def Qa5 (S:St) (H0 H1 L:ZI) (ks:List Nat) (d:Nat):St:=⟨QcQ S H0.length ks,H1++Qel H0.length ks L d,S.w⟩
theorem Qd0.up (hz:Qd0 H0 H1 L ks d) {i:Nat} {o:AO} (h:H0[i]? = some o):∃ o',H1[i]? = some o'/\o'.ver=o.ver/\o'.own=o.own/\o'.ty=o.ty:=by
 have hi:i<H1.length:=by rw[hz.len]; exact Qk h
 have h1:H1[i]? = some H1[i]:=Ve hi;rcases hz.cell i _ h1 with ⟨h2,_⟩|⟨o2,_,h2,h3,h4,_⟩
 . rw[h]at h2; cases h2
   exact⟨_,h1,rfl,rfl,rfl⟩
 . rw[h]at h2; cases h2
   refine⟨_,h1,by rw[h4],?_,by rw[h4]⟩;rw[h4,AO.own_live h3]; exact AO.own_live rfl
theorem Qt9 (hz:Qd0 H0 H1 L ks d) {i:Nat} {o':AO} (h:(Qa5 S H0 H1 L ks d).H[i]? = some o'):∃ o,(Qa1 S H0 L ks d).H[i]? = some o/\o.ver=o'.ver/\o.own=o'.own/\o.ty=o'.ty:=by
 simp only[Qa5]at h;simp only[Qa1];by_cases hi:i<H0.length
 . rw[Vc (by rw[hz.len]; exact hi)]at h;rw[Vc hi];obtain⟨o2,h1,h2,h3,h4⟩:=hz.up (Ve hi);rw[h]at h1; cases h1
   exact⟨_,Ve hi,h2.symm,h3.symm,h4.symm⟩
 . rw[Vk (by rw[hz.len]; omega),hz.len]at h;rw[Vk (by omega)];exact⟨_,h,rfl,rfl,rfl⟩
theorem QoG (hz:Qd0 H0 H1 L ks d):Ext (Qa1 S H0 L ks d).H.length (Qa1 S H0 L ks d) (Qa5 S H0 H1 L ks d) where
 obj:=by
  intro i o hi ho;have hl:(Qa5 S H0 H1 L ks d).H.length=(Qa1 S H0 L ks d).H.length:=by simp[Qa5,Qa1,hz.len]
  have h1:(Qa5 S H0 H1 L ks d).H[i]? = some ((Qa5 S H0 H1 L ks d).H[i]'(by omega)):=Ve _;obtain⟨o2,h2,h3,_⟩:=Qt9 hz h1;rw[ho]at h2; cases h2
  exact⟨_,h1,by omega,λ_=>rfl⟩
 imm:=by
  refine λk _ hnr=>⟨rfl,?_⟩;rintro⟨i,o,ho,hl,hρ⟩;obtain⟨o2,h2,h3,h4,_⟩:=Qt9 hz ho;exact hnr ⟨i,o2,h2,by rw[h4]; exact hl,hρ⟩
 size:=Vb _
 shape:=λ_ _ _ h=>h
 loops:=λ_ r h=>⟨r,h⟩
 os:=rfl
 tape:=rfl
 output:=rfl
theorem Qna (aj:Sim S) (hS:S.H=H0++L) (hz:Qd0 H0 H1 L ks d) (hk:QcM H0.length ks L d ks) (s:SV) (v:Value) (h:VR S s v):VR (Qa5 S H0 H1 L ks d) (s.fz H0.length ks L d) v :=
 (Qo6 aj hS hk d (Vb _) s v h).ext (QoG hz)
theorem Qla (hz:Qd0 H0 H1 L ks d) (hk:QcM H0.length ks L d ks) {i:Nat} {o:AO} (h:(Qa5 S H0 H1 L ks d).H[i]? = some o) :
 (i<H0.length/\(Qa5 S H0 H1 L ks d).ρ i=S.ρ i/\((H0[i]? = some o/\∀ s∈o.cells,s.under H0.length=true) \/
  ∃ o' k,H0[i]? = some o'/\o'.live=true/\o=⟨(o'.cells.map (SV.fz H0.length ks L d)).take k,o'.ty,o'.ver,true⟩/\QF o.cells)) \/
 (∃ p k o',i=H0.length+p/\ks[p]? = some k/\L[k]? = some o'/\o'.live=true/\QF o.cells /\
  o={ cells:=o'.cells.map (SV.fz H0.length ks L d),ty:=o'.ty,ver:=0,live:=true }/\(Qa5 S H0 H1 L ks d).ρ i=S.ρ (H0.length+k)):=by
 by_cases hi:i<H0.length
 . simp only[Qa5]at h;rw[Vc (by rw[hz.len]; exact hi)]at h;exact .inl ⟨hi,by simp[Qa5,QcQ,hi],hz.cell i o h⟩
 . have h':(Qa1 S H0 L ks d).H[i]? = some o:=by
    simp only[Qa5]at h;rw[Vk (by rw[hz.len]; omega),hz.len]at h;simp only[Qa1];rw[Vk (by omega)]; exact h
   rcases QgA hk h' with ⟨h1,_⟩|h1
   . exact absurd h1 hi
   . exact .inr h1
theorem QCd (aj:Sim S) (hS:S.H=H0++L) (hz:Qd0 H0 H1 L ks d) (hk:QcM H0.length ks L d ks):Sim (Qa5 S H0 H1 L ks d):=by
 have hat:∀ {i:Nat} {o:AO},H0[i]? = some o->S.H[i]? = some o:=λh=>by rw[hS,Vc (Qk h)]; exact h
 have am:Ext H0.length S (Qa5 S H0 H1 L ks d):=(Qfv hS hk).trans ((QoG hz).mono (by simp[Qa1]));have hlive:∀ (i:Nat) (o:AO),(Qa5 S H0 H1 L ks d).H[i]? = some o->o.live=true ->
  match (Qa5 S H0 H1 L ks d).ρ i with
  |none=>o.cells=[]
  |some b=>∃ us rest,S.w.heap[b]? = some (.cells (us++rest).toArray o.ty (0,0))/\VRs (Qa5 S H0 H1 L ks d) o.cells us:=by
  intro i o ho hl;rcases Qla (S:=S) hz hk ho with ⟨h1,h2,⟨h3,h4⟩|⟨o',m,h3,h4,rfl,h5⟩⟩|⟨p,k,o',rfl,h1,h2,h3,_,rfl,h5⟩
  . rw[h2];have h6:=aj.live i o (hat h3) hl
    cases hρ:S.ρ i with
    |none=>rw[hρ]at h6; exact h6
    |some b =>
     rw[hρ]at h6;obtain⟨us,rest,h7,h8⟩:=h6;exact⟨us,rest,h7,h8.extB am ((SV.underL_iff _ _).2 h4)⟩
  . rw[h2];have h6:=aj.live i o' (hat h3) h4
    cases hρ:S.ρ i with
    |none=>rw[hρ]at h6; simp only; rw[h6]; simp
    |some b =>
     rw[hρ]at h6;obtain⟨us,rest,h7,h8⟩:=h6;refine⟨us.take m,us.drop m++rest,?_,(h8.map (Qna aj hS hz hk)).take m⟩;rw[<-Vr,Ys]; exact h7
  . rw[h5];have h4:=aj.live (H0.length+k) o' (by rw[hS,Vk (by omega)]; simpa using h2) h3
    cases hρ:S.ρ (H0.length+k)with
    |none=>rw[hρ]at h4; simp only; rw[h4]; rfl
    |some b =>
     rw[hρ]at h4;obtain⟨us,rest,h6,h7⟩:=h4;exact⟨us,rest,h6,h7.map (Qna aj hS hz hk)⟩
 have hlen:H0.length<=(Qa5 S H0 H1 L ks d).H.length:=by simp[Qa5,hz.len]
 have hbel:∀ (i:Nat) (o:AO),(Qa5 S H0 H1 L ks d).H[i]? = some o->o.live=true->∀ s∈o.cells,s.under (Qa5 S H0 H1 L ks d).H.length=true:=by
  intro i o ho hl s hs;have h8:=hlive _ _ ho hl;split at h8
  . rw[h8]at hs; cases hs
  . obtain⟨us,rest,h9,h10⟩:=h8;obtain⟨j,hj⟩:=VB hs;obtain⟨u,_,h11⟩:=h10.get hj;exact h11.under
 refine⟨hlive,?_,?_,?_,aj.gl.ext am,aj.kf.ext am⟩
 . intro i o ho s hs;rcases Qla (S:=S) hz hk ho with ⟨h1,h2,⟨h3,h4⟩|⟨o',m,h3,h4,h6,h5⟩⟩|⟨p,k,o',h0,h1,h2,h3,h6,h7,h5⟩
   . exact⟨SV.under_mono hlen s (h4 s hs),(aj.bel i o (hat h3) s hs).2⟩
   . exact⟨hbel i o ho (by rw[h6]) s hs,λ_=>h5 s hs⟩
   . exact⟨hbel i o ho (by rw[h7]) s hs,λ_=>h6 s hs⟩
 . intro i j o o' b hi hj hl hl' hρ hρ';have key:∀ {i:Nat} {o:AO},(Qa5 S H0 H1 L ks d).H[i]? = some o->o.own=true->∃ i0 o0,S.H[i0]? = some o0/\o0.own=true/\(Qa5 S H0 H1 L ks d).ρ i=S.ρ i0/\((i<H0.length/\i0=i)\/∃ p k,i=H0.length+p/\ks[p]? = some k/\i0=H0.length+k):=by
    intro i o ho hl;rcases Qla (S:=S) hz hk ho with ⟨h1,h2,⟨h3,h4⟩|⟨o',m,h3,h4,h6,h5⟩⟩|⟨p,k,o',rfl,h1,h2,h3,_,rfl,h5⟩
    . exact⟨i,o,hat h3,hl,h2,.inl ⟨h1,rfl⟩⟩
    . exact⟨i,o',hat h3,AO.own_live h4,h2,.inl ⟨h1,rfl⟩⟩
    . exact⟨H0.length+k,o',by rw[hS,Vk (by omega)]; simpa using h2,AO.own_live h3,h5,.inr ⟨p,k,rfl,h1,rfl⟩⟩
   obtain⟨i0,o0,a1,a2,a3,a4⟩:=key hi hl;obtain⟨j0,o1,b1,b2,b3,b4⟩:=key hj hl';have e:=aj.inj i0 j0 o0 o1 b a1 b1 a2 b2 (by rw[<-a3]; exact hρ) (by rw[<-b3]; exact hρ');rcases a4 with ⟨a4,rfl⟩|⟨p,k,rfl,a4,rfl⟩<;>rcases b4 with ⟨b4,rfl⟩|⟨q,k',rfl,b4,rfl⟩
   . exact e
   . omega
   . omega
   . have:k=k':=by omega
     subst this;rw[Qod hk a4 b4]
 . intro i o ho hl hne;rcases Qla (S:=S) hz hk ho with ⟨h1,h2,⟨h3,h4⟩|⟨o',m,h3,h4,rfl,h5⟩⟩|⟨p,k,o',rfl,h1,h2,h3,h6,rfl,h5⟩
   . obtain⟨l,x,m,us,U,k1,k2,k3,k4,k6⟩:=aj.lp i o (hat h3) hl hne;rw[k2]at h4;exact⟨l,x,m,us,U,h2.trans k1,k2,k3,k4,k6.extB am ((SV.underL_iff _ _).2 λs hs=>h4 s (by simp[hs]))⟩
   . cases hl
   . cases hl
theorem QD3 {n0:Nat} {Hx:ZI} {r:SV} (d:Nat) (ks:List Nat) (h:Hx=H0++L) (hn:n0<=H0.length) (hz:Qd0 H0 H1 L ks d) (hk:QcM H0.length ks L d ks) :
 Cv n0 r Hx (r.fz H0.length ks L d) (H1++Qel H0.length ks L d):=by
 intro S v hS aj hv;subst h;exact⟨_,((Qfv hS hk).trans ((QoG hz).mono (by simp[Qa1]))).mono hn,QCd aj hS hz hk,Qna aj hS hz hk r v hv⟩
theorem QA3 {n0:Nat} {Hx:ZI} {r:SV} (d:Nat) (h:Hx=H0++L) (hn:n0<=H0.length) (hz:Qd0 H0 H1 L [] d):Cv n0 r Hx (r.fz H0.length [] L d) H1:=by
 have:=QD3 (r:=r) d [] h hn hz trivial;simpa[Qel]using this
end
theorem OkP.give {P:ZN} {f:ZP} {args:ZJ} {H:ZI} {Pt:Out->ZI->Prop} (k:Nat) (d:Nat) {o:AO} (ho:H[k]? = some o) (hl:o.live=true)
 (h:OkP P f (args.map (SV.gv k o.ver o.cells d)) (H.set k o.dead) Pt):OkP P f args H Pt:=by
 refine⟨h.1,?_⟩;intro S vs hH hS hvs;subst hH;have h1:=h.2 ⟨S.ρ,S.H.set k o.dead,S.w⟩ vs rfl (Qxd hS ho) (hvs.map (QpU hS ho hl d));refine h1.mono ?_;rintro en w' ⟨out,H',v,ρ',hp,am,aj,hout⟩;exact⟨out,H',v,ρ',hp,(QoS ho).trans (am.mono (by simp)),aj,hout⟩
section
variable {S:St}
theorem QgS {j:Nat} {o:AO} (ho:S.H[j]? = some o) (hl:o.live=true) (cs:ZJ):Ext S.H.length S ⟨S.ρ,S.H.set j ⟨cs,o.ty,o.ver,true⟩,S.w⟩ where
 obj:=by
  intro i p hi hp;by_cases e:i=j
  . subst e; rw[ho]at hp; cases hp
    exact⟨⟨cs,o.ty,o.ver,true⟩,by show(S.H.set i _)[i]? = _; rw[Vq hi],Vb _,λ_=>rfl⟩
  . exact⟨p,by show(S.H.set j _)[i]? = _; rw[Vg (by omega)]; exact hp,Vb _,λ_=>rfl⟩
 imm:=by
  refine λk _ hnr=>⟨rfl,?_⟩;rintro⟨i,p,hp,hw,hρ⟩;by_cases e:i=j
  . subst e;exact hnr ⟨i,o,ho,AO.own_live hl,hρ⟩
  . refine hnr ⟨i,p,?_,hw,hρ⟩;have hp':(S.H.set j ⟨cs,o.ty,o.ver,true⟩)[i]? = some p:=hp;rw[Vg (by omega)]at hp'; exact hp'
 size:=Vb _
 shape:=λ_ _ _ h=>h
 loops:=λ_ r h=>⟨r,h⟩
 os:=rfl
 tape:=rfl
 output:=rfl
def St.lies (S:St) (j:Nat) (T:ZM) (us:ZK):Prop:=match S.ρ j with
 |none=>us=[]
 |some b=>∃ rest,S.w.heap[b]? = some (.cells (us++rest).toArray T (0,0))
theorem Qnm (hS:Sim S) {j:Nat} {o:AO} (ho:S.H[j]? = some o) (hl:o.live=true) {cs:ZJ} (hok:QF cs) (hc:∀ us,S.lies j o.ty us->VRs S o.cells us->∃ k,VRs S cs (us.take k)) :
 Sim ⟨S.ρ,S.H.set j ⟨cs,o.ty,o.ver,true⟩,S.w⟩:=by
 have he:=QgS ho hl cs;have hat:∀ {i:Nat} {p:AO},(S.H.set j ⟨cs,o.ty,o.ver,true⟩)[i]? = some p->(i=j/\p=⟨cs,o.ty,o.ver,true⟩)\/(i≠j/\S.H[i]? = some p):=by
  intro i p hp;by_cases e:i=j
  . subst e; rw[Vq (Qk ho)]at hp; cases hp; exact .inl ⟨rfl,rfl⟩
  . rw[Vg (by omega)]at hp; exact .inr ⟨e,hp⟩
 have hlive:∀ (i:Nat) (p:AO),(S.H.set j ⟨cs,o.ty,o.ver,true⟩)[i]? = some p->p.live=true ->
  match S.ρ i with
  |none=>p.cells=[]
  |some b=>∃ us rest,S.w.heap[b]? = some (.cells (us++rest).toArray p.ty (0,0))/\VRs ⟨S.ρ,S.H.set j ⟨cs,o.ty,o.ver,true⟩,S.w⟩ p.cells us:=by
  intro i p hp hpl;rcases hat hp with ⟨rfl,rfl⟩|⟨hne,hp⟩
  . have h1:=hS.live i o ho hl
    cases hρ:S.ρ i with
    |none =>
     rw[hρ]at h1;obtain⟨k,h2⟩:=hc [] (by unfold St.lies; rw[hρ]) (by rw[h1]; exact VRs.nil S);exact VS (by have:=h2.1; simpa using this.symm)
    |some b =>
     rw[hρ]at h1;obtain⟨us,rest,h2,h3⟩:=h1;obtain⟨k,h4⟩:=hc us (by unfold St.lies; rw[hρ]; exact⟨rest,h2⟩) h3;refine⟨us.take k,us.drop k++rest,?_,h4.ext he⟩;rw[<-Vr,Ys]; exact h2
  . have h1:=hS.live i p hp hpl
    cases hρ:S.ρ i with
    |none=>rw[hρ]at h1; exact h1
    |some b =>
     rw[hρ]at h1;obtain⟨us,rest,h2,h3⟩:=h1;exact⟨us,rest,h2,h3.ext he⟩
 refine⟨hlive,?_,?_,?_,hS.gl.ext he,hS.kf.ext he⟩
 . intro i p hp s hs;rcases hat hp with ⟨rfl,rfl⟩|⟨hne,hp'⟩
   . refine⟨?_,λ_=>hok s hs⟩;have h8:=hlive _ _ hp rfl;split at h8
     . rw[h8]at hs; cases hs
     . obtain⟨us,rest,h9,h10⟩:=h8;obtain⟨q,hq⟩:=VB hs;obtain⟨u,_,h11⟩:=h10.get hq;exact h11.under
   . have:=hS.bel i p hp' s hs;exact⟨by show s.under (S.H.set j _).length=true; simpa using this.1,this.2⟩
 . intro i i' p p' b hp hp' hw hw' hρ hρ';have key:∀ {i:Nat} {p:AO},(S.H.set j ⟨cs,o.ty,o.ver,true⟩)[i]? = some p->p.own=true->∃ q,S.H[i]? = some q/\q.own=true:=by
    intro i p hp hw;rcases hat hp with ⟨rfl,rfl⟩|⟨_,hp⟩
    . exact⟨o,ho,AO.own_live hl⟩
    . exact⟨p,hp,hw⟩
   obtain⟨q,h1,h2⟩:=key hp hw;obtain⟨q',h3,h4⟩:=key hp' hw';exact hS.inj i i' q q' b h1 h3 h2 h4 hρ hρ'
 . intro i p hp hpl hne;rcases hat hp with ⟨rfl,rfl⟩|⟨_,hp⟩
   . cases hpl
   . obtain⟨l,x,m,us,U,k1,k2,k3,k4,k6⟩:=hS.lp i p hp hpl hne;exact⟨l,x,m,us,U,k1,k2,k3,k4,k6.ext he⟩
theorem Qox (hS:Sim S) {j:Nat} {o:AO} (ho:S.H[j]? = some o) (hl:o.live=true) {cs:ZJ} (hok:QF cs) (hc:∀ us,VRs S o.cells us->∃ k,VRs S cs (us.take k)) :
 Sim ⟨S.ρ,S.H.set j ⟨cs,o.ty,o.ver,true⟩,S.w⟩:=Qnm hS ho hl hok λus _ h=>hc us h
end
def Qat (U:Env) (H:ZI) (aw:Env) (H':ZI):Prop :=
 ∀ (S:St) (tmps:Array Value),S.H=H->Sim S->QH S U tmps->∃ ρ',Ext S.H.length S ⟨ρ',H',S.w⟩/\Sim ⟨ρ',H',S.w⟩/\QH ⟨ρ',H',S.w⟩ aw tmps
theorem LI.tell {P:ZN} {N:Nat} {D:Array Oper->List Nat->List Ins->Bool} {i:IC} {U aw:Env} {H H':ZI} {K:ZH} (ht:Qat U H aw H')
 (h:LI P N D i aw H' K):LI P N D i U H K:=by
 intro c hc db S a hH hS he hN hd;obtain⟨ρ',h1,h2,h3⟩:=ht S a.tmps hH hS he;exact Qlk (h c hc db ⟨ρ',H',S.w⟩ a rfl h2 h3 hN (hd.ext hS h1)) λe a w hp=>Qar.trans h1 hp
theorem Qat.own0 {U:Env} {H:ZI} {j p:Nat} {o:AO} (ho:H[j]? = some o) (hl:o.live=true) (hp:o.cells[p]? = some (.val (.slice none 0 0))) (T:ZM) (sz:Nat) :
 Qat U H U (H.set j ⟨o.cells.set p (.own H.length 0 0 sz 0),o.ty,o.ver,true⟩++[⟨[],T,0,true⟩]):=by
 intro S tmps hH hS he;subst hH;have h1:=Qhi S T;have h2:=QlZ hS T;have hj:=Qk ho;have ho':(S.newNil T).H[j]? = some o:=by show(S.H++_)[j]? = _; rw[Vc hj]; exact ho
 have hn:(S.newNil T).H[S.H.length]? = some ⟨[],T,0,true⟩:=by show(S.H++_)[S.H.length]? = _; simp
 have hval:VR (S.newNil T) (.own S.H.length 0 0 sz 0) (.slice none 0 0):=by
  refine .own _ _ _ _ _ none 0 _ hn (Vb _) (Vb _) (λ_=>rfl) λ_ => ?_;unfold St.OwnAt;have:(S.newNil T).ρ S.H.length=none:=Qa0 _ _ _;rw[this]; exact⟨rfl,rfl⟩
 have hcell:QF (o.cells.set p (.own S.H.length 0 0 sz 0)):=by
  intro s hs;rcases Y2 hs with h|rfl
  . exact(hS.bel j o ho s h).2 hl
  . rfl
 have h3:=QgS ho' hl (o.cells.set p (.own S.H.length 0 0 sz 0));have h4:=Qox h2 ho' hl hcell (λus hus=>⟨us.length,by
  rw[VI];obtain⟨u,hu1,hu2⟩:=hus.get hp;have:u=.slice none 0 0:=by cases hu2; rfl
  subst this;have:=hus.set p hval;have e:us.set p (.slice none 0 0)=us:=by
   apply Ya;intro i;rw[YE];split
   . rename_i e; subst e;split
     . exact hu1.symm
     . rename_i hlt; rw[VT (by omega)]
   . rfl
  rw[e]at this; exact this⟩)
 have e:(S.newNil T).H.set j ⟨o.cells.set p (.own S.H.length 0 0 sz 0),o.ty,o.ver,true⟩=S.H.set j ⟨o.cells.set p (.own S.H.length 0 0 sz 0),o.ty,o.ver,true⟩++[⟨[],T,0,true⟩]:=by
  show(S.H++_).set j _=_;rw[Vn _ _ hj]
 rw[e]at h3 h4;exact⟨_,h1.trans (h3.mono (by simp[St.newNil])),h4,(he.ext h1).ext h3⟩
theorem Qat.trunc {U:Env} {H:ZI} {j:Nat} {o:AO} (ho:H[j]? = some o) (hl:o.live=true) (k:Nat):Qat U H U (H.set j ⟨o.cells.take k,o.ty,o.ver,true⟩):=by
 intro S tmps hH hS he;subst hH;have h3:=QgS ho hl (o.cells.take k);exact⟨_,h3,Qox hS ho hl (λs hs=>(hS.bel j o ho s (Yo hs)).2 hl) (λus hus=>⟨k,hus.take k⟩),he.ext h3⟩
theorem Qat.give {U:Env} {H0 L:ZI} (Z:closed H0) (k d:Nat) {o:AO} (ho:L[k]? = some o) (hl:o.live=true) :
 Qat U (H0++L) (U.map λp=>(p.1,p.2.gv (H0.length+k) o.ver o.cells d)) (H0++(L.set k o.dead).map (AO.gv (H0.length+k) o.ver o.cells d)):=by
 intro S tmps hH hS he;refine⟨_,QkF hH ho,QAD hS hH Z ho hl,⟨λt => ?_⟩⟩;rw[Qsi U (SV.gv (H0.length+k) o.ver o.cells d) (Qts _ _ _ _)];exact QnG hS hH ho hl _ _ (he.get t)
end
section
variable [QO] [QK] [Qv]
def rws {α:Type} (f:α->ZJ):List α->ZJ
 |[]=>[]
 |x::r=>f x++rws f r
section
variable {α:Type} {f:α->ZJ} {sz:Nat}
theorem Qh3 (a b:List α):rws f (a++b)=rws f a++rws f b:=by
 induction a with
 |nil=>rfl
 |cons x r ih=>simp[rws,ih]
theorem QaF (hf:∀ x,(f x).length=sz) (l:List α):(rws f l).length=l.length*sz:=by
 induction l with
 |nil=>simp[rws]
 |cons x r ih=>simp only[rws,Vj,hf,ih,Vh]; rw[YK]; omega
theorem QAl (hf:∀ x,(f x).length=sz) (l:List α) (k:Nat) (hk:k<=l.length):(rws f l).drop (k*sz)=rws f (l.drop k):=by
 have e:rws f l=rws f (l.take k)++rws f (l.drop k):=by rw[<-Qh3,Ys]
 have h:(rws f (l.take k)).length=k*sz:=by rw[QaF hf,Yp,Nat.min_eq_left hk]
 rw[e,YY (by omega),VZ (by omega),VG]
theorem Qej (hf:∀ x,(f x).length=sz) {l:List α} {k:Nat} (hk:k<l.length):(rws f l).drop (k*sz)=f l[k]++rws f (l.drop (k+1)):=by
 rw[QAl hf l k (by omega),VN hk]; rfl
theorem Qfj {n:Nat} (h:∀ x,SV.underL n (f x)=true) (l:List α):SV.underL n (rws f l)=true:=by
 induction l with
 |nil=>rfl
 |cons x r ih=>rw[rws,SV.underL_append,h,ih]; rfl
end
theorem QcZ {H:ZI} {j:Nat} {o:AO} (h:H[j]? = some o):H.set j o=H:=by
 apply Ya;intro i;rw[YE]; split
 . rename_i e; subst e; rw[Zr (Qk h),h]
 . rfl
def SV.le (s s':SV):Prop:=∀ (S:St) (v:Value),VR S s v->VR S s' v
theorem SV.le.refl (s:SV):s.le s:=λ_ _ h=>h
theorem QdA:SV.le (.val (.slice none 0 0)) (.slc [] 0):=by
 intro S v h; cases h; exact .nilslc
def leL (l l':ZJ):Prop:=l.length=l'.length/\∀ (j:Nat) (s s':SV),l[j]? = some s->l'[j]? = some s'->s.le s'
theorem leL.nil:leL [] []:=⟨rfl,λj s s' h=>by simp at h⟩
theorem leL.cons {s s':SV} {l l':ZJ} (h:s.le s') (hl:leL l l'):leL (s::l) (s'::l'):=by
 refine⟨by simp[hl.1],λj a b h1 h2 => ?_⟩
 cases j with
 |zero=>simp at h1 h2; subst h1 h2; exact h
 |succ j=>simp at h1 h2; exact hl.2 j a b h1 h2
theorem leL.vrs {S:St} {l l':ZJ} {us:ZK} (h:leL l l') (hv:VRs S l us):VRs S l' us:=by
 refine⟨by rw[hv.1,h.1],λj s u h1 h2 => ?_⟩;have hj:j<l.length:=by rw[h.1]; rcases Vx j l'.length with h3|h3; exact h3; rw[VT h3]at h1; cases h1
 exact h.2 j _ _ (Ve hj) h1 S u (hv.2 j _ u (Ve hj) h2)
theorem QiK {l l':ZJ} (h:leL l l') (n:Nat):SV.le (.slc l n) (.slc l' n):=by
 intro S v hv
 cases hv with
 |nilslc =>
  have:l'=[]:=VS (by rw[<-h.1]; rfl);subst this; exact .nilslc
 |slc _ _ a cap us hc hl hi hh =>
  have:=h.vrs ⟨hl,hh⟩;exact .slc _ _ a cap us hc this.1 hi this.2
theorem QeW {l l':ZJ} (h:leL l l'):SV.le (.agg l) (.agg l'):=by
 intro S v hv
 cases hv with
 |agg _ us hl hh=>have:=h.vrs ⟨hl,hh⟩; exact .agg _ _ this.1 this.2
theorem OkP.le {P:ZN} {f:ZP} {args args':ZJ} {H:ZI} {Pt:Out->ZI->Prop} (hle:leL args args') (h:OkP P f args' H Pt):OkP P f args H Pt :=
 ⟨h.1,λS vs hH hS hv=>h.2 S vs hH hS (hle.vrs hv)⟩
@[simp] theorem QFB (o:AO) (r:ZI) (a b k ver:Nat):Qo (o::r) (a+(b+(k+1))) ver=Qo r (a+(b+k)) ver:=QBO o r (a+(b+k)) ver
theorem LI.cong {P:ZN} {N:Nat} {D:Array Oper->List Nat->List Ins->Bool} {i:IC} {U:Env} {H H':ZI} {K:ZH} (e:H'=H) (h:LI P N D i U H' K):LI P N D i U H K:=by rw[<-e]; exact h
theorem OkP.cast {P:ZN} {f:ZP} {args args':ZJ} {H H':ZI} {Pt:Out->ZI->Prop} (ha:args=args') (hH:H=H') (h:OkP P f args' H' Pt):OkP P f args H Pt:=by subst ha hH; exact h
theorem Qig {α:Type} (a b:List α) (k:Nat) (x:α):(a++b).set (a.length+k) x=a++b.set k x:=by rw[Yk _ _ (by omega)]; simp
theorem Qp9 {α:Type} (a b:List α) (k:Nat):(a++b)[a.length+k]? = b[k]? := by rw[Vk (by omega)]; simp
theorem Cv.le {n0:Nat} {r1 r r':SV} {H1 H':ZI} (h:Cv n0 r1 H1 r H') (hle:r.le r'):Cv n0 r1 H1 r' H':=by
 intro S v hS aj hv;obtain⟨ρ,h1,h2,h3⟩:=h S v hS aj hv;exact⟨ρ,h1,h2,hle _ _ h3⟩
theorem Qd0.one {H0 L:ZI} {ks:List Nat} {d j:Nat} {o:AO} (hu:∀ (i:Nat) (o:AO),i≠j->H0[i]? = some o->∀ s∈o.cells,s.under H0.length=true) (ho:H0[j]? = some o) (hl:o.live=true)
 (hc:QF (o.cells.map (SV.fz H0.length ks L d))):Qd0 H0 (H0.set j ⟨o.cells.map (SV.fz H0.length ks L d),o.ty,o.ver,true⟩) L ks d:=by
 refine⟨by simp,λi o' h => ?_⟩;by_cases e:i=j
 . subst e;rw[Vq (Qk ho)]at h; cases h
   exact .inr ⟨o,(o.cells.map (SV.fz H0.length ks L d)).length,ho,hl,by rw[VI],hc⟩
 . rw[Vg (by omega)]at h;exact .inl ⟨h,hu i o' e h⟩
end
end Go.Ab
namespace Go.Ab
variable [QO] [QK] [Qv]
namespace IsL
variable {α:Type} {f:α->SV} {H:ZI} {x:SV} {l:List α}
end IsL
def u8 (n:Int):SV:=.val (.int .u8 n)
@[simp] theorem u8_eq (n:Int):SV.val (.int .u8 n)=u8 n:=rfl
section
variable (n:Int)
@[simp] theorem isI_u8 (k:IntKind):SV.isI k (u8 n)=decide (IntKind.u8=k):=rfl
@[simp] theorem isN_u8:SV.isN (u8 n)=true:=rfl
@[simp] theorem int_u8:SV.int (u8 n)=n:=rfl
@[simp] theorem ug_u8:SV.ug (u8 n)=u8 n:=rfl
@[simp] theorem vd_u8:SV.vd (u8 n)=true:=rfl
@[simp] theorem QEM:SV.isCell (u8 n)=true:=rfl
@[simp] theorem QIk:SV.flat (u8 n)=[u8 n]:=rfl
@[simp] theorem QFx:SV.isPt (u8 n)=false:=rfl
@[simp] theorem QHC:SV.isAg (u8 n)=false:=rfl
@[simp] theorem QF7:SV.isTu (u8 n)=false:=rfl
@[simp] theorem QGF (m:Nat):SV.under m (u8 n)=true:=rfl
@[simp] theorem gv_u8 (k ver:Nat) (cs:ZJ) (d:Nat):SV.gv k ver cs d (u8 n)=u8 n:=by cases d<;>rfl
@[simp] theorem QGB:(u8 n).strip=u8 n:=rfl
end
theorem OkP.tell {P:ZN} {f:ZP} {args:ZJ} {H H':ZI} {Pt:Out->ZI->Prop} (ht:Qat [] H [] H') (hl:H.length<=H'.length) (h:OkP P f args H' Pt):OkP P f args H Pt:=by
 refine⟨h.1,?_⟩;intro S vs hH hS hvs;obtain⟨ρ',h1,h2,_⟩:=ht S #[] hH hS ⟨λt=>.any _⟩;have h3:=h.2 ⟨ρ',H',S.w⟩ vs rfl h2 (hvs.ext h1);refine h3.mono ?_;rintro en w' ⟨out,H2,v,ρ2,hp,am,aj,hout⟩;exact⟨out,H2,v,ρ2,hp,h1.trans (am.mono (by subst hH; exact hl)),aj,hout⟩
theorem Qjd {P:ZN} {N:Nat} (hm:P.follows .mixedOrders=true) {i kk:Nat} {ps:List Nat} {ia ib ia' ib':IC} {U:Env} {args:ZJ} {H:ZI} {Pt:Out->ZI->Prop} (hia:ia=ia') (hib:ib=ib')
 (ho:H[i]? = some (lpo P N Qf kk ps ia ib (U.vals N) .ready)) (he:(U.all λp=>decide (p.1<N))=true) (hp:(ps.all λp=>decide (p<N))=true) (hl:args.length=ps.length)
 (hx:closed H->X P N Qf ia' (U.puts ps args) H λx env1 H1=>x=.normal/\∃ cs,H1[i]? = some (lpo P N Qf kk ps ia ib cs .ready)/\X P N Qf ib' env1 (H1.set i (lpo P N Qf kk ps ia ib cs .busy)) (QmK P N kk ps ia ib i H.length Pt)) :
 YlP P i args H Pt:=by
 subst hia hib;exact Qw8 hm ho he hp hl hx
theorem QiU {n0:Nat} {v:SV} {H1 H':ZI} (h:H1=H'):Cv n0 v H1 v H':=by subst h; exact Qi
theorem Ql0 {l l':ZJ} (h:leL l l'):SV.le (.tup l) (.tup l'):=by
 intro S v hv
 cases hv with
 |tup _ us hl hh=>have:=h.vrs ⟨hl,hh⟩; exact .tup _ _ this.1 this.2
@[simp] theorem QDC (H L:ZI) (j:Nat) (o:AO) (k ver:Nat):Qo (H.set j o++L) (H.length+k) ver=Qo L k ver:=by
 have:=QgN (H:=H.set j o) (L:=L) (k:=k) (ver:=ver); simpa using this
@[simp] theorem QFy (H L:ZI) (j:Nat) (o:AO) (ver:Nat):Qo (H.set j o++L) H.length ver=Qo L 0 ver:=QDC H L j o 0 ver
theorem QCQ (A B:ZI) (k:Nat) (f:AO->AO):setObj (A++B) (A.length+k) f=A++setObj B k f:=by
 unfold setObj;rw[Qp9]
 cases h:B[k]? with
 |none=>rfl
 |some o=>simp only; rw[Qig]
@[simp] theorem QCS (H L:ZI) (j:Nat) (o:AO) (k:Nat) (f:AO->AO):setObj (H.set j o++L) (H.length+k) f=H.set j o++setObj L k f:=by
 have:=QCQ (H.set j o) L k f; simpa using this
@[simp] theorem QJp (H L:ZI) (j:Nat) (o:AO) (f:AO->AO):setObj (H.set j o++L) H.length f=H.set j o++setObj L 0 f:=QCS H L j o 0 f
@[simp] theorem QEB {α:Type} (H L:List α) (j:Nat) (o:α) (k:Nat):(H.set j o++L)[H.length+k]? = L[k]? := by
 have:=Qp9 (H.set j o) L k; simpa using this
@[simp] theorem QHx (H L:ZI) (j:Nat) (o:AO) (k ver:Nat) (T:ZM) (m:Nat):QbC (H.set j o++L) (H.length+k) ver T m=QbC L k ver T m:=by
 unfold QbC; rw[QEB]
theorem Qfw {H:ZI} (Z:closed H) (j:Nat) {o:AO} (hu:SV.underL H.length o.cells=true):closed (H.set j o):=by
 intro i p hp s hs;rw[Yf];by_cases e:j=i
 . subst e;have hj:=Qk hp;rw[Vq (by simpa using hj)]at hp
   cases hp
   exact(SV.underL_iff _ _).1 hu s hs
 . rw[Vg e]at hp;exact Z i p hp s hs
end Go.Ab
namespace Go.Ab
section
variable [QO] [QK] [Qv]
section
variable {P:ZN}
theorem QqO {n0 D:Nat} {w w':ZO} (h1:n0<=D) (h2:w.heap[D]? = some (Obj.deferred (some []))) (ht:Qez n0 (w.putObj D (.deferred none)) w'):Qez n0 w w':=by
 refine⟨by rw[ht.size]; simp,λk => ?_,ht.os,ht.tape,ht.output⟩;by_cases hk:k=D
 . subst hk;right;refine⟨h1,h2,?_⟩;rcases ht.at_ k with h3|⟨_,h3,h4⟩
   . exact h3.trans (World.putObj_heap_same (Qdr h2))
   . exact h4
 . rcases ht.at_ k with h3|⟨h3,h4,h5⟩
   . exact .inl (h3.trans (World.putObj_heap_other hk))
   . exact .inr ⟨h3,(World.putObj_heap_other hk).symm.trans h4,h5⟩
theorem QtJ (n0:Nat) (w:ZO):Qez n0 w w:=⟨rfl,λ_=>.inl rfl,rfl,rfl,rfl⟩
theorem Qrs {n0:Nat}:∀ (ms:List Nat) (w:ZO) (fr:Frame) (cs:List Frame),fr.mode≠.run->fr.defers=ms.map QcK->ms.Nodup->(∀ D∈ms,n0<=D/\w.heap[D]? = some (Obj.deferred (some []))) ->
 ∃ w',Qez n0 w w'/\StepsIn (Machine.fenced P (Fr none)) P (lone fr cs w) (lone { fr with defers:=[] } cs w')
 |[],w,fr,cs,hm,hd,_,_=>by
  refine⟨w,QtJ _ _,?_⟩;have:({ fr with defers:=[] }:Frame)=fr:=by cases fr; simp_all
  rw[this];exact StepsIn.refl _
 |D::ms,w,fr,cs,hm,hd,hnd,hms=>by
  rw[Y0]at hnd;obtain⟨h1,h2⟩:=hms D (by simp);have hs:=step_collected (P:=P) (cs:=cs) (d:=QcK D) (ds:=ms.map QcK) hm hd rfl (run_takeDeferred h2);have i1:(lone fr cs w).fenced P (Fr none):=fenced_out (n:=0) trivial (QhX _ _) hm hd (λg hg=>trivial);obtain⟨w',ht,hst⟩:=Qrs ms (w.putObj D (.deferred none)) { fr with defers:=ms.map QcK } cs hm rfl hnd.2 (λD' hD'=>by
   refine⟨(hms D' (by simp[hD'])).1,?_⟩;have hne:D'≠D:=λe=>hnd.1 (e ▸ hD');exact(World.putObj_heap_other hne).trans (hms D' (by simp[hD'])).2)
  exact⟨w',QqO h1 h2 ht,.head i1 hs hst⟩
def MD (S:St):Option SV->FrameMode->Prop
 |none,u=>u=.returning
 |some x,u=>∃ v,u=.panicking [{ v:=v,recovered:=false }]/\VR S x v
def rvD:Option SV->SV
 |none=>.val .nilIface
 |some x=>x
def OkD (P:ZN) (f:ZP) (args:ZJ) (H:ZI) (m:Option SV) (Pt:ZI->Prop):Prop :=
 (∀ (vs:Array Value) (w:ZO),(callFunc f vs).run P w=.ok (.enter f vs) w) /\
 ∀ (S:St) (vs:ZK) (u:FrameMode),S.H=H->Sim S->VRs S args vs->MD S m u ->
  CallsDIn (Fr none) 0 P f vs.toArray u S.w λe u' w'=>∃ (v:Value) (H':ZI) (ρ':Nat->Option Nat),e=.returned v/\settle u'=.returning/\Pt H'/\Ext S.H.length S ⟨ρ',H',w'⟩/\Sim ⟨ρ',H',w'⟩
theorem Qyu {o:Oper} (ho:o.op=.call { callee:=.builtin .recover,args := #[],argTypes := #[] }) (ρ:Operand->Value) (w:ZO):(execOp ρ o).run P w=.ok .recover w:=by
 simp[execOp,ho,resolve,invoke,builtin]
variable {D:Array Oper->List Nat->List Ins->Bool}
theorem QvD (hD:DOk P D) {f:ZP} {fn:Func} {rid d:Nat} {aa:Array Oper} {o:Oper} {c2:Code} {insR:List Ins} {i2:IC} {args:ZJ} {H:ZI} {m:Option SV} {Pt:ZI->Prop}
 (hf : P.funcs[f]? = some fn) (hb : fn.body = some (.seq (.region rid aa false) c2)) (hname : (fn.name == "runtime.NumGoroutine") = false) (hn : args.length <= fn.ntmps) (hr : QcT P fn.results.toList [] = true)
 (hop:aa[0]? = some o) (ho:o.op=.call { callee:=.builtin .recover,args := #[],argTypes := #[] }) (hg:o.guard=none) (hdst:o.dst=some d) (hd:d<fn.ntmps) (hnd:ndB aa=true)
 (hl:chkL P fn.ntmps aa (aa.toList.drop 1) insR=true) (hc:QY P fn.ntmps D c2 i2=true)
 (hx:closed H->QbP P insR ((Qcq args).put (some d) (rvD m)) H λx U H1=>x=.normal/\X P fn.ntmps D i2 U H1 λx _ H2=>(x=.normal\/x=.ret)/\∃ H',Pt H'/\Cv H.length (.tup []) H2 (.tup []) H'):OkD P f args H m Pt:=by
 refine⟨λvs w=>Go.MuLone.run_callFunc_enter hf hname hb vs w,?_⟩;intro S vs u hH hS hvs hmd;subst hH;refine⟨trivial,λc₀ cs hu hroom => ?_⟩;obtain⟨b,hbk,hbr,hbf,henter⟩:∃ b:Frame,b.kind=.deferred/\b.roundOf=none/\b.fn=f/\Frame.enter P f vs.toArray .deferred=b.atR { tmps:=vs.toArray++Array.replicate (fn.ntmps-vs.toArray.size) undef,defers:=[] } [.code (.seq (.region rid aa false) c2)] :=
  ⟨{ (default:Frame)with fn:=f,kind:=.deferred,roundOf:=none },rfl,rfl,rfl,by simp[Frame.enter,Frame.atR,hf,hb]⟩
 rw[henter];have hlen:vs.length=args.length:=hvs.1;generalize ha0:({ tmps:=vs.toArray++Array.replicate (fn.ntmps-vs.toArray.size) undef,defers:=[] }:Act)=a0;have hN0:a0.tmps.size=fn.ntmps:=by subst ha0; simp; omega
 have hd0:a0.defers=[]:=by subst ha0; rfl
 have he0:QH S (Qcq args) a0.tmps:=by subst ha0; exact QnU hvs _
 have t1:StepsIn (Machine.fenced P (Fr none)) P (lone (b.atR a0 [.code (.seq (.region rid aa false) c2)]) (c₀::cs) S.w) (lone (b.atR a0 (.inRegion aa (List.range aa.size)::[.code c2])) (c₀::cs) S.w) :=
  .head (Qi9 rfl) stepR_seq (.one (Qi9 rfl) stepR_region)
 have hsz:0<aa.size:=by
  rcases Vx 0 aa.size with h|h
  . exact h
  . rw[V4 h]at hop; cases hop
 have hrange:List.range aa.size=0::List.range' 1 (aa.size-1):=by
  rw[YU];obtain⟨k,hk⟩:∃ k,aa.size=k+1:=⟨aa.size-1,by omega⟩;rw[hk,YT]; simp
 rw[hrange]at t1;obtain⟨rv,u1,hstep,hset,hvr⟩:∃ (rv:Value) (u1:FrameMode),step P (lone (b.atR a0 (.inRegion aa (0::List.range' 1 (aa.size-1))::[.code c2])) (c₀::cs) S.w) =
  .next (lone (b.atR (a0.put o.dst rv) (.inRegion aa (List.range' 1 (aa.size-1))::[.code c2])) ({ c₀ with mode:=u1 }::cs) S.w)/\settle u1=.returning/\VR S (rvD m) rv:=by
  have hw:Region.wanted o (yielded aa a0.tmps)=true:=by simp[Region.wanted,hg]
  have hgs:=stepGR_op (P:=P) (b:=b) (a:=a0) (k:=[.code c2]) (cs:=c₀::cs) (w:=S.w) (rest:=List.range' 1 (aa.size-1)) hop hw;rw[hbr,Oper.semAt_none]at hgs;have hfin:∀ v,(b.atR a0 (.inRegion aa (0::List.range' 1 (aa.size-1))::[.code c2])).finish v=b.atR (a0.put o.dst v) (.inRegion aa (List.range' 1 (aa.size-1))::[.code c2]):=by
   intro v; rw[Frame.finish_atR,hop]; rfl
  have hk:(b.atR a0 (.inRegion aa (0::List.range' 1 (aa.size-1))::[.code c2])).kind=.deferred:=hbk;have htr:=tryRecover_deferred hk (c₀::cs);have hrun:=Qyu (P:=P) ho a0.eval S.w
  cases m with
  |none =>
   have hu':u=.returning:=hmd;subst hu';refine⟨.nilIface,.returning,?_,rfl,.val _⟩;have hc0:({ c₀ with mode:=.returning }:Frame)=c₀:=by cases c₀; simp_all
   rw[hc0];have hrec:recoverD (c₀::cs)=none:=by simp[recoverD,hu]
   refine step_lone_go ?_;rw[hgs,<- hfin];simp only[Frame.atR,hbr]at htr ⊢;simp[stepG.apply,hrun,htr,hrec]
  |some x =>
   obtain⟨v,rfl,hv⟩:=hmd;refine⟨v,.panicking [{ v:=v,recovered:=true }],?_,rfl,hv⟩;have hrec:recoverD (c₀::cs)=some (v,{ c₀ with mode:=.panicking [{ v:=v,recovered:=true }] }::cs):=by simp[recoverD,hu]
   refine step_lone_go ?_;rw[hgs,<- hfin];simp only[Frame.atR,hbr]at htr ⊢;simp[stepG.apply,hrun,htr,hrec]
 have t2:=t1.trans (.one (fenced_oper (n:=0) trivial (QhX _ _) hop (λf _=>trivial)) hstep);generalize hcc:({ c₀ with mode:=u1 }::cs:List Frame)=cc at t2;have ax:∀ t,o.dst=some t->t<a0.tmps.size:=by intro t ht; rw[hdst]at ht; cases ht; rw[hN0]; exact hd
 have ay:QH S ((Qcq args).put (some d) (rvD m)) (a0.put o.dst rv).tmps:=by
  have:=he0.put ax hvr
  rwa [hdst]at this ⊢
 have hdb:(⟨S.w.heap.size,[],none⟩:DB).Ok S.w (a0.put o.dst rv).defers:=by
  rw[Qjk,hd0];exact⟨Vb _,⟨[],rfl,YL,λD hD=>by simp at hD⟩,λl h=>by cases h⟩
 have hwl:=Qm4 (d:=⟨S.w.heap.size,[],none⟩) (aa:=aa) (aa.toList.drop 1) insR hS ay (by rw[Qjy,hN0]) hdb hl (hx hS.closed);have hlen2:(aa.toList.drop 1).length=aa.size-1:=by simp
 have heq:=Qsk (P:=P) (aa:=aa) (Q:=Qar S fn.ntmps ⟨S.w.heap.size,[],none⟩ λx U H1=>x=.normal/\X P fn.ntmps D i2 U H1 λx _ H2=>(x=.normal\/x=.ret)/\∃ H',Pt H'/\Cv S.H.length (.tup []) H2 (.tup []) H') (aa.toList.drop 1) 1 (λj=>by rw[VU]; simp);rw[<-heq,hlen2]at hwl;obtain⟨e1,a1,w1,hq1,harr1⟩:=wp_opsIn _ _ _ (Qot hnd none _ _ _ hwl) b [.code c2] cc hbr trivial (QhX _ _);obtain⟨x1,env1,ρ1,H1,g1,g2,g3,g4,g5,g6,hx1,g7⟩:=hq1;subst hx1
 cases e1<;>simp only[ER]at g1
 have t3:=t2.trans harr1;obtain⟨e2,a2,w2,hq2,harr2⟩:=Qeu hD i2 hc g7 ⟨S.w.heap.size,[],none⟩ ⟨ρ1,H1,w1⟩ a1 rfl g3 g4 g5 g6 b [] cc hbr trivial (QhX _ _);obtain⟨x2,env2,ρ2,H2,k1,k2,k3,k4,k5,k6,hx2,H',hpt,hcv⟩:=hq2;obtain⟨ms,m1,m2,m3⟩:=k6.ms;simp only[VE]at m1;have hfinal:∃ todo,StepsIn (Machine.fenced P (Fr none)) P (lone (b.atR a0 [.code (.seq (.region rid aa false) c2)]) (c₀::cs) S.w) (lone { b.atR a2 todo with mode:=.returning } cc w2):=by
  rcases hx2 with rfl|rfl
  . cases e2<;>simp only[ER]at k1
    exact⟨[],t3.trans (StepsIn.trans harr2 (.one (Qi9 rfl) (stepR_end hbr)))⟩
  . cases e2<;>simp only[ER]at k1
    obtain⟨todo,hs⟩:=harr2.1 hbr;exact⟨todo,t3.trans hs⟩
 obtain⟨todo,t4⟩:=hfinal;obtain⟨w3,ht,t5⟩:=Qrs (P:=P) (n0:=S.w.heap.size) ms w2 { b.atR a2 todo with mode:=.returning } cc (by simp) m1 m2 m3;have hS2:=Qfb ht k3;have hE2:QH ⟨ρ2,H2,w3⟩ env2 a2.tmps:=⟨λt=>(k4.get t).extV (QeO ht) (.inl rfl)⟩;obtain⟨v,h3,h4⟩:=Qlt (P:=P) (S:=⟨ρ2,H2,w3⟩) (rs:=[]) hS2 hE2 hr (λs hs=>by simp at hs);obtain⟨ρ',h5,h6,_⟩:=hcv ⟨ρ2,H2,w3⟩ v rfl hS2 h4;subst hcc;refine⟨.returned v,u1,w3,_,⟨v,H',ρ',rfl,hset,hpt,?_,h6⟩,t4.trans t5,hbk,hbf,rfl,rfl,fn,by rw[show({ b.atR a2 todo with mode:=.returning,defers:=[] }:Frame).fn=f from hbf]; exact hf,h3⟩;exact(QhT ht (g2.trans (k2.mono (g2.len (Vb _)))) (Vb _)).trans h5
theorem Qsc {fn:Func} {tmps:Array Value} {R:Ending->ZO->Prop} {n0:Nat} {u:FrameMode} {ds:List Deferred} (hu:u≠.run):∀ (ms:List Nat) (w:ZO),ms.Nodup->(∀ D∈ms,n0<=D/\w.heap[D]? = some (Obj.deferred (some []))) ->
 (∀ w',Qez n0 w w'->LeavesInM (Fr none) 0 P fn tmps R ds u w')->LeavesInM (Fr none) 0 P fn tmps R (ms.map QcK++ds) u w
 |[],w,_,_,h=>h w (QtJ _ _)
 |D::ms,w,hnd,hms,h=>by
  rw[Y0]at hnd;obtain⟨h1,h2⟩:=hms D (by simp);refine⟨hu,.inl ⟨D,_,rfl,run_takeDeferred h2,?_⟩⟩;refine Qsc hu ms _ hnd.2 (λD' hD'=>⟨(hms D' (by simp[hD'])).1,?_⟩) λw' ht=>h w' (QqO h1 h2 ht);have hne:D'≠D:=λe=>hnd.1 (e ▸ hD');exact(World.putObj_heap_other hne).trans (hms D' (by simp[hD'])).2
def Qhj (P:ZN) (n0:Nat) (rs:List RS) (Pt:Out->ZI->Prop) (k:ZP) (cap:ZJ) (x:XE) (U:Env) (H1:ZI):Prop :=
 match x with
 |.normal=>∃ Pd,OkD P k cap H1 none Pd/\∀ H4,Pd H4->(∀ s∈rs,s.side U H4)/\Qdw n0 Pt (Qa2 U H4 rs) H4
 |.ret=>∃ Pd,OkD P k cap H1 none Pd/\∀ H4,Pd H4->(∀ s∈rs,s.side U H4)/\Qdw n0 Pt (Qa2 U H4 rs) H4
 |.panic y=>∃ Pd,OkD P k cap H1 (some y) Pd/\∀ H4,Pd H4->(∀ s∈rs,s.side U H4)/\Qdw n0 Pt (Qa2 U H4 rs) H4
 |_=>False
end
def QjX (P:ZN) (D:Array Oper->List Nat->List Ins->Bool) (fn:Func) (d:Nat) (insR:List Ins) (i2:IC):Bool :=
 (match fn.body with
  |some (.seq (.region _ aa false) c2) =>
    (match aa.toList with
     |o::r=>(match o.op with|.call { callee:=.builtin .recover,args:=as,argTypes:=ts }=>as.isEmpty&&ts.isEmpty|_=>false)&&(o.guard.isNone&&(o.dst==some d&&(decide (d<fn.ntmps)&&(ndB aa&&(chkL P fn.ntmps aa r insR&&QY P fn.ntmps D c2 i2)))))
     |_=>false)
  | _ => false) && !(fn.name == "runtime.NumGoroutine") && QcT P fn.results.toList [] && decide (fn.params.size + fn.nfree <= fn.ntmps)
theorem QlW {P:ZN} (hm:P.follows .mixedOrders=true) {f:ZP} {fn:Func} {d:Nat} {insR:List Ins} {i2:IC} (hf:P.funcs[f]? = some fn) (hc:QjX P Qf fn d insR i2=true)
 {args:ZJ} {H:ZI} {m:Option SV} {Pt:ZI->Prop} (hn:args.length=fn.params.size+fn.nfree)
 (hx:closed H->QbP P insR ((Qcq args).put (some d) (rvD m)) H λx U H1=>x=.normal/\X P fn.ntmps Qf i2 U H1 λx _ H2=>(x=.normal\/x=.ret)/\∃ H',Pt H'/\Cv H.length (.tup []) H2 (.tup []) H'):OkD P f args H m Pt:=by
 unfold QjX at hc;rw[Va,Va,Va]at hc;obtain⟨⟨⟨h1,h2⟩,h3⟩,h4⟩:=hc;split at h1
 . rename_i rid aa c2 hb;split at h1
   . rename_i o r hops;simp only[Va,Zu,Zs]at h1;obtain⟨k1,k2,k3,k4,k5,k6,k7⟩:=h1;split at k1
     . rename_i as ts ho;simp only[Va,Array.isEmpty_iff]at k1;obtain⟨rfl,rfl⟩:=k1;have h0:aa[0]? = some o:=by rw[<-YZ,hops]; rfl
       refine QvD (Qb1 hm) hf hb (by simpa using h2) (by rw[hn]; simpa using h4) h3 h0 ho (by simpa using k2) k3 k4 k5 ?_ k7 hx;rw[hops]; exact k6
     . cases k1
   . cases h1
 . cases h1
end
section
variable [QO] [QK] [Qv]
section
variable {P:ZN} {D:Array Oper->List Nat->List Ins->Bool}
theorem Qwp (hD:DOk P D) {fn:Func} {cb:Code} {rid:Nat} {o1 od:Oper} {f':Operand} {fo:Od} {ib:IC} {ins1:Ins} {rs:List RS} {Pt:Out->ZI->Prop}
 (hr:QcT P fn.results.toList rs=true)
 (ho1:Qd2 P fn.ntmps #[o1,od] o1 ins1=true) (hnd1:∀ c,o1.op≠.defer c) (hod:od.op=.defer { callee:=.value f',args := #[],argTypes := #[] }) (hog:od.guard=none) (hdst:od.dst=none) (hfo:Qx f' fo=true)
 (hcb:QY P fn.ntmps D cb ib=true) {S:St} {a1:Act} {w1:ZO} {env1:Env} {ρ1:Nat->Option Nat} {H1:ZI}
 (g2:Ext S.H.length S ⟨ρ1,H1,w1⟩) (g3:Sim ⟨ρ1,H1,w1⟩) (g4:QH ⟨ρ1,H1,w1⟩ env1 a1.tmps) (g5:a1.tmps.size=fn.ntmps) (g6:(⟨S.w.heap.size,[],none⟩:DB).Ok w1 a1.defers)
 (g7:xo P ins1 env1 H1 λx env2 H2=>x=.normal/\(env2.ev fo).vd=true/\∃ k cap,(env2.ev fo).ug=.fn (.func k) [] cap/\X P fn.ntmps D ib env2 H2 (Qhj P S.H.length rs Pt k cap)) :
 (Code.seq (.region rid #[o1,od] false) cb).wpIn (Fr none) 0 P (bodyPostM (Fr none) 0 P fn (λe w'=>∃ (out:Out) (H':ZI) (v:Value) (ρ':Nat->Option Nat),Pt out H'/\Ext S.H.length S ⟨ρ',H',w'⟩/\Sim ⟨ρ',H',w'⟩ /\
  match out with
  |.ret r=>e=.returned v/\VR ⟨ρ',H',w'⟩ r v
  |.pan x=>e=.panicked [{ v:=v,recovered:=false }]/\VR ⟨ρ',H',w'⟩ x v)) a1 w1:=by
 refine wpIn_seq ?_;refine wpIn_region ?_;have hstep:=QjA (d:=⟨S.w.heap.size,[],none⟩) (N:=fn.ntmps) g3 g4 g5 g6 (aa := #[o1,od]) ho1 g7
  (next:=wpOpsIn (Fr none) 0 P #[o1,od] (Exit.then (cb.wpIn (Fr none) 0 P (bodyPostM (Fr none) 0 P fn λe w'=>∃ (out:Out) (H':ZI) (v:Value) (ρ':Nat->Option Nat),Pt out H'/\Ext S.H.length S ⟨ρ',H',w'⟩/\Sim ⟨ρ',H',w'⟩ /\
   match out with
   |.ret r=>e=.returned v/\VR ⟨ρ',H',w'⟩ r v
   |.pan x=>e=.panicked [{ v:=v,recovered:=false }]/\VR ⟨ρ',H',w'⟩ x v)) (bodyPostM (Fr none) 0 P fn λe w'=>∃ (out:Out) (H':ZI) (v:Value) (ρ':Nat->Option Nat),Pt out H'/\Ext S.H.length S ⟨ρ',H',w'⟩/\Sim ⟨ρ',H',w'⟩ /\
   match out with
   |.ret r=>e=.returned v/\VR ⟨ρ',H',w'⟩ r v
   |.pan x=>e=.panicked [{ v:=v,recovered:=false }]/\VR ⟨ρ',H',w'⟩ x v)) [1])
  (Q:=Exit.then (cb.wpIn (Fr none) 0 P (bodyPostM (Fr none) 0 P fn λe w'=>∃ (out:Out) (H':ZI) (v:Value) (ρ':Nat->Option Nat),Pt out H'/\Ext S.H.length S ⟨ρ',H',w'⟩/\Sim ⟨ρ',H',w'⟩ /\
   match out with
   |.ret r=>e=.returned v/\VR ⟨ρ',H',w'⟩ r v
   |.pan x=>e=.panicked [{ v:=v,recovered:=false }]/\VR ⟨ρ',H',w'⟩ x v)) (bodyPostM (Fr none) 0 P fn λe w'=>∃ (out:Out) (H':ZI) (v:Value) (ρ':Nat->Option Nat),Pt out H'/\Ext S.H.length S ⟨ρ',H',w'⟩/\Sim ⟨ρ',H',w'⟩ /\
   match out with
   |.ret r=>e=.returned v/\VR ⟨ρ',H',w'⟩ r v
   |.pan x=>e=.panicked [{ v:=v,recovered:=false }]/\VR ⟨ρ',H',w'⟩ x v)) ?_ ?_
 . -- the two operations
   show wpOpsIn (Fr none) 0 P #[o1,od] _ [0,1] a1 w1;simp only[wpOpsIn];have e0:(#[o1,od]:Array Oper)[0]? = some o1:=rfl;simp only[e0];unfold Qgs at hstep;split
   . rename_i hw;rw[Zr hw]at hstep;exact⟨λ_ _=>trivial,hstep⟩
   . rename_i hw;rw[Zq hw]at hstep;exact⟨λ_ _=>trivial,hstep⟩
 . -- the deferred call is laid Qi7; the rest
   rintro a2 w2 ⟨x2,env2,ρ2,H2,k1,k2,k3,k4,k5,k6,hx2,hvd,k,cap,hug,k7⟩;subst hx2;have hfv:=(QD hfo k4).ug hvd;rw[hug]at hfv;obtain⟨us,cs,hv,hus,hcs⟩:=hfv.fn_inv;have hus0:us=[]:=by have:=hus.1; simpa using this
   subst hus0;obtain⟨ms1,m1,m2,m3⟩:=k6.ms;simp only[VE]at m1;simp only[wpOpsIn];have e1:(#[o1,od]:Array Oper)[1]? = some od:=rfl;simp only[e1];have hw:Region.wanted od (yielded #[o1,od] a2.tmps)=true:=by simp[Region.wanted,hog]
   rw[Zr hw];refine⟨λ_ _=>trivial,?_⟩;have hrun:(od.semAt (Fr none).round a2.eval).run P w2=.ok (.defer { target:=.fn (.func k) cs.toArray,args := #[] }) w2:=by
    show(od.semAt none a2.eval).run P w2=_;rw[Oper.semAt_none];simp[execOp,hod,resolve,hv,Deferred.ofValue]
   rw[hrun,Oper.uponIn_defer];have hput:({ a2 with defers:={ target:=.fn (.func k) cs.toArray,args := #[] }::a2.defers }:Act).put od.dst undef={ a2 with defers:={ target:=.fn (.func k) cs.toArray,args := #[] }::a2.defers }:=by rw[hdst]; rfl
   rw[hput];show cb.wpIn _ _ _ _ _ _;have hwb:=Qeu hD ib hcb k7 ⟨w2.heap.size,{ target:=.fn (.func k) cs.toArray,args := #[] }::ms1.map QcK,none⟩ ⟨ρ2,H2,w2⟩ { a2 with defers:={ target:=.fn (.func k) cs.toArray,args := #[] }::a2.defers } rfl k3 k4 k5 ⟨Vb _,⟨[],by simp[m1],YL,λD hD=>by simp at hD⟩,λl h=>by cases h⟩;refine wq_mono hwb ?_;rintro e3 a3 w3 ⟨x3,env3,ρ3,H3,q1,q2,q3,q4,q5,q6,q7⟩;obtain⟨ms3,n1,n2,n3⟩:=q6.ms;have hE0:Ext S.H.length S ⟨ρ3,H3,w3⟩:=(g2.trans (k2.mono (g2.len (Vb _)))).trans (q2.mono ((g2.trans (k2.mono (g2.len (Vb _)))).len (Vb _)));have hdb1:(⟨S.w.heap.size,[],none⟩:DB).Ok w2 (ms1.map QcK):=⟨k6.le,⟨ms1,by simp,m2,m3⟩,λl h=>by cases h⟩;have main:∀ (m:Option SV) (u:FrameMode) (Pd:ZI->Prop),u≠.run->MD ⟨ρ3,H3,w3⟩ m u->OkD P k cap H3 m Pd->(∀ H4,Pd H4->(∀ s∈rs,s.side env3 H4)/\Qdw S.H.length Pt (Qa2 env3 H4 rs) H4) ->
    LeavesInM (Fr none) 0 P fn a3.tmps (λe w'=>∃ (out:Out) (H':ZI) (v:Value) (ρ':Nat->Option Nat),Pt out H'/\Ext S.H.length S ⟨ρ',H',w'⟩/\Sim ⟨ρ',H',w'⟩ /\
     match out with
     |.ret r=>e=.returned v/\VR ⟨ρ',H',w'⟩ r v
     |.pan x=>e=.panicked [{ v:=v,recovered:=false }]/\VR ⟨ρ',H',w'⟩ x v) a3.defers u w3:=by
    intro m u Pd hu hmd hok ag;rw[n1];refine Qsc hu ms3 w3 n2 n3 λw4 ht => ?_;have hS4:=Qfb ht q3;have hE4:=QhT ht hE0 (g2.trans (k2.mono (g2.len (Vb _)))).size;have hcs4:VRs ⟨ρ3,H3,w4⟩ cap cs:=⟨hcs.1,λj s u h1 h2=>((hcs.2 j s u h1 h2).extV q2.v (.inl rfl)).extV (QeO ht) (.inl rfl)⟩;have hmd4:MD ⟨ρ3,H3,w4⟩ m u:=by
     cases m with
     |none=>exact hmd
     |some y=>obtain⟨v,h1,h2⟩:=hmd; exact⟨v,h1,h2.extV (QeO ht) (.inl rfl)⟩
    refine⟨hu,.inr ⟨Qkl,.func k,cs.toArray,k,cs.toArray,rfl,?_,λg hg=>trivial,?_⟩⟩
    . simp only[invoke];have:=hok.1 cs.toArray w4;simpa using this
    . refine(hok.2 ⟨ρ3,H3,w4⟩ cs u rfl hS4 hcs4 hmd4).mono ?_;rintro e5 u5 w5 ⟨v5,H5,ρ5,rfl,hset,hpd,hext5,hsim5⟩;obtain⟨r1,r2⟩:=ag H5 hpd;show LeavesInM _ _ _ _ _ _ (ms1.map QcK) (settle u5) w5;rw[hset];have hdb3:=hdb1.ext (S:=⟨ρ2,H2,w2⟩) (S':=⟨ρ3,H3,w3⟩) k3 q2;have hdb4:(⟨S.w.heap.size,[],none⟩:DB).Ok w4 (ms1.map QcK):=by
       refine⟨by rw[ht.size]; exact hdb3.le,⟨ms1,by simp,m2,λD hD=>⟨(m3 D hD).1,?_⟩⟩,λl h=>by cases h⟩;have h1:=Qdr (m3 D hD).2;have h2:w3.heap[D]? = some (Obj.deferred (some [])):=by
        have h4:=(m3 D hD).2;refine((q2.imm D (Qdr h4) ?_).1).trans h4;rintro⟨i,o,ho,hl,hρ⟩;rcases k3.own ho hl hρ with ⟨c,h5⟩|⟨r,h5⟩|⟨es,cl,h5⟩<;>(rw[h4]at h5; cases h5)
       rcases ht.at_ D with h3|⟨h3,_,_⟩
       . exact h3.trans h2
       . exact absurd (YO h1 h3) (Nat.lt_irrefl _)
      have hdb5:=hdb4.ext (S:=⟨ρ3,H3,w4⟩) (S':=⟨ρ5,H5,w5⟩) hS4 hext5;obtain⟨ms5,j1,j2,j3⟩:=hdb5.ms;have hE5:Ext S.H.length S ⟨ρ5,H5,w5⟩:=hE4.trans (hext5.mono (hE4.len (Vb _)));have hEnv5:QH ⟨ρ5,H5,w5⟩ env3 a3.tmps:=QH.ext (S:=⟨ρ3,H3,w4⟩) ⟨λt=>(q4.get t).extV (QeO ht) (.inl rfl)⟩ hext5;rw[j1];simp only[VE];refine Qie (by simp) ms5 w5 j2 j3 λw6 ht6 => ?_;obtain⟨v,h3,h4⟩:=Qlt (P:=P) (S:=⟨ρ5,H5,w6⟩) (Qfb ht6 hsim5) ⟨λt=>(hEnv5.get t).extV (QeO ht6) (.inl rfl)⟩ hr r1;obtain⟨r,H',hp,h2⟩:=r2;obtain⟨ρ',h5,h6,h7⟩:=h2 ⟨ρ5,H5,w6⟩ v rfl (Qfb ht6 hsim5) h4;exact⟨v,h3,.ret r,H',v,ρ',hp,(QhT ht6 hE5 (Vb _)).trans h5,h6,rfl,h7⟩
   cases x3<;>cases e3<;>simp only[ER]at q1
   . obtain⟨Pd,y1,y2⟩:=q7;exact main none .returning Pd (by simp) rfl y1 y2
   . exact q7.elim
   . exact q7.elim
   . obtain⟨Pd,y1,y2⟩:=q7;exact main none .returning Pd (by simp) rfl y1 y2
   . obtain⟨Pd,y1,y2⟩:=q7;obtain⟨v,rfl,hv⟩:=q1;exact main (some _) (.panicking [{ v:=v,recovered:=false }]) Pd (by simp) ⟨v,rfl,hv⟩ y1 y2
 . rintro ch a' w' ⟨x2,env2,ρ2,H2,k1,k2,k3,k4,k5,k6,hx2,_⟩;subst hx2;simp[ER]at k1
def XL (P:ZN) (N:Nat) (D:Array Oper->List Nat->List Ins->Bool):List IC->Env->ZI->(ZH)->Prop
 |[],U,H,K=>K .normal U H
 |i::r,U,H,K=>X P N D i U H λx U H=>match x with
  |.normal=>XL P N D r U H K
  |x=>K x U H
def Qk7 (P:ZN) (N:Nat) (D:Array Oper->List Nat->List Ins->Bool) (k:Code->Bool):List IC->Code->Bool
 |[],c=>k c
 |i::r,.seq a b=>QY P N D a i&&Qk7 P N D k r b
 |_,_=>false
def QgU (P:ZN) (n0:Nat) (rs:List RS) (Pt:Out->ZI->Prop) (nx:Env->ZI->Prop) (x:XE) (U:Env) (H:ZI):Prop :=
 match x with
 |.normal=>nx U H
 |.ret=>(∀ s∈rs,s.side U H)/\Qdw n0 Pt (Qa2 U H rs) H
 |_=>False
theorem QAa (hD:DOk P D) {fn:Func} {rs:List RS} {Pt:Out->ZI->Prop} (hr:QcT P fn.results.toList rs=true) {kk:Code->Bool} {nx:Env->ZI->Prop} {S:St}
 (hk:∀ c,kk c=true->∀ (a1:Act) (w1:ZO) (env1:Env) (ρ1:Nat->Option Nat) (H1:ZI),Ext S.H.length S ⟨ρ1,H1,w1⟩->Sim ⟨ρ1,H1,w1⟩->QH ⟨ρ1,H1,w1⟩ env1 a1.tmps->a1.tmps.size=fn.ntmps->(⟨S.w.heap.size,[],none⟩:DB).Ok w1 a1.defers->nx env1 H1 ->
  c.wpIn (Fr none) 0 P (bodyPostM (Fr none) 0 P fn (λe w'=>∃ (out:Out) (H':ZI) (v:Value) (ρ':Nat->Option Nat),Pt out H'/\Ext S.H.length S ⟨ρ',H',w'⟩/\Sim ⟨ρ',H',w'⟩ /\
  match out with
  |.ret r=>e=.returned v/\VR ⟨ρ',H',w'⟩ r v
  |.pan x=>e=.panicked [{ v:=v,recovered:=false }]/\VR ⟨ρ',H',w'⟩ x v)) a1 w1) :
 ∀ (ias:List IC) (c:Code) (a1:Act) (w1:ZO) (env1:Env) (ρ1:Nat->Option Nat) (H1:ZI),Qk7 P fn.ntmps D kk ias c=true->Ext S.H.length S ⟨ρ1,H1,w1⟩->Sim ⟨ρ1,H1,w1⟩->QH ⟨ρ1,H1,w1⟩ env1 a1.tmps->a1.tmps.size=fn.ntmps ->
  (⟨S.w.heap.size,[],none⟩:DB).Ok w1 a1.defers->XL P fn.ntmps D ias env1 H1 (QgU P S.H.length rs Pt nx) ->
  c.wpIn (Fr none) 0 P (bodyPostM (Fr none) 0 P fn (λe w'=>∃ (out:Out) (H':ZI) (v:Value) (ρ':Nat->Option Nat),Pt out H'/\Ext S.H.length S ⟨ρ',H',w'⟩/\Sim ⟨ρ',H',w'⟩ /\
  match out with
  |.ret r=>e=.returned v/\VR ⟨ρ',H',w'⟩ r v
  |.pan x=>e=.panicked [{ v:=v,recovered:=false }]/\VR ⟨ρ',H',w'⟩ x v)) a1 w1:=by
 intro ias
 induction ias with
 |nil=>exact λc a1 w1 env1 ρ1 H1 hc g2 g3 g4 g5 g6 hx=>hk c hc a1 w1 env1 ρ1 H1 g2 g3 g4 g5 g6 hx
 |cons i r ih =>
  intro c a1 w1 env1 ρ1 H1 hc g2 g3 g4 g5 g6 hx
  cases c<;>simp only[Qk7,Vz,Va]at hc
  rename_i ca cb;have hwa:=Qeu hD i hc.1 hx ⟨S.w.heap.size,[],none⟩ ⟨ρ1,H1,w1⟩ a1 rfl g3 g4 g5 g6;refine wpIn_seq (wq_mono hwa ?_);rintro e2 a2 w2 ⟨x,env2,ρ2,H2,k1,k2,k3,k4,k5,k6,k7⟩;have hE:Ext S.H.length S ⟨ρ2,H2,w2⟩:=g2.trans (k2.mono (g2.len (Vb _)))
  cases x<;>cases e2<;>simp only[ER]at k1
  . exact ih cb a2 w2 env2 ρ2 H2 hc.2 hE k3 k4 k5 k6 k7
  all_goals first|exact k7.elim|skip
  obtain⟨r1,r2⟩:=k7;obtain⟨ms,m1,m2,m3⟩:=k6.ms;simp only[VE]at m1;show LeavesInM (Fr none) 0 P fn a2.tmps _ a2.defers .returning w2;rw[m1];refine Qie (by simp) ms w2 m2 m3 λw6 ht6 => ?_;obtain⟨v,h3,h4⟩:=Qlt (P:=P) (S:=⟨ρ2,H2,w6⟩) (Qfb ht6 k3) ⟨λt=>(k4.get t).extV (QeO ht6) (.inl rfl)⟩ hr r1;obtain⟨r,H',hp,h2⟩:=r2;obtain⟨ρ',h5,h6,h7⟩:=h2 ⟨ρ2,H2,w6⟩ v rfl (Qfb ht6 k3) h4;exact⟨v,h3,.ret r,H',v,ρ',hp,(QhT ht6 hE (Vb _)).trans h5,h6,rfl,h7⟩
def QmN (P:ZN) (D:Array Oper->List Nat->List Ins->Bool) (fn:Func) (ins1:Ins) (fo:Od) (ib:IC):Code->Bool
 |.seq (.region _ aa false) cb =>
  (match aa.toList with
   |[o1,od]=>Qd2 P fn.ntmps aa o1 ins1&&((match o1.op with|.defer _=>false|_=>true)&&((match od.op with|.defer { callee:=.value f',args:=as,argTypes:=ts }=>as.isEmpty&&(ts.isEmpty&&Qx f' fo)|_=>false) &&
    (od.guard.isNone&&(od.dst.isNone&&QY P fn.ntmps D cb ib))))
   |_=>false)
 |_=>false
def QlB (P:ZN) (D:Array Oper->List Nat->List Ins->Bool) (fn:Func) (ias:List IC) (ins1:Ins) (fo:Od) (ib:IC) (rs:List RS):Bool :=
 (match fn.body with
  |some c=>Qk7 P fn.ntmps D (QmN P D fn ins1 fo ib) ias c
  | none => false) && !(fn.name == "runtime.NumGoroutine") && QcT P fn.results.toList rs && decide (fn.params.size + fn.nfree <= fn.ntmps)
theorem Qp7 {P:ZN} (hm:P.follows .mixedOrders=true) {f:ZP} {fn:Func} {ias:List IC} {ib:IC} {ins1:Ins} {fo:Od} {rs:List RS} (hf:P.funcs[f]? = some fn) (hc:QlB P Qf fn ias ins1 fo ib rs=true)
 {args:ZJ} {H:ZI} {Pt:Out->ZI->Prop} (hn:args.length=fn.params.size+fn.nfree)
 (hx:closed H->XL P fn.ntmps Qf ias (Qcq args) H (QgU P H.length rs Pt λenv1 H1=>xo P ins1 env1 H1 λx env2 H2=>x=.normal/\(env2.ev fo).vd=true/\∃ k cap,(env2.ev fo).ug=.fn (.func k) [] cap/\X P fn.ntmps Qf ib env2 H2 (Qhj P H.length rs Pt k cap))):OkP P f args H Pt:=by
 unfold QlB at hc;rw[Va,Va,Va]at hc;obtain⟨⟨⟨h1,h2⟩,h3⟩,h4⟩:=hc;split at h1
 . rename_i c hb;refine⟨λvs w=>Go.MuLone.run_callFunc_enter hf (by simpa using h2) hb vs w,?_⟩;intro S vs hH hS hvs;subst hH;refine callsIn_wide.1 (callsIn_of_wp_marks (F:=Fr none) (n:=0) hf hb trivial ?_);have hl:vs.length=args.length:=hvs.1;have h4:args.length<=fn.ntmps:=by rw[hn]; simpa using h4
   refine QAa (Qb1 hm) h3 (kk:=QmN P Qf fn ins1 fo ib) (nx:=_) ?_ ias c ⟨vs.toArray++Array.replicate (fn.ntmps-vs.toArray.size) undef,[]⟩ S.w (Qcq args) S.ρ S.H h1 (Ext.refl _ _) hS (QnU hvs _) (by simp; omega) ⟨Vb _,⟨[],rfl,YL,λD hD=>by simp at hD⟩,λl h=>by cases h⟩ (hx hS.closed);intro c hc a1 w1 env1 ρ1 H1 g2 g3 g4 g5 g6 g7;unfold QmN at hc;split at hc
   . rename_i rid aa cb;split at hc
     . rename_i o1 od hops;simp only[Va]at hc;obtain⟨k2,k3,k4,k5,k6,k7⟩:=hc;have e:aa = #[o1,od]:=by apply Yy; simpa using hops
       subst e;split at k4
       . rename_i f' as ts hod;simp only[Va,Array.isEmpty_iff]at k4;obtain⟨rfl,rfl,k4⟩:=k4;exact Qwp (Qb1 hm) h3 k2 (λc e=>by rw[e]at k3; cases k3) hod (by simpa using k5) (by simpa using k6) k4 k7 g2 g3 g4 g5 g6 g7
       . cases k4
     . cases hc
   . cases hc
 . cases h1
end
end
section
variable [QO] [QK] [Qv]
set_option linter.unusedSectionVars false
section
variable {P:ZN} {N:Nat} {D:Array Oper->List Nat->List Ins->Bool}
theorem WI.of_X (hD:DOk P D) {i:IC} {U:Env} {H:ZI} {K:ZH} (h:X P N D i U H K):WI P N D i U H K:=λ_ hc=>Qeu hD i hc h
theorem WI.seq (hD:DOk P D) {a b:IC} {U:Env} {H:ZI} {K:ZH} (h:X P N D a U H λx U H=>match x with|.normal=>WI P N D b U H K|x=>K x U H):WI P N D (.seq a b) U H K:=by
 intro c hc
 cases c<;>simp only[QY,Vz,Va]at hc
 refine W.seq ((Qeu hD a hc.1 h).mono ?_);intro x U H hk
 cases x<;>first|exact hk|exact hk _ hc.2
theorem WI.tell {i:IC} {U aw:Env} {H H':ZI} {K:ZH} (ht:Qat U H aw H') (h:WI P N D i aw H' K):WI P N D i U H K:=by
 intro c hc db S a hH hS he hN hd;obtain⟨ρ',h1,h2,h3⟩:=ht S a.tmps hH hS he;exact wq_mono (h c hc db ⟨ρ',H',S.w⟩ a rfl h2 h3 hN (hd.ext hS h1)) λe a w h=>Qar.trans h1 h
theorem WI.cong {i:IC} {U:Env} {H H':ZI} {K:ZH} (e:H'=H) (h:WI P N D i U H' K):WI P N D i U H K:=by rw[<-e]; exact h
theorem Qk9 {P:ZN} (hm:P.follows .mixedOrders=true) {f:ZP} {fn:Func} {i:IC} {rs:List RS} (hf:P.funcs[f]? = some fn) (hc:Qdn P Qf fn i rs=true)
 {args:ZJ} {H:ZI} {out:Out} {H':ZI} (hn:args.length=fn.params.size+fn.nfree)
 (hx:closed H->WI P fn.ntmps Qf i (Qcq args) H (Fin H.length rs out H')):Ok P f args H out H':=by
 unfold Qdn at hc;rw[Va,Va,Va]at hc;obtain⟨⟨⟨h1,h2⟩,h3⟩,h4⟩:=hc;split at h1
 . rename_i c hb;exact(Qko hf hb (by simpa using h2) (by rw[hn]; simpa using h4) h3 λZ=>(hx Z c h1).mono λx U H h=>QsV h).toOk
 . cases h1
end
end
def IC.tl:Nat->IC->IC
 |0,a=>a
 |k+1,.seq _ b=>IC.tl k b
 |_,a=>a
def IC.nth:Nat->IC->IC
 |0,.seq a _=>a
 |k+1,.seq _ b=>IC.nth k b
 |_,a=>a
section
variable [QO] [QK]
theorem Sim.to (G0 G:Qv) {S:St} (h : @Sim _ _ G0 S) (hk : @St.KF _ G S) : @Sim _ _ G S := @Sim.mk _ _ G S (@Sim.live _ _ G0 S h) (@Sim.bel _ _ G0 S h) (@Sim.inj _ _ G0 S h) (@Sim.lp _ _ G0 S h) (@Sim.gl _ _ G0 S h) hk
variable [G0:Qv]
theorem LI.learn {P:ZN} {N:Nat} {D:Array Oper->List Nat->List Ins->Bool} {i:IC} {U:Env} {H:ZI} {K:ZH} (j p:Nat) {o:AO} {cells:ZJ} {len:Nat}
 (ho:H[j]? = some o) (hl:o.live=true) (hp:o.cells[p]? = some (.slc cells len)) (hne:cells≠[]) (hu:SV.underL 0 cells=true)
 (h:∀ (a:Addr) (cap:Nat),@LI _ _ ⟨(.slc cells len,.slice (some a) len cap)::Qv.kn⟩ P N D i U (H.set j ⟨o.cells.set p (.val (.slice (some a) len cap)),o.ty,o.ver,true⟩) K) :
 LI P N D i U H K:=by
 intro c hc db S a hH hS he hN hd;subst hH;have h1:=hS.live j o ho hl
 cases hρ:S.ρ j with
 |none=>rw[hρ]at h1; rw[h1]at hp; simp at hp
 |some b =>
  rw[hρ]at h1;obtain⟨us,rest,h2,h3⟩:=h1;obtain⟨u,hu1,hu2⟩:=h3.get hp;obtain⟨ad,cap,rfl⟩:∃ ad cap,u=.slice (some ad) len cap:=by
   cases hu2 with
   |nilslc=>exact absurd rfl hne
   |slc cells len a cap us hc hl hi h=>exact⟨a,cap,rfl⟩
  have hS':Sim ⟨S.ρ,S.H.set j ⟨o.cells.set p (.val (.slice (some ad) len cap)),o.ty,o.ver,true⟩,S.w⟩:=by
   refine Qnm hS ho hl ?_ ?_
   . intro s hs;rcases Y2 hs with hs|rfl
     . exact(hS.bel j o ho s hs).2 hl
     . rfl
   . intro us' hl' hv';have e:us'.length=us.length:=hv'.1.trans h3.1.symm;have:us'=us:=by
      unfold St.lies at hl';rw[hρ]at hl';obtain⟨rest',h4⟩:=hl';rw[h2]at h4;have h5:us++rest=us'++rest':=by simpa using h4
      exact(List.append_inj h5 e.symm).1.symm
     subst this;refine⟨us'.length,?_⟩;rw[VI];refine⟨by simpa using h3.1,λk s v hs hv => ?_⟩;by_cases hk:k=p
     . subst hk;rw[hu1]at hv; cases hv
       rw[Vq (Qk hp)]at hs; cases hs
       exact .val _
     . rw[Vg (by omega)]at hs;exact h3.2 k s v hs hv
  have hx:=QgS ho hl (o.cells.set p (.val (.slice (some ad) len cap)));have hkf : @St.KF _ ⟨(.slc cells len,.slice (some ad) len cap)::Qv.kn⟩ ⟨S.ρ,S.H.set j ⟨o.cells.set p (.val (.slice (some ad) len cap)),o.ty,o.ver,true⟩,S.w⟩:=by
   intro q hq;rcases Vd.1 hq with rfl|hq
   . exact⟨by simpa[SV.under]using hu,hu2.ext hx⟩
   . exact hS'.kf q hq
  have hd':=hd.ext hS hx;refine Qlk (h ad cap c hc db ⟨S.ρ,S.H.set j ⟨o.cells.set p (.val (.slice (some ad) len cap)),o.ty,o.ver,true⟩,S.w⟩ a rfl (Sim.to G0 ⟨(.slc cells len,.slice (some ad) len cap)::Qv.kn⟩ hS' hkf) (he.ext hx) hN hd') λe a' w hp => ?_;obtain⟨x,aw,ρ,H',k1,k2,k3,k4,k5,k6,k7⟩:=hp;refine⟨x,aw,ρ,H',k1,hx.trans (k2.mono (hx.len (Vb _))),Sim.to ⟨(.slc cells len,.slice (some ad) len cap)::Qv.kn⟩ G0 k3 (λq hq => @Sim.kf _ _ ⟨(.slc cells len,.slice (some ad) len cap)::Qv.kn⟩ _ k3 q (VW _ hq)),k4,k5,k6,k7⟩
theorem Qat.known {U:Env} {H:ZI} {j p:Nat} {o:AO} (ho:H[j]? = some o) (hl:o.live=true) {a:Addr} {len cap:Nat} (hp:o.cells[p]? = some (.val (.slice (some a) len cap))) {cells:ZJ} (hk:(SV.slc cells len,Value.slice (some a) len cap)∈Qv.kn) :
 Qat U H U (H.set j ⟨o.cells.set p (.slc cells len),o.ty,o.ver,true⟩):=by
 intro S tmps hH hS he;subst hH;have hx:=QgS ho hl (o.cells.set p (.slc cells len));refine⟨S.ρ,hx,Qox hS ho hl ?_ (λus h=>⟨us.length,?_⟩),he.ext hx⟩
 . intro s hs;rcases Y2 hs with hs|rfl
   . exact(hS.bel j o ho s hs).2 hl
   . rfl
 . rw[VI];refine⟨by simpa using h.1,λk s v hs hv => ?_⟩;by_cases hk':k=p
   . subst hk';rw[Vq (Qk hp)]at hs; cases hs
     have:=h.2 _ _ _ hp hv
     cases this
     exact(hS.kf _ hk).2
   . rw[Vg (by omega)]at hs;exact h.2 k s v hs hv
end
section
variable [QO] [QK] [Qv] [Qe5] [QfY]
open Go.ChangeShapes Go.WideShapes Go.ChangeAt Go.RowKit
mutual
def Sh.by:Sh->Nat
 |.int k=>k.bits / 8
 |.bool=>1
 |.str=>16
 |.sl _=>24
 |.st l=>Sh.byL l
def Sh.byL:List Sh->Nat
 |[]=>0
 |s::r=>s.by+Sh.byL r
end
section
variable {H:Type} {enc:ZM×Value->H} {P:ZN} {W:ZO} {base:Nat} {spare:Nat->Bool} {held:Bool}
def wOk (l:List Nat):Prop:=∀ n∈l,n<=reachBytes
theorem Ql8 {a b:List Nat}:wOk (a++b)↔wOk a/\wOk b:=by
 unfold wOk;constructor
 . intro h; exact⟨λn hn=>h n (by simp[hn]),λn hn=>h n (by simp[hn])⟩
 . rintro⟨h1,h2⟩ n hn;rcases Vt.1 hn with hn|hn
   . exact h1 n hn
   . exact h2 n hn
theorem Qsx {t:ZM}:∀ {l:List (DataW H)},wOk (DataW.weightsAll P t l)->∀ d∈l,wOk (d.weights P t)
 |[],_,d,hd=>by simp at hd
 |x::r,h,d,hd=>by
  rw[DataW.weightsAll,Ql8]at h;rcases Vd.1 hd with rfl|hd
  . exact h.1
  . exact Qsx h.2 d hd
theorem Qpr:∀ {ts:List ZM} {l:List (DataW H)},wOk (DataW.weightsEach P ts l)->∀ (i:Nat) (t:ZM) (d:DataW H),ts[i]? = some t->l[i]? = some d->wOk (d.weights P t)
 |[],_,_,i,t,d,ht,_=>by simp at ht
 |_::_,[],_,i,t,d,_,hd=>by simp at hd
 |t0::ts,d0::l,h,i,t,d,ht,hd=>by
  rw[DataW.weightsEach,Ql8]at h
  cases i with
  |zero=>simp at ht hd; subst ht hd; exact h.1
  |succ i=>simp at ht hd; exact Qpr h.2 i t d ht hd
end
end
section
variable [QO] [QK] [Qv] [Qe5] [QfY]
open Go.ChangeShapes Go.WideShapes Go.ChangeAt Go.RowKit
mutual
def Dt.ty (P:ZN):Dt->ZM->Prop
 |.int k n,t=>P.underlying t=some (.int k)/\(Lit.int k n).wf=true
 |.bool _,t=>P.underlying t=some .bool
 |.str s,t=>P.underlying t=some .string/\s.size<=reachBytes
 |.sl l,t=>∃ e,P.underlying t=some (.slice e)/\l.length<=reachBytes/\Dt.tyA P l e
 |.agg l,t=>∃ fs,P.underlying t=some (.struct fs)/\Dt.tyL P l (fs.toList.map (·.type))
def Dt.tyA (P:ZN):List Dt->ZM->Prop
 |[],_=>True
 |d::r,t=>d.ty P t/\Dt.tyA P r t
def Dt.tyL (P:ZN):List Dt->List ZM->Prop
 |[],ts=>ts=[]
 |d::r,ts=>match ts with|[]=>False|t::ts=>d.ty P t/\Dt.tyL P r ts
end
def Qim (P:ZN):List Field->Nat->Nat->Bool
 |[],off,tot=>off==tot
 |f::fs,off,tot=>f.offset==off&&Qim P fs (off+P.cellsOf f.type) tot
def Qjs (P:ZN) (S:List ZM) (t:ZM):Bool:=match P.underlying t with
 |some (.int _)=>true
 |some .bool=>true
 |some .string=>true
 |some (.slice e)=>S.contains e&&decide (1<=P.bytesOf e)
 |some (.struct fs)=>fs.toList.all (λf=>S.contains f.type)&&Qim P fs.toList 0 (P.cellsOf t)
 |_=>false
theorem QuS {P:ZN} {t:ZM}:∀ {l:List Dt},Dt.tyA P l t↔∀ x∈l,x.ty P t
 |[]=>by simp[Dt.tyA]
 |d::r=>by simp[Dt.tyA,QuS (l:=r)]
mutual
def Qdu {H:Type}:DataW H->Nat
 |.lit (.string bytes)=>bytes.length+1
 |.lit _=>1
 |.nil=>1
 |.ptr d=>Qdu d+1
 |.slice elems spare=>Qdp elems+Qdp spare+1
 |.agg parts=>Qdp parts+1
 |.iface _ d=>Qdu d+1
 |.map entries=>blkE entries+1
 |.held _=>1
def Qdp {H:Type}:List (DataW H)->Nat
 |[]=>0
 |d::r=>Qdu d+Qdp r
def blkE {H:Type}:List (Lit×DataW H)->Nat
 |[]=>0
 |x::r=>blkX x+blkE r
def blkX {H:Type}:Lit×DataW H->Nat
 | (.string bytes,d)=>bytes.length+Qdu d+1
 | (_,d)=>Qdu d+1
end
theorem QmD {H:Type} (d:DataW H):1<=Qdu d:=by
 unfold Qdu; split<;>omega
theorem QqL {H:Type}:∀ a b:List (DataW H),Qdp (a++b)=Qdp a+Qdp b
 |[],b=>by simp[Qdp]
 |x::a,b=>by simp[Qdp,QqL a b]; omega
mutual
def Dt.blk:Dt->Nat
 |.int _ _=>1
 |.bool _=>1
 |.str s=>s.size+1
 |.sl l=>Dt.blkL l+1
 |.agg l=>Dt.blkL l+1
def Dt.blkL:List Dt->Nat
 |[]=>0
 |d::r=>d.blk+Dt.blkL r
end
theorem QqK:∀ a b:List Dt,Dt.blkL (a++b)=Dt.blkL a+Dt.blkL b
 |[],b=>by simp[Dt.blkL]
 |x::a,b=>by simp[Dt.blkL,QqK a b]; omega
section
variable {H:Type} {enc:ZM×Value->H} {P:ZN} {W:ZO} {base:Nat} {spare:Nat->Bool} {held:Bool}
theorem QAM {e:ZM} {n:Nat} {a:Addr} {elems:List (DataW H×List MemPlace)} (hw:∀ x∈elems,wOk (x.1.weights P e))
 (ih:∀ cs x,DataW.trod enc P W base spare held n e cs=some x->wOk (x.1.weights P e)->∃ d:Dt,d.ty P e/\VRs (st0 W) d.cells cs/\d.blk<=Qdu x.1) :
 ∀ k,k<=elems.length->(∀ i,i<k->(W.cells? base (a.add (i*P.cellsOf e)) (P.cellsOf e)).bind (DataW.trod enc P W base spare held n e)=elems[i]?) ->
  ∃ (ds:List Dt) (us:ZK),ds.length=k/\(∀ x∈ds,x.ty P e)/\VRs (st0 W) (Dt.cellsL ds) us/\us.length=k*P.cellsOf e/\(∀ j u,us[j]? = some u->W.cell? (a.add j)=some u)/\Dt.blkL ds<=Qdp ((elems.take k).map (·.1)):=by
 intro k
 induction k with
 |zero=>intro _ _; exact⟨[],[],rfl,by simp,VRs.nil _,by simp,by simp,by simp[Dt.blkL]⟩
 |succ k ihk =>
  intro hk hel;obtain⟨ds,us,h1,h2,h3,h4,h5,hbk⟩:=ihk (by omega) (λi hi=>hel i (by omega));have h6:=hel k (by omega);rw[Ve (by omega),Option.bind_eq_some_iff]at h6;obtain⟨cs,hcs,ht⟩:=h6;obtain⟨d,hd,hv,hdb⟩:=ih cs _ ht (hw _ (Vp _));obtain⟨_,hlen,hc⟩:=World.cells?_some hcs;refine⟨ds++[d],us++cs,by simp[h1],?_,?_,?_,?_,?_⟩
  . intro x hx;rcases Vt.1 hx with hx|hx
    . exact h2 x hx
    . simp at hx; subst hx; exact hd
  . rw[Qqk]; simpa[Dt.cellsL]using h3.append hv
  . simp[h4,hlen,V9]
  . intro j u hj;by_cases hlt:j<us.length
    . rw[Vc hlt]at hj; exact h5 j u hj
    . rw[Vk (by omega)]at hj;have hj':j-us.length<cs.length:=Qk hj;have:=hc (j-us.length) (by omega);rw[hj,Qhb]at this;rw[<-this]; congr 2; omega
  . rw[YM (by omega),Yt,QqL,QqK];simp only[Dt.blkL,Qdp,Vl,VM]; omega
theorem Qu7 {S:List ZM} {n:Nat} (ih:∀ (t:ZM) (cs:ZK) (x:DataW H×List MemPlace),DataW.trod enc P W base spare held n t cs=some x->wOk (x.1.weights P t)->t∈S->∃ d:Dt,d.ty P t/\VRs (st0 W) d.cells cs/\d.blk<=Qdu x.1) :
 ∀ {fs:List Field} {off tot:Nat} {cs:ZK} {ys:List (DataW H)},Qim P fs off tot=true->(∀ f∈fs,f.type∈S) ->
 (∀ (i:Nat) (f:Field),fs[i]? = some f->∃ x,DataW.trod enc P W base spare held n f.type ((cs.drop f.offset).take (P.cellsOf f.type))=some x/\wOk (x.1.weights P f.type)/\ys[i]? = some x.1)->cs.length=tot ->
 ∃ m,Dt.tyL P m (fs.map (·.type))/\VRs (st0 W) (Dt.cellsL m) (cs.drop off)/\Dt.blkL m<=Qdp ys
 |[],off,tot,cs,ys,hc,_,_,hl=>by
  simp only[Qim,Zu]at hc;refine⟨[],rfl,?_,by simp[Dt.blkL]⟩;rw[VZ (by omega)];exact VRs.nil _
 |f::fs,off,tot,cs,ys,hc,hS,hf,hl=>by
  simp only[Qim,Va,Zu]at hc;obtain⟨h1,h3⟩:=hc;obtain⟨x,hx,hwx,hy⟩:=hf 0 f rfl;obtain⟨d,hd,hv,hdb⟩:=ih _ _ _ hx hwx (hS f (by simp));obtain⟨y,ys',rfl⟩:∃ y ys',ys=y::ys':=by cases ys with
   |nil=>simp at hy
   |cons y ys'=>exact⟨y,ys',rfl⟩
  have hy:y=x.1:=by simpa using hy
  obtain⟨m,hm,hv',hmb⟩:=Qu7 ih (fs:=fs) (cs:=cs) (ys:=ys') h3 (λg hg=>hS g (by simp[hg])) (λi f hi=>hf (i+1) f (by simpa using hi)) hl;refine⟨d::m,⟨hd,hm⟩,?_,by simp only[Dt.blkL,Qdp]; rw[hy]; omega⟩;have:=hv.append hv';rw[h1,<- List.drop_drop,Ys]at this;simpa[Dt.cellsL]using this
theorem QDU {S:List ZM} (hS:∀ t∈S,Qjs P S t=true):∀ (fuel:Nat) (t:ZM) (cs:ZK) (x:DataW H×List MemPlace),DataW.trod enc P W base spare held fuel t cs=some x->wOk (x.1.weights P t)->t∈S ->
 ∃ d:Dt,d.ty P t/\VRs (st0 W) d.cells cs/\d.blk<=Qdu x.1:=by
 intro fuel
 induction fuel with
 |zero=>intro t cs x h; simp[DataW.trod]at h
 |succ n ih =>
  intro t cs x h hw htS;have hc:=hS t htS;unfold Qjs at hc;split at hc
  . rename_i k ht;obtain⟨m,rfl,_,hwf⟩:=DataW.trod_int ht h;exact⟨.int k m,⟨ht,hwf⟩,VRs.cons (.val _) (VRs.nil _),QmD _⟩
  . rename_i ht;obtain⟨b,rfl⟩:∃ b,cs=[.bool b]:=by
     unfold DataW.trod at h;rw[ht]at h;split at h<;>simp_all
    exact⟨.bool b,ht,VRs.cons (.val _) (VRs.nil _),QmD _⟩
  . rename_i ht;obtain⟨s,rfl,rfl,hs⟩:=DataW.trod_string ht h;refine⟨.str s,⟨ht,?_⟩,VRs.cons (.val _) (VRs.nil _),by simp[Dt.blk,Qdu]⟩;have:=hw s.data.toList.length (by simp[DataW.weights]);simpa using this
  . rename_i e ht;simp only[Va,Zs,List.contains_iff_mem]at hc;rcases DataW.trod_slice ht h with ⟨rfl,_⟩|⟨a,len,cap,elems,rest,m,hm',rfl,rfl,_,hl,hm,hlen,hel,_,_⟩
    . exact⟨.sl [],⟨e,ht,by simp,by simp[Dt.tyA]⟩,VRs.cons .nilslc (VRs.nil _),QmD _⟩
    . cases hm'
      simp only[DataW.weights,ht]at hw;have hw0:=hw _ (YF ..);have hwa:wOk (DataW.weightsAll P e (elems.map (·.1))++DataW.weightsAll P e (rest.map (·.1))):=λn hn=>hw n (VW _ hn);rw[Ql8]at hwa;have hwe:∀ x∈elems,wOk (x.1.weights P e):=λx hx=>Qsx hwa.1 _ (List.mem_map_of_mem hx);obtain⟨ds,us,h1,h2,h3,h4,h5,hbk⟩:=QAM hwe (λcs x hx hwx=>ih e cs x hx hwx hc.1) len (by omega) hel;refine⟨.sl ds,⟨e,ht,?_,QuS.2 h2⟩,VRs.cons ?_ (VRs.nil _),by
       rw[VD (by omega)]at hbk;simp only[Dt.blk,Qdu]; omega⟩
      . simp only[Yj]at hw0;have k1:ds.length*1<=ds.length*P.bytesOf e:=YN _ hc.2;have k2:ds.length*P.bytesOf e<=(elems.length+rest.length)*P.bytesOf e:=YV _ (by omega);omega
      . have:ds.length=len:=h1;subst this;exact .slc _ _ a cap us hl h3.1 ⟨h5,λ_=>rw0 W _,λhf=>absurd (QfY.old.symm.trans hf) (by decide)⟩ h3.2
  . rename_i fs ht;simp only[Va,Vi,List.contains_iff_mem]at hc;obtain⟨xs,m,hm',rfl,hl,hlen,hf⟩:=DataW.trod_struct ht h
    cases hm'
    simp only[DataW.weights,ht]at hw;have hwe:=Qpr hw;obtain⟨m,hm,hv,hmb⟩:=Qu7 (S:=S) (n:=n) ih (fs:=fs.toList) (off:=0) (cs:=cs) (ys:=xs.map (·.1)) hc.2 hc.1 (λi f hi=>by
     have hlt:i<xs.length:=by rw[hlen]; simpa using Qk hi
     refine⟨xs[i],?_,hwe i f.type _ (by simp[hi]) (by simp[hlt]),by simp[hlt]⟩;rw[hf i f (by simpa using hi),Ve hlt]) hl
    exact⟨.agg m,⟨fs,ht,hm⟩,by rw[Dt.cells]; simpa using hv,by simp only[Dt.blk,Qdu]; omega⟩
  . cases hc
end
end
end Go.Ab
