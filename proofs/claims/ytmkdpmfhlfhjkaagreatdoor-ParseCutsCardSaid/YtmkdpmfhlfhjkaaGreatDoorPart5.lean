/- Steps of the proof. -/
import Derived.Test.YtmkdpmfhlfhjkaaGreatDoorPart4
import Derived.Test.YtmkdpmfhlfhjkaaGreatDoorPart2
import Derived.Test.YtmkdpmfhlfhjkaaGreatDoorIr07
import Derived.Test.YtmkdpmfhlfhjkaaGreatDoorPart3
import Derived.Lib.AppendIntMem
set_option linter.all false
namespace Go.Proofs.YtmkdpmfhlfhjkaaGreatDoor
open Go.Ab
def GX.Wf (v n:Nat) (g:GX):Prop:=g.k<n/\g.x<v/\g.y<v
structure GA.Wf (v i n:Nat) (g:GA):Prop where
 wh:∀ c,g.wh=some c->c.Wf v 4
 sets:∀ s∈g.sets,s.1<v/\s.2.Wf v 8
 len:g.sets.length<=2
 go:∀ t,g.go=some t->i<t/\t<=n
def GS.Wf (pl v n i:Nat):GS->Prop
 |.deal x r w s p=>x<v/\r<4/\w<4/\s<3/\p<pl
 |.turn w p acts=>(∀ c,w=some c->c.Wf v 4)/\p<pl/\1<=acts.length/\acts.length<=3/\∀ a∈acts,a.Wf v i n
def Qfh (pl v n:Nat):Nat->List GS->Prop
 |_,[]=>True
 |i,g::r=>g.Wf pl v n i/\Qfh pl v n (i+1) r
structure GR.Wf (g:GR):Prop where
 pl1:1<=g.pl
 pl3:g.pl<=3
 v1:1<=g.v
 v3:g.v<=3
 nm:g.nm<9
 ini:∀ c∈g.ini,c<4
 inl:g.ini.length=g.v
 st1:1<=g.stages.length
 st4:g.stages.length<=4
 sts:Qfh g.pl g.v g.stages.length 0 g.stages
 pays:∀ x∈g.pays,x.Wf g.v 8
 payl:g.pays.length=g.pl
section
variable {l:List Int} {v pl n:Nat} (hv:1<=v)
include hv
theorem Qjn {m a:Nat} (hm:1<=m):(gx l v m a).1.Wf v m:=⟨Qab hm,Qab hv,Qab hv⟩
theorem Qq3:∀ (m a:Nat),∀ s∈(Qbt l v m a).1,s.1<v/\s.2.Wf v 8
 |0,_,s,h=>by cases h
 |m+1,a,s,h=>by
  rw[Qbt,Ve]at h;rcases h with rfl|h
  . exact⟨Qab hv,Qjn hv (by decide)⟩
  . exact Qq3 m _ s h
theorem QAt {i k a:Nat} (hi:i<n):(QbO l v i n k a).1.Wf v i n:=by
 dsimp only[QbO];refine⟨λc h => ?_,Qq3 hv _ _,?_,λt h => ?_⟩
 . dsimp only at h;unfold whC at h;split at h
   . cases h
   . split at h
     . simp only[Option.some.injEq]at h;rw[<-h]; exact Qjn hv (by decide)
     . cases h
 . rw[Qis];have:=Qab (l:=l) (a:=(nxD l (whC l v k a).2 3).2) (n:=3) (by decide);omega
 . dsimp only at h;unfold goC at h;split at h
   . simp only[Option.some.injEq]at h;have:=Qab (l:=l) (a:=(nxD l (Qbt l v (nxD l (nxD l (whC l v k a).2 3).2 3).1 (nxD l (nxD l (whC l v k a).2 3).2 3).2).2 3).2) (n:=n-i) (by omega);omega
   . cases h
theorem Qph {i:Nat} (hi:i<n):∀ (m k a:Nat),∀ g∈(Qb5 l v i n m k a).1,g.Wf v i n
 |0,_,_,g,h=>by cases h
 |m+1,k,a,g,h=>by
  rw[Qb5,Ve]at h;rcases h with rfl|h
  . exact QAt hv hi
  . exact Qph hi m _ _ g h
theorem Qvs {i a:Nat} (hp:1<=pl) (hi:i<n):(stC l pl v i n a).1.Wf pl v n i:=by
 unfold stC;split
 . dsimp only[Qee];refine⟨Qab hv,Qab (by decide),Qab (by decide),?_,?_⟩
   . unfold Qfm;split
     . show 1<3; decide
     . exact Qab (by decide)
   . unfold Qfm;split
     . exact Qab hp
     . exact hp
 . dsimp only[Qdc];refine⟨λc h => ?_,?_,?_,?_,Qph hv hi _ _ _⟩
   . unfold QcV at h;split at h
     . simp only[Option.some.injEq]at h;rw[<-h]; exact Qjn hv (by decide)
     . cases h
   . unfold QcV;split
     . show pl-1<pl; omega
     . exact Qab hp
   . rw[Qhk]; omega
   . rw[Qhk];have:=Qab (l:=l) (a:=(QcV l pl v (nxD l a 3).2).2) (n:=3) (by decide);omega
theorem Qq4 (hp:1<=pl):∀ (m i a:Nat),i+m<=n->Qfh pl v n i (QbJ l pl v n m i a).1
 |0,_,_,_=>Zo
 |m+1,i,a,h=>⟨Qvs hv hp (by omega),Qq4 hp m (i+1) _ (by omega)⟩
theorem Qpz:∀ (m a:Nat),∀ x∈(Qb9 l v m a).1,x.Wf v 8
 |0,_,g,h=>by cases h
 |m+1,a,g,h=>by
  rw[Qb9,Ve]at h;rcases h with rfl|h
  . exact Qjn hv (by decide)
  . exact Qpz m _ g h
end
theorem QnX {l:List Int}:∀ (m a:Nat),∀ c∈(QbC l m a).1,c<4
 |0,_,g,h=>by cases h
 |m+1,a,g,h=>by
  rw[QbC,Ve]at h;rcases h with rfl|h
  . exact Qab (by decide)
  . exact QnX m _ g h
theorem Qrc {l:List Int}:∀ {m a:Nat},(QbC l m a).1.length=m
 |0,_=>rfl
 |m+1,_=>Zp (· + 1) (Qrc (m:=m))
theorem QiQ {l:List Int} {pl v n:Nat}:∀ {m i a:Nat},(QbJ l pl v n m i a).1.length=m
 |0,_,_=>rfl
 |m+1,_,_=>Zp (· + 1) (QiQ (m:=m))
theorem Qp8 {l:List Int} {v:Nat}:∀ {m a:Nat},(Qb9 l v m a).1.length=m
 |0,_=>rfl
 |m+1,_=>Zp (· + 1) (Qp8 (m:=m))
theorem QlY (l:List Int):(QbG l).Wf:=by
 dsimp only[QbG];have b1:=Qab (l:=l) (a:=0) (n:=3) (by decide);have b2:=Qab (l:=l) (a:=(nxD l 0 3).2) (n:=3) (by decide);have b3:=Qab (l:=l) (a:=(nxD l (nxD l 0 3).2 3).2) (n:=4) (by decide);have b4:=Qab (l:=l) (a:=(nxD l (nxD l (nxD l 0 3).2 3).2 4).2) (n:=9) (by decide);refine⟨?_,?_,?_,?_,b4,QnX _ _,Qrc,?_,?_,?_,?_,Qp8⟩
 . dsimp only; omega
 . dsimp only; omega
 . dsimp only; omega
 . dsimp only; omega
 . dsimp only; rw[QiQ]; omega
 . dsimp only; rw[QiQ]; omega
 . dsimp only; rw[QiQ];exact Qq4 (by omega) (by omega) _ _ _ (by omega)
 . exact Qpz (by omega) _ _
def sN (i:Nat):ZE:=[115]++dg i
def gN (i:Nat):ZE:=[103]++dg i
def pnl:Pc:=.b 10
def Qbh (s:Nat×GX):List Pc:=[pb,pw (vN s.1),pb,ps [61],pb]++Qck s.2++[ps [59]]
def QeZ (w:Option GX):List Pc:=match w with
 |none=>[]
 |some g=>[pb,pw Qie,pb]++Qbb g
def QcK (g:Option Nat):List Pc:=match g with
 |none=>[]
 |some t=>[pb,pw QhB,pb,pw (sN t),ps [59]]
def Qdz (k:Nat) (g:GA):List Pc:=[pb,pb,pw Qh1,pb,pw (aN k)]++QeZ g.wh++Qdr kwH g.hid++[pb,ps [123]]++g.sets.flatMap Qbh++[pb,ps [125]]++QcK g.go++[pnl]
def Qcq:Nat->List GA->List Pc
 |_,[]=>[]
 |k,g::r=>Qdz k g++Qcq (k+1) r
def QcX (w:Option GX) (p:Nat):List Pc:=match w with
 |none=>[pnU p]
 |some g=>[pw wIf,ps [40]]++Qbb g++[ps [44],pb,pnU 0,ps [44],pb,pnU p,ps [41]]
def QfO (w:Option GX) (p:Nat) (acts:List GA):List Pc:=[pw kwT,pb]++QcX w p++[pb,ps [123],pnl]++Qcq 0 acts++[ps [125],pnl]
def loV (r:Nat):Nat:=if r=1 then 1 else if r=3 then 3 else 0
def hiV (r:Nat):Nat:=if r=0 then 1 else if r=3 then 3 else 2
def wgX (w x:Nat):List Pc :=
 if w=0 then [pnU 1,pb,ps [43],pb,pw (vN x)]
 else if w=1 then [pw wIf,ps [40],pw (vN x),pb,ps [61,61],pb,pnU 1,ps [44],pb,pnU 2,ps [44],pb,pnU 1,ps [41]]
 else [pw Qgb,ps [40],pw (vN x),ps [44],pb,pnU 0,ps [41],pb,ps [43],pb,pw wIf,ps [40],pw (vN x),pb,ps [61,61],pb,pnU 2,ps [44],pb,pnU 0,ps [44],pb,pnU 1,ps [41]]
def QcB (w x:Nat):List Pc:=if w<3 then [pb,pw kwW,pb]++wgX w x else []
def QbA (s p:Nat):List Pc:=if s=0 then [pb,pw kwS,pb,pw kwB,pb,pw kwA]else if s=1 then [pb,pw kwS,pb,pw kwB,pb,pnU p]else []
def QeB (x r w s p:Nat):List Pc:=[pw kwD,pb,pw (vN x),pb,pw kwI,pb,pnU (loV r),pb,ps [46,46],pb,pnU (hiV r)]++QcB w x++QbA s p++[ps [59],pnl]
def QeM:GS->List Pc
 |.deal x r w s p=>QeB x r w s p
 |.turn w p acts=>QfO w p acts
def Qcv:Nat->List GS->List Pc
 |_,[]=>[]
 |i,g::r=>[pw (sN i),ps [58],pb]++QeM g++Qcv (i+1) r
def Qe3 (c:Nat):List Pc:=if c=0 then [pnU 0]else if c=1 then [pnU 1]else if c=2 then [ps [45],pnU 1]else [pnU 2]
def Qcy:Nat->List Nat->List Pc
 |_,[]=>[]
 |i,c::r=>[pw kwV,pb,pw (vN i),pb,ps [61],pb]++Qe3 c++[ps [59],pnl]++Qcy (i+1) r
def QaQ:Bool->List GX->List Pc
 |_,[]=>[]
 |b,g::r=>(if b then [ps [44],pb]else [])++Qck g++QaQ true r
def QdT (g:GR):List Pc:=[pw kwG,pb,pw (gN g.nm),ps [59],pnl,pw Qid,pb,pnU g.pl,ps [59],pnl]++Qcy 0 g.ini++Qcv 0 g.stages++[pw (sN g.stages.length),ps [58],pb,pw kwE,pb,ps [123],pb,pw kwP,pb]++QaQ false g.pays++[ps [59],pb,ps [125],pnl]
theorem QlX {n:Nat} (h:n<=9):Qcr n=dg n:=Qy6 h
theorem QAT (s:Nat×GX):txt (Qbh s)=Qfe s:=by simp[Qbh,Qfe,txt,Qbm,TK.tx,Qrs]
theorem Qtg (b:Bool):txt (Qdr kwH b)=Qgh b:=by cases b<;>rfl
theorem QtO (w:Option GX):txt (QeZ w)=whB w:=by cases w<;>simp[QeZ,whB,txt,TK.tx,QsT,Qie]
theorem Qtn (w:Option Nat):txt (QcK w)=goB w:=by cases w<;>simp[QcK,goB,txt,TK.tx,QhB,sN]
theorem Qst:∀ l:List (Nat×GX),txt (l.flatMap Qbh)=QdN l
 |[]=>rfl
 |s::r=>by
  have h:=Qst r;unfold QdN at h ⊢;rw[VO,VO,Qbm,h,QAT]
theorem Qzw (k:Nat) (g:GA):txt (Qdz k g)=QeX k g:=by
 simp[Qdz,QeX,txt,Qbm,TK.tx,QtO,Qtg,Qst,Qtn,Qh1,pnl]
theorem Qso:∀ (l:List GA) (k:Nat),txt (Qcq k l)=Qet k l
 |[],_=>rfl
 |g::r,k=>by rw[Qcq,Qet,Qbm,Qzw,Qso r]
theorem Qwc (w:Option GX) {p:Nat} (h:p<=9):txt (QcX w p)=Qd9 w p:=by
 cases w<;>simp[QcX,Qd9,txt,Qbm,TK.tx,QsT,QlX h,wIf,show Qcr 0=[48]from rfl]
theorem QAC {w x:Nat}:txt (QcB w x)=wgB w (vN x):=by
 unfold QcB wgB wgX;by_cases h0:w=0
 . subst h0; simp[txt,TK.tx,kwW,show Qcr 1=[49]from rfl]
 by_cases h1:w=1
 . subst h1; simp[txt,TK.tx,kwW,wIf,show Qcr 1=[49]from rfl,show Qcr 2=[50]from rfl]
 by_cases h2:w=2
 . subst h2; simp[txt,TK.tx,kwW,wIf,Qgb,show Qcr 1=[49]from rfl,show Qcr 2=[50]from rfl,show Qcr 0=[48]from rfl]
 rw[Zm (by omega),Zm h0,Zm h1,Zm h2]; rfl
theorem Qx4 {s p:Nat} (h:p<=9):txt (QbA s p)=Qfx s p:=by
 unfold QbA Qfx;repeat' split
 all_goals simp[txt,TK.tx,kwS,kwB,kwA,QlX h]
theorem QvJ {x r w s p:Nat} (hr:r<4) (h:p<=9):txt (QeB x r w s p)=Qh9 x r w s p:=by
 have hq:Qcr (loV r)++[32,46,46,32]++Qcr (hiV r)=Qef.getD r []:=by
  match r,hr with
  |0,_=>rfl
  |1,_=>rfl
  |2,_=>rfl
  |3,_=>rfl
 unfold QeB Qh9;rw[<-hq];simp[txt,Qbm,TK.tx,QAC,Qx4 h,kwD,kwI,pnl]
theorem QwZ {pl v n i:Nat} {g:GS} (h:g.Wf pl v n i) (hp:pl<=3):txt (QeM g)=stB g:=by
 cases g with
 |deal x r w s p=>exact QvJ h.2.1 (by have:=h.2.2.2.2; omega)
 |turn w p acts =>
  have hp9:p<=9:=by have:=h.2.1; omega
  simp[QeM,stB,QfO,Qi5,txt,Qbm,TK.tx,Qwc w hp9,Qso,kwT,pnl]
theorem Qrd {pl v n:Nat} (hp:pl<=3):∀ (l:List GS) (i:Nat),Qfh pl v n i l->txt (Qcv i l)=Qdn i l
 |[],_,_=>rfl
 |g::r,i,h=>by
  rw[Qcv,Qdn,Qbm,Qbm,QwZ h.1 hp,Qrd hp r _ h.2];simp[txt,TK.tx,sN,lbB]
theorem Qqk:∀ (l:List Nat) (i:Nat),(∀ c∈l,c<4)->txt (Qcy i l)=Qdh i l
 |[],_,_=>rfl
 |c::r,i,h=>by
  have hq:txt (Qe3 c)=QeE.getD c []:=by
   match c,h c (by simp)with
   |0,_=>rfl
   |1,_=>rfl
   |2,_=>rfl
   |3,_=>rfl
  rw[Qcy,Qdh,<- hq];simp only[Qbm,Qqk r (i+1) λc hc=>h c (by simp[hc])];simp[txt,TK.tx,kwV,vN,pnl]
theorem QsH:∀ (l:List GX) (b:Bool),txt (QaQ b l)=QdG b l
 |[],_=>rfl
 |g::r,b=>by
  rw[QaQ,QdG,Qbm,Qbm,Qrs,QsH r]
  cases b<;>rfl
theorem QlE {g:GR} (h:g.Wf):txt (QdT g)=Qc1 g:=by
 have h1:=h.pl3;have h2:=h.st4;unfold QdT Qc1;simp only[Qbm,Qqk _ _ h.ini,Qrd h.pl3 _ _ h.sts,QsH];simp[txt,TK.tx,kwG,Qid,kwE,kwP,gN,sN,pnl,QlX (show g.pl<=9 by omega)]
def okB:TK->Bool
 |.wd s => !s.isEmpty&&(decide (cAt s 0=2)&&(s.all (λc=>decide (cls c.toNat=2)||decide (cls c.toNat=3))&&decide (s.length<=40)))
 |.sg s=>(match s with|[c]=>Qg7.contains c|_=>QaL.contains s)
 |.nm n=>decide (n<=1000000000)
def QiD (k:TK) (c:UInt8):Bool:=match k with
 |.sg s=>decide (s.length=2)||(decide (c≠61)&&decide (c≠46))
 |_=>decide (cls c.toNat≠2)&&decide (cls c.toNat≠3)
def fb (l:List Pc) (c:UInt8):UInt8:=(txt l++[c]).headD 0
def gd:List Pc->UInt8->Bool
 |[],_=>true
 |.b x::r,c=>(decide (x=32)||decide (x=10))&&gd r c
 |.t k::r,c=>okB k&&(QiD k (fb r c)&&gd r c)
theorem Qwr {k:TK} (h:okB k=true):k.ok:=by
 cases k with
 |wd s =>
  simp only[okB,Va,Zq,VI,List.isEmpty_eq_false_iff,Vm,V3]at h;refine⟨h.1,h.2.1,λi hi => ?_,h.2.2.2⟩;have:=h.2.2.1 s[i] (Vu hi);unfold cAt;rw[VB,Vd hi];exact this
 |sg s =>
  match s,h with
  |[c],h=>exact .inl ⟨c,by simpa[okB]using h,rfl⟩
  |[],h=>exact .inr (by simpa[okB]using h)
  |a::b::r,h=>exact .inr (by simpa[okB]using h)
 |nm n=>exact Zv (p:=n<=1000000000) h
theorem QtE {k:TK} {r:ZE} (h:QiD k (r.getD 0 0)=true):k.sep r:=by
 cases k with
 |wd s=>simpa[QiD,TK.sep,cAt]using h
 |sg s=>simpa[QiD,TK.sep]using h
 |nm n=>simpa[QiD,TK.sep,cAt]using h
theorem QAg (a:List Pc) (b:List Pc):fb a ((txt b).getD 0 0)=(txt (a++b)).getD 0 0:=by
 unfold fb;rw[Qbm]
 cases txt a<;>simp
theorem Qnl {b:List Pc} (hb:QcQ b):∀ a:List Pc,gd a ((txt b).getD 0 0)=true->QcQ (a++b)
 |[],_=>hb
 |.b x::r,h=>by
  simp only[gd,Va,V3,Zq]at h;exact⟨h.1,Qnl hb r h.2⟩
 |.t k::r,h=>by
  simp only[gd,Va]at h;refine⟨Qwr h.1,QtE ?_,Qnl hb r h.2.2⟩;have:=h.2.1;rw[QAg]at this;exact this
theorem QiZ (a b:List Pc) (c:UInt8):fb (a++b) c=fb a (fb b c):=by
 unfold fb;rw[Qbm]
 cases txt a<;>simp
theorem QbY:∀ {a b:List Pc} {c:UInt8},gd a (fb b c)=true->gd b c=true->gd (a++b) c=true
 |[],_,_,_,h=>h
 |.b x::r,b,c,h,hb=>by
  simp only[gd,Va,Vv]at h ⊢;exact⟨h.1,QbY h.2 hb⟩
 |.t k::r,b,c,h,hb=>by
  simp only[gd,Va,Vv]at h ⊢;rw[QiZ];exact⟨h.1,h.2.1,QbY h.2.2 hb⟩
def Qj9:ZE:=[32,44,59,41,10]
def QfY (n m:Nat) (f:GX->Bool):Bool:=(List.range n).all λk=>(List.range m).all λx=>(List.range m).all λy=>f ⟨k,x,y⟩
theorem Qf7 {n m:Nat} {f:GX->Bool} (h:QfY n m f=true) {g:GX} {v:Nat} (hv:v<=m) (hg:g.Wf v n):f g=true:=by
 unfold QfY at h;simp only[Vm,V0]at h;obtain⟨h1,h2,h3⟩:=hg;exact h _ h1 _ (by omega) _ (by omega)
theorem QtJ:QfY 8 3 (λg=>Qj9.all λc=>gd (Qck g) c)=true:=by kernel_rfl
theorem Quj:QfY 4 3 (λg=>Qj9.all λc=>gd (Qbb g) c)=true:=by kernel_rfl
theorem Qod {g:GX} {v:Nat} (hv:v<=3) (hg:g.Wf v 8) {c:UInt8} (hc:c∈Qj9):gd (Qck g) c=true:=Vm.1 (Qf7 QtJ hv hg) c hc
theorem QpM {g:GX} {v:Nat} (hv:v<=3) (hg:g.Wf v 4) {c:UInt8} (hc:c∈Qj9):gd (Qbb g) c=true:=Vm.1 (Qf7 Quj hv hg) c hc
def upto (n:Nat) (f:Nat->Bool):Bool:=(List.range n).all f
theorem QbK {n:Nat} {f:Nat->Bool} (h:upto n f=true) {k:Nat} (hk:k<n):f k=true:=Vm.1 h k (V0.2 hk)
def Wh (c:UInt8):Prop:=c=32\/c=10
def GW (a:List Pc):Prop:=∀ c,Wh c->gd a c=true
def wst:List Pc->Bool
 |[]=>true
 |.b x::_=>decide (x=32)||decide (x=10)
 |_=>false
theorem fb_w {b:List Pc} {c:UInt8} (h:wst b=true) (hc:Wh c):Wh (fb b c):=by
 match b,h with
 |[],_=>exact hc
 |.b x::r,h =>
  show Wh x;simpa[wst,Wh]using h
theorem GW.app {a b:List Pc} (ha:GW a) (hb:GW b) (hw:wst b=true):GW (a++b):=λc hc=>QbY (ha _ (fb_w hw hc)) (hb c hc)
theorem GW.of {a:List Pc} (h:(gd a 32&&gd a 10)=true):GW a:=by
 rw[Va]at h;rintro c (rfl|rfl)
 . exact h.1
 . exact h.2
theorem GW.b {a:List Pc} (h:GW a):GW (pb::a):=λc hc=>by
 have:=h c hc;simp[gd,this]
theorem GW.nil:GW []:=λ_ _=>rfl
theorem GW.ex {a b:List Pc} (c0:UInt8) (ha:gd a c0=true) (hb:GW b) (hf:∀ c,fb b c=c0):GW (a++b):=λc hc=>QbY (by rw[hf]; exact ha) (hb c hc)
def GY (a:List Pc):Prop:=∀ c,gd a c=true
theorem GW.nl {a:List Pc} (h:GW a):GY (a++[pnl]):=λc=>QbY (h 10 (.inr rfl)) rfl
theorem GY.app {a b:List Pc} (ha:GY a) (hb:GY b):GY (a++b):=λc=>QbY (ha _) (hb c)
theorem QxU {s:Nat×GX} {v:Nat} (hv:v<=3) (h:s.1<v/\s.2.Wf v 8):GW (Qbh s):=by
 have q:upto 3 (λx=>gd [pb,pw (vN x),pb,ps [61]] 32&&gd [pb,pw (vN x),pb,ps [61]] 10)=true:=by kernel_rfl
 have h1:=GW.of (QbK q (show s.1<3 by omega));have h2:GW (Qck s.2++[ps [59]]):=GW.ex 59 (Qod hv h.2 (by decide)) (GW.of (by kernel_rfl)) λ_=>rfl;have:=h1.app h2.b rfl;simpa[Qbh]using this
theorem Qsb {v:Nat} (hv:v<=3):∀ l:List (Nat×GX),(∀ s∈l,s.1<v/\s.2.Wf v 8)->GW (l.flatMap Qbh)/\wst (l.flatMap Qbh)=true
 |[],_=>⟨GW.nil,rfl⟩
 |s::r,h=>by
  obtain⟨h1,h2⟩:=Qsb hv r λx hx=>h x (by simp[hx]);rw[VO];exact⟨(QxU hv (h s (by simp))).app h1 h2,rfl⟩
theorem QzI {w:Option GX} {v:Nat} (hv:v<=3) (h:∀ c,w=some c->c.Wf v 4):GW (QeZ w)/\wst (QeZ w)=true:=by
 cases w with
 |none=>exact⟨GW.nil,rfl⟩
 |some g =>
  refine⟨?_,rfl⟩;have h1:GW [pb,pw Qie]:=GW.of (by kernel_rfl);have h2:GW (Qbb g):=λc hc=>QpM hv (h g rfl) (by rcases hc with rfl|rfl<;>decide)
  exact h1.app h2.b rfl
theorem Qxm (b:Bool):GW (Qdr kwH b)/\wst (Qdr kwH b)=true:=by
 cases b with
 |true=>exact⟨GW.of (by kernel_rfl),rfl⟩
 |false=>exact⟨GW.nil,rfl⟩
theorem Qur {g:Option Nat} (h:∀ t,g=some t->t<=4):GW (QcK g)/\wst (QcK g)=true:=by
 cases g with
 |none=>exact⟨GW.nil,rfl⟩
 |some t =>
  have q:upto 5 (λt=>gd (QcK (some t)) 32&&gd (QcK (some t)) 10)=true:=by kernel_rfl
  exact⟨GW.of (QbK q (by have:=h t rfl; omega)),rfl⟩
theorem QwJ {k:Nat} (hk:k<3) {g:GA} {v i n:Nat} (hv:v<=3) (hn:n<=4) (h:g.Wf v i n):GY (Qdz k g):=by
 have q:upto 3 (λk=>gd [pb,pb,pw Qh1,pb,pw (aN k)] 32&&gd [pb,pb,pw Qh1,pb,pw (aN k)] 10)=true:=by kernel_rfl
 have h1:=GW.of (QbK q hk);obtain⟨h2,w2⟩:=QzI hv h.wh;obtain⟨h3,w3⟩:=Qxm g.hid;obtain⟨h4,w4⟩:=Qsb hv g.sets h.sets;obtain⟨h5,w5⟩:=Qur (g:=g.go) λt ht=>by have:=h.go t ht; omega
 have b1:GW [pb,ps [123]]:=GW.of (by kernel_rfl);have b2:GW [pb,ps [125]]:=GW.of (by kernel_rfl);exact((((((h1.app h2 w2).app h3 w3).app b1 rfl).app h4 w4).app b2 rfl).app h5 w5).nl
theorem QqV {v i n:Nat} (hv:v<=3) (hn:n<=4):∀ (l:List GA) (k:Nat),k+l.length<=3->(∀ a∈l,a.Wf v i n)->GY (Qcq k l)
 |[],_,_,_=>λ_=>rfl
 |g::r,k,hk,h=>by
  simp only[Vh]at hk;exact(QwJ (by omega) hv hn (h g (by simp))).app (QqV hv hn r (k+1) (by omega) λa ha=>h a (by simp[ha]))
theorem Qv3 {w:Option GX} {p v:Nat} (hv:v<=3) (hp:p<3) (h:∀ c,w=some c->c.Wf v 4):GW (QcX w p):=by
 cases w with
 |none =>
  have q:upto 3 (λp=>gd [pnU p] 32&&gd [pnU p] 10)=true:=by kernel_rfl
  exact GW.of (QbK q hp)
 |some g =>
  have q:upto 3 (λp=>gd [ps [44],pb,pnU 0,ps [44],pb,pnU p,ps [41]] 32&&gd [ps [44],pb,pnU 0,ps [44],pb,pnU p,ps [41]] 10)=true:=by kernel_rfl
  have h1:GW (Qbb g++[ps [44],pb,pnU 0,ps [44],pb,pnU p,ps [41]]):=GW.ex 44 (QpM hv (h g rfl) (by decide)) (GW.of (QbK q hp)) λ_=>rfl;have f:upto 4 (λk=>(List.range 3).all λx=>(List.range 3).all λy=>decide (cls (fb (Qbb ⟨k,x,y⟩) 0).toNat≠61)&&(gd [pw wIf,ps [40]] (fb (Qbb ⟨k,x,y⟩) 0) && !(txt (Qbb ⟨k,x,y⟩)).isEmpty))=true:=by kernel_rfl
  obtain⟨g1,g2,g3⟩:=h g rfl;have f2:=QbK f g1;simp only[Vm,V0,Va]at f2;obtain⟨_,f3,f4⟩:=f2 g.x (by omega) g.y (by omega);intro c hc;have e:QcX (some g) p=[pw wIf,ps [40]]++(Qbb g++[ps [44],pb,pnU 0,ps [44],pb,pnU p,ps [41]]):=by simp[QcX]
  rw[e];refine QbY ?_ (h1 c hc);rw[QiZ];have e2:∀ c',fb (Qbb g) c'=fb (Qbb g) 0:=by
   intro c';unfold fb;have f5:(txt (Qbb g)).isEmpty=false:=by simpa using f4
   cases hq:txt (Qbb g)with
   |nil=>rw[hq]at f5; cases f5
   |cons a r=>rfl
  rw[e2]; exact f3
theorem QxS {w:Option GX} {p pl v i n:Nat} {acts:List GA} (hv:v<=3) (hn:n<=4) (hp3:pl<=3) (h:(GS.turn w p acts).Wf pl v n i):GY (QfO w p acts):=by
 obtain⟨h1,h2,h3,h4,h5⟩:=h;have g1:GW [pw kwT]:=GW.of (by kernel_rfl);have g2:=Qv3 hv (show p<3 by omega) h1;have g3:GW [pb,ps [123]]:=GW.of (by kernel_rfl);have g4:=QqV hv hn acts 0 (by omega) h5;have g5:GY [ps [125],pnl]:=GW.nl (a:=[ps [125]]) (GW.of (by kernel_rfl));have:=(((g1.app g2.b rfl).app g3 rfl).nl.app g4).app g5;simpa[QfO]using this
theorem Qvb {x r w s p pl v n i:Nat} (hv:v<=3) (hp3:pl<=3) (h:(GS.deal x r w s p).Wf pl v n i):GY (QeB x r w s p):=by
 obtain⟨h1,h2,h3,h4,h5⟩:=h;have q1:upto 3 (λx=>(List.range 4).all λr=>gd [pw kwD,pb,pw (vN x),pb,pw kwI,pb,pnU (loV r),pb,ps [46,46],pb,pnU (hiV r)] 32&&gd [pw kwD,pb,pw (vN x),pb,pw kwI,pb,pnU (loV r),pb,ps [46,46],pb,pnU (hiV r)] 59)=true:=by kernel_rfl
 have q2:upto 3 (λx=>(List.range 4).all λw=>gd (QcB w x) 32&&gd (QcB w x) 59)=true:=by kernel_rfl
 have q3:upto 3 (λs=>(List.range 3).all λp=>gd (QbA s p) 59&&(decide (fb (QbA s p) 59=59)||decide (fb (QbA s p) 59=32)))=true:=by kernel_rfl
 have q4:upto 3 (λx=>(List.range 4).all λw=>(decide (fb (QcB w x) 59=59)||decide (fb (QcB w x) 59=32))&&decide (fb (QcB w x) 32=32))=true:=by kernel_rfl
 have k1:=QbK q1 (show x<3 by omega);have k2:=QbK q2 (show x<3 by omega);have k3:=QbK q3 h4;have k4:=QbK q4 (show x<3 by omega);simp only[Vm,V0,Va,V3,Zq]at k1 k2 k3 k4;have k1:=k1 r h2;have k2:=k2 w h3;have k3:=k3 p (by omega);have k4:=k4 w h3;intro c;have e:QeB x r w s p=[pw kwD,pb,pw (vN x),pb,pw kwI,pb,pnU (loV r),pb,ps [46,46],pb,pnU (hiV r)]++(QcB w x++(QbA s p++[ps [59],pnl])):=by simp[QeB]
 rw[e];have f1:fb [ps [59],pnl] c=59:=rfl;have m1:gd (QbA s p++[ps [59],pnl]) c=true:=QbY (by rw[f1]; exact k3.1) ((GW.nl (a:=[ps [59]]) (GW.of (by kernel_rfl))) c);have f2:fb (QbA s p++[ps [59],pnl]) c=59\/fb (QbA s p++[ps [59],pnl]) c=32:=by rw[QiZ,f1]; exact k3.2
 have m2:gd (QcB w x++(QbA s p++[ps [59],pnl])) c=true:=by
  refine QbY ?_ m1;rcases f2 with f2|f2
  . rw[f2]; exact k2.2
  . rw[f2]; exact k2.1
 refine QbY ?_ m2;rw[QiZ];rcases f2 with f2|f2
 . rw[f2];rcases k4.1 with k|k
   . rw[k]; exact k1.2
   . rw[k]; exact k1.1
 . rw[f2,k4.2]; exact k1.1
theorem QzX {g:GS} {pl v n i:Nat} (hv:v<=3) (hn:n<=4) (hp3:pl<=3) (h:g.Wf pl v n i):GY (QeM g):=by
 cases g with
 |deal x r w s p=>exact Qvb hv hp3 h
 |turn w p acts=>exact QxS hv hn hp3 h
theorem Qr5 {pl v n:Nat} (hv:v<=3) (hn:n<=4) (hp3:pl<=3):∀ (l:List GS) (i:Nat),i+l.length<=4->Qfh pl v n i l->GY (Qcv i l)
 |[],_,_,_=>λ_=>rfl
 |g::r,i,hi,h=>by
  simp only[Vh]at hi;have q:upto 5 (λi=>gd [pw (sN i),ps [58]] 32)=true:=by kernel_rfl
  have h1:GY [pw (sN i),ps [58],pb]:=λc=>QbY (a:=[pw (sN i),ps [58]]) (b:=[pb]) (QbK q (by omega)) rfl;exact(h1.app (QzX hv hn hp3 h.1)).app (Qr5 hv hn hp3 r (i+1) (by omega) h.2)
theorem QoW:∀ (l:List Nat) (i:Nat),i+l.length<=3->(∀ c∈l,c<4)->GY (Qcy i l)
 |[],_,_,_=>λ_=>rfl
 |c::r,i,hi,h=>by
  simp only[Vh]at hi;have q:upto 3 (λi=>(List.range 4).all λc=>gd ([pw kwV,pb,pw (vN i),pb,ps [61],pb]++Qe3 c++[ps [59]]) 10)=true:=by kernel_rfl
  have q2:=QbK q (show i<3 by omega);simp only[Vm,V0]at q2;have h1:GY (([pw kwV,pb,pw (vN i),pb,ps [61],pb]++Qe3 c++[ps [59]])++[pnl]):=λd=>QbY (q2 c (h c (by simp))) rfl;have:=h1.app (QoW r (i+1) (by omega) λc hc=>h c (by simp[hc]));simpa[Qcy]using this
theorem Qn3 {v:Nat} (hv:v<=3):∀ (l:List GX) (b:Bool),(∀ x∈l,x.Wf v 8)->gd (QaQ b l) 59=true/\(b=true->fb (QaQ b l) 59=59\/fb (QaQ b l) 59=44)
 |[],_,_=>⟨rfl,λ_=>.inl rfl⟩
 |g::r,b,h=>by
  obtain⟨h1,h2⟩:=Qn3 hv r true λx hx=>h x (by simp[hx]);have h3:gd (Qck g++QaQ true r) 59=true:=QbY (by rcases h2 rfl with e|e<;>rw[e]<;>exact Qod hv (h g (by simp)) (by decide)) h1
  cases b with
  |true=>exact⟨by
   have:gd ([ps [44],pb]++(Qck g++QaQ true r)) 59=true:=QbY (a:=[ps [44],pb]) rfl h3;simpa[QaQ]using this,λ_=>.inr rfl⟩
  |false=>exact⟨by simpa[QaQ]using h3,λh=>by cases h⟩
theorem Qnq {g:GR} (h:g.Wf):QcQ (QdT g):=by
 have q1:upto 9 (λm=>(List.range 4).all λp=>gd [pw kwG,pb,pw (gN m),ps [59],pnl,pw Qid,pb,pnU p,ps [59]] 10)=true:=by kernel_rfl
 have q2:upto 5 (λi=>gd [pw (sN i),ps [58],pb,pw kwE,pb,ps [123],pb,pw kwP] 32)=true:=by kernel_rfl
 have k1:=QbK q1 h.nm;simp only[Vm,V0]at k1;have a1:GY ([pw kwG,pb,pw (gN g.nm),ps [59],pnl,pw Qid,pb,pnU g.pl,ps [59]]++[pnl]):=λc=>QbY (k1 g.pl (by have:=h.pl3; omega)) rfl;have a2:=QoW g.ini 0 (by have:=h.inl; have:=h.v3; omega) h.ini;have a3:=Qr5 h.v3 h.st4 h.pl3 g.stages 0 (by have:=h.st4; omega) h.sts;have a4:GY ([pw (sN g.stages.length),ps [58],pb,pw kwE,pb,ps [123],pb,pw kwP]++[pb]):=λc=>QbY (QbK q2 (by have:=h.st4; omega)) rfl;have a5:GY (QaQ false g.pays++[ps [59],pb,ps [125],pnl]):=λc=>QbY (Qn3 h.v3 g.pays false h.pays).1 ((GW.nl (a:=[ps [59],pb,ps [125]]) (GW.of (by kernel_rfl))) c);have:=Qnl (b:=[]) Zo _ ((((a1.app a2).app a3).app a4).app a5 0);simpa[QdT]using this
section
variable {H:ZG} {j:Nat} {l:List Int} {a:Nat}
theorem Qp9 (hcl:closed H) (b:Nat):closed (mvD H j l b):=QfH hcl j (by simp[drO])
theorem ok66 (ho:H[j]? = some (drO l a)) (ha:a<=l.length) (hl:l.length<4611686018427387904) {x:SV} {ws:ZD} (hx:∀ b,IsS (mvD H j l b) x ws) (h1:1<=ws.length) (h2:ws.length<=9) :
 Ok Tryz.prog 66 [rp j,x] H (.ret (st (B (ws.getD (nxD l a ws.length).1 [])))) (mvD H j l (nxD l a ws.length).2):=by
 have e4:=QAb ho;have hx0:=hx a;rw[e4]at hx0;refine Qz hm Tryz.func66 c66 (by simp[rp]) λhcl => ?_;have h37:=QiF ho ha hl ws.length (by omega);have hk:=Qab (l:=l) (a:=a) (n:=ws.length) h1;have hx1:=hx (nxD l a ws.length).2;generalize nxD l a ws.length=kk at *;obtain⟨k,b⟩:=kk;simp only at *;have hv:=hx1.vA [] hk;have hok:=hx1.okA [] hk;rw[VE]at hv hok;have hg:ws.getD k []=ws[k]:=by rw[VB,Vd hk]; rfl
 have hk':(k:Int)<ws.length:=by omega
 rw[hg];simp -implicitDefEqProofs[i66,r66,hx0.vd,hx0.ug,hx0.sl,hx0.len];refine Qc h37 ?_;simp -implicitDefEqProofs[hx1.vd,hx1.ug,hx1.sl,hx1.len,hk',hv,hok];exact Qi
theorem go39 (hd:Dr H j l) (ha:a<=l.length) (hl:l.length<4611686018427387904) (L:ZG) {x:SV} {ws:ZD} (hx:∀ b,IsS (mvD H j l b++L) x ws) (h1:1<=ws.length) (h2:ws.length<=9) :
 Ok Tryz.prog 66 [rp j,x] (mvD H j l a++L) (.ret (st (B (ws.getD (nxD l a ws.length).1 [])))) (mvD H j l (nxD l a ws.length).2++L):=by
 have:=ok66 (hd.at a L) ha hl (x:=x) (ws:=ws) (λb=>by rw[hd.mv]; exact hx b) h1 h2; rwa [hd.mv]at this
theorem row1 {L:ZG} {k n ver:Nat} {ws:ZD} (h:L[k]? = some ⟨wds ws,9,ver,true⟩) (hn:n=ws.length) (b:Nat):IsS (mvD H j l b++L) (.own (H.length+k) 0 n 1 ver) ws:=by
 have:=IsS.own1 (H:=mvD H j l b) (L:=L) h hn
 rwa [V8]at this
theorem ok67 (hd:Dr H j l) (ha:a<=l.length) (hl:l.length<4611686018427387904) {v pl:Nat} (hv:1<=v) (h3:v<=3) (hp:1<=pl) (hp3:pl<=3) :
 Ok Tryz.prog 67 [rp j,i64 pl,i64 v] (mvD H j l a) (.ret (st (B (stB (Qee l pl v a).1)))) (mvD H j l (Qee l pl v a).2):=by
 refine Qz hm Tryz.func67 c67 (by simp[rp]) λhcl => ?_;dsimp only[Qee,Qfm,stB,Qh9];have a1:=QS (n:=v) ha;have g1:=go71 hd ha hl [] hv h3;have h2:=λL k (h:L[k]? = some ⟨wds Qef,9,0,true⟩)=>go39 hd a1 hl L (x:=.own (H.length+k) 0 4 1 0) (ws:=Qef) (λb=>row1 h rfl b) (by decide) (by decide);have a2:=QS (n:=4) a1;have g3:=λL=>Qb0 hd a2 hl L 4 (by decide);have b3:=Qab (l:=l) (a:=(nxD l (nxD l a v).2 4).2) (n:=4) (by decide);have a3:=QS (n:=4) a2;have g4:=λL=>Qb0 hd a3 hl L 3 (by decide);have b4:=Qab (l:=l) (a:=(nxD l (nxD l (nxD l a v).2 4).2 4).2) (n:=3) (by decide);have a4:=QS (n:=3) a3;have g5:=λL=>Qb0 hd a4 hl L pl (by omega);have b5:=Qab (l:=l) (a:=(nxD l (nxD l (nxD l (nxD l a v).2 4).2 4).2 3).2) hp;have lr:∀ k,(Qef.getD k []).length<=6:=by
  intro k
  match k with
  |0|1|2|3=>decide
  |k+4=>simp[Qef]
 simp only[show Qef.length=4 from rfl]at h2;generalize nxD l (nxD l (nxD l (nxD l (nxD l a v).2 4).2 4).2 3).2 pl=q5 at *;generalize nxD l (nxD l (nxD l (nxD l a v).2 4).2 4).2 3=q4 at *;generalize nxD l (nxD l (nxD l a v).2 4).2 4=q3 at *;generalize nxD l (nxD l a v).2 4=q2 at *;generalize nxD l a v=q1 at *;obtain⟨x1,c1⟩:=q1;obtain⟨x2,c2⟩:=q2;obtain⟨x3,c3⟩:=q3;obtain⟨x4,c4⟩:=q4;obtain⟨x5,c5⟩:=q5;simp only at *;have lx:(vN x1).length=2:=rfl;have lr:=lr x2;generalize Qef.getD x2 []=tr at *;simp -implicitDefEqProofs[i67,r67];refine Qc (by rw[VE,VE]at g1; exact g1) ?_;simp -implicitDefEqProofs[QT,lx];refine Qc (h2 _ 0 rfl) ?_;simp -implicitDefEqProofs[QT,lx];refine⟨by omega,?_⟩;refine Qc (g3 _) ?_;have hk4:x3=0\/x3=1\/x3=2\/x3=3:=by omega
 have hk3:x4=0\/x4=1\/x4=2:=by omega
 have hc:∀ b,closed (mvD H j l b):=λb=>by have:=Qp9 (j:=j) (l:=l) hcl b; unfold mvD at this; rwa [VA]at this
 have ld:∀ k,(dg k).length=1:=λ_=>rfl;have g6:=λH=>Qej (H:=H) (n:=x5) (by omega);have ld:=ld x5;generalize hd5:dg x5=t5 at *;rcases hk4 with rfl|rfl|rfl|rfl
 all_goals
  simp -implicitDefEqProofs[QT,lx];repeat (refine⟨by omega,?_⟩)
  refine Qc (g4 _) ?_;rcases hk3 with rfl|rfl|rfl
  . simp -implicitDefEqProofs[QT,lx,wgB,Qfx];repeat (refine⟨by omega,?_⟩)
    exact Qp 1 (hc _) (V8 ..).symm rfl
  . simp -implicitDefEqProofs[QT,lx];repeat (refine⟨by omega,?_⟩)
    refine Qc (g5 _) ?_;simp -implicitDefEqProofs;refine Qc (g6 _) ?_;simp -implicitDefEqProofs[QT,lx,wgB,Qfx,ld,hd5];repeat (refine⟨by omega,?_⟩)
    exact Qp 1 (hc _) (V8 ..).symm rfl
  . simp -implicitDefEqProofs[QT,lx,wgB,Qfx];repeat (refine⟨by omega,?_⟩)
    exact Qp 1 (hc _) (V8 ..).symm rfl
end
section
variable {H:ZG} {j:Nat} {l:List Int}
structure E41 (j v i n k w:Nat) (env:Env):Prop where
 h0:env.get 0=rp j
 h2:env.get 2=i64 v
 h3:env.get 3=i64 i
 h4:env.get 4=i64 n
 h12:env.get 12=i64 w
 h13:env.get 13=i64 k
theorem QAW (hd:Dr H j l) (hl:l.length<4611686018427387904) {v i n k w:Nat} (hv:1<=v) (h3:v<=3) {G:ZG} {N:Nat} {K:ZF} :
 ∀ (m a:Nat) (P:ZE) (env:Env),a<=l.length->m<=9->P.length+60*m<=1000000000->E41 j v i n k w env->env.get 11=st (B P)->env.get 14=i64 m ->
  (∀ env,E41 j v i n k w env->env.get 11=st (B (P++QdN (Qbt l v m a).1))->K (.exit 2) env (mvD H j l (Qbt l v m a).2++G))->LI Tryz.prog N Qf QhN env (mvD H j l a++G) K:=by
 intro m
 induction m with
 |zero =>
  intro a P env ha hm9 hP he h11 h14 hk;refine Qu hm QhN.eq_1 ?_;simp[h14];refine hk _ ⟨?_,?_,?_,?_,?_,?_⟩ ?_;all_goals simp[he.h0,he.h2,he.h3,he.h4,he.h12,he.h13,h11,QdN,Qbt]
 |succ m ih =>
  intro a P env ha hm9 hP he h11 h14 hk;refine Qu hm QhN.eq_1 ?_;have hsl:=Qn6 ((nxD l a v).1,(gx l v 8 (nxD l a v).2).1);have g1:=go71 hd ha hl G hv h3;have a1:=QS (n:=v) ha;have g2:=go42 hd a1 hl G hv h3;have a2:=QfF (v:=v) (n:=8) a1;have hih:=ih (gx l v 8 (nxD l a v).2).2 (P++Qfe ((nxD l a v).1,(gx l v 8 (nxD l a v).2).1));have hk':∀ env,E41 j v i n k w env->env.get 11=st (B (P++Qfe ((nxD l a v).1,(gx l v 8 (nxD l a v).2).1)++QdN (Qbt l v m (gx l v 8 (nxD l a v).2).2).1))->K (.exit 2) env (mvD H j l (Qbt l v m (gx l v 8 (nxD l a v).2).2).2++G):=by
   intro env e1 e2;refine hk env e1 ?_;rw[e2,Vz]; rfl
  clear hk ih;generalize Qbt l v m (gx l v 8 (nxD l a v).2).2=r at hk' hih;generalize gx l v 8 (nxD l a v).2=q2 at *;generalize nxD l a v=q1 at *;obtain⟨x1,c1⟩:=q1;obtain⟨x2,c2⟩:=q2;simp only at *;have hb:Qfe (x1,x2)=[32]++vN x1++[32,61,32]++exB x2++[59]:=rfl;rw[hb]at hsl hih hk';have lx:(vN x1).length=2:=rfl;generalize vN x1=t1 at *;generalize exB x2=t2 at *;simp only[Vj,Vh,VK]at hsl;have w1:IntKind.i64.wrap (m:Int)=m:=QeU (by omega);simp[he.h0,he.h2,h11,h14,QT];repeat (refine⟨by omega,?_⟩)
  refine Qc g1 ?_;simp[he.h0,he.h2,h11,h14,QT];repeat (refine⟨by omega,?_⟩)
  refine Qc g2 ?_;simp[he.h0,he.h2,h11,h14,QT];repeat (refine⟨by omega,?_⟩)
  refine hih _ a2 (by omega) (by simp only[Vj,Vh,VK]; omega) ⟨?_,?_,?_,?_,?_,?_⟩ ?_ ?_ hk';all_goals simp[he.h3,he.h4,he.h12,he.h13,w1]
theorem QoJ (k:Nat) (g:GA) (h:g.sets.length<=2):(QeX k g).length<=400:=by
 have h1:=Qpa g.wh;have h2:=Qvx g.hid;have h3:=QnA g.sets;have h4:=Qul g.go;simp[QeX,aN]; omega
end
def t41:IC:=(.seq
 (.seq
 (.reg [
 ⟨(some 66),none,.p (.mov (.t 0))⟩,
 ⟨(some 67),none,.e (.call (.c (.fn (.func 64) [] [])) [(.t 66),(.c (i64 3))])⟩,
 ⟨(some 68),none,.p (.bin .eql (.i .i64) (.t 67) (.c (i64 0)))⟩])
 (.cond (.t 68)
 (.reg [
 ⟨(some 69),none,.p (.mov (.t 11))⟩,
 ⟨(some 70),none,.p (.bin .add .s (.t 69) (.c (st ⟨#[32,104,105,100,100,101,110]⟩)))⟩,
 ⟨(some 11),none,.p (.mov (.t 70))⟩])
 .skip))
 (.seq
 (.reg [
 ⟨(some 71),none,.p (.mov (.t 11))⟩,
 ⟨(some 72),none,.p (.bin .add .s (.t 71) (.c (st ⟨#[32,123]⟩)))⟩,
 ⟨(some 11),none,.p (.mov (.t 72))⟩])
 (.seq
 (.seq
 (.reg [
 ⟨(some 73),none,.p (.mov (.t 0))⟩,
 ⟨(some 74),none,.e (.call (.c (.fn (.func 64) [] [])) [(.t 73),(.c (i64 3))])⟩,
 ⟨(some 14),none,.p (.mov (.t 74))⟩])
 (.blk 2
 (.loop QhN)))
 (.seq
 (.reg [
 ⟨(some 91),none,.p (.mov (.t 11))⟩,
 ⟨(some 92),none,.p (.bin .add .s (.t 91) (.c (st ⟨#[32,125]⟩)))⟩,
 ⟨(some 11),none,.p (.mov (.t 92))⟩])
 (.seq
 (.seq
 (.reg [
 ⟨(some 93),none,.p (.mov (.t 0))⟩,
 ⟨(some 94),none,.e (.call (.c (.fn (.func 64) [] [])) [(.t 93),(.c (i64 3))])⟩,
 ⟨(some 95),none,.p (.bin .eql (.i .i64) (.t 94) (.c (i64 0)))⟩])
 (.cond (.t 95)
 (.reg [
 ⟨(some 96),none,.p (.mov (.t 11))⟩,
 ⟨(some 97),none,.p (.bin .add .s (.t 96) (.c (st ⟨#[32,103,111,116,111,32,115]⟩)))⟩,
 ⟨(some 98),none,.p (.mov (.t 3))⟩,
 ⟨(some 99),none,.p (.bin .add (.i .i64) (.t 98) (.c (i64 1)))⟩,
 ⟨(some 100),none,.p (.mov (.t 0))⟩,
 ⟨(some 101),none,.p (.mov (.t 4))⟩,
 ⟨(some 102),none,.p (.mov (.t 3))⟩,
 ⟨(some 103),none,.p (.bin .sub (.i .i64) (.t 101) (.t 102))⟩,
 ⟨(some 104),none,.e (.call (.c (.fn (.func 64) [] [])) [(.t 100),(.t 103)])⟩,
 ⟨(some 105),none,.p (.bin .add (.i .i64) (.t 99) (.t 104))⟩,
 ⟨(some 106),none,.e (.call (.c (.fn (.func 65) [] [])) [(.t 105)])⟩,
 ⟨(some 107),none,.p (.bin .add .s (.t 97) (.t 106))⟩,
 ⟨(some 108),none,.p (.bin .add .s (.t 107) (.c (st ⟨#[59]⟩)))⟩,
 ⟨(some 11),none,.p (.mov (.t 108))⟩])
 .skip))
 (.reg [
 ⟨(some 109),none,.p (.mov (.t 11))⟩,
 ⟨(some 110),none,.p (.bin .add .s (.t 109) (.c (st ⟨#[10]⟩)))⟩,
 ⟨(some 11),none,.p (.mov (.t 110))⟩]))))))
theorem Qsi:Qke=.keep [0,2,3,4,11,12,13]
 (.seq
 (.seq
 (.reg [
 ⟨(some 41),none,.p (.mov (.t 13))⟩,
 ⟨(some 42),none,.p (.mov (.t 12))⟩,
 ⟨(some 43),none,.p (.bin .lss (.i .i64) (.t 41) (.t 42))⟩])
 (.cond (.t 43)
 .skip
 (.exit 0)))
 (.seq
 (.blk 1
 (.seq
 (.reg [
 ⟨(some 46),none,.p (.mov (.t 11))⟩,
 ⟨(some 47),none,.p (.bin .add .s (.t 46) (.c (st ⟨#[32,32,97,99,116,105,111,110,32]⟩)))⟩,
 ⟨(some 48),none,.e (.bsl 9 1 3 [st ⟨#[]⟩] [(0,(.c (st ⟨#[97]⟩))),(1,(.c (st ⟨#[98]⟩))),(2,(.c (st ⟨#[99]⟩)))])⟩,
 ⟨(some 49),none,.p (.mov (.t 13))⟩,
 ⟨(some 50),none,.p (.ia 1 (.t 48) (.t 49))⟩,
 ⟨(some 51),none,.p (.ld1 (.t 50))⟩,
 ⟨(some 52),none,.p (.bin .add .s (.t 47) (.t 51))⟩,
 ⟨(some 11),none,.p (.mov (.t 52))⟩])
 (.seq
 (.seq
 (.reg [
 ⟨(some 53),none,.p (.mov (.t 13))⟩,
 ⟨(some 54),none,.p (.bin .gtr (.i .i64) (.t 53) (.c (i64 0)))⟩,
 ⟨(some 55),none,.p (.mov (.t 54))⟩,
 ⟨(some 56),(some (55,true)),.p (.mov (.t 0))⟩,
 ⟨(some 57),(some (55,true)),.e (.call (.c (.fn (.func 64) [] [])) [(.t 56),(.c (i64 3))])⟩,
 ⟨(some 58),(some (55,true)),.p (.bin .eql (.i .i64) (.t 57) (.c (i64 0)))⟩,
 ⟨(some 59),none,.p (.pick (.t 55) (.t 58) (.c (bl false)))⟩])
 (.cond (.t 59)
 (.reg [
 ⟨(some 60),none,.p (.mov (.t 11))⟩,
 ⟨(some 61),none,.p (.bin .add .s (.t 60) (.c (st ⟨#[32,119,104,101,110,32]⟩)))⟩,
 ⟨(some 62),none,.p (.mov (.t 0))⟩,
 ⟨(some 63),none,.p (.mov (.t 2))⟩,
 ⟨(some 64),none,.e (.call (.c (.fn (.func 122) [] [])) [(.t 62),(.t 63)])⟩,
 ⟨(some 65),none,.p (.bin .add .s (.t 61) (.t 64))⟩,
 ⟨(some 11),none,.p (.mov (.t 65))⟩])
 .skip))
 t41)))
 (.reg [
 ⟨(some 44),none,.p (.mov (.t 13))⟩,
 ⟨(some 45),none,.p (.bin .add (.i .i64) (.t 44) (.c (i64 1)))⟩,
 ⟨(some 13),none,.p (.mov (.t 45))⟩]))):=rfl
section
variable {H:ZG} {j:Nat} {l:List Int}
theorem QwT (hd:Dr H j l) (hl:l.length<4611686018427387904) {v i n k w:Nat} (hv:1<=v) (h3:v<=3) (hi:i<n) (hn:n<=4) {N:Nat} {K:ZF} {G:ZG} {a:Nat} {P:ZE} {env:Env}
 (ha:a<=l.length) (hP:P.length<=100000000) (he:E41 j v i n k w env) (h11:env.get 11=st (B P))
 (hk:∀ env,E41 j v i n k w env->env.get 11=st (B (P++Qgh (decide ((nxD l a 3).1=0))++[32,123]++QdN (Qbt l v (nxD l (nxD l a 3).2 3).1 (nxD l (nxD l a 3).2 3).2).1++[32,125]++goB (goC l i n (Qbt l v (nxD l (nxD l a 3).2 3).1 (nxD l (nxD l a 3).2 3).2).2).1++[10])) ->
  K .normal env (mvD H j l (goC l i n (Qbt l v (nxD l (nxD l a 3).2 3).1 (nxD l (nxD l a 3).2 3).2).2).2++G)):X Tryz.prog N Qf t41 env (mvD H j l a++G) K:=by
 have g1:=Qb0 hd ha hl G 3 (by decide);have a1:=QS (n:=3) ha;have g2:=Qb0 hd a1 hl G 3 (by decide);have a2:=QS (n:=3) a1;have b2:=Qab (l:=l) (a:=(nxD l a 3).2) (n:=3) (by decide);generalize nxD l (nxD l a 3).2 3=q2 at *;generalize nxD l a 3=q1 at *;obtain⟨x1,c1⟩:=q1;obtain⟨x2,c2⟩:=q2;simp only at *;have a3:=Qm7 (v:=v) (m:=x2) a2;have s3:=QnA (Qbt l v x2 c2).1;rw[Qis]at s3;have g4:=Qb0 hd a3 hl G 3 (by decide);have a4:=QS (n:=3) a3;have g5:=Qb0 hd a4 hl G (n-i) (by omega);have b5:=Qab (l:=l) (a:=(nxD l (Qbt l v x2 c2).2 3).2) (n:=n-i) (by omega);have lp:=λ(P:ZE) (env:Env) (K:ZF)=>QAW hd hl (i:=i) (n:=n) (k:=k) (w:=w) hv h3 (G:=G) (N:=N) (K:=K) x2 c2 P env a2;unfold goC at hk;generalize Qbt l v x2 c2=r at *;obtain⟨tx,c3⟩:=r;simp only at *;generalize QdN tx=sx at *;generalize nxD l (nxD l c3 3).2 (n-i)=q5 at *;generalize nxD l c3 3=q4 at *;obtain⟨x4,c4⟩:=q4;obtain⟨x5,c5⟩:=q5;simp only at *;have e5:IntKind.i64.wrap ((n:Int)-i)=((n-i:Nat):Int):=by rw[Qae (by omega) (by omega)]; omega
 have e6:IntKind.i64.wrap (IntKind.i64.wrap ((i:Int)+1)+(x5:Int))=((i+1+x5:Nat):Int):=by rw[Qae (n:=(i:Int)+1) (by omega) (by omega),Qae (by omega) (by omega)]; omega
 have g6:=λH=>Qej (H:=H) (n:=i+1+x5) (by omega);have ld:(dg (i+1+x5)).length=1:=rfl;unfold t41;simp -implicitDefEqProofs[he.h0];refine Qc g1 ?_;rcases(by omega:x1=0\/¬ x1=0)with h1|h1
 all_goals
  have hh:Qgh (decide (x1=0))=if x1=0 then [32,104,105,100,100,101,110]else []:=by unfold Qgh; simp only[Zq]
  rw[hh]at hk;simp -implicitDefEqProofs[he.h0,h11,QT,h1];repeat (refine⟨by omega,?_⟩)
  refine Qc g2 ?_;simp -implicitDefEqProofs;refine lp (P++(if x1=0 then [32,104,105,100,100,101,110]else [])++[32,123]) _ _ (by omega) (by simp[h1]; omega) ⟨?_,?_,?_,?_,?_,?_⟩ ?_ ?_ ?_
  . simp[he.h0]
  . simp[he.h2]
  . simp[he.h3]
  . simp[he.h4]
  . simp[he.h12]
  . simp[he.h13]
  . simp[h1]
  . simp
  clear lp;intro env he2 h112;simp -implicitDefEqProofs[he2.h0,h112,QT,h1];repeat (refine⟨by omega,?_⟩)
  refine Qc g4 ?_;rcases(by omega:x4=0\/¬ x4=0)with h4|h4
  . simp -implicitDefEqProofs[he2.h0,he2.h3,he2.h4,QT,h4,e5];repeat (refine⟨by omega,?_⟩)
    refine Qc g5 ?_;simp -implicitDefEqProofs[h4,e6];refine Qc (g6 _) ?_;rw[Zn h4]at hk;simp only[goB]at hk;generalize dg (i+1+x5)=t5 at *;simp -implicitDefEqProofs[QT];repeat (refine⟨by omega,?_⟩)
    refine hk _ ⟨?_,?_,?_,?_,?_,?_⟩ ?_;all_goals simp[he2.h0,he2.h2,he2.h3,he2.h4,he2.h12,he2.h13,h1]
  . rw[Zm h4]at hk;simp only[goB]at hk;simp -implicitDefEqProofs[QT,h4];repeat (refine⟨by omega,?_⟩)
    refine hk _ ⟨?_,?_,?_,?_,?_,?_⟩ ?_;all_goals simp[he2.h0,he2.h2,he2.h3,he2.h4,he2.h12,he2.h13,h1]
end
section
variable {H:ZG} {j:Nat} {l:List Int}
theorem QzK (hd:Dr H j l) (hl:l.length<4611686018427387904) {v i n w:Nat} (hv:1<=v) (h3:v<=3) (hi:i<n) (hn:n<=4) (hw:w<=3) {N:Nat} {K:ZF} :
 ∀ (m k a:Nat) (P:ZE) (G:ZG) (env:Env),a<=l.length->k+m=w->P.length+400*m<=1000000->E41 j v i n k w env->env.get 11=st (B P) ->
  (∀ env G,env.get 11=st (B (P++Qet k (Qb5 l v i n m k a).1))->K (.exit 0) env (mvD H j l (Qb5 l v i n m k a).2++G))->LI Tryz.prog N Qf Qke env (mvD H j l a++G) K:=by
 intro m
 induction m with
 |zero =>
  intro k a P G env ha hm' hP he h11 hk;refine Qu hm Qsi ?_;have:k=w:=by omega
  subst this;simp[he.h12,he.h13];refine hk _ _ ?_;simp[h11,Qet,Qb5]
 |succ m ih =>
  intro k a P G env ha hm9 hP he h11 hk;refine Qu hm Qsi ?_;have hkw:(k:Int)<w:=by omega
  have hkw':k<w:=by omega
  have hal:=QoJ k (QbO l v i n k a).1 (by
   have:=Qab (l:=l) (a:=(nxD l (whC l v k a).2 3).2) (n:=3) (by decide);dsimp only[QbO];rw[Qis]; omega)
  have hk2:∀ env G,env.get 11=st (B (P++QeX k (QbO l v i n k a).1++Qet (k+1) (Qb5 l v i n m (k+1) (QbO l v i n k a).2).1))->K (.exit 0) env (mvD H j l (Qb5 l v i n m (k+1) (QbO l v i n k a).2).2++G):=by
   intro env G e2;refine hk env G ?_;rw[e2,Vz]; rfl
  clear hk;have ht:=λ(c:Nat) (hc:c<=l.length) (G:ZG) (P:ZE) (env:Env) (K:ZF)=>QwT hd hl (i:=i) (n:=n) (k:=k) (w:=w) hv h3 hi hn (G:=G) (N:=N) (K:=K) (a:=c) (P:=P) (env:=env) hc;have key:∀ (wh:Option GX) (c:Nat),whC l v k a=(wh,c)->c<=l.length->∀ (env:Env) (G:ZG),E41 j v i n k w env->env.get 11=st (B (P++[32,32,97,99,116,105,111,110,32]++aN k++whB wh))->∀ K':ZF,
   (∀ env,E41 j v i n k w env->env.get 11=st (B (P++QeX k (QbO l v i n k a).1))->K' .normal env (mvD H j l (QbO l v i n k a).2++G))->X Tryz.prog N Qf t41 env (mvD H j l c++G) K':=by
   intro wh c hw1 hc env G he h11 K' hk';refine ht c hc G _ env K' ?_ he h11 λenv he2 h112 => ?_
   . have:=Qpa wh;simp[aN]; omega
   . have e:(QbO l v i n k a).2=(goC l i n (Qbt l v (nxD l (nxD l c 3).2 3).1 (nxD l (nxD l c 3).2 3).2).2).2:=by dsimp only[QbO]; rw[hw1]
     rw[<-e];refine hk' env he2 ?_;rw[h112];dsimp only[QbO,QeX];rw[hw1];simp
  have fin:∀ (env:Env),E41 j v i n k w env->env.get 11=st (B (P++QeX k (QbO l v i n k a).1))->∀ G,∀ env2:Env,E41 j v i n (k+1) w env2->env2.get 11=env.get 11->LI Tryz.prog N Qf Qke env2 (mvD H j l (QbO l v i n k a).2++G) K:=λenv e1 e2 G env2 e3 e4 =>
   ih (k+1) _ _ G env2 (QpD ha) (by omega) (by simp; omega) e3 (by rw[e4,e2]) hk2
  clear ih hk2 ht;have hk3:k=0\/k=1\/k=2:=by omega
  rcases hk3 with rfl|rfl|rfl
  . simp[he.h0,he.h2,he.h3,he.h4,he.h12,he.h13,h11,hkw',QT];repeat (refine⟨by omega,?_⟩)
    refine key none a rfl ha _ _ ⟨?_,?_,?_,?_,?_,?_⟩ ?_ _ λenv e1 e2 => ?_
    . simp
    . simp
    . simp
    . simp
    . simp
    . simp
    . simp[whB,aN]
    . refine⟨by rw[e1.h13]; rfl,fin env e1 e2 _ _ ⟨?_,?_,?_,?_,?_,?_⟩ ?_⟩;all_goals simp[e1.h0,e1.h2,e1.h3,e1.h4,e1.h12,e1.h13,show IntKind.i64.wrap 1=1 from rfl]
  . have hc1:(1:Int)<w:=by omega
    have g1:=λG=>Qb0 hd ha hl G 3 (by decide);have a1:=QS (n:=3) ha;have g2:=λG=>QnS hd a1 hl G hv h3;have a2:=QfF (v:=v) (n:=4) a1;have cl:=Qhz (gx l v 4 (nxD l a 3).2).1;unfold whC at key;simp only[show ¬ (1:Nat)=0 from by decide,Zt]at key;generalize gx l v 4 (nxD l a 3).2=q2 at *;generalize nxD l a 3=q1 at *;obtain⟨x1,c1⟩:=q1;obtain⟨x2,c2⟩:=q2;simp only at *;simp[he.h0,he.h2,he.h3,he.h4,he.h12,he.h13,h11,hc1,QT];repeat (refine⟨by omega,?_⟩)
    refine QpB (g1 _) ?_;rcases(by omega:x1=0\/¬ x1=0)with h1|h1
    . rw[Zn h1]at key;simp[he.h0,he.h2,he.h3,he.h4,he.h12,he.h13,h11,QT,h1];repeat (refine⟨by omega,?_⟩)
      refine Qc (g2 _) ?_;simp[he.h0,he.h2,he.h3,he.h4,he.h12,he.h13,h11,QT,h1];repeat (refine⟨by omega,?_⟩)
      refine key (some x2) c2 rfl a2 _ _ ⟨?_,?_,?_,?_,?_,?_⟩ ?_ _ λenv e1 e2 => ?_
      . simp
      . simp
      . simp
      . simp
      . simp
      . simp
      . simp[whB,aN]
      . refine⟨by rw[e1.h13]; rfl,fin env e1 e2 _ _ ⟨?_,?_,?_,?_,?_,?_⟩ ?_⟩;all_goals simp[e1.h0,e1.h2,e1.h3,e1.h4,e1.h12,e1.h13,show IntKind.i64.wrap 2=2 from rfl]
    . rw[Zm h1]at key;simp[he.h0,he.h2,he.h3,he.h4,he.h12,he.h13,h11,h1];refine key none c1 rfl a1 _ _ ⟨?_,?_,?_,?_,?_,?_⟩ ?_ _ λenv e1 e2 => ?_
      . simp
      . simp
      . simp
      . simp
      . simp
      . simp
      . simp[whB,aN]
      . refine⟨by rw[e1.h13]; rfl,fin env e1 e2 _ _ ⟨?_,?_,?_,?_,?_,?_⟩ ?_⟩;all_goals simp[e1.h0,e1.h2,e1.h3,e1.h4,e1.h12,e1.h13,show IntKind.i64.wrap 2=2 from rfl]
  . have hc1:(2:Int)<w:=by omega
    have g1:=λG=>Qb0 hd ha hl G 3 (by decide);have a1:=QS (n:=3) ha;have g2:=λG=>QnS hd a1 hl G hv h3;have a2:=QfF (v:=v) (n:=4) a1;have cl:=Qhz (gx l v 4 (nxD l a 3).2).1;unfold whC at key;simp only[show ¬ (2:Nat)=0 from by decide,Zt]at key;generalize gx l v 4 (nxD l a 3).2=q2 at *;generalize nxD l a 3=q1 at *;obtain⟨x1,c1⟩:=q1;obtain⟨x2,c2⟩:=q2;simp only at *;simp[he.h0,he.h2,he.h3,he.h4,he.h12,he.h13,h11,hc1,QT];repeat (refine⟨by omega,?_⟩)
    refine QpB (g1 _) ?_;rcases(by omega:x1=0\/¬ x1=0)with h1|h1
    . rw[Zn h1]at key;simp[he.h0,he.h2,he.h3,he.h4,he.h12,he.h13,h11,QT,h1];repeat (refine⟨by omega,?_⟩)
      refine Qc (g2 _) ?_;simp[he.h0,he.h2,he.h3,he.h4,he.h12,he.h13,h11,QT,h1];repeat (refine⟨by omega,?_⟩)
      refine key (some x2) c2 rfl a2 _ _ ⟨?_,?_,?_,?_,?_,?_⟩ ?_ _ λenv e1 e2 => ?_
      . simp
      . simp
      . simp
      . simp
      . simp
      . simp
      . simp[whB,aN]
      . refine⟨by rw[e1.h13]; rfl,fin env e1 e2 _ _ ⟨?_,?_,?_,?_,?_,?_⟩ ?_⟩;all_goals simp[e1.h0,e1.h2,e1.h3,e1.h4,e1.h12,e1.h13,show IntKind.i64.wrap 3=3 from rfl]
    . rw[Zm h1]at key;simp[he.h0,he.h2,he.h3,he.h4,he.h12,he.h13,h11,h1];refine key none c1 rfl a1 _ _ ⟨?_,?_,?_,?_,?_,?_⟩ ?_ _ λenv e1 e2 => ?_
      . simp
      . simp
      . simp
      . simp
      . simp
      . simp
      . simp[whB,aN]
      . refine⟨by rw[e1.h13]; rfl,fin env e1 e2 _ _ ⟨?_,?_,?_,?_,?_,?_⟩ ?_⟩;all_goals simp[e1.h0,e1.h2,e1.h3,e1.h4,e1.h12,e1.h13,show IntKind.i64.wrap 3=3 from rfl]
theorem Qm4:∀ (gs:List GA) (k:Nat),(∀ g∈gs,g.sets.length<=2)->(Qet k gs).length<=400*gs.length
 |[],k,_=>by simp[Qet]
 |g::r,k,h=>by
  have h1:=QoJ k g (h g (by simp));have h2:=Qm4 r (k+1) λx hx=>h x (by simp[hx]);simp[Qet]; omega
theorem QlV {v i n:Nat}:∀ (m k a:Nat),∀ g∈(Qb5 l v i n m k a).1,g.sets.length<=2
 |0,_,_,g,h=>by cases h
 |m+1,k,a,g,h=>by
  rw[Qb5,Ve]at h;rcases h with rfl|h
  . have:=Qab (l:=l) (a:=(nxD l (whC l v k a).2 3).2) (n:=3) (by decide);dsimp only[QbO];rw[Qis]; omega
  . exact QlV m _ _ g h
theorem ok68 (hd:Dr H j l) {a:Nat} (ha:a<=l.length) (hl:l.length<4611686018427387904) {v pl i n:Nat} (hv:1<=v) (h3:v<=3) (hp:1<=pl) (hp3:pl<=3) (hi:i<n) (hn:n<=4) :
 Ok Tryz.prog 68 [rp j,i64 pl,i64 v,i64 i,i64 n] (mvD H j l a) (.ret (st (B (stB (Qdc l pl v i n a).1)))) (mvD H j l (Qdc l pl v i n a).2):=by
 refine Qz hm Tryz.func68 c68 (by simp[rp]) λhcl => ?_;have hc:∀ b,closed (mvD H j l b):=λb=>by have:=Qp9 (j:=j) (l:=l) hcl b; unfold mvD at this; rwa [VA]at this
 have g1:=Qb0 hd ha hl [] 4 (by decide);have a1:=QS (n:=4) ha;have g2:=QnS hd a1 hl [] hv h3;have a2:=QfF (v:=v) (n:=4) a1;have cl:=Qhz (gx l v 4 (nxD l a 4).2).1;have g3:=Qb0 hd a1 hl [] pl (by omega);have b3:=Qab (l:=l) (a:=(nxD l a 4).2) hp;have a3:=QS (n:=pl) a1;have key:∀ (w:Option GX) (p c:Nat),QcV l pl v a=((w,p),c)->c<=l.length->∀ (env:Env),env.get 0=rp j->env.get 2=i64 v->env.get 3=i64 i->env.get 4=i64 n->env.get 11=st (B ([116,117,114,110,32]++Qd9 w p)) ->
  X Tryz.prog Tryz.f68.ntmps Qf (IC.tl 3 i68) env (mvD H j l c) (Fin H.length r68 (.ret (st (B (stB (Qdc l pl v i n a).1)))) (mvD H j l (Qdc l pl v i n a).2)):=by
  intro w p c hw hc' env h0 h2 h3' h4 h11;have wl:=Qsz w p;have e:Qdc l pl v i n a=(.turn w p (Qb5 l v i n (1+(nxD l c 3).1) 0 (nxD l c 3).2).1,(Qb5 l v i n (1+(nxD l c 3).1) 0 (nxD l c 3).2).2):=by dsimp only[Qdc]; rw[hw]
  rw[e];have g1:=Qb0 hd hc' hl [] 3 (by decide);have b1:=Qab (l:=l) (a:=c) (n:=3) (by decide);have a1:=QS (n:=3) hc';generalize nxD l c 3=q at *;obtain⟨x,d⟩:=q;simp only[VE,stB]at *;have e6:IntKind.i64.wrap (1+(x:Int))=((1+x:Nat):Int):=by rw[Qae (by omega) (by omega)]; omega
  have hal:=Qm4 _ 0 (QlV (l:=l) (v:=v) (i:=i) (n:=n) (1+x) 0 d);rw[Qhk]at hal;unfold Qi5;generalize Qd9 w p=tw at *;simp[IC.tl,i68,h0,h11,QT];repeat (refine⟨by omega,?_⟩)
  refine Qc g1 ?_;simp[e6];refine LI.cong (H':=mvD H j l d++[]) (by simp) ?_;refine QzK hd hl (v:=v) (i:=i) (n:=n) (w:=1+x) hv h3 hi hn (by omega) (1+x) 0 d ([116,117,114,110,32]++tw++[32,123,10]) [] _ a1 (by omega) (by simp; omega) ⟨?_,?_,?_,?_,?_,?_⟩ ?_ λenv G h112 => ?_
  . simp[h0]
  . simp[h2]
  . simp[h3']
  . simp[h4]
  . simp
  . simp
  . simp
  . generalize Qb5 l v i n (1+x) 0 d=r at *;simp[h112,QT,r68];repeat (refine⟨by omega,?_⟩)
    exact Qp 1 (hc _) (V8 ..).symm (by simp)
 unfold QcV at key;generalize gx l v 4 (nxD l a 4).2=q2 at *;generalize nxD l (nxD l a 4).2 pl=q3 at *;generalize nxD l a 4=q1 at *;obtain⟨x1,c1⟩:=q1;obtain⟨x2,c2⟩:=q2;obtain⟨x3,c3⟩:=q3;simp only[VE]at *;have hd41:i68=.seq (IC.nth 0 i68) (.seq (IC.nth 1 i68) (.seq (IC.nth 2 i68) (IC.tl 3 i68))):=rfl;rw[hd41];generalize IC.tl 3 i68=tl at *;have w1:IntKind.i64.wrap ((pl:Int)-1)=((pl-1:Nat):Int):=by rw[Qae (by omega) (by omega)]; omega
 simp[IC.nth,i68];refine Qc g1 ?_;rcases(by omega:x1=0\/¬ x1=0)with h1|h1
 . rw[Zn h1]at key;have g6:=λH=>Qej (H:=H) (n:=pl-1) (by omega);have ld:(dg (pl-1)).length=1:=rfl;simp[h1];refine Qc g2 ?_;simp[QT,w1];repeat (refine⟨by omega,?_⟩)
   refine Qc (g6 _) ?_;have key:=key (some x2) (pl-1) c2 rfl a2;simp only[Qd9]at key;generalize dg (pl-1)=t5 at *;simp[QT];repeat (refine⟨by omega,?_⟩)
   refine key _ ?_ ?_ ?_ ?_ ?_;all_goals simp
 . rw[Zm h1]at key;have g6:=λH=>Qej (H:=H) (n:=x3) (by omega);have ld:(dg x3).length=1:=rfl;simp[h1];refine Qc g3 ?_;simp;refine Qc (g6 _) ?_;have key:=key none x3 c3 rfl a3;simp only[Qd9]at key;generalize dg x3=t5 at *;simp[QT];repeat (refine⟨by omega,?_⟩)
   refine key _ ?_ ?_ ?_ ?_ ?_;all_goals simp
end
structure R17 (j pl v n:Nat) (env:Env):Prop where
 h3:env.get 3=rp j
 h4:env.get 4=i64 pl
 h5:env.get 5=i64 v
 h6:env.get 6=i64 n
theorem Qud (k:Nat):(Qef.getD k []).length<=6:=by
 match k with
 |0|1|2|3=>decide
 |k+4=>simp[Qef]
theorem QrN (k:Nat):(QeE.getD k []).length<=2:=by
 match k with
 |0|1|2|3=>decide
 |k+4=>simp[QeE]
section
variable {H:ZG} {j:Nat} {l:List Int}
theorem Qsd {pl v i n a:Nat}:(stB (stC l pl v i n a).1).length<=1300:=by
 unfold stC;split
 . dsimp only[Qee,stB,Qh9];have h1:=Qud (nxD l (nxD l (nxD l a 3).2 v).2 4).1;have h2:=QzG (nxD l (nxD l (nxD l (nxD l a 3).2 v).2 4).2 4).1 (nxD l (nxD l a 3).2 v).1;have h3:=Qwm (Qfm l pl (nxD l (nxD l (nxD l (nxD l a 3).2 v).2 4).2 4).2).1.1 (Qfm l pl (nxD l (nxD l (nxD l (nxD l a 3).2 v).2 4).2 4).2).1.2;have h4:(vN (nxD l (nxD l a 3).2 v).1).length=2:=rfl;simp only[Vj,Vh,VK];omega
 . dsimp only[Qdc,stB,Qi5];generalize (nxD l a 3).2=b;have h1:=Qsz (QcV l pl v b).1.1 (QcV l pl v b).1.2;have h2:=Qm4 _ 0 (QlV (l:=l) (v:=v) (i:=i) (n:=n) (1+(nxD l (QcV l pl v b).2 3).1) 0 (nxD l (QcV l pl v b).2 3).2);rw[Qhk]at h2;have h3:=Qab (l:=l) (a:=(QcV l pl v b).2) (n:=3) (by decide);simp only[Vj,Vh,VK];omega
theorem go40 (hd:Dr H j l) {a:Nat} (ha:a<=l.length) (hl:l.length<4611686018427387904) (G:ZG) {v pl:Nat} (hv:1<=v) (h3:v<=3) (hp:1<=pl) (hp3:pl<=3) :
 Ok Tryz.prog 67 [rp j,i64 pl,i64 v] (mvD H j l a++G) (.ret (st (B (stB (Qee l pl v a).1)))) (mvD H j l (Qee l pl v a).2++G):=by
 have:=ok67 (hd.app G) ha hl hv h3 hp hp3;unfold mvD at this
 rwa [Vl _ _ hd.lt,Vl _ _ hd.lt]at this
theorem go41 (hd:Dr H j l) {a:Nat} (ha:a<=l.length) (hl:l.length<4611686018427387904) (G:ZG) {v pl i n:Nat} (hv:1<=v) (h3:v<=3) (hp:1<=pl) (hp3:pl<=3) (hi:i<n) (hn:n<=4) :
 Ok Tryz.prog 68 [rp j,i64 pl,i64 v,i64 i,i64 n] (mvD H j l a++G) (.ret (st (B (stB (Qdc l pl v i n a).1)))) (mvD H j l (Qdc l pl v i n a).2++G):=by
 have:=ok68 (hd.app G) ha hl hv h3 hp hp3 hi hn;unfold mvD at this
 rwa [Vl _ _ hd.lt,Vl _ _ hd.lt]at this
theorem Qzg (hd:Dr H j l) (hl:l.length<4611686018427387904) {pl v n:Nat} (hv:v<=3) {N:Nat} {K:ZF} :
 ∀ (m i a:Nat) (P:ZE) (G:ZG) (env:Env),a<=l.length->i+m=v->P.length+40*m<=1000000->R17 j pl v n env->env.get 7=st (B P)->env.get 8=i64 i ->
  (∀ env G,R17 j pl v n env->env.get 7=st (B (P++Qdh i (QbC l m a).1))->K (.exit 0) env (mvD H j l (QbC l m a).2++G))->LI Tryz.prog N Qf Qjc env (mvD H j l a++G) K:=by
 intro m
 induction m with
 |zero =>
  intro i a P G env ha hm' hP he h7 h8 hk;refine Qu hm Qjc.eq_1 ?_;have:i=v:=by omega
  subst this;simp[he.h5,h8];refine hk _ _ ⟨?_,?_,?_,?_⟩ ?_;all_goals simp[he.h3,he.h4,he.h6,h7,Qdh,QbC]
 |succ m ih =>
  intro i a P G env ha hm9 hP he h7 h8 hk;refine Qu hm Qjc.eq_1 ?_;have hiv:(i:Int)<v:=by omega
  have hiv':i<v:=by omega
  have g1:=λH=>Qej (H:=H) (n:=i) (by omega);have ld:(dg i).length=1:=rfl;have g2:=λL k (h:L[k]? = some ⟨wds QeE,9,0,true⟩)=>go39 hd ha hl L (x:=.own (H.length+k) 0 4 1 0) (ws:=QeE) (λb=>row1 h rfl b) (by decide) (by decide);have a1:=QS (n:=4) ha;simp only[show QeE.length=4 from rfl]at g2;have wl:=QrN (nxD l a 4).1;have hk2:∀ env G,R17 j pl v n env->env.get 7=st (B ((P++[118,97,114,32,118]++dg i++[32,61,32]++QeE.getD (nxD l a 4).1 []++[59,10])++Qdh (i+1) (QbC l m (nxD l a 4).2).1))->K (.exit 0) env (mvD H j l (QbC l m (nxD l a 4).2).2++G):=by
   intro env G e1 e2;refine hk env G e1 ?_;rw[e2]; simp[QbC,Qdh]
  clear hk;have ih:=λP G env=>ih (i+1) (nxD l a 4).2 P G env a1 (by omega);generalize QbC l m (nxD l a 4).2=r at *;generalize nxD l a 4=q at *;obtain⟨x,c⟩:=q;simp only at *;generalize QeE.getD x []=tx at *;generalize dg i=t1 at *;simp[he.h3,he.h5,h7,h8,hiv,QT];repeat (refine⟨by omega,?_⟩)
  refine Qc (g1 _) ?_;simp[he.h3,he.h5,h7,h8,QT];repeat (refine⟨by omega,?_⟩)
  refine Qc (g2 _ G.length (by simp; rfl)) ?_;simp[he.h3,he.h5,h7,h8,QT];repeat (refine⟨by omega,?_⟩)
  refine ih (P++[118,97,114,32,118]++t1++[32,61,32]++tx++[59,10]) _ _ (by simp; omega) ⟨?_,?_,?_,?_⟩ ?_ ?_ hk2;all_goals simp[he.h4,he.h6,QaH (show i<9223372036854775807 by omega)]
theorem Quc (hd:Dr H j l) (hl:l.length<4611686018427387904) {pl v n:Nat} (hp:1<=pl) (hp3:pl<=3) (hv1:1<=v) (hv:v<=3) (hn:n<=4) {N:Nat} {K:ZF} :
 ∀ (m i a:Nat) (P:ZE) (G:ZG) (env:Env),a<=l.length->i+m=n->P.length+1400*m<=1000000->R17 j pl v n env->env.get 7=st (B P)->env.get 9=i64 i ->
  (∀ env G,R17 j pl v n env->env.get 7=st (B (P++Qdn i (QbJ l pl v n m i a).1))->K (.exit 2) env (mvD H j l (QbJ l pl v n m i a).2++G))->LI Tryz.prog N Qf Qlc env (mvD H j l a++G) K:=by
 intro m
 induction m with
 |zero =>
  intro i a P G env ha hm' hP he h7 h8 hk;refine Qu hm Qlc.eq_1 ?_;have:i=n:=by omega
  subst this;simp[he.h6,h8];refine hk _ _ ⟨?_,?_,?_,?_⟩ ?_;all_goals simp[he.h3,he.h4,he.h5,h7,Qdn,QbJ]
 |succ m ih =>
  intro i a P G env ha hm9 hP he h7 h8 hk;refine Qu hm Qlc.eq_1 ?_;have hiv:(i:Int)<n:=by omega
  have hiv':i<n:=by omega
  have g1:=λH=>Qej (H:=H) (n:=i) (by omega);have ld:(dg i).length=1:=rfl;have g2:=Qb0 hd ha hl G 3 (by decide);have a1:=QS (n:=3) ha;have g3:=go40 hd a1 hl G hv1 hv hp hp3;have g4:=go41 hd a1 hl G hv1 hv hp hp3 hiv' hn;have sl:=Qsd (l:=l) (pl:=pl) (v:=v) (i:=i) (n:=n) (a:=a);have a2:=Qpg (pl:=pl) (v:=v) (i:=i) (n:=n) ha;have hk2:∀ env G,R17 j pl v n env->env.get 7=st (B ((P++[115]++dg i++[58,32]++stB (stC l pl v i n a).1)++Qdn (i+1) (QbJ l pl v n m (i+1) (stC l pl v i n a).2).1))->K (.exit 2) env (mvD H j l (QbJ l pl v n m (i+1) (stC l pl v i n a).2).2++G):=by
   intro env G e1 e2;refine hk env G e1 ?_;rw[e2]; simp[QbJ,Qdn,lbB]
  clear hk;have ih:=λP G env=>ih (i+1) (stC l pl v i n a).2 P G env a2 (by omega);generalize QbJ l pl v n m (i+1) (stC l pl v i n a).2=r at *;unfold stC at *;generalize Qee l pl v (nxD l a 3).2=q3 at *;generalize Qdc l pl v i n (nxD l a 3).2=q4 at *;generalize nxD l a 3=q at *;obtain⟨x,c⟩:=q;obtain⟨y3,c3⟩:=q3;obtain⟨y4,c4⟩:=q4;simp only at *;generalize dg i=t1 at *;simp[he.h3,he.h4,he.h5,he.h6,h7,h8,hiv,QT];repeat (refine⟨by omega,?_⟩)
  refine Qc (g1 _) ?_;simp[he.h3,he.h4,he.h5,he.h6,h7,h8,QT];repeat (refine⟨by omega,?_⟩)
  refine Qc g2 ?_;rcases(by omega:x=0\/¬ x=0)with h1|h1
  . simp only[Zn h1]at *;simp[he.h3,he.h4,he.h5,he.h6,h7,h8,h1];refine Qc g3 ?_;generalize stB y3=ts at *;simp[he.h3,he.h4,he.h5,he.h6,h7,h8,QT];repeat (refine⟨by omega,?_⟩)
    refine ih (P++[115]++t1++[58,32]++ts) _ _ (by simp; omega) ⟨?_,?_,?_,?_⟩ ?_ ?_ hk2;all_goals simp[QaH (show i<9223372036854775807 by omega)]
  . simp only[Zm h1]at *;simp[he.h3,he.h4,he.h5,he.h6,h7,h8,h1];refine Qc g4 ?_;generalize stB y4=ts at *;simp[he.h3,he.h4,he.h5,he.h6,h7,h8,QT];repeat (refine⟨by omega,?_⟩)
    refine ih (P++[115]++t1++[58,32]++ts) _ _ (by simp; omega) ⟨?_,?_,?_,?_⟩ ?_ ?_ hk2;all_goals simp[QaH (show i<9223372036854775807 by omega)]
theorem Qvj (hd:Dr H j l) (hl:l.length<4611686018427387904) {pl v:Nat} (hp3:pl<=3) (hv1:1<=v) (hv:v<=3) {G:ZG} {N:Nat} {K:ZF} :
 ∀ (m i a:Nat) (P:ZE) (env:Env),a<=l.length->i+m=pl->P.length+50*m<=1000000->env.get 3=rp j->env.get 4=i64 pl->env.get 5=i64 v->env.get 7=st (B P)->env.get 10=i64 i ->
  (∀ env,env.get 7=st (B (P++QdG (decide (0<i)) (Qb9 l v m a).1))->K (.exit 4) env (mvD H j l (Qb9 l v m a).2++G))->LI Tryz.prog N Qf Qkx env (mvD H j l a++G) K:=by
 intro m
 induction m with
 |zero =>
  intro i a P env ha hm' hP h3 h4 h5 h7 h8 hk;refine Qu hm Qkx.eq_1 ?_;have:i=pl:=by omega
  subst this;simp[h4,h8];refine hk _ ?_;simp[h7,QdG,Qb9]
 |succ m ih =>
  intro i a P env ha hm9 hP h3 h4 h5 h7 h8 hk;refine Qu hm Qkx.eq_1 ?_;have hiv:(i:Int)<pl:=by omega
  have hiv':i<pl:=by omega
  have g1:=go42 hd ha hl G hv1 hv;have a1:=QfF (v:=v) (n:=8) ha;have el:=Qma (gx l v 8 a).1;have hk2:∀ env,env.get 7=st (B ((P++(if 0<i then [44,32]else [])++exB (gx l v 8 a).1)++QdG (decide (0<i+1)) (Qb9 l v m (gx l v 8 a).2).1))->K (.exit 4) env (mvD H j l (Qb9 l v m (gx l v 8 a).2).2++G):=by
   intro env e2;refine hk env ?_;rw[e2]; simp[Qb9,QdG]
  clear hk;have ih:=λP env=>ih (i+1) (gx l v 8 a).2 P env a1 (by omega);generalize Qb9 l v m (gx l v 8 a).2=r at *;generalize gx l v 8 a=q at *;obtain⟨x,c⟩:=q;simp only at *;generalize exB x=tx at *;rcases(by omega:0<i\/i=0)with h1|h1
  . simp only[Zn h1]at *;simp[h3,h4,h5,h7,h8,hiv,QT,h1];repeat (refine⟨by omega,?_⟩)
    refine Qc g1 ?_;simp[h3,h4,h5,h7,h8,QT];repeat (refine⟨by omega,?_⟩)
    refine ih (P++[44,32]++tx) _ (by simp; omega) ?_ ?_ ?_ ?_ ?_ hk2;all_goals simp[QaH (show i<9223372036854775807 by omega)]
  . simp only[Zm (show ¬ 0<i by omega)]at *;subst h1;simp[h3,h4,h5,h7,h8,hiv'];repeat (refine⟨by omega,?_⟩)
    refine Qc g1 ?_;simp[h3,h4,h5,h7,h8,QT];repeat (refine⟨by omega,?_⟩)
    refine ih (P++[]++tx) _ (by simp; omega) ?_ ?_ ?_ ?_ ?_ hk2;all_goals simp[show IntKind.i64.wrap 1=1 from rfl]
end
theorem Qm5:∀ (cs:List Nat) (i:Nat),(Qdh i cs).length<=40*cs.length
 |[],_=>by simp[Qdh]
 |c::r,i=>by
  have h1:=QrN c;have h2:=Qm5 r (i+1);simp only[Qdh,dg,Vj,Vh,VK]; omega
theorem Ql1 {l:List Int}:∀ {m a:Nat},(QbC l m a).1.length=m
 |0,_=>rfl
 |m+1,_=>Zp (· + 1) (Ql1 (m:=m))
theorem Qmn {l:List Int} {pl v n:Nat}:∀ {m i a:Nat},(QbJ l pl v n m i a).1.length=m
 |0,_,_=>rfl
 |m+1,_,_=>Zp (· + 1) (Qmn (m:=m))
theorem Qlp {l:List Int} {v:Nat}:∀ {m a:Nat},(Qb9 l v m a).1.length=m
 |0,_=>rfl
 |m+1,_=>Zp (· + 1) (Qlp (m:=m))
theorem QmG {l:List Int} {pl v n:Nat}:∀ (m i a:Nat),(Qdn i (QbJ l pl v n m i a).1).length<=1400*m
 |0,_,_=>by simp[Qdn,QbJ]
 |m+1,i,a=>by
  have h1:=Qsd (l:=l) (pl:=pl) (v:=v) (i:=i) (n:=n) (a:=a);have h2:=QmG (l:=l) (pl:=pl) (v:=v) (n:=n) m (i+1) (stC l pl v i n a).2;simp only[QbJ,Qdn,lbB,dg,Vj,Vh,VK]; omega
theorem Ql0:∀ (cs:List GX) (b:Bool),(QdG b cs).length<=50*cs.length
 |[],_=>by simp[QdG]
 |c::r,b=>by
  have h1:=Qma c;have h2:=Ql0 r true
  cases b<;>simp only[QdG,Zs,Vt,Zt,Vj,Vh,VK]<;>omega
section
variable {H:ZG} {l:List Int}
theorem ok25 (hl:l.length<4611686018427387904):Ok Tryz.prog 25 [.slc (QE l) l.length] H (.ret (st (B (Qc1 (QbG l))))) H:=by
 refine Qz hm Tryz.func25 c25 (by simp[QE]) λhcl => ?_;have hd:Dr (H++[drO l 0]) H.length l:=⟨0,by simp⟩;have e0:∀ b,H++[drO l b]=mvD (H++[drO l 0]) H.length l b:=λb=>by simp[mvD]
 have g1:=Qb0 hd (Yc _) hl [] 3 (by decide);have a1:=QS (n:=3) (Yc l.length);have b1:=Qab (l:=l) (a:=0) (n:=3) (by decide);have g2:=Qb0 hd a1 hl [] 3 (by decide);have a2:=QS (n:=3) a1;have b2:=Qab (l:=l) (a:=(nxD l 0 3).2) (n:=3) (by decide);have g3:=Qb0 hd a2 hl [] 4 (by decide);have a3:=QS (n:=4) a2;have b3:=Qab (l:=l) (a:=(nxD l (nxD l 0 3).2 3).2) (n:=4) (by decide);have g4:=Qb0 hd a3 hl [] 9 (by decide);have a4:=QS (n:=9) a3;have b4:=Qab (l:=l) (a:=(nxD l (nxD l (nxD l 0 3).2 3).2 4).2) (n:=9) (by decide);dsimp only[QbG,Qc1];rw[Qmn];generalize nxD l (nxD l (nxD l (nxD l 0 3).2 3).2 4).2 9=q4 at *;generalize nxD l (nxD l (nxD l 0 3).2 3).2 4=q3 at *;generalize nxD l (nxD l 0 3).2 3=q2 at *;generalize nxD l 0 3=q1 at *;obtain⟨x1,c1⟩:=q1;obtain⟨x2,c2⟩:=q2;obtain⟨x3,c3⟩:=q3;obtain⟨x4,c4⟩:=q4;simp only[VE]at *;have w1:IntKind.i64.wrap (1+(x1:Int))=((1+x1:Nat):Int):=by rw[Qae (by omega) (by omega)]; omega
 have w2:IntKind.i64.wrap (1+(x2:Int))=((1+x2:Nat):Int):=by rw[Qae (by omega) (by omega)]; omega
 have w3:IntKind.i64.wrap (1+(x3:Int))=((1+x3:Nat):Int):=by rw[Qae (by omega) (by omega)]; omega
 have k1:=λH=>Qej (H:=H) (n:=x4) (by omega);have k2:=λH=>Qej (H:=H) (n:=1+x1) (by omega);have k3:=λH=>Qej (H:=H) (n:=1+x3) (by omega);have l1:(dg x4).length=1:=rfl;have l2:(dg (1+x1)).length=1:=rfl;have l3:(dg (1+x3)).length=1:=rfl;rw[<-e0]at g1;simp -implicitDefEqProofs[i25,r25];refine Qc g1 ?_;have hlen:(H++[drO l 0]).length=H.length+1:=by simp
 clear g1;generalize H++[drO l 0]=HH at *;simp -implicitDefEqProofs[w1];refine Qc g2 ?_;simp -implicitDefEqProofs[w2];refine Qc g3 ?_;simp -implicitDefEqProofs[w3];refine Qc g4 ?_;simp -implicitDefEqProofs;refine Qc (k1 _) ?_;simp -implicitDefEqProofs[QT,l1];refine Qc (k2 _) ?_;simp -implicitDefEqProofs[QT,l1,l2];clear k1 k2 g2 g3 g4;refine LI.cong (H':=mvD HH H.length l c4++[]) (by simp) ?_;have i1:=Qm5 (QbC l (1+x2) c4).1 0;rw[Ql1]at i1;have a5:=Qsk (m:=1+x2) a4;refine Qzg hd hl (pl:=1+x1) (v:=1+x2) (n:=1+x3) (by omega) (1+x2) 0 c4 ([103,97,109,101,32,103]++dg x4++[59,10,112,108,97,121,101,114,115,32]++dg (1+x1)++[59,10]) [] _ a4 (by omega) (by simp[l1,l2]; omega) ⟨?_,?_,?_,?_⟩ ?_ ?_ λenv G he h7 => ?_
 . simp[rp]
 . simp
 . simp
 . simp
 . simp
 . simp
 generalize QbC l (1+x2) c4=qi at *;obtain⟨ci,c5⟩:=qi;simp only at *;simp -implicitDefEqProofs;have i2:=QmG (l:=l) (pl:=1+x1) (v:=1+x2) (n:=1+x3) (1+x3) 0 c5;have i3:=Qmn (l:=l) (pl:=1+x1) (v:=1+x2) (n:=1+x3) (m:=1+x3) (i:=0) (a:=c5);have a6:=QqC (pl:=1+x1) (v:=1+x2) (n:=1+x3) (m:=1+x3) (i:=0) a5;refine Quc hd hl (pl:=1+x1) (v:=1+x2) (n:=1+x3) (by omega) (by omega) (by omega) (by omega) (by omega) (1+x3) 0 c5 ([103,97,109,101,32,103]++dg x4++[59,10,112,108,97,121,101,114,115,32]++dg (1+x1)++[59,10]++Qdh 0 ci) G _ a5 (by omega) (by simp[l1,l2]; omega) ⟨?_,?_,?_,?_⟩ ?_ ?_ λenv G he h7 => ?_
 . simp[he.h3]
 . simp[he.h4]
 . simp[he.h5]
 . simp[he.h6]
 . simp[h7]
 . simp
 generalize QbJ l (1+x1) (1+x2) (1+x3) (1+x3) 0 c5=qs at *;obtain⟨ss,c6⟩:=qs;simp only at *;generalize Qdn 0 ss=ts at *;generalize Qdh 0 ci=ti at *;have i4:=Ql0 (Qb9 l (1+x2) (1+x1) c6).1 false;rw[Qlp]at i4;have lp:=λP env K=>Qvj hd hl (pl:=1+x1) (v:=1+x2) (by omega) (by omega) (by omega) (G:=G) (N:=Tryz.f25.ntmps) (K:=K) (1+x1) 0 c6 P env a6 (by omega);generalize Qb9 l (1+x2) (1+x1) c6=qp at *;obtain⟨ps,c7⟩:=qp;simp only[show decide (0<0)=false from rfl]at *;generalize QdG false ps=tp at *;simp -implicitDefEqProofs[he.h6,h7,QT,l1,l2];repeat (refine⟨by omega,?_⟩)
 refine Qc (k3 _) ?_;generalize dg x4=t1 at *;generalize dg (1+x1)=t2 at *;generalize dg (1+x3)=t3 at *;simp -implicitDefEqProofs[QT,l1,l2];repeat (refine⟨by omega,?_⟩)
 refine lp ([103,97,109,101,32,103]++t1++[59,10,112,108,97,121,101,114,115,32]++t2++[59,10]++ti++ts++[115]++t3++[58,32,101,110,100,32,123,32,112,97,121,32]) _ _ (by simp; omega) ?_ ?_ ?_ ?_ ?_ λenv h72 => ?_
 . simp[he.h3]
 . simp[he.h4]
 . simp[he.h5]
 . simp
 . simp
 simp -implicitDefEqProofs[h72,QT];repeat (refine⟨by omega,?_⟩)
 rw[<-e0,Vz];exact Qp 1 hcl rfl (by simp)
end
theorem Qny:∀ (ts:List Tok) (i:Nat),i+ts.length<=5000->QbZ i (ts.map .tok)=(0,0)
 |[],_,_=>rfl
 |t::r,i,h=>by
  simp only[Vh]at h;rw[Vn,QbZ,Zm (by omega)];exact Qny r (i+1) (by omega)
theorem QhM {ts:List Tok} {ks:List TK} (h:Qbo ts ks):ts.length=ks.length:=by
 induction h with
 |nil=>rfl
 |cons _ _ ih=>simp[ih]
theorem QxC {ps:List Pc} (hg:QcQ ps) (h1:(txt ps).length<=20000) (h2:(tks ps).length<=5000):(Qv (txt ps)).2.1=0:=by
 obtain⟨ts,g1,g2,_⟩:=Qh0 ps hg [] (txt ps).length (Vb _) (.inl (.inl rfl));have g1:Qaz (txt ps)=ts.map .tok:=g1;have hf:=Qny ts 0 (by rw[QhM g2]; omega);unfold Qv;rw[Zm (by omega),g1,hf,Zn rfl]
theorem Qqz (g:GX):(tks (Qck g)).length<=11:=by
 unfold Qck;repeat' split
 all_goals simp[tks]
theorem QqY (g:GX):(tks (Qbb g)).length<=11:=by
 unfold Qbb;repeat' split
 all_goals simp[tks]
theorem Qpy:∀ l:List (Nat×GX),(tks (l.flatMap Qbh)).length<=20*l.length
 |[]=>by simp[tks]
 |s::r=>by
  have h1:=Qpy r;have h2:=Qqz s.2;rw[VO,Qar,Vj,Vh];simp[Qbh,tks,Qar]; omega
theorem QyT {k:Nat} {g:GA} (h:g.sets.length<=2):(tks (Qdz k g)).length<=80:=by
 have h1:(tks (QeZ g.wh)).length<=12:=by
  cases g.wh with
  |none=>simp[QeZ,tks]
  |some c=>have:=QqY c; simp[QeZ,tks]; omega
 have h2:(tks (Qdr kwH g.hid)).length<=1:=by cases g.hid<;>decide
 have h3:=Qpy g.sets;have h4:(tks (QcK g.go)).length<=3:=by cases g.go<;>simp[QcK,tks]
 simp[Qdz,tks,Qar,pnl]; omega
theorem Qro:∀ (l:List GA) (k:Nat),(∀ a∈l,a.sets.length<=2)->(tks (Qcq k l)).length<=80*l.length
 |[],_,_=>by simp[Qcq,tks]
 |g::r,k,h=>by
  have h1:=QyT (k:=k) (h g (by simp));have h2:=Qro r (k+1) λa ha=>h a (by simp[ha]);rw[Qcq,Qar,Vj,Vh]; omega
theorem QwY {pl v n i:Nat} {g:GS} (h:g.Wf pl v n i):(tks (QeM g)).length<=300:=by
 cases g with
 |deal x r w s p =>
  have h1:(tks (QcB w x)).length<=30:=by
   unfold QcB wgX;repeat' split
   all_goals simp[tks]
  have h2:(tks (QbA s p)).length<=3:=by
   unfold QbA;repeat' split
   all_goals simp[tks]
  simp[QeM,QeB,tks,Qar,pnl]; omega
 |turn w p acts =>
  have h1:(tks (QcX w p)).length<=20:=by
   cases w with
   |none=>simp[QcX,tks]
   |some c=>have:=QqY c; simp[QcX,tks,Qar]; omega
  have h2:=Qro acts 0 λa ha=>(h.2.2.2.2 a ha).len;have h3:=h.2.2.2.1;simp[QeM,QfO,tks,Qar,pnl]; omega
theorem QqD {pl v n:Nat}:∀ (l:List GS) (i:Nat),Qfh pl v n i l->(tks (Qcv i l)).length<=310*l.length
 |[],_,_=>by simp[Qcv,tks]
 |g::r,i,h=>by
  have h1:=QwY h.1;have h2:=QqD r (i+1) h.2;simp only[Qcv,Qar,Vj,Vh];simp[tks]; omega
theorem QsR:∀ (l:List Nat) (i:Nat),(tks (Qcy i l)).length<=10*l.length
 |[],_=>by simp[Qcy,tks]
 |c::r,i=>by
  have h2:=QsR r (i+1);have h1:(tks (Qe3 c)).length<=2:=by
   unfold Qe3;repeat' split
   all_goals simp[tks]
  simp only[Qcy,Qar,Vj,Vh];simp[tks,pnl]; omega
theorem Qpo:∀ (l:List GX) (b:Bool),(tks (QaQ b l)).length<=20*l.length
 |[],_=>by simp[QaQ,tks]
 |g::r,b=>by
  have h1:=Qqz g;have h2:=Qpo r true
  cases b<;>(simp[QaQ,tks,Qar]; omega)
theorem QoK {g:GR} (h:g.Wf):(tks (QdT g)).length<=5000:=by
 have h1:=QsR g.ini 0;have h2:=QqD g.stages 0 h.sts;have h3:=Qpo g.pays false;have:=h.inl;have:=h.v3;have:=h.st4;have:=h.payl;have:=h.pl3;simp[QdT,tks,Qar,pnl]; omega
theorem Qus (l:List Int):(Qc1 (QbG l)).length<=6000:=by
 dsimp only[QbG,Qc1];have b1:=Qab (l:=l) (a:=0) (n:=3) (by decide);have b2:=Qab (l:=l) (a:=(nxD l 0 3).2) (n:=3) (by decide);have b3:=Qab (l:=l) (a:=(nxD l (nxD l 0 3).2 3).2) (n:=4) (by decide);generalize nxD l (nxD l (nxD l 0 3).2 3).2 4=q3 at *;generalize nxD l (nxD l 0 3).2 3=q2 at *;generalize nxD l 0 3=q1 at *;have i1:=Qm5 (QbC l (1+q2.1) (nxD l q3.2 9).2).1 0;rw[Ql1]at i1;have i2:=QmG (l:=l) (pl:=1+q1.1) (v:=1+q2.1) (n:=1+q3.1) (1+q3.1) 0 (QbC l (1+q2.1) (nxD l q3.2 9).2).2;have i3:=Ql0 (Qb9 l (1+q2.1) (1+q1.1) (QbJ l (1+q1.1) (1+q2.1) (1+q3.1) (1+q3.1) 0 (QbC l (1+q2.1) (nxD l q3.2 9).2).2).2).1 false;rw[Qlp]at i3;simp only[Vj,Vh,VK,dg];omega
theorem Qsn (l:List Int):(Qc1 (QbG l)).length<=20000:=Vg (Qus l) (by decide)
theorem QmT (l:List Int):(Qv (Qc1 (QbG l))).2.1=0/\Qbo (Qv (Qc1 (QbG l))).1 (tks (QdT (QbG l))):=by
 have h:=QlY l;rw[<-QlE h];have h1:=QxC (Qnq h) (by rw[QlE h]; exact Qsn l) (QoK h);exact⟨h1,Qnv (Qnq h) h1⟩
def Qgl (s:Nat×GX):Qo:=⟨vN s.1,exE s.2,0⟩
def whL (w:Option GX):List Ex:=match w with
 |none=>[]
 |some c=>[cdE c]
def goN (w:Option Nat):ZE:=match w with
 |none=>[]
 |some t=>sN t
def Qfr (k:Nat) (g:GA):Qm:=⟨aN k,whL g.wh,g.hid,g.sets.map Qgl,goN g.go,0⟩
def QdQ:Nat->List GA->List Qm
 |_,[]=>[]
 |k,g::r=>Qfr k g::QdQ (k+1) r
def QhH (w:Option GX) (p:Nat):Ex:=match w with
 |none=>eIn p
 |some g=>eOp 20 [cdE g,eIn 0,eIn p]
def wgE (w x:Nat):List Ex :=
 if w=0 then [eOp 8 [eIn 1,eNm x]]else if w=1 then [eOp 20 [eOp 10 [eNm x,eIn 1],eIn 2,eIn 1]]
 else if w=2 then [eOp 8 [eOp 19 [eNm x,eIn 0],eOp 20 [eOp 10 [eNm x,eIn 2],eIn 0,eIn 1]]]else []
def QfQ (i:Nat):GS->Qb
 |.deal x r w s p=>⟨1,sN i,vN x,loV r,hiV r,wgE w x,decide (s=0),if s=1 then [(p:Int)]else [],[],[],[],0⟩
 |.turn w p acts=>⟨2,sN i,[],0,0,[],false,[],[QhH w p],QdQ 0 acts,[],0⟩
def QiM (n:Nat) (l:List GX):Qb:=⟨3,sN n,[],0,0,[],false,[],[],[],l.map exE,0⟩
def QdP:Nat->List GS->List Qb
 |_,[]=>[]
 |i,g::r=>QfQ i g::QdP (i+1) r
def Qff (c:Nat):Int:=if c=0 then 0 else if c=1 then 1 else if c=2 then -1 else 2
def Qdt:Nat->List Nat->List Ql
 |_,[]=>[]
 |i,c::r=>⟨vN i,Qff c,0⟩::Qdt (i+1) r
def QnO (g:GR):Qx:=⟨gN g.nm,g.pl,Qdt 0 g.ini,QdP 0 g.stages++[QiM g.stages.length g.pays]⟩
theorem res2 {a b:UInt8} (h:(QaU.all λw=>decide (w.length≠2)||decide (w.headD 0≠a))=true):[a,b]∉QaU:=by
 intro hm;have:=Vm.1 h _ hm;simp at this
theorem QmB (i:Nat):sN i∉QaU:=res2 (by decide)
theorem QAu (i:Nat):gN i∉QaU:=res2 (by decide)
theorem Quw (k:Nat):aN k∉QaU:=by
 intro hm;have h:∀ w∈QaU,w.length≠1:=by decide
 exact h _ hm rfl
section
variable {c:Cx} {r:Rd} {L:List TK}
theorem Qhc {l:List TK} {e:Ex} (h:Whole c 40 l e) (hs:Sta c 40 r (l++L)) (hL:Qe7 L):Sta c 40 (orT c r).2 L/\(orT c r).1.er=e.er:=h r L hs hL
theorem QAZ {s:Nat×GX} {acc:List Qo} (ha:acc.length<32) (h:Sta c 40 r (tks (Qbh s)++L)):Sta c 40 (QaD c (orT c) acc r).2 L/\(QaD c (orT c) acc r).1.er=(Qgl s).er:=by
 have h:Sta c 40 r (.wd (vN s.1)::.sg [61]::(tks (Qck s.2)++.sg [59]::L)):=by
  unfold Qbh at h; simpa[tks,Qar]using h
 unfold QaD;simp only;rw[Zm (by omega)];obtain⟨g1,g2⟩:=h.word (QhX s.1);rw[g1];obtain⟨g4,g5⟩:=Qhc (QlC s.2) (g2.t2 (s:=[61]) rfl) (QcT (s:=[59]) (by decide) (.inl rfl) L);refine⟨g4.t2 rfl,?_⟩;unfold Qo.er;simp only[g5,Qgl]
theorem Qp6:∀ (ss:List (Nat×GX)) (n:Nat) (acc:List Qo) (r:Rd),ss.length<n->acc.length+ss.length<32->Sta c 40 r (tks (ss.flatMap Qbh)++.sg [125]::L) ->
 Sta c 40 (QaO c (orT c) n acc r).2 (.sg [125]::L)/\∃ l,(QaO c (orT c) n acc r).1=acc++l/\l.map Qo.er=(ss.map Qgl).map Qo.er
 |[],n,acc,r,hn,ha,h=>by
  have h:Sta c 40 r (.sg [125]::L):=h
  cases n with
  |zero=>simp at hn
  |succ n =>
   rw[QaO,Zm (by rintro⟨_,h2⟩; rw[h.peek]at h2; cases h2)]
   exact⟨h,[],by simp,rfl⟩
 |s::ss,n,acc,r,hn,ha,h=>by
  have h:Sta c 40 r (tks (Qbh s)++(tks (ss.flatMap Qbh)++.sg [125]::L)):=by
   rw[VO,Qar,Vz]at h; exact h
  simp only[Vh]at hn ha
  cases n with
  |zero=>omega
  |succ n =>
   have hp:Qd c [125] r=false:=by rw[h.peek]; rfl
   rw[QaO,Zn ⟨h.e,hp⟩];obtain⟨g1,g2⟩:=QAZ (acc:=acc) (by omega) h;obtain⟨g3,l,g4,g5⟩:=Qp6 ss n (acc++[(QaD c (orT c) acc r).1]) _ (by omega) (by simp; omega) g1;refine⟨g3,(QaD c (orT c) acc r).1::l,by rw[g4]; simp,?_⟩;simp only[Vn,g2,g5]
theorem QAr {w:ZE} {b:Bool} (hL:pk L w=false) (h:Sta c 40 r (tks (Qdr w b)++L)):Sta c 40 (QaK c w r).2 L/\(QaK c w r).1=b:=by
 unfold QaK
 cases b with
 |true =>
  have h:Sta c 40 r (.wd w::L):=h;rw[Zn (by rw[h.peek]; simp[pk])];exact⟨h.t2 (by simp[pk]),rfl⟩
 |false =>
  have h:Sta c 40 r L:=h;rw[Zm (by rw[h.peek,hL]; decide)];exact⟨h,rfl⟩
theorem QA1 {w:Option Nat} (hL:pk L QhB=false) (h:Sta c 40 r (tks (QcK w)++L)):Sta c 40 (Qa9 c r).2 L/\(Qa9 c r).1=goN w:=by
 unfold Qa9
 cases w with
 |none =>
  have h:Sta c 40 r L:=h;rw[Zm (by rw[h.peek]; exact λh=>by rw[show pk L [103,111,116,111]=false from hL]at h; cases h)]
  exact⟨h,rfl⟩
 |some t =>
  have h:Sta c 40 r (.wd QhB::.wd (sN t)::.sg [59]::L):=h;rw[Zn (by rw[h.peek]; rfl)];obtain⟨h2,h3⟩:=(h.t2 (s:=[103,111,116,111]) rfl).word (QmB t);rw[h2];exact⟨h3.t2 rfl,rfl⟩
theorem QpU {k:Nat} {g:GA} (hl:g.sets.length<=2) (hL:pk L QhB=false) (h:Sta c 40 r (tks (Qdz k g)++L)):Sta c 40 (QM c (orT c) r).2 L/\(QM c (orT c) r).1.er=(Qfr k g).er:=by
 have h:Sta c 40 r (.wd Qh1::.wd (aN k)::(tks (QeZ g.wh)++(tks (Qdr kwH g.hid)++.sg [123]::(tks (g.sets.flatMap Qbh)++.sg [125]::(tks (QcK g.go)++L))))):=by
  unfold Qdz at h; simpa[tks,Qar,pnl]using h
 unfold QM;simp only;have g1:=(h.take (s:=[97,99,116,105,111,110]) rfl).2;obtain⟨g2,g3⟩:=g1.word (Quw k);rw[g2];simp only;generalize Qa (Qh c [97,99,116,105,111,110] r).2=r1 at g3 ⊢;have hfl:∀ X:List TK,Qe7 (tks (Qdr kwH g.hid)++.sg [123]::X)/\pk (tks (Qdr kwH g.hid)++.sg [123]::X) Qie=false:=by
  intro X
  cases g.hid with
  |true=>exact⟨QcT (s:=kwH) (by decide) (.inr rfl) _,rfl⟩
  |false=>exact⟨QcT (s:=[123]) (by decide) (.inl rfl) _,rfl⟩
 have k12:Sta c 40 (QaM c (orT c) [119,104,101,110] r1).2 (tks (Qdr kwH g.hid)++.sg [123]::(tks (g.sets.flatMap Qbh)++.sg [125]::(tks (QcK g.go)++L)))/\Ex.erL (QaM c (orT c) [119,104,101,110] r1).1=Ex.erL (whL g.wh):=by
  unfold QaM
  cases hw:g.wh with
  |none =>
   rw[hw]at g3;have g3:Sta c 40 r1 (tks (Qdr kwH g.hid)++.sg [123]::(tks (g.sets.flatMap Qbh)++.sg [125]::(tks (QcK g.go)++L))):=g3;rw[Zm (by rw[g3.peek]; exact λh=>by rw[show pk _ [119,104,101,110]=false from(hfl _).2]at h; cases h)]
   exact⟨g3,rfl⟩
  |some w =>
   rw[hw]at g3;have g3:Sta c 40 r1 (.wd Qie::(tks (Qbb w)++(tks (Qdr kwH g.hid)++.sg [123]::(tks (g.sets.flatMap Qbh)++.sg [125]::(tks (QcK g.go)++L))))):=g3;rw[Zn (by rw[g3.peek]; rfl)];obtain⟨m1,m2⟩:=Qhc (Qsr w) (g3.t2 (s:=[119,104,101,110]) rfl) (hfl _).1;exact⟨m1,by simp only[Ex.erL,whL,m2]⟩
 obtain⟨k1,k2⟩:=k12;obtain⟨k3,k4⟩:=QAr (w:=[104,105,100,100,101,110]) (b:=g.hid) rfl k1;have k5:=k3.t2 (s:=[123]) rfl;have hle:=k5.len;have hsl:g.sets.length<c.ts.length+1:=by
  rw[Vj]at hle;have:∀ ss:List (Nat×GX),ss.length<=(tks (ss.flatMap Qbh)).length:=by
   intro ss
   induction ss with
   |nil=>simp
   |cons s ss ih =>
    rw[VO,Qar,Vj];have:1<=(tks (Qbh s)).length:=by unfold Qbh; simp[tks]
    simp only[Vh]; omega
  have:=this g.sets;omega
 obtain⟨k6,l,k7,k8⟩:=Qp6 g.sets (c.ts.length+1) [] _ hsl (by simp; omega) k5;have k9:=k6.t2 (s:=[125]) rfl;obtain⟨m1,m2⟩:=QA1 hL k9;refine⟨m1,?_⟩;unfold Qm.er;simp only[k2,k4,k7,Vx,k8,m2,Qfr]
theorem Qsv:∀ (ms:List GA) (k n:Nat) (acc:List Qm) (r:Rd),ms.length<=n->acc.length+ms.length<=10->(∀ a∈ms,a.sets.length<=2)->Sta c 40 r (tks (Qcq k ms)++.sg [125]::L) ->
 Sta c 40 (Qaf c (orT c) 0 n acc r).2 (.sg [125]::L)/\∃ l,(Qaf c (orT c) 0 n acc r).1=acc++l/\l.map Qm.er=(QdQ k ms).map Qm.er
 |[],k,n,acc,r,hn,ha,hs,h=>by
  have h:Sta c 40 r (.sg [125]::L):=h
  cases n with
  |zero=>exact⟨h,[],by simp[Qaf],rfl⟩
  |succ n =>
   rw[Qaf,Zm (by rw[h.peek]; exact λh=>by cases h)];exact⟨h,[],by simp,rfl⟩
 |m::ms,k,n,acc,r,hn,ha,hs,h=>by
  have h:Sta c 40 r (tks (Qdz k m)++(tks (Qcq (k+1) ms)++.sg [125]::L)):=by
   rw[Qcq,Qar,Vz]at h; exact h
  simp only[Vh]at hn ha
  cases n with
  |zero=>omega
  |succ n =>
   rw[Qaf,Zn (by rw[h.peek]; rfl)];simp only;rw[Zm (by omega)];obtain⟨g1,g2⟩:=QpU (hs m (by simp)) (by
    cases ms with
    |nil=>rfl
    |cons y ys=>rfl) h
   obtain⟨g3,l,g4,g5⟩:=Qsv ms (k+1) n (acc++[(QM c (orT c) r).1]) _ (by omega) (by simp; omega) (λa ha=>hs a (by simp[ha])) g1;exact⟨g3,(QM c (orT c) r).1::l,by rw[g4]; simp,by simp only[QdQ,Vn,g2,g5]⟩
theorem Qo2:∀ (ss:List GA) (k:Nat),ss.length<=(tks (Qcq k ss)).length
 |[],_=>by simp
 |s::ss,k=>by
  have:=Qo2 ss (k+1);rw[Qcq,Qar,Vj];have:1<=(tks (Qdz k s)).length:=by unfold Qdz; simp[tks]
  simp only[Vh]; omega
theorem QA0 {w:Option GX} {p:Nat}:Whole c 40 (tks (QcX w p)) (QhH w p):=by
 cases w with
 |none=>exact Qe6 p
 |some g =>
  have h:=wh0 (c:=c) (QgJ (d:=39) (w:=wIf) (x:=tks (Qbb g)) (xs:=[[.nm 0],[.nm p]]) (show(wIf,(20:Int),2)∈QaT by decide) (Qsr g) (.cons (Qe6 0) (.cons (Qe6 p) .nil))) λ_=>rfl;have e:tks (QcX (some g) p)=.wd wIf::.sg [40]::(tks (Qbb g)++cmm [[.nm 0],[.nm p]]++[.sg [41]]):=by simp[QcX,tks,Qar,cmm]
  rw[e]; exact h
theorem Qyy {i p:Nat} {w:Option GX} {acts:List GA} {y:Qb} (hy:y={ QdD with lb:=sN i }) (h1:1<=acts.length) (h3:acts.length<=3) (hs:∀ a∈acts,a.sets.length<=2) (h:Sta c 40 r (tks (QfO w p acts)++L)) :
 Sta c 40 (QdF c (orT c) y r).2 L/\(QdF c (orT c) y r).1.er=(QfQ i (.turn w p acts)).er:=by
 obtain⟨a,rest,ha⟩:∃ a rest,acts=a::rest:=by
  cases acts with
  |nil=>simp at h1
  |cons a rest=>exact⟨a,rest,rfl⟩
 subst ha;simp only[Vh]at h3;have h:Sta c 40 r (.wd kwT::(tks (QcX w p)++.sg [123]::(tks (Qdz 0 a)++(tks (Qcq 1 rest)++.sg [125]::L)))):=by
  unfold QfO at h; simpa[tks,Qar,Qcq,pnl]using h
 unfold QdF;simp only;have g1:=(h.take (s:=[116,117,114,110]) rfl).2;generalize Qh c [116,117,114,110] r=t at g1 ⊢;obtain⟨g2,g3⟩:=Qhc QA0 g1 (QcT (s:=[123]) (by decide) (.inl rfl) _);have g4:=g2.t2 (s:=[123]) rfl;obtain⟨g5,g6⟩:=QpU (hs a (by simp)) (by
  cases rest with
  |nil=>rfl
  |cons y ys=>rfl) g4
 have hle:=g5.len;have hal:=Qo2 rest 1;rw[Vj]at hle;obtain⟨g7,l,g8,g9⟩:=Qsv rest 1 c.ts.length [(QM c (orT c) (t2 c [123] (orT c t.2).2)).1] _ (by omega) (by simp; omega) (λa ha=>hs a (by simp[ha])) g5;refine⟨g7.t2 rfl,?_⟩;unfold Qb.er;simp only[hy,QdD,QfQ,g8,Vv,Vx,Vn,g6,g9,Ex.erL,g3,QdQ]
theorem Qtz {w x:Nat} (hw:w<3):∃ e,wgE w x=[e]/\Whole c 40 (tks (wgX w x)) e:=by
 unfold wgE wgX;by_cases h0:w=0
 . rw[Zn h0,Zn h0];exact⟨_,rfl,Qgj [43] 8 (la:=[.nm 1]) (rq1 Qdb) (rq1 (nm1 x)) (by decide) (by decide) λ_=>rfl⟩
 rw[Zm h0,Zm h0];have ifx:∀ (a b q:Nat),Red c 40 (lv c 40).fac (.wd wIf::.sg [40]::(([.wd (vN x)]++.sg [61,61]::[.nm q])++cmm [[.nm a],[.nm b]]++[.sg [41]])) (eOp 20 [eOp 10 [eNm x,eIn q],eIn a,eIn b]) (λ_=>True):=λa b q =>
  QgJ (d:=39) (w:=wIf) (x:=[.wd (vN x)]++.sg [61,61]::[.nm q]) (xs:=[[.nm a],[.nm b]]) (show(wIf,(20:Int),2)∈QaT by decide) (Ql5 [61,61] 10 (nm1 _) Qdb (by decide) (by decide) (by decide) λL=>QdK _ _) (.cons (Qe6 a) (.cons (Qe6 b) .nil))
 by_cases h1:w=1
 . rw[Zn h1,Zn h1];exact⟨_,rfl,wh0 (ifx 2 1 1) λ_=>rfl⟩
 rw[Zm h1,Zm h1,Zn (by omega)];refine⟨_,rfl,?_⟩;exact Qgj [43] 8 (la:=.wd Qgb::.sg [40]::([.wd (vN x)]++cmm [[.nm 0]]++[.sg [41]])) (rq1 (QgJ (op:=19) (d:=39) (show(Qgb,(19:Int),1)∈QaT by decide) (Qiv _) (.cons (Qe6 0) .nil))) (rq1 (ifx 0 1 2)) (by decide) (by decide) (λ_=>rfl)
theorem Qu8 {i x q w s p:Nat} {y:Qb} (hs:s<3) (hy:y={ QdD with lb:=sN i }) (h:Sta c 40 r (tks (QeB x q w s p)++L)) :
 Sta c 40 (QdJ c (orT c) y r).2 L/\(QdJ c (orT c) y r).1.er=(QfQ i (.deal x q w s p)).er:=by
 have h:Sta c 40 r (.wd kwD::.wd (vN x)::.wd kwI::.nm (loV q)::.sg [46,46]::.nm (hiV q)::(tks (QcB w x)++(tks (QbA s p)++.sg [59]::L))):=by
  unfold QeB at h; simpa[tks,Qar,pnl]using h
 unfold QdJ;simp only;have g1:=(h.take (s:=[100,101,97,108]) rfl).2;obtain⟨g2,g3⟩:=g1.word (QhX x);rw[g2];simp only;generalize Qa (Qh c [100,101,97,108] r).2=r1 at g3 ⊢;have g4:=g3.t2 (s:=[105,110]) rfl;obtain⟨g5,g6⟩:=g4.numb;rw[g5];simp only;have g7:=g6.t2 (s:=[46,46]) rfl;obtain⟨g8,g9⟩:=g7.numb;rw[g8];simp only;generalize Qa (t2 c [46,46] (Qa (t2 c [105,110] r1)))=r2 at g9 ⊢;have hst:∀ X,Qe7 (tks (QbA s p)++.sg [59]::X)/\pk (tks (QbA s p)++.sg [59]::X) kwW=false:=by
  intro X;unfold QbA;by_cases h0:s=0
  . rw[Zn h0]; exact⟨QcT (s:=kwS) (by decide) (.inr rfl) _,rfl⟩
  rw[Zm h0];by_cases h1:s=1
  . rw[Zn h1]; exact⟨QcT (s:=kwS) (by decide) (.inr rfl) _,rfl⟩
  rw[Zm h1];exact⟨QcT (s:=[59]) (by decide) (.inl rfl) _,rfl⟩
 have k12:Sta c 40 (QaM c (orT c) [119,101,105,103,104,116] r2).2 (tks (QbA s p)++.sg [59]::L)/\Ex.erL (QaM c (orT c) [119,101,105,103,104,116] r2).1=Ex.erL (wgE w x):=by
  unfold QaM;by_cases hw:w<3
  . obtain⟨e,he,hwh⟩:=Qtz (c:=c) (x:=x) hw;have g9:Sta c 40 r2 (.wd kwW::(tks (wgX w x)++(tks (QbA s p)++.sg [59]::L))):=by
     unfold QcB at g9; rw[Zn hw]at g9; exact g9
    rw[Zn (by rw[g9.peek]; rfl)];obtain⟨m1,m2⟩:=Qhc hwh (g9.t2 (s:=[119,101,105,103,104,116]) rfl) (hst _).1;exact⟨m1,by simp only[Ex.erL,he,m2]⟩
  . have g9:Sta c 40 r2 (tks (QbA s p)++.sg [59]::L):=by
     unfold QcB at g9; rw[Zm hw]at g9; exact g9
    have e:wgE w x=[]:=by unfold wgE; rw[Zm (by omega),Zm (by omega),Zm (by omega)]
    rw[Zm (by rw[g9.peek]; exact λh=>by rw[show pk _ [119,101,105,103,104,116]=false from(hst _).2]at h; cases h),e]
    exact⟨g9,rfl⟩
 obtain⟨k1,k2⟩:=k12;generalize QaM c (orT c) [119,101,105,103,104,116] r2=o at k1 k2 ⊢;have k34:Sta c 40 (QaC c o.2).2 (.sg [59]::L)/\(QaC c o.2).1=(decide (s=0),if s=1 then [(p:Int)]else []):=by
  unfold QaC;by_cases h0:s=0
  . subst h0;have h:Sta c 40 o.2 (.wd kwS::.wd kwB::.wd kwA::.sg [59]::L):=k1;have h2:=(h.t2 (s:=[115,101,101,110]) rfl).t2 (s:=[98,121]) rfl;rw[Zn (by rw[h.peek]; rfl)];simp only;rw[Zn (by rw[h2.peek]; rfl)];exact⟨h2.t2 rfl,rfl⟩
  by_cases h1:s=1
  . subst h1;have h:Sta c 40 o.2 (.wd kwS::.wd kwB::.nm p::.sg [59]::L):=k1;have h2:=(h.t2 (s:=[115,101,101,110]) rfl).t2 (s:=[98,121]) rfl;rw[Zn (by rw[h.peek]; rfl)];simp only;rw[Zm (by rw[h2.peek]; exact λh=>by cases h)];obtain⟨g1,g2⟩:=h2.numb;rw[g1];simp only;have hpos:0<c.ts.length:=by have:=g2.len; simp at this; omega
    obtain⟨n,hn⟩:∃ n,c.ts.length=n+1:=⟨c.ts.length-1,by omega⟩;rw[hn,QaB,Zm (by rw[g2.peek]; exact λh=>by cases h)];exact⟨g2,rfl⟩
  have h2:s=2:=by omega
  subst h2;have h:Sta c 40 o.2 (.sg [59]::L):=k1;rw[Zm (by rw[h.peek]; exact λh=>by cases h)];exact⟨h,rfl⟩
 obtain⟨k3,k4⟩:=k34;refine⟨k3.t2 rfl,?_⟩;unfold Qb.er;simp only[hy,QdD,k2,k4,QfQ]
theorem Qqb {i:Nat} (h:Sta c 40 r (.wd (sN i)::.sg [58]::L)):(Qay c r).1=sN i/\Sta c 40 (Qay c r).2 L:=by
 unfold Qay;have hr:=QmB i;rw[Zn (by rw[h.free]; simp[Qen,hr])];obtain⟨g1,g2⟩:=h.word hr;rw[g1];exact⟨rfl,g2.t2 rfl⟩
theorem QtG {pl v n i:Nat} {g:GS} (hg:g.Wf pl v n i) (h:Sta c 40 r (.wd (sN i)::.sg [58]::(tks (QeM g)++L))):Sta c 40 (Q0 c (orT c) r).2 L/\(Q0 c (orT c) r).1.er=(QfQ i g).er:=by
 obtain⟨l1,l2⟩:=Qqb h;unfold Q0;simp only;rw[l1]
 cases g with
 |deal x q w s p =>
  rw[Zn (by rw[l2.peek]; rfl)];exact Qu8 hg.2.2.2.1 rfl l2
 |turn w p acts =>
  rw[Zm (by rw[l2.peek]; exact λh=>by cases h),Zn (by rw[l2.peek]; rfl)];exact Qyy rfl hg.2.2.1 hg.2.2.2.1 (λa ha=>(hg.2.2.2.2 a ha).len) l2
theorem Qrb:∀ (ms:List GX) (n:Nat) (acc:List Ex) (r:Rd),ms.length<=n->acc.length+ms.length<32->Sta c 40 r (tks (QaQ true ms)++.sg [59]::L) ->
 Sta c 40 (Qak c (orT c) n acc r).2 (.sg [59]::L)/\∃ l,(Qak c (orT c) n acc r).1=acc++l/\Ex.erL l=Ex.erL (ms.map exE)
 |[],n,acc,r,hn,ha,h=>by
  have h:Sta c 40 r (.sg [59]::L):=h
  cases n with
  |zero=>exact⟨h,[],by simp[Qak],rfl⟩
  |succ n =>
   rw[Qak,Zm (by rw[h.peek]; exact λh=>by cases h)];exact⟨h,[],by simp,rfl⟩
 |m::ms,n,acc,r,hn,ha,h=>by
  have h:Sta c 40 r (.sg [44]::(tks (Qck m)++(tks (QaQ true ms)++.sg [59]::L))):=by simpa[QaQ,tks,Qar]using h
  simp only[Vh]at hn ha
  cases n with
  |zero=>omega
  |succ n =>
   rw[Qak,Zn (by rw[h.peek]; rfl)];simp only;rw[Zm (by omega)];obtain⟨g1,g2⟩:=Qhc (QlC m) (h.t2 (s:=[44]) rfl) (by
    cases ms with
    |nil=>exact QcT (s:=[59]) (by decide) (.inl rfl) _
    |cons y ys=>exact QcT (s:=[44]) (by decide) (.inl rfl) _)
   obtain⟨g3,l,g4,g5⟩:=Qrb ms n (acc++[(orT c (t2 c [44] r)).1]) _ (by omega) (by simp; omega) g1;exact⟨g3,(orT c (t2 c [44] r)).1::l,by rw[g4]; simp,by simp only[Vn,Ex.erL,g2,g5]⟩
theorem Qpq:∀ ms:List GX,ms.length<=(tks (QaQ true ms)).length
 |[]=>by simp
 |m::ms=>by have:=Qpq ms; simp[QaQ,tks,Qar]; omega
theorem Qyp {n:Nat} {ms:List GX} (h1:1<=ms.length) (h3:ms.length<=3) (h:Sta c 40 r (.wd (sN n)::.sg [58]::.wd kwE::.sg [123]::.wd kwP::(tks (QaQ false ms)++.sg [59]::.sg [125]::L))) :
 Sta c 40 (Q0 c (orT c) r).2 L/\(Q0 c (orT c) r).1.er=(QiM n ms).er:=by
 obtain⟨l1,l2⟩:=Qqb h;obtain⟨m,rest,rfl⟩:∃ m rest,ms=m::rest:=by
  cases ms with
  |nil=>simp at h1
  |cons m rest=>exact⟨m,rest,rfl⟩
 simp only[Vh]at h3;unfold Q0;simp only;rw[l1,Zm (by rw[l2.peek]; exact λh=>by cases h),Zm (by rw[l2.peek]; exact λh=>by cases h)];have g1:=(l2.take (s:=[101,110,100]) rfl).2;have g2:=(g1.t2 (s:=[123]) rfl).t2 (s:=[112,97,121]) rfl;generalize t2 c [112,97,121] (t2 c [123] (Qh c [101,110,100] (Qay c r).2).2)=r1 at g2 ⊢;have g2:Sta c 40 r1 (tks (Qck m)++(tks (QaQ true rest)++.sg [59]::.sg [125]::L)):=by simpa[QaQ,Qar]using g2
 unfold QcD;obtain⟨g3,g4⟩:=Qhc (QlC m) g2 (by
  cases rest with
  |nil=>exact QcT (s:=[59]) (by decide) (.inl rfl) _
  |cons y ys=>exact QcT (s:=[44]) (by decide) (.inl rfl) _)
 have hle:=g3.len;have hal:=Qpq rest;rw[Vj]at hle;obtain⟨g5,l,g6,g7⟩:=Qrb rest c.ts.length [(orT c r1).1] _ (by omega) (by simp; omega) g3;refine⟨(g5.t2 (s:=[59]) rfl).t2 rfl,?_⟩;unfold Qb.er;simp only[QdD,QiM,g6,Vv,Vx,Vn,VU,Ex.erL,g4,g7]
end
section
variable {c:Cx} {r:Rd} {L:List TK}
theorem Qtk {i k:Nat} (hk:k<4) {acc:List Ql} (ha:acc.length<40) (h:Sta c 40 r (.wd kwV::.wd (vN i)::.sg [61]::(tks (Qe3 k)++.sg [59]::L))) :
 Sta c 40 (Qa7 c acc r).2 L/\(Qa7 c acc r).1.er=⟨vN i,Qff k,0⟩:=by
 unfold Qa7;simp only;have h1:=h.t2 (s:=[118,97,114]) rfl;generalize t2 c [118,97,114] r=r0 at h1 ⊢;rw[Zm (by omega)];obtain⟨g1,g2⟩:=h1.word (QhX i);rw[g1];simp only;have g3:=g2.t2 (s:=[61]) rfl;generalize t2 c [61] (Qa r0)=r1 at g3 ⊢;have pos:∀ n:Nat,n<=9->Qe3 k=[pnU n]->Qff k=n->Sta c 40 (t2 c [59] (nmR c (QaK c [45] r1).2).2) L/\Ql.er ⟨vN i,IntKind.i64.wrap ((if(QaK c [45] r1).1=true then -1 else 1)*(nmR c (QaK c [45] r1).2).1),Qk c r0⟩=⟨vN i,Qff k,0⟩:=by
  intro n hn e1 e2;have g3:Sta c 40 r1 (.nm n::.sg [59]::L):=by rw[e1]at g3; exact g3
  have e:QaK c [45] r1=(false,r1):=by unfold QaK; rw[Zm (by rw[g3.peek]; exact λh=>by cases h)]
  rw[e];obtain⟨g5,g6⟩:=g3.numb;rw[g5];refine⟨g6.t2 rfl,?_⟩;have w:IntKind.i64.wrap (1*(n:Int))=n:=by rw[Qae (by omega) (by omega)]; omega
  unfold Ql.er;simp only[Vt,Zt,w,e2]
 match k,hk with
 |0,_=>exact pos 0 (by decide) rfl rfl
 |1,_=>exact pos 1 (by decide) rfl rfl
 |3,_=>exact pos 2 (by decide) rfl rfl
 |2,_ =>
  have g3:Sta c 40 r1 (.sg [45]::.nm 1::.sg [59]::L):=g3;have g4:=g3.t2 (s:=[45]) rfl;have e:QaK c [45] r1=(true,t2 c [45] r1):=by unfold QaK; rw[Zn (by rw[g3.peek]; rfl)]
  rw[e];obtain⟨g5,g6⟩:=g4.numb;simp only;rw[g5];exact⟨g6.t2 rfl,rfl⟩
theorem Qn2:∀ (vs:List Nat) (i n:Nat) (acc:List Ql) (r:Rd),(∀ k∈vs,k<4)->vs.length<=n->acc.length+vs.length<40->pk L kwV=false->Sta c 40 r (tks (Qcy i vs)++L) ->
 Sta c 40 (Q6 c n acc r).2 L/\∃ l,(Q6 c n acc r).1=acc++l/\l.map Ql.er=Qdt i vs
 |[],i,n,acc,r,hv,hn,ha,hL,h=>by
  have h:Sta c 40 r L:=h
  cases n with
  |zero=>exact⟨h,[],by simp[Q6],rfl⟩
  |succ n =>
   rw[Q6,Zm (by rw[h.peek]; exact λh=>by rw[show pk L [118,97,114]=false from hL]at h; cases h)]
   exact⟨h,[],by simp,rfl⟩
 |v::vs,i,n,acc,r,hv,hn,ha,hL,h=>by
  have h:Sta c 40 r (.wd kwV::.wd (vN i)::.sg [61]::(tks (Qe3 v)++.sg [59]::(tks (Qcy (i+1) vs)++L))):=by
   simpa[Qcy,tks,Qar,pnl]using h
  simp only[Vh]at hn ha
  cases n with
  |zero=>omega
  |succ n =>
   rw[Q6,Zn (by rw[h.peek]; rfl)];obtain⟨g1,g2⟩:=Qtk (acc:=acc) (hv v (by simp)) (by omega) h;obtain⟨g3,l,g4,g5⟩:=Qn2 vs (i+1) n (acc++[(Qa7 c acc r).1]) _ (λk hk=>hv k (by simp[hk])) (by omega) (by simp; omega) hL g1;exact⟨g3,(Qa7 c acc r).1::l,by rw[g4]; simp,by simp only[Vn,g2,g5,Qdt]⟩
theorem QoN {acc:List Qb} (h:acc.length<100):QaR c acc r=r:=by
 unfold QaR;rw[Zm (by omega)]
theorem QsP {pl v n:Nat} {ms:List GX} {N:Nat} (h1:1<=ms.length) (h3:ms.length<=3):∀ (ss:List GS) (i m:Nat) (acc:List Qb) (r:Rd),Qfh pl v n i ss->ss.length+1<m->acc.length+ss.length<50 ->
 Sta c 40 r (tks (Qcv i ss)++(.wd (sN N)::.sg [58]::.wd kwE::.sg [123]::.wd kwP::(tks (QaQ false ms)++.sg [59]::.sg [125]::[]))) ->
 (QF c (orT c) m acc r).2.e=0/\∃ l,(QF c (orT c) m acc r).1=acc++l/\l.map Qb.er=(QdP i ss++[QiM N ms]).map Qb.er
 |[],i,m,acc,r,_,hm,ha,h=>by
  have h:Sta c 40 r (.wd (sN N)::.sg [58]::.wd kwE::.sg [123]::.wd kwP::(tks (QaQ false ms)++.sg [59]::.sg [125]::[])):=h
  cases m with
  |zero=>simp at hm
  |succ m =>
   cases m with
   |zero=>simp at hm
   |succ m =>
    rw[QF,Zn ⟨h.e,.inr h.rem.lt.1⟩,QoN (by simp at ha; omega)];obtain⟨g1,g2⟩:=Qyp h1 h3 h;have:=g1.rem.end;rw[QF,Zm (by rintro⟨_,h2|h2⟩; simp at h2; omega)];exact⟨g1.e,[(Q0 c (orT c) r).1],rfl,by simp only[Vn,VU,QdP,Vx,g2]⟩
 |s::ss,i,m,acc,r,hw,hm,ha,h=>by
  have h:Sta c 40 r (.wd (sN i)::.sg [58]::(tks (QeM s)++(tks (Qcv (i+1) ss)++(.wd (sN N)::.sg [58]::.wd kwE::.sg [123]::.wd kwP::(tks (QaQ false ms)++.sg [59]::.sg [125]::[]))))):=by
   simpa[Qcv,tks,Qar]using h
  simp only[Vh]at hm ha
  cases m with
  |zero=>simp at hm
  |succ m =>
   rw[QF,Zn ⟨h.e,.inr h.rem.lt.1⟩,QoN (by omega)];obtain⟨g1,g2⟩:=QtG hw.1 h;obtain⟨g3,l,g4,g5⟩:=QsP h1 h3 ss (i+1) m (acc++[(Q0 c (orT c) r).1]) _ hw.2 (by omega) (by simp; omega) g1;exact⟨g3,(Q0 c (orT c) r).1::l,by rw[g4]; simp,by simp only[QdP,Vv,Vn,g2,g5]⟩
end
theorem Qpb:∀ (ss:List GS) (i:Nat),ss.length<=(tks (Qcv i ss)).length
 |[],_=>by simp
 |s::ss,i=>by have:=Qpb ss (i+1); simp[Qcv,tks,Qar]; omega
theorem Qs6:∀ (ss:List Nat) (i:Nat),ss.length<=(tks (Qcy i ss)).length
 |[],_=>by simp
 |s::ss,i=>by have:=Qs6 ss (i+1); simp[Qcy,tks,Qar,pnl]; omega
theorem QuX {ss:List GS} {i:Nat} {N:Nat} {X:List TK}:pk (tks (Qcv i ss)++.wd (sN N)::X) kwV=false:=by
 have h:∀ (i:Nat) (Y:List TK),pk (.wd (sN i)::Y) kwV=false:=by
  intro i Y;have:sN i≠kwV:=λe=>QmB i (by rw[e]; decide);simp[pk,this]
 cases ss with
 |nil=>exact h N X
 |cons s ss=>exact h i _
theorem Qxr (l:List Int):(QJ (Qc1 (QbG l))).2.1=0/\(QJ (Qc1 (QbG l))).1.er=(QnO (QbG l)).er:=by
 have hw:=QlY l;obtain⟨hsc,hA⟩:=QmT l;unfold QJ;rw[Zm (λh=>h hsc)];generalize (Qv (Qc1 (QbG l))).1=ts at *;generalize (Qc1 (QbG l)).length=en at *;generalize QbG l=g at *;have hst:Sta ⟨ts,en⟩ 40 ⟨0,0,0,0⟩ (.wd kwG::.wd (gN g.nm)::.sg [59]::.wd Qid::.nm g.pl::.sg [59]::(tks (Qcy 0 g.ini)++(tks (Qcv 0 g.stages)++(.wd (sN g.stages.length)::.sg [58]::.wd kwE::.sg [123]::.wd kwP::(tks (QaQ false g.pays)++.sg [59]::.sg [125]::[]))))):=by
  refine⟨rfl,?_,rfl,by decide⟩;unfold Rem;rw[Yt];unfold QdT at hA;simpa[tks,Qar,pnl]using hA
 unfold QbL;simp only;have g1:=hst.t2 (s:=[103,97,109,101]) rfl;obtain⟨g2,g3⟩:=g1.word (QAu g.nm);rw[g2];simp only;generalize Qa (t2 ⟨ts,en⟩ [103,97,109,101] ⟨0,0,0,0⟩)=r1 at g3 ⊢;have g4:=(g3.t2 (s:=[59]) rfl).t2 (s:=[112,108,97,121,101,114,115]) rfl;obtain⟨g5,g6⟩:=g4.numb;rw[g5];simp only;generalize Qa (t2 ⟨ts,en⟩ [112,108,97,121,101,114,115] (t2 ⟨ts,en⟩ [59] r1))=r2 at g6 ⊢;have g7:=g6.t2 (s:=[59]) rfl;have hle:=g7.len;have l1:=Qs6 g.ini 0;have l2:=Qpb g.stages 0;rw[Vj,Vj]at hle;simp only[Vh]at hle;have h1:=hw.inl;have h2:=hw.v3;have h3:=hw.st4;have h4:=hw.payl;have h5:=hw.pl1;have h6:=hw.pl3;obtain⟨k1,l,k2,k3⟩:=Qn2 g.ini 0 ts.length [] _ hw.ini (by omega) (by simp; omega) QuX g7;obtain⟨k4,l2,k5,k6⟩:=QsP (by omega) (by omega) g.stages 0 (ts.length+1) [] _ hw.sts (by omega) (by simp; omega) k1;rw[Zm (λh=>h k4)];refine⟨rfl,?_⟩;have hvE:(Qdt 0 g.ini).map Ql.er=Qdt 0 g.ini:=by
  generalize 0=i;generalize g.ini=cs
  induction cs generalizing i with
  |nil=>rfl
  |cons a r ih=>simp only[Qdt,Vn,ih]; rfl
 unfold Qx.er;simp only[k2,k5,Vx,k3,k6,QnO,hvE]
def Qj7:IC:=.keep [5,6,7,68,69,70]
 (.seq
  (.reg [
    ⟨(some 71),none,.p (.bin .lss (.i .i64) (.t 70) (.t 69))⟩])
  (.seq
   (.cond (.t 71)
    .skip
    (.exit 2))
   (.seq
    (.blk 3
     (.seq
      (.reg [
        ⟨(some 72),none,.p (.mov (.t 70))⟩,
        ⟨(some 73),none,.p (.ia 5 (.t 68) (.t 70))⟩,
        ⟨(some 74),none,.p (.ldn 5 (.t 73))⟩,
        ⟨(some 9),none,.e (.alc 25 [i64 0,i64 0,st ⟨#[]⟩,.val (.slice none 0 0),i64 0])⟩,
        ⟨(some 8),none,.p (.mov (.t 72))⟩,
        ⟨none,none,.e (.st 5 (.t 9) (.t 74))⟩])
      (.seq
       (.reg [
         ⟨(some 75),none,.p (.fa 1 (.t 7))⟩,
         ⟨(some 76),none,.p (.ld1 (.t 75))⟩,
         ⟨(some 77),none,.p (.mov (.t 8))⟩,
         ⟨(some 78),none,.p (.ia 5 (.t 76) (.t 77))⟩,
         ⟨(some 79),none,.p (.ldn 5 (.t 78))⟩,
         ⟨(some 10),none,.e (.alc 25 [i64 0,i64 0,st ⟨#[]⟩,.val (.slice none 0 0),i64 0])⟩,
         ⟨none,none,.e (.st 5 (.t 10) (.t 79))⟩])
       (.seq
        (.seq
         (.reg [
           ⟨(some 80),none,.p (.fa 0 (.t 9))⟩,
           ⟨(some 81),none,.p (.ld1 (.t 80))⟩,
           ⟨(some 82),none,.p (.fa 0 (.t 10))⟩,
           ⟨(some 83),none,.p (.ld1 (.t 82))⟩,
           ⟨(some 84),none,.p (.bin .neq (.i .i64) (.t 81) (.t 83))⟩,
           ⟨(some 85),none,.p (.mov (.t 84))⟩,
           ⟨(some 86),(some (85,false)),.p (.fa 1 (.t 9))⟩,
           ⟨(some 87),(some (85,false)),.p (.ld1 (.t 86))⟩,
           ⟨(some 88),(some (85,false)),.p (.fa 1 (.t 10))⟩,
           ⟨(some 89),(some (85,false)),.p (.ld1 (.t 88))⟩,
           ⟨(some 90),(some (85,false)),.p (.bin .neq (.i .i64) (.t 87) (.t 89))⟩,
           ⟨(some 91),none,.p (.pick (.t 85) (.c (bl true)) (.t 90))⟩,
           ⟨(some 92),none,.p (.mov (.t 91))⟩,
           ⟨(some 93),(some (92,false)),.p (.fa 2 (.t 9))⟩,
           ⟨(some 94),(some (92,false)),.p (.ld1 (.t 93))⟩,
           ⟨(some 95),(some (92,false)),.p (.fa 2 (.t 10))⟩,
           ⟨(some 96),(some (92,false)),.p (.ld1 (.t 95))⟩,
           ⟨(some 97),(some (92,false)),.p (.bin .neq .s (.t 94) (.t 96))⟩,
           ⟨(some 98),none,.p (.pick (.t 92) (.c (bl true)) (.t 97))⟩])
         (.cond (.t 98)
          (.seq
           (.reg [
             ⟨(some 4),none,.p (.mov (.c (bl false)))⟩])
           .ret)
          .skip))
        (.reg [
          ⟨(some 99),none,.p (.mov (.t 5))⟩,
          ⟨(some 100),none,.p (.fa 3 (.t 9))⟩,
          ⟨(some 101),none,.p (.ld1 (.t 100))⟩,
          ⟨(some 102),none,.p (.fa 3 (.t 10))⟩,
          ⟨(some 103),none,.p (.ld1 (.t 102))⟩,
          ⟨(some 104),none,.p (.bld [.val (.slice none 0 0),.val (.slice none 0 0)] [(0,1,(.t 101)),(1,1,(.t 103))])⟩,
          ⟨(some 105),none,.e (.bsl 170 2 1 [.val (.slice none 0 0),.val (.slice none 0 0)] [(0,(.t 104))])⟩,
          ⟨(some 106),none,.e (.app 170 2 48 (.t 99) (.t 105))⟩,
          ⟨(some 5),none,.p (.mov (.t 106))⟩])))))
    (.reg [
      ⟨(some 107),none,.p (.bin .add (.i .i64) (.t 70) (.c (i64 1)))⟩,
      ⟨(some 70),none,.p (.mov (.t 107))⟩]))))
def r74:List RS:=[.t 4]
def QcY:IC:=.keep [5,6]
 (.seq
  (.seq
   (.reg [
     ⟨(some 16),none,.p (.mov (.t 5))⟩,
     ⟨(some 17),none,.p (.len (.t 16))⟩,
     ⟨(some 18),none,.p (.bin .gtr (.i .i64) (.t 17) (.c (i64 0)))⟩])
   (.cond (.t 18)
    .skip
    (.exit 0)))
  (.blk 1
   (.seq
    (.reg [
      ⟨(some 19),none,.p (.mov (.t 5))⟩,
      ⟨(some 20),none,.p (.mov (.t 5))⟩,
      ⟨(some 21),none,.p (.len (.t 20))⟩,
      ⟨(some 22),none,.p (.bin .sub (.i .i64) (.t 21) (.c (i64 1)))⟩,
      ⟨(some 23),none,.p (.ia 2 (.t 19) (.t 22))⟩,
      ⟨(some 24),none,.p (.ldn 2 (.t 23))⟩,
      ⟨(some 7),none,.e (.alc 170 [.val (.slice none 0 0),.val (.slice none 0 0)])⟩,
      ⟨none,none,.e (.st 2 (.t 7) (.t 24))⟩])
    (.seq
     (.reg [
       ⟨(some 25),none,.p (.mov (.t 5))⟩,
       ⟨(some 26),none,.p (.mov (.t 5))⟩,
       ⟨(some 27),none,.p (.len (.t 26))⟩,
       ⟨(some 28),none,.p (.bin .sub (.i .i64) (.t 27) (.c (i64 1)))⟩,
       ⟨(some 29),none,.p (.sl 2 (.t 25) none (some (.t 28)))⟩,
       ⟨(some 5),none,.p (.mov (.t 29))⟩])
     (.seq
      (.seq
       (.reg [
         ⟨(some 30),none,.p (.fa 0 (.t 7))⟩,
         ⟨(some 31),none,.p (.ld1 (.t 30))⟩,
         ⟨(some 32),none,.p (.lnv (.t 31))⟩,
         ⟨(some 33),none,.p (.fa 1 (.t 7))⟩,
         ⟨(some 34),none,.p (.ld1 (.t 33))⟩,
         ⟨(some 35),none,.p (.lnv (.t 34))⟩,
         ⟨(some 36),none,.p (.bin .neq (.i .i64) (.t 32) (.t 35))⟩])
       (.cond (.t 36)
        (.seq
         (.reg [
           ⟨(some 4),none,.p (.mov (.c (bl false)))⟩])
         .ret)
        .skip))
      (.seq
       (.seq
        (.drw [0,1,2,3,4,5,6,7,8,9,10,11,12,13,14,15,16,17,18] [
          ⟨(some 37),none,.p (.fa 0 (.t 7))⟩,
          ⟨(some 38),none,.p (.ld1 (.t 37))⟩,
          ⟨(some 39),none,.p (.lnv (.t 38))⟩,
          ⟨(some 40),none,.p (.bin .eql (.i .i64) (.t 39) (.c (i64 0)))⟩,
          ⟨(some 41),none,.p (.mov (.t 40))⟩,
          ⟨(some 42),(some (41,false)),.p (.mov (.t 6))⟩,
          ⟨(some 43),(some (41,false)),.p (.fa 0 (.t 7))⟩,
          ⟨(some 44),(some (41,false)),.p (.ld1 (.t 43))⟩,
          ⟨(some 45),(some (41,false)),.p (.iav 5 (.t 44) (.c (i64 0)))⟩,
          ⟨(some 46),(some (41,false)),.p (.fa 1 (.t 7))⟩,
          ⟨(some 47),(some (41,false)),.p (.ld1 (.t 46))⟩,
          ⟨(some 48),(some (41,false)),.p (.iav 5 (.t 47) (.c (i64 0)))⟩,
          ⟨(some 49),(some (41,false)),.p (.bld [.val (.pointer none),.val (.pointer none)] [(0,1,(.t 45)),(1,1,(.t 48))])⟩,
          ⟨(some 50),(some (41,false)),.p (.lkp (.pp 164 25) false (i64 0) (.t 42) (.t 49))⟩,
          ⟨(some 51),(some (41,false)),.p (.fa 0 (.t 7))⟩,
          ⟨(some 52),(some (41,false)),.p (.ld1 (.t 51))⟩,
          ⟨(some 53),(some (41,false)),.p (.lnv (.t 52))⟩,
          ⟨(some 54),(some (41,false)),.p (.bin .geq (.i .i64) (.t 50) (.t 53))⟩,
          ⟨(some 55),none,.p (.pick (.t 41) (.c (bl true)) (.t 54))⟩])
        (.cond (.t 55)
         (.exit 1)
         .skip))
       (.seq
        (.drw [0,1,2,3,4,5,6,7,8,9,10,11] [
          ⟨(some 56),none,.p (.mov (.t 6))⟩,
          ⟨(some 57),none,.p (.fa 0 (.t 7))⟩,
          ⟨(some 58),none,.p (.ld1 (.t 57))⟩,
          ⟨(some 59),none,.p (.iav 5 (.t 58) (.c (i64 0)))⟩,
          ⟨(some 60),none,.p (.fa 1 (.t 7))⟩,
          ⟨(some 61),none,.p (.ld1 (.t 60))⟩,
          ⟨(some 62),none,.p (.iav 5 (.t 61) (.c (i64 0)))⟩,
          ⟨(some 63),none,.p (.bld [.val (.pointer none),.val (.pointer none)] [(0,1,(.t 59)),(1,1,(.t 62))])⟩,
          ⟨(some 64),none,.p (.fa 0 (.t 7))⟩,
          ⟨(some 65),none,.p (.ld1 (.t 64))⟩,
          ⟨(some 66),none,.p (.lnv (.t 65))⟩,
          ⟨none,none,.e (.mup (.pp 164 25) (.t 56) (.t 63) (.t 66))⟩])
        (.seq
         (.reg [
           ⟨(some 67),none,.p (.fa 0 (.t 7))⟩,
           ⟨(some 68),none,.p (.ld1 (.t 67))⟩,
           ⟨(some 69),none,.p (.lnv (.t 68))⟩,
           ⟨(some 70),none,.p (.mov (.c (i64 0)))⟩])
         (.blk 2
          (.loop Qj7))))))))))
def i74m:IC :=
 (.seq
  (.reg [
    ⟨(some 4),none,.p (.mov (.c (bl false)))⟩])
  (.seq
   (.reg [
     ⟨(some 11),none,.p (.mov (.t 0))⟩,
     ⟨(some 12),none,.p (.mov (.t 1))⟩,
     ⟨(some 13),none,.p (.bld [.val (.slice none 0 0),.val (.slice none 0 0)] [(0,1,(.t 11)),(1,1,(.t 12))])⟩,
     ⟨(some 14),none,.e (.bsl 170 2 1 [.val (.slice none 0 0),.val (.slice none 0 0)] [(0,(.t 13))])⟩,
     ⟨(some 5),none,.p (.mov (.t 14))⟩])
   (.seq
    (.reg [
      ⟨(some 15),none,.e (.mkm 172)⟩,
      ⟨(some 6),none,.p (.mov (.t 15))⟩])
    (.seq
     (.blk 0
      (.loop QcY))
     (.seq
      (.reg [
        ⟨(some 4),none,.p (.mov (.c (bl true)))⟩])
      .ret)))))
theorem c74m:Qdv Tryz.prog Qf Tryz.f74 i74m r74=true:=by kernel_rfl
theorem Qk8:∀ l:List Ex,Ex.erL l=l.map Ex.er
 |[]=>rfl
 |e::r=>by rw[Ex.erL,Qk8 r,Vn]
theorem QcU {a b:List Ex} (h:Ex.erL a=Ex.erL b):a.length=b.length:=by
 have:=Zp List.length h;simpa[Qk8]using this
theorem QrF {a b:List Ex} (h:Ex.erL a=Ex.erL b) {i:Nat} (h1:i<a.length) (h2:i<b.length):(a[i]).er=(b[i]).er:=by
 rw[Qk8,Qk8]at h;have:=Zp (λl=>l[i]?) h;simpa[h1,h2]using this
theorem QAf:∀ {x y:Ex},x.er=y.er->Ex.erL x.lsE=Ex.erL y.lsE
 |.mk _ _ _ _ _,.mk _ _ _ _ _,h=>by simp only[Ex.er,Ex.mk.injEq]at h; exact h.2.2.2.1
def Qbg (a b:List Ex):List (List Ex×List Ex):=List.zipWith (λx y=>(x.lsE,y.lsE)) a b
def exP (td:List (List Ex×List Ex)):ZH:=td.flatMap λp=>[exS p.1,exS p.2]
theorem Qiz:∀ td:List (List Ex×List Ex),(exP td).length=td.length*2
 |[]=>rfl
 |p::r=>by
  have:=Qiz r;simp only[exP,VO,Vj,Vh,VK]at *;omega
theorem QpP (a b:List (List Ex×List Ex)):exP (a++b)=exP a++exP b:=by simp[exP]
theorem QqL (p:List Ex×List Ex):exP [p]=[exS p.1,exS p.2]:=by simp[exP]
def Qcm (td:List (List Ex×List Ex)):Nat:=(td.map λp=>QaZ p.1).sum
theorem Qmt (a b:List (List Ex×List Ex)):Qcm (a++b)=Qcm a+Qcm b:=by simp[Qcm]
theorem QqG:∀ td:List (List Ex×List Ex),td.length<=Qcm td
 |[]=>Vb _
 |l::r=>by
  have h1:=QhJ l.1;have h2:=QqG r;simp only[Qcm,Vn,YI,Vh]at h2 ⊢;omega
theorem Qj3 {a b:List Ex} (h:a.length=b.length):(Qbg a b).length=a.length:=by simp[Qbg,h]
theorem Qmp {a b:List Ex} {i:Nat} (h1:i<a.length) (h2:i<b.length) (h:i<(Qbg a b).length):(Qbg a b)[i]=((a[i]).lsE,(b[i]).lsE):=by simp[Qbg]
theorem QoU:∀ {a b:List Ex},a.length=b.length->QaZ a=1+Qcm (Qbg a b)
 |[],[],_=>rfl
 |x::a,y::b,h=>by
  have:=QoU (a:=a) (b:=b) (by simpa using h);obtain⟨o,n,s,l,p⟩:=x;rw[QaZ,this,Qd3];simp only[Qbg,Qcm,List.zipWith_cons_cons,Vn,YI,Ex.lsE];omega
theorem Qxl {a b:List Ex} (h:Ex.erL a=Ex.erL b):∀ p∈Qbg a b,Ex.erL p.1=Ex.erL p.2:=by
 intro p hp;obtain⟨i,hi,rfl⟩:=Y0 hp;have hl:=QcU h;have hi':i<a.length:=by rw[<-Qj3 hl]; exact hi
 rw[Qmp hi' (by omega) hi];exact QAf (QrF h hi' (by omega))
abbrev T2 (td:List (List Ex×List Ex)) (kp:ZI) (vp:ZH) (vt:Nat) (G:ZG):ZG:=⟨exP td,170,vt,true⟩::⟨.mk kp::vp,172,0,false⟩::G
structure SE (n:Nat) (td:List (List Ex×List Ex)) (vt:Nat) (env:Env):Prop where
 s5:env.get 5=.own n 0 td.length 2 vt
 s6:env.get 6=.mp (n+1) 0
theorem mo2 (H:ZG) (a:AO) (ks:ZI) (vs:ZH) (T:ZK) (G:ZG):SV.mapOf (H++a::⟨.mk ks::vs,T,0,false⟩::G) (.mp (H.length+1) 0)=some (ks,vs):=by
 simp[SV.mapOf]
section
variable [Qr] {H:ZG} {kp:ZI} {vp:ZH} {N:Nat} {K:ZF}
theorem Qy3 {vt:Nat} {G:ZG} {env:Env} (he:SE H.length [] vt env) (h:∀ env G,K (.exit 0) env (H++G)) :
 LI Tryz.prog N Qf QcY env (H++T2 [] kp vp vt G) K:=by
 obtain⟨h5,h6⟩:=he;refine Qu hm QcY.eq_1 ?_;simp -implicitDefEqProofs[h5,h6];exact h _ _
theorem Qob (A:ZH) (x y z:SV) {n:Nat} (h:A.length=n):(A++[x,y]).set n z=A++[z,y]:=by
 rw[Yg _ _ (by omega),h]; simp
theorem QpW (A:ZH) (x y z:SV) {n:Nat} (h:A.length=n):(A++[x,y]).set (n+1) z=A++[x,z]:=by
 rw[Yg _ _ (by omega),h]; simp
theorem Qxh {rest:List (List Ex×List Ex)} {vt:Nat} {G:ZG} {env:Env} (hr:rest.length<2000000000) (he:SE H.length (rest++[([],[])]) vt env)
 (h:∀ G env,SE H.length rest vt env->LI Tryz.prog N Qf QcY env (H++T2 rest kp vp vt G) K) :
 LI Tryz.prog N Qf QcY env (H++T2 (rest++[([],[])]) kp vp vt G) K:=by
 obtain⟨h5,h6⟩:=he;have hl:(rest++[(([],[]):List Ex×List Ex)]).length=rest.length+1:=by simp
 rw[hl]at h5;have hlen:=Qiz rest;have hcell:exP (rest++[([],[])])=exP rest++[SV.slc [] 0,SV.slc [] 0]:=by rw[QpP,QqL]; rfl
 rw[show T2 (rest++[([],[])]) kp vp vt G=⟨exP rest++[SV.slc [] 0,SV.slc [] 0],170,vt,true⟩::⟨.mk kp::vp,172,0,false⟩::G by rw[T2,hcell]];refine LI.learn0 H.length (rest.length*2) (o:=⟨exP rest++[SV.slc [] 0,SV.slc [] 0],170,vt,true⟩) (cells:=[]) (len:=0) (by simp) rfl (by simp[hlen]) λoa cap => ?_;refine LI.cong (H':=H++⟨exP rest++[SV.val (.slice oa 0 cap),SV.slc [] 0],170,vt,true⟩::⟨.mk kp::vp,172,0,false⟩::G) (by rw[<-Qob (exP rest) (SV.slc [] 0) (SV.slc [] 0) (SV.val (.slice oa 0 cap)) hlen]; simp) ?_;refine LI.learn0 H.length (rest.length*2+1) (o:=⟨exP rest++[SV.val (.slice oa 0 cap),SV.slc [] 0],170,vt,true⟩) (cells:=[]) (len:=0) (by simp) rfl (by rw[Vk (by omega)]; simp[hlen]) λob cap' => ?_;refine LI.cong (H':=H++⟨exP rest++[SV.val (.slice oa 0 cap),SV.val (.slice ob 0 cap')],170,vt,true⟩::⟨.mk kp::vp,172,0,false⟩::G) (by rw[<-QpW (exP rest) (SV.val (.slice oa 0 cap)) (SV.slc [] 0) (SV.val (.slice ob 0 cap')) hlen]; simp) ?_;have htk:List.take (rest.length*2) (exP rest++[SV.val (.slice oa 0 cap),.val (.slice ob 0 cap')])=exP rest:=VG hlen;have hcc:(exP rest++[SV.val (.slice oa 0 cap),.val (.slice ob 0 cap')]).length=rest.length*2+2:=by simp[hlen]
 have hgd:(List.drop (rest.length*2) (exP rest++[SV.val (.slice oa 0 cap),.val (.slice ob 0 cap')]))=[.val (.slice oa 0 cap),.val (.slice ob 0 cap')]:=Y2 hlen;have w1:IntKind.i64.wrap (rest.length:Int)=(rest.length:Int):=QeU (by omega);refine Qu hm QcY.eq_1 ?_;generalize exP rest++[SV.val (.slice oa 0 cap),.val (.slice ob 0 cap')]=cc at *;simp -implicitDefEqProofs[h5,h6,w1,hgd];refine⟨by omega,⟨rfl,rfl⟩,LI.tell (Qaw.trunc (j:=H.length) (o:=⟨cc,170,vt,true⟩) (by simp) rfl (rest.length*2)) (LI.cong (H':=H++T2 rest kp vp vt (G++[⟨[SV.val (.slice oa 0 cap),SV.val (.slice ob 0 cap')],170,0,true⟩])) (by simp[htk]) (h _ _ ⟨by simp,by simp⟩))⟩
theorem Qye {a b:List Ex} (hab:Ex.erL a=Ex.erL b) (hl3:a.length<=100) {rest:List (List Ex×List Ex)} (hr:rest.length+200<2000000000) {G1:ZG}
 (h:∀ vt G env,SE H.length (rest++Qbg a b) vt env->K (.exit 2) env (H++T2 (rest++Qbg a b) kp vp vt G)) :
 ∀ (m i vt:Nat) (G:ZG) (env:Env),i+m=a.length->SE H.length (rest++(Qbg a b).take i) vt env->env.get 7=rp (H.length+(G1.length+2))->env.get 68=exS a->env.get 69=i64 a.length->env.get 70=i64 i ->
  LI Tryz.prog N Qf Qj7 env (H++T2 (rest++(Qbg a b).take i) kp vp vt (G1++⟨[exS a,exS b],170,0,true⟩::G)) K:=by
 have hlab:=QcU hab;intro m
 induction m with
 |zero =>
  intro i vt G env hi he h7 h68 h69 h70;obtain⟨h5,h6⟩:=he;refine Qu hm Qj7.eq_1 ?_;have e:i=a.length:=by omega
  subst e;rw[VD (by rw[Qj3 hlab]; exact Vb _)]at *;simp -implicitDefEqProofs[h5,h6,h7,h68,h69,h70];exact h vt _ _ ⟨by simp,by simp⟩
 |succ m ih =>
  intro i vt G env hi he h7 h68 h69 h70;obtain⟨h5,h6⟩:=he;refine Qu hm Qj7.eq_1 ?_;have hlt:i<a.length:=by omega
  have hltb:i<b.length:=by omega
  have hlt':(i:Int)<a.length:=by omega
  have hltb':(i:Int)<b.length:=by omega
  have hg:=QfJ hlt;have hgb:=QfJ hltb;have hcl':=Qfi a;have hclb':=Qfi b;have hoke:=QrF hab hlt hltb;have hki:i<(Qbg a b).length:=by rw[Qj3 hlab]; exact hlt
  have htk:rest++(Qbg a b).take (i+1)=(rest++(Qbg a b).take i)++[((a[i]).lsE,(b[i]).lsE)]:=by
   rw[<-Zk hki,Qmp hlt hltb hki,Vz]
  have ih:=ih (i+1);rw[htk]at ih;have hrl:(rest++(Qbg a b).take i).length<2000000000:=by simp; omega
  generalize rest++(Qbg a b).take i=td at *;generalize a[i]=x at *;generalize b[i]=y at *;obtain⟨op,n,nm,le,p⟩:=x;obtain⟨op',n',nm',le',p'⟩:=y;simp only[Ex.er,Ex.mk.injEq]at hoke;obtain⟨rfl,rfl,rfl,hle,_⟩:=hoke;have hex:=Qiz td;simp -implicitDefEqProofs[h5,h6,h7,h68,h69,h70,exS,hlt',hltb',hg,hgb,hcl',hclb',Ex.c,rp,hex,Yd];refine⟨by omega,by omega,by omega,by omega,LI.cong ?_ (ih (vt+1) (G++[⟨[i64 op,i64 n,st (B nm),.slc (Ex.cL le) le.length,i64 p],25,0,true⟩,⟨[i64 op,i64 n,st (B nm),.slc (Ex.cL le') le'.length,i64 p'],25,0,true⟩,⟨[.slc (Ex.cL le) le.length,.slc (Ex.cL le') le'.length],170,0,true⟩]) _ (by omega) ⟨?_,?_⟩ ?_ ?_ ?_ ?_)⟩
  . simp[exP,Ex.lsE,exS]
  . simp
  . simp
  . simp[rp]
  . simp[exS]
  . simp
  . simp[QaH (show i<9223372036854775807 by omega)]
theorem Qwe {l m:List Ex} {rest:List (List Ex×List Ex)} {a b:Addr} {cap cap' vt:Nat} {G:ZG} {env:Env} (hk:(exS l,Value.slice (some a) l.length cap)∈Qr.kn) (hk':(exS m,Value.slice (some b) l.length cap')∈Qr.kn)
 (hlm:Ex.erL l=Ex.erL m) (hl0:l≠[]) (hl3:l.length<=100) (hr:rest.length+200<2000000000)
 (hkl:kp.length=vp.length) (hkn:∀ v∈kp,(KK.pp 164 25).knows v) (hvp:∀ x∈vp,∃ n,x=i64 n) (he:SE H.length (rest++[(l,m)]) vt env)
 (hskip:∀ G env,SE H.length rest vt env->LI Tryz.prog N Qf QcY env (H++T2 rest kp vp vt G) K)
 (h:∀ kp' vp' vt G env,kp'.length=vp'.length->(∀ v∈kp',(KK.pp 164 25).knows v)->(∀ x∈vp',∃ n,x=i64 n)->SE H.length (rest++Qbg l m) vt env->LI Tryz.prog N Qf QcY env (H++T2 (rest++Qbg l m) kp' vp' vt G) K) :
 LI Tryz.prog N Qf QcY env (H++⟨exP rest++[.val (.slice (some a) l.length cap),.val (.slice (some b) l.length cap')],170,vt,true⟩::⟨.mk kp::vp,172,0,false⟩::G) K:=by
 obtain⟨h5,h6⟩:=he;have hl:(rest++[(l,m)]).length=rest.length+1:=by simp
 rw[hl]at h5;have hlm':=QcU hlm;have hkn1:∀ {x:List Ex} {c:Addr} {cap:Nat},x≠[]->(exS x,Value.slice (some c) l.length cap)∈Qr.kn->x.length=l.length->Qc2 (.pointer (some c)):=by
  intro x c cap hx hk hxl;rw[exS,hxl]at hk;refine⟨rfl,c,Ex.cL x,l.length,cap,rfl,hk,?_⟩
  cases x with
  |nil=>exact absurd rfl hx
  |cons x r =>
   obtain⟨op,n,nm,l,p⟩:=x;exact⟨B nm,by rw[Ex.cL,Ex.c]; exact Yq _ (.tail _ (.tail _ (.head _)))⟩
 have hm0:m≠[]:=by
  intro e; rw[e]at hlm'; simp at hlm'; exact hl0 hlm'
 have hknow:(KK.pp 164 25).knows (.agg #[.pointer (some a),.pointer (some b)]):=⟨_,_,rfl,hkn1 hl0 hk rfl,hkn1 hm0 hk' hlm'.symm⟩;have hkall:∀ v∈(Value.agg #[.pointer (some a),.pointer (some b)])::kp,(KK.pp 164 25).knows v:=by
  intro v hv;rcases Ve.1 hv with rfl|hv
  . exact hknow
  . exact hkn v hv
 have hkis:∀ v∈kp,(KK.pp 164 25).is v=true:=by
  intro v hv;obtain⟨x,y,rfl,⟨_,c,_,_,_,rfl,_⟩,⟨_,d,_,_,_,rfl,_⟩⟩:=hkn v hv;rfl
 have hl0':¬ (l.length:Int)=0:=by
  cases l with
  |nil=>exact absurd rfl hl0
  |cons x r=>simp; omega
 have hl00:¬ l.length=0:=by omega
 have hpos:0<l.length:=by omega
 have hlen:=Qiz rest;have htk:List.take (rest.length*2) (exP rest++[SV.val (.slice (some a) l.length cap),.val (.slice (some b) l.length cap')])=exP rest:=VG hlen;have hcc:(exP rest++[SV.val (.slice (some a) l.length cap),.val (.slice (some b) l.length cap')]).length=rest.length*2+2:=by simp[hlen]
 have hgd:(List.drop (rest.length*2) (exP rest++[SV.val (.slice (some a) l.length cap),.val (.slice (some b) l.length cap')]))=[.val (.slice (some a) l.length cap),.val (.slice (some b) l.length cap')]:=Y2 hlen;have w1:IntKind.i64.wrap (rest.length:Int)=(rest.length:Int):=QeU (by omega);refine Qu hm QcY.eq_1 ?_;generalize exP rest++[SV.val (.slice (some a) l.length cap),.val (.slice (some b) l.length cap')]=cc at *;obtain⟨n,hn⟩:∃ n,(lkm (Value.agg #[.pointer (some a),.pointer (some b)]) kp vp).getD (i64 0)=i64 n:=by
  cases hlk:lkm (Value.agg #[.pointer (some a),.pointer (some b)]) kp vp with
  |none=>exact⟨0,rfl⟩
  |some x=>obtain⟨n,rfl⟩:=hvp x (QlP hlk); exact⟨n,rfl⟩
 have hal:((kp,vp):ZI×ZH).1.all (KK.pp 164 25).is=true:=Vm.2 hkis;have add0:∀ a:Addr,a.add 0=a:=λa=>Zn rfl;have hpt:QaY 1 (SV.val (Value.pointer (some a)))/\QaY 1 (SV.val (Value.pointer (some b))):=⟨⟨rfl,rfl,rfl⟩,rfl,rfl,rfl⟩;by_cases hmet:(l.length:Int)<=n
 . simp -implicitDefEqProofs[h5,h6,w1,hgd,hl00,hpos,mo2,QiR,add0,hn,hmet,SV.isK,SV.key,SV.isPP,SV.ppval,SV.isP,SV.pval];refine⟨by omega,⟨rfl,rfl⟩,hpt,⟨rfl,hkis,hknow,hkn⟩,LI.tell (Qaw.trunc (j:=H.length) (o:=⟨cc,170,vt,true⟩) (by simp) rfl (rest.length*2)) (LI.cong (H':=H++T2 rest kp vp vt (G++[⟨[SV.val (.slice (some a) l.length cap),SV.val (.slice (some b) l.length cap')],170,0,true⟩])) (by simp[htk]) (hskip _ _ ⟨by simp,by simp⟩))⟩
 . simp -implicitDefEqProofs[h5,h6,w1,hgd,hl00,hpos,mo2,QiR,add0,hn,hmet,SV.isK,SV.key,SV.isPP,SV.ppval,SV.isP,SV.pval];refine⟨by omega,⟨rfl,rfl⟩,hpt,⟨rfl,hkis,hknow,hkn⟩,hpt,?_⟩;refine QbT (x:=(kp,vp)) (mo2 ..) rfl rfl hal ?_ (by simpa[SV.key,SV.ppval,SV.pval]using hkall);simp -implicitDefEqProofs[SV.key,SV.ppval,SV.pval];have hk2:(SV.slc (Ex.cL m) l.length,Value.slice (some b) l.length cap')∈Qr.kn:=by rw[exS,<- hlm']at hk'; exact hk'
   refine LI.tell (Qaw.knownE (k:=68) (by simp) hk) ?_;refine LI.tell (Qaw.known (j:=H.length+(G.length+2)) (p:=0) (o:=⟨[SV.val (.slice (some a) l.length cap),SV.val (.slice (some b) l.length cap')],170,0,true⟩) (by simp) rfl rfl hk) ?_;refine LI.tell (Qaw.known (j:=H.length+(G.length+2)) (p:=1) (o:=⟨[SV.slc (Ex.cL l) l.length,SV.val (.slice (some b) l.length cap')],170,0,true⟩) (by simp) rfl rfl hk2) ?_;refine LI.tell (Qaw.trunc (j:=H.length) (o:=⟨cc,170,vt,true⟩) (by simp) rfl (rest.length*2)) ?_;generalize hks:Q8 (Value.agg #[Value.pointer (some a),Value.pointer (some b)]) kp=kp';generalize hvs:Q5 (Value.agg #[Value.pointer (some a),Value.pointer (some b)]) (i64 l.length) kp vp=vp';have hkl':kp'.length=vp'.length:=by
    rw[<-hks,<- hvs]; exact QnK hkl
   have hkn':∀ v∈kp',(KK.pp 164 25).knows v:=λv hv=>by
    rw[<-hks]at hv;rcases Qnn hv with hv|rfl
    . exact hkn v hv
    . exact hknow
   have hvp':∀ x∈vp',∃ n,x=i64 n:=λx hx=>by
    rw[<-hvs]at hx;rcases Qnx hx with hx|rfl
    . exact hvp x hx
    . exact⟨_,rfl⟩
   refine LI.cong (H':=H++T2 (rest++(Qbg l m).take 0) kp' vp' vt (G++⟨[exS l,exS m],170,0,true⟩::[])) (by simp[htk,exS,<- hlm']) ?_;refine Qye hlm hl3 hr (λvt G env he => ?_) l.length 0 vt [] _ (by omega) ⟨?_,?_⟩ ?_ ?_ ?_ ?_
   . simp -implicitDefEqProofs;exact h _ _ vt G env hkl' hkn' hvp' he
   all_goals simp[exS,h6,rp]
theorem Qwb {l m:List Ex} {rest:List (List Ex×List Ex)} {vt:Nat} {G:ZG} {env:Env} (hlm:Ex.erL l=Ex.erL m) (hl0:l≠[]) (hl3:l.length<=100) (hr:rest.length+200<2000000000)
 (hkl:kp.length=vp.length) (hkn:∀ v∈kp,(KK.pp 164 25).knows v) (hvp:∀ x∈vp,∃ n,x=i64 n) (he:SE H.length (rest++[(l,m)]) vt env)
 (h:∀ (kn:Qr) td kp' vp' vt G env,(td=rest\/td=rest++Qbg l m)->kp'.length=vp'.length->(∀ v∈kp',@KK.knows _ kn (.pp 164 25) v)->(∀ x∈vp',∃ n,x=i64 n)->SE H.length td vt env -> @LI _ _ kn Tryz.prog N Qf QcY env (H++T2 td kp' vp' vt G) K) :
 LI Tryz.prog N Qf QcY env (H++T2 (rest++[(l,m)]) kp vp vt G) K:=by
 have hne:∀ {l:List Ex},l≠[]->Ex.cL l≠[]:=by
  intro l hl0
  cases l with
  |nil=>exact absurd rfl hl0
  |cons x r=>obtain⟨a,b,c,d,e⟩:=x; simp[Ex.cL,Ex.c]
 have hlm':=QcU hlm;have hm0:m≠[]:=by
  intro e; rw[e]at hlm'; simp at hlm'; exact hl0 hlm'
 have hlen:=Qiz rest;have hcell:exP (rest++[(l,m)])=exP rest++[SV.slc (Ex.cL l) l.length,SV.slc (Ex.cL m) m.length]:=by rw[QpP,QqL]; rfl
 rw[show T2 (rest++[(l,m)]) kp vp vt G=⟨exP rest++[SV.slc (Ex.cL l) l.length,SV.slc (Ex.cL m) m.length],170,vt,true⟩::⟨.mk kp::vp,172,0,false⟩::G by rw[T2,hcell]];refine LI.learn H.length (rest.length*2) (o:=⟨exP rest++[SV.slc (Ex.cL l) l.length,SV.slc (Ex.cL m) m.length],170,vt,true⟩) (cells:=Ex.cL l) (len:=l.length) (by simp) rfl (by simp[hlen]) (hne hl0) (Ex.undL 0 l) λa cap => ?_;have mono:∀ (A B:Qr) (v:Value),(∀ q∈A.kn,q∈B.kn) -> @KK.knows _ A (.pp 164 25) v -> @KK.knows _ B (.pp 164 25) v:=by
  rintro A B v hq ⟨x,y,rfl,⟨hf,a,cells,len,cap,h1,h2,h3⟩,⟨hf',a',cells',len',cap',h1',h2',h3'⟩⟩;exact⟨x,y,rfl,⟨hf,a,cells,len,cap,h1,hq _ h2,h3⟩,⟨hf',a',cells',len',cap',h1',hq _ h2',h3'⟩⟩
 refine @LI.cong _ _ ⟨(.slc (Ex.cL l) l.length,.slice (some a) l.length cap)::Qr.kn⟩ _ _ _ _ _ _ (H++⟨exP rest++[SV.val (.slice (some a) l.length cap),SV.slc (Ex.cL m) m.length],170,vt,true⟩::⟨.mk kp::vp,172,0,false⟩::G) _ (by rw[<-Qob (exP rest) (SV.slc (Ex.cL l) l.length) (SV.slc (Ex.cL m) m.length) (SV.val (.slice (some a) l.length cap)) hlen]; simp) ?_;refine @LI.learn _ _ ⟨(.slc (Ex.cL l) l.length,.slice (some a) l.length cap)::Qr.kn⟩ _ _ _ _ _ _ _ H.length (rest.length*2+1) (⟨exP rest++[SV.val (.slice (some a) l.length cap),SV.slc (Ex.cL m) m.length],170,vt,true⟩) (Ex.cL m) m.length (by simp) rfl (by rw[Vk (by omega)]; simp[hlen]) (hne hm0) (Ex.undL 0 m) λb cap' => ?_;let G3:Qr:=⟨(.slc (Ex.cL m) m.length,.slice (some b) m.length cap')::(.slc (Ex.cL l) l.length,.slice (some a) l.length cap)::Qr.kn⟩
 refine @LI.cong _ _ G3 _ _ _ _ _ _ (H++⟨exP rest++[SV.val (.slice (some a) l.length cap),SV.val (.slice (some b) l.length cap')],170,vt,true⟩::⟨.mk kp::vp,172,0,false⟩::G) _ (by rw[hlm',<- QpW (exP rest) (SV.val (.slice (some a) m.length cap)) (SV.slc (Ex.cL m) m.length) (SV.val (.slice (some b) m.length cap')) hlen]; simp) ?_;have hkn':∀ v∈kp,@KK.knows _ G3 (.pp 164 25) v:=λv hv=>mono _ G3 v (λq hq=>VQ _ (VQ _ hq)) (hkn v hv);exact @Qwe G3 H kp vp N K l m rest a b cap cap' vt G env (VQ _ (Yx ..)) (by rw[hlm']; exact Yx ..) hlm hl0 hl3 hr hkl hkn' hvp he
  (λG env he=>h _ _ _ _ _ G env (.inl rfl) hkl hkn' hvp he) (λkp' vp' vt G env h1 h2 h3 he=>h _ _ _ _ _ G env (.inr rfl) h1 h2 h3 he)
end
section
variable {H:ZG} {N:Nat} {K:ZF}
theorem Qy2 (hK:∀ env G,K (.exit 0) env (H++G)):∀ (M:Nat),M<1000000000->∀ (kn:Qr) (td:List (List Ex×List Ex)) (kp:ZI) (vp:ZH) (vt:Nat) (G:ZG) (env:Env),Qcm td<=M->(∀ p∈td,Ex.erL p.1=Ex.erL p.2/\p.1.length<=100/\∀ e∈p.1,e.sm) ->
 kp.length=vp.length->(∀ v∈kp,@KK.knows _ kn (.pp 164 25) v)->(∀ x∈vp,∃ n,x=i64 n)->SE H.length td vt env -> @LI _ _ kn Tryz.prog N Qf QcY env (H++T2 td kp vp vt G) K:=by
 intro M
 induction M using Nat.strongRecOn with
 |ind M ih =>
  intro hM kn td kp vp vt G env hc hok hkl hkn hvp he;rcases List.eq_nil_or_concat td with rfl|⟨rest,⟨l,m⟩,rfl⟩
  . exact Qy3 he hK
  . rw[List.concat_eq_append]at *;have hrl:=QqG (rest++[(l,m)]);simp only[Vj,List.length_singleton]at hrl;rw[Qmt]at hc hrl;have hl1:Qcm [(l,m)]=QaZ l:=by simp[Qcm]
    rw[hl1]at hc hrl;have hpos:=QhJ l;have hrest:∀ p∈rest,Ex.erL p.1=Ex.erL p.2/\p.1.length<=100/\∀ e∈p.1,e.sm:=λx hx=>hok x (by simp[hx]);obtain⟨hlm,hl3,hle⟩:=hok (l,m) (by simp);have hce:=QoU (a:=l) (b:=m) (QcU hlm);by_cases hl0:l=[]
    . subst hl0;have hm0:m=[]:=by
       have:=QcU hlm;exact Yb.1 (by simpa using this.symm)
      subst hm0;exact Qxh (by omega) he λG env he=>ih (Qcm rest) (by omega) (by omega) kn rest kp vp vt G env (Vb _) hrest hkl hkn hvp he
    . refine Qwb hlm hl0 hl3 (by omega) hkl hkn hvp he λkn' td kp' vp' vt G env htd h1 h2 h3 he2 => ?_;rcases htd with rfl|rfl
      . exact ih (Qcm td) (by omega) (by omega) kn' td kp' vp' vt G env (Vb _) hrest h1 h2 h3 he2
      . refine ih (Qcm (rest++Qbg l m)) (by rw[Qmt]; omega) (by rw[Qmt]; omega) kn' _ kp' vp' vt G env (Vb _) ?_ h1 h2 h3 he2;intro x hx;rcases Vq.1 hx with hx|hx
        . exact hrest x hx
        . refine⟨Qxl hlm x hx,?_⟩;obtain⟨i,hi,rfl⟩:=Y0 hx;have hll:l.length=m.length:=QcU hlm;have hi':i<l.length:=by rw[<-Qj3 hll]; exact hi
          rw[Qmp hi' (by omega) hi];have:=hle l[i] (Vu hi');generalize l[i]=e at this ⊢;obtain⟨op,n,nm,l',p⟩:=e;unfold Ex.sm at this;exact⟨Vg this.1 (by omega),Qrg.1 this.2⟩
theorem ok74 {l m:List Ex} (hlm:Ex.erL l=Ex.erL m) (hl:l.length<=100) (hok:∀ e∈l,e.sm) (hc:QaZ l<1000000000):Ok Tryz.prog 74 [exS l,exS m] H (.ret (bl true)) H:=by
 refine Qz hm Tryz.func74 c74m (by simp[exS]) λhcl => ?_;simp -implicitDefEqProofs[i74m,r74,exS];refine LI.cong (H':=H++T2 [(l,m)] [] [] 0 []) (by simp[exP,exS]) ?_;refine Qy2 (λenv G => ?_) (QaZ l) hc _ [(l,m)] [] [] 0 [] _ (by simp[Qcm]) (by simpa using ⟨hlm,hl,hok⟩) rfl (by simp) (by simp) ⟨?_,?_⟩
 . simp -implicitDefEqProofs;exact Qp 3 hcl rfl (by simp)
 all_goals simp
end
theorem gPow : Tryz.prog.globalNamed "internal/strconv.uint64pow10" = some 3 := by kernel_rfl
theorem QyI {S : St} (h : S.GL) : Lib.TabIs Tryz.prog S.w "internal/strconv.uint64pow10" .u64 Lib.pow10Tab := by
 obtain⟨h1,T,h2⟩:=h 3 _ rfl;generalize hus:(Lib.pow10Tab.map λz=>Value.int .u64 z)=us at h1 h2;unfold Lib.TabIs World.var?;rw[gPow,hus];simp only[Option.bind_some];unfold World.shape? at h2;split at h2
 . rename_i c e f hh;rw[hh];simp only[Option.some.injEq,Prod.mk.injEq]at h2 ⊢;obtain⟨_,h2⟩:=h2;apply Array.ext
   . simpa using h2
   . intro i hi1 hi2;have h3:=h1.1 i us[i] (Vd (by simpa using hi2));have e:((⟨3,0,none⟩:Addr).add i)=⟨3,i,none⟩:=by unfold Addr.add; split<;>simp_all
     rw[e]at h3;unfold World.cell? at h3;simp only[hh]at h3;simp at h3;rw[VT hi1]at h3;simpa using h3
 . cases h2
theorem VRs1 {S:St} {a:Value} {vs:ZI} (h:VRs S [.val a] vs):vs=[a]:=by
 obtain⟨h1,h2⟩:=h
 match vs,h1 with
 |[x],_ =>
  have hx:=h2 0 _ x rfl rfl
  cases hx; rfl
def QlR (n:Int):ZE:=Lib.itoa n
theorem QzM {n:Int} (h:0<=n):QlR n=QbV n:=by
 unfold QlR Lib.itoa QbV;rw[Zm (by omega)]
theorem QzA {H:ZG} (n:Int) (h0 : -9223372036854775808<=n) (h1:n<=9223372036854775807):Ok Tryz.prog 106 [i64 n] H (.ret (st (B (QlR n)))) H :=
 Ok.lib (enters_of Tryz.func106 (by kernel_rfl) rfl) λS vs hS hv=>by
  rw[VRs1 hv];refine(Tryz.strconv_Itoa n h0 h1 S.w (QyI hS.gl)).mono ?_;rintro e w' ⟨rfl,k,os,rfl⟩;exact⟨rfl,Lib.below_grow _ _ (Vb _) _ _⟩
theorem QjL {n:Int} (h0:0<=n) (h1:n<=9223372036854775807):NumK n:=λH=>by
 rw[<-QzM h0]; exact QzA n (by omega) h1
theorem QjP {α:Type} {c:α->ZH} {w:Nat} (hc:∀ a,(c a).length=w) {l:List α} {i:Nat} (h:i<l.length):((rws c l).drop (i*w)).take w=c l[i]:=by
 rw[QdR hc h,VG (hc _)]
theorem Ex.okc:∀ e:Ex,QC e.c
 |.mk op n nm l p=>by
  intro s hs; simp[Ex.c]at hs;rcases hs with rfl|rfl|rfl|rfl|rfl<;>rfl
theorem Qo.ok (s:Qo):QC s.c:=by
 intro x hx;rw[Qo.c]at hx;rcases Ve.1 hx with rfl|hx
 . rfl
 . rcases Vq.1 hx with hx|hx
   . exact Ex.okc s.e x hx
   . rw[VV.1 hx]; rfl
@[simp] theorem Qo.okT (s:Qo):QC s.c=True:=Zw s.ok
section
variable {H:ZG}
theorem Qxt {l:List Qb} (hl:l.length<2147483648) {C:ZN} {p:SV} (hf:∀ e∈l,Ok Tryz.prog C [.agg e.c,p] H (.ret (bl false)) H) {N:Nat} {K:ZF} (hexit:∀ env,K (.exit 0) env H) :
 ∀ (m i:Nat) (env:Env),i+m=l.length->env.get 0=.slc (rws Qb.c l) l.length->env.get 1=.fn (.func C) [] [p]->env.get 7=i64 l.length->env.get 8=i64 i->LI Tryz.prog N Qf Qjz env H K:=by
 have hlen:=QaI Qb.c_len l;intro m
 induction m with
 |zero =>
  intro i env hi h0 h1 h7 h8;refine Qu hm Qjz.eq_1 ?_;have e:i=l.length:=by omega
  subst e;simp[h0,h1,h7,h8];exact hexit _
 |succ m ih =>
  intro i env hi h0 h1 h7 h8;refine Qu hm Qjz.eq_1 ?_;have hlt:i<l.length:=by omega
  have hlt':(i:Int)<l.length:=by omega
  have hg:=QjP (c:=Qb.c) Qb.c_len hlt;have hfe:=hf _ (Vu hlt);generalize l[i]=e at hg hfe

  simp[h0,h1,h7,h8,hlt',hg,hlen];refine⟨by omega,?_⟩;refine Qqt (H':=H) (out:=.ret (bl false)) (by simpa using hfe) ?_;simp[h0,h1,h7,h8];refine ih (i+1) _ (by omega) ?_ ?_ ?_ ?_;all_goals simp[QaH (show i<9223372036854775807 by omega)]
theorem QyM {l:List Qb} (hl:l.length<2147483648) {C:ZN} {p:SV} (hp:p.under H.length=true) (hf:∀ e∈l,Ok Tryz.prog C [.agg e.c,p] H (.ret (bl false)) H) :
 Ok Tryz.prog 184 [.slc (rws Qb.c l) l.length,.fn (.func C) [] [p]] H (.ret (i64 (-1))) H:=by
 refine Qz hm Tryz.func184 c184 (by simp) λhcl => ?_;simp[i184,r184];refine Qxt hl hf (λenv => ?_) l.length 0 _ (by omega) (by simp) (by simp) (by simp) (by simp);simp;exact Qi
theorem QtX {l:List Qb} (hl:l.length<2147483648) {C:ZN} {p:SV} (hp:p.under H.length=true) (hf:∀ e∈l,Ok Tryz.prog C [.agg e.c,p] H (.ret (bl false)) H) :
 Ok Tryz.prog 152 [.slc (rws Qb.c l) l.length,.fn (.func C) [] [p]] H (.ret (bl false)) H:=by
 have h:=QyM hl hp hf;refine Qz hm Tryz.func152 c152 (by simp) λhcl => ?_;simp[i152,r152];refine Qc h ?_;simp;exact Qi
theorem QAd {x:Qb} {R:ZN} {j T:Nat} (hj:H[j]? = some ⟨[.fn (.func R) [] []],T,0,true⟩) (hR:∀ L,Ok Tryz.prog R [.agg x.c] (H++L) (.ret (bl true)) (H++L)) :
 Ok Tryz.prog 153 [.agg x.c,rp j] H (.ret (bl false)) H:=by
 have hlt:=Qj hj;have e1:∀ L,Qn (H++L) j 0=[.fn (.func R) [] []]:=λL=>Qap (o:=⟨[.fn (.func R) [] []],T,0,true⟩) (by rw[Vc hlt]; exact hj) rfl;have e2:Qn H j 0=[.fn (.func R) [] []]:=Qap hj rfl;refine Qz hm Tryz.func153 c153 (by simp[rp]) λhcl => ?_;simp[i153,r153,rp,e1]

 refine Qc (hR _) ?_;simp;exact Qp 3 hcl rfl (by simp)
theorem Qu2 {l:List Qb} (hl:l.length<2147483648) {R:ZN} (hR:∀ x∈l,∀ L,Ok Tryz.prog R [.agg x.c] (H++L) (.ret (bl true)) (H++L)) :
 Ok Tryz.prog 103 [.slc (rws Qb.c l) l.length,.fn (.func R) [] []] H (.ret (bl true)) H:=by
 have h:=QtX hl (H:=H++[⟨[.fn (.func R) [] []],95,0,true⟩]) (C:=153) (p:=.ptr (.own H.length 0 0 0 0) 0) (by simp[SV.under]) λx hx=>QAd (R:=R) (j:=H.length) (T:=95) (by simp) λL=>by rw[Vz]; exact hR x hx _
 refine Qz hm Tryz.func103 c103 (by simp) λhcl => ?_;simp[i103,r103];refine Qc h ?_;simp;exact Qp 3 hcl rfl (by simp)
end
structure QbS (l:List Ex):Prop where
 len:l.length<=100
 prp:∀ e∈l,e.prp
 cst:QaZ l<1000000000
structure Qcp (s:ZE):Prop where
 len:s.length<4611686018427387904
 ok:Qb8 s=true
structure Qo.prp (s:Qo):Prop where
 nm:Qcp s.nm
 e:QbS [s.e]
structure Qm.prp (a:Qm):Prop where
 nm:Qcp a.nm
 wh1:a.wh.length<=1
 wh:QbS a.wh
 sets:∀ s∈a.sets,s.prp
 len:a.sets.length<2147483648
 go:a.go=[]\/Qcp a.go
structure Qb.dl (x:Qb):Prop where
 nm:Qcp x.nm
 lo:0<=x.lo/\x.lo<=1000000000
 hi:0<=x.hi/\x.hi<=1000000000
 seen:∀ n∈x.seen,0<=n/\n<=1000000000
 len:x.seen.length<2147483648
 wt1:x.wt.length<=1
 wt:QbS x.wt
 all:x.all=true->x.seen=[]
section
variable {H:ZG}
theorem Qz9 {l:List Ex} (h:QbS l):Ok Tryz.prog 72 [exS l] H (.ret (bl true)) H:=ok72 h.len h.prp h.cst
theorem Qnb {s:ZE} (h:Qcp s):Ok Tryz.prog 101 [st (B s)] H (.ret (bl true)) H:=by
 have:=QsJ (H:=H) h.len
 rwa [h.ok]at this
theorem QoX {a n b:Int} (h1:a<=n) (h2:n<=b):Ok Tryz.prog 102 [i64 a,i64 n,i64 b] H (.ret (bl true)) H:=by
 have:=QsK (H:=H) a n b
 rwa [decide_eq_true (And.intro h1 h2)]at this
end
structure Qb.tn (x:Qb):Prop where
 who1:x.who.length=1
 who:QbS x.who
 acts0:0<x.acts.length
 acts:∀ a∈x.acts,a.prp
 len:x.acts.length<2147483648
 nm:x.nm=[]
 lo:x.lo=0
 hi:x.hi=0
 wt:x.wt=[]
 all:x.all=false
 seen:x.seen=[]
 pays:x.pays=[]
structure Qb.en (x:Qb):Prop where
 pays0:0<x.pays.length
 pays:QbS x.pays
 nm:x.nm=[]
 lo:x.lo=0
 hi:x.hi=0
 wt:x.wt=[]
 all:x.all=false
 seen:x.seen=[]
 who:x.who=[]
 acts:x.acts=[]
structure Qb.prp (x:Qb):Prop where
 lb:x.lb=[]\/Qcp x.lb
 kd:(x.k=1/\x.dl/\x.who=[]/\x.acts=[]/\x.pays=[])\/(x.k=2/\x.tn)\/(x.k=3/\x.en)
def Qb.at0 (x:Qb):Qb:={ x with p:=0 }
section
variable {H:ZG}
set_option maxRecDepth 8000 in
set_option maxHeartbeats 2000000 in
theorem Qzq (x:Qb):Ok Tryz.prog 157 [.agg x.c,.agg x.at0.c] H (.ret (bl true)) H:=by
 refine Qz hm Tryz.func157 c157 (by simp[SV.under,Qb.und]) λhcl => ?_;simp -implicitDefEqProofs[i157,r157,Qb.c,Qb.at0];refine⟨⟨rfl,rfl,rfl⟩,?_⟩;simp -implicitDefEqProofs[exS];exact Qp 3 hcl rfl (by simp)
theorem QuI {x:Qb} (hlb:x.lb=[]\/Qcp x.lb) {N:Nat} {K:ZF} {env:Env} (h1:env.get 1=rp H.length)
 (hK:∀ env,env.get 1=rp H.length->K .normal env (H++[⟨x.c,78,0,true⟩])):X Tryz.prog N Qf (IC.nth 1 Qcs) env (H++[⟨x.c,78,0,true⟩]) K:=by
 rcases hlb with h|h
 . obtain⟨k,lb,nm,lo,hi,wt,all,seen,who,acts,pays,p⟩:=x;simp only at h; subst h;simp -implicitDefEqProofs[IC.nth,Qcs,Qb.c,rp,h1];refine Qcg _ _ _ _ ?_;simp -implicitDefEqProofs[h1,rp];exact hK _ (by simp[h1,rp])
 . have h101:=λH=>Qnb (H:=H) h;by_cases h0:x.lb=[]
   . clear h101 h;obtain⟨k,lb,nm,lo,hi,wt,all,seen,who,acts,pays,p⟩:=x;simp only at h0; subst h0;simp -implicitDefEqProofs[IC.nth,Qcs,Qb.c,rp,h1];refine Qcg _ _ _ _ ?_;simp -implicitDefEqProofs[h1,rp];exact hK _ (by simp[h1,rp])
   . have h0B:¬ B x.lb=B []:=λh=>h0 (Qon.1 h);simp -implicitDefEqProofs[IC.nth,Qcs,Qb.c,rp,h1,h0,h0B];refine QZ (r:=bl true) (λ_=>h101 _) ?_;simp -implicitDefEqProofs[h1,rp];exact hK _ (by simp[h1,rp])
set_option maxRecDepth 8000 in
set_option maxHeartbeats 4000000 in
theorem QxQ {x:Qb} (hk:x.k=3) (he:x.en) {N:Nat} {K:ZF} {env:Env} (h1:env.get 1=rp H.length)
 (hK:∀ env L,env.get 2=bl true->K .ret env (H++L)):X Tryz.prog N Qf (IC.tl 2 Qcs) env (H++[⟨x.c,78,0,true⟩]) K:=by
 have h157:=λH=>Qzq (H:=H) x;have h72:=λH=>Qz9 (H:=H) he.pays;have hp:=he.pays0;obtain⟨_,_,e1,e2,e3,e4,e5,e6,e7,e8⟩:=he;obtain⟨k,lb,nm,lo,hi,wt,all,seen,who,acts,pays,p⟩:=x;simp only at *;subst hk e1 e2 e3 e4 e5 e6 e7 e8;have hp':(0:Int)<pays.length:=by omega
 simp only[Qb.c,Qb.at0]at h157;simp -implicitDefEqProofs[IC.tl,Qcs,Qb.c,rp,h1,exS,hp,hp'];refine QZ (r:=bl true) (λ_=>h72 _) ?_;simp -implicitDefEqProofs[rp,h1,exS,hp,hp'];refine QZ (r:=bl true) (λ_=>(OkP.le ?_ (h157 _).toP).toOk) ?_
 . simp only[Qb.c,exS,Ex.cL,QE,rws,Vv,Vx,VE,List.map,SV.strip,Vh,VK];repeat first
    |exact leL.nil
    |refine leL.cons ?_ ?_
    |exact SV.le.refl _
    |exact Qd4
    |refine Qnh ?_ _
    |refine QfL ?_
 simp -implicitDefEqProofs[rp,h1,exS,hp,hp'];exact hK _ _ (by simp)
theorem Qzv {x:Qb} (hlb:x.lb=[]\/Qcp x.lb) (hT:∀ (K:ZF) (env:Env),env.get 1=rp H.length->(∀ env L,env.get 2=bl true->K .ret env (H++L))->X Tryz.prog Tryz.f104.ntmps Qf (IC.tl 2 Qcs) env (H++[⟨x.c,78,0,true⟩]) K):Ok Tryz.prog 104 [.agg x.c] H (.ret (bl true)) H:=by
 refine Qz hm Tryz.func104 c104 (by simp[SV.under,Qb.und]) λhcl => ?_;rw[show Qcs=.seq (IC.nth 0 Qcs) (.seq (IC.nth 1 Qcs) (IC.tl 2 Qcs))from rfl];generalize ht:IC.tl 2 Qcs=t at *;generalize ht1:IC.nth 1 Qcs=t1;simp -implicitDefEqProofs[IC.nth,Qcs];subst ht1;refine QuI hlb (by simp[rp]) λenv h1 => ?_;refine hT _ env h1 λenv L h2 => ?_;simp -implicitDefEqProofs[r104,h2];exact Qp 3 hcl rfl (by simp)
theorem Qzs {x:Qb} (hx:x.prp) (hk:x.k=3):Ok Tryz.prog 104 [.agg x.c] H (.ret (bl true)) H:=Qzv hx.lb λK env h1 hK=>by
 rcases hx.kd with ⟨hk',_⟩|⟨hk',_⟩|⟨_,he⟩
 . omega
 . omega
 . exact QxQ hk he h1 hK
structure Ql.prp (v:Ql):Prop where
 nm:Qcp v.nm
 lo : -1000000000<=v.n
 hi:v.n<=1000000000
structure Qx.prp (r:Qx):Prop where
 nm:Qcp r.nm
 pl:0<=r.pl/\r.pl<=1000000000
 vars:∀ v∈r.vars,v.prp
 vlen:r.vars.length<2147483648
 stages:∀ x∈r.stages,x.prp
 slen:r.stages.length<2147483648
 s0:0<r.stages.length
theorem Ql.len (v:Ql):v.c.length=3:=rfl
theorem Qv1 {r:Qx} (hr:r.prp) {N:Nat} {K:ZF} (hexit:∀ env G,env.get 1=rp H.length->K (.exit 0) env (H++(⟨r.c,36,0,true⟩::G))) :
 ∀ (m i:Nat) (G:ZG) (env:Env),i+m=r.vars.length->env.get 1=rp H.length->env.get 22=.slc (rws Ql.c r.vars) r.vars.length->env.get 23=i64 r.vars.length->env.get 24=i64 i ->
  LI Tryz.prog N Qf Qj8 env (H++(⟨r.c,36,0,true⟩::G)) K:=by
 have hlen:=QaI Ql.len r.vars;have hb:=hr.vlen;intro m
 induction m with
 |zero =>
  intro i G env hi h1 h22 h23 h24;refine Qu hm Qj8.eq_1 ?_;have e:i=r.vars.length:=by omega
  subst e;simp -implicitDefEqProofs[h1,h22,h23,h24];exact hexit _ _ (by simp[h1])
 |succ m ih =>
  intro i G env hi h1 h22 h23 h24;refine Qu hm Qj8.eq_1 ?_;have hlt:i<r.vars.length:=by omega
  have hlt':(i:Int)<r.vars.length:=by omega
  have hg:=QjP (c:=Ql.c) Ql.len hlt;have hv:=hr.vars _ (Vu hlt);generalize r.vars[i]=v at hg hv;have h101:=λH=>Qnb (H:=H) hv.nm;have h102:=λH=>QoX (H:=H) hv.lo hv.hi;simp -implicitDefEqProofs[h1,h22,h23,h24,rp,Ql.c,hlt,hlt',hg,hlen];refine⟨by omega,Qc (h101 _) ?_⟩;simp -implicitDefEqProofs[h1,h22,h23,h24,rp,hlt,hlt'];refine QZ (r:=bl true) (λ_=>h102 _) ?_;simp -implicitDefEqProofs[h1,h22,h23,h24,rp,hlt,hlt'];refine LI.cong (H':=H++(⟨r.c,36,0,true⟩::(G++[⟨v.c,75,0,true⟩]))) (by simp[Ql.c]) (ih (i+1) _ _ (by omega) ?_ ?_ ?_ ?_);all_goals simp[h1,h22,h23,h24,rp,Ql.c,QaH (show i<9223372036854775807 by omega)]
theorem QtC {r:Qx} (hr:r.prp) (hg:∀ x∈r.stages,∀ H,Ok Tryz.prog 104 [.agg x.c] H (.ret (bl true)) H):Ok Tryz.prog 49 [.agg r.c] H (.ret (bl true)) H:=by
 have h101:=λH=>Qnb (H:=H) hr.nm;have h102:=λH=>QoX (H:=H) hr.pl.1 hr.pl.2;have h103:=λH=>Qu2 (H:=H) (R:=104) hr.slen λx hx L=>hg x hx _;have h0:=hr.s0;have h0':¬ r.stages.length=0:=by omega
 have h0'':¬ (r.stages.length:Int)=0:=by omega
 have hne:¬ r.stages=[]:=λh=>by rw[h]at h0; simp at h0
 refine Qz hm Tryz.func49 c49 (by simp[SV.under,QfP]) λhcl => ?_;simp -implicitDefEqProofs[i49,r49,Qx.c];refine Qc (h101 _) ?_;simp -implicitDefEqProofs;refine QZ (r:=bl true) (λ_=>h102 _) ?_;simp -implicitDefEqProofs[h0,h0',h0'',hne];refine LI.cong (H':=H++(⟨r.c,36,0,true⟩::[])) (by simp[Qx.c]) ?_;refine Qv1 hr (λenv G h1 => ?_) r.vars.length 0 [] _ (by omega) (by simp[rp]) (by simp) (by simp) (by simp);simp -implicitDefEqProofs[h1,rp,Qx.c];refine Qc (h103 _) ?_;simp -implicitDefEqProofs;exact Qp 3 hcl rfl (by simp)
end
section
variable {H:ZG}
@[simp] theorem Ql.okT (v:Ql):QC v.c=True:=Zw λs hs=>by
 simp[Ql.c]at hs; rcases hs with rfl|rfl|rfl<;>rfl
theorem QvI {l m:List Qo} (hl:m.length=l.length) (hb:l.length<2147483648) {f:SV} (hf:f=.fn (.func 161) [] []) (hc:∀ i (h:i<l.length) (h':i<m.length) (H:ZG),Ok Tryz.prog 161 [.agg l[i].c,.agg m[i].c] H (.ret (bl true)) H) {N:Nat} {K:ZF} (hexit:∀ env G,K (.exit 0) env (H++G)) :
 ∀ (k i:Nat) (G:ZG) (env:Env),i+k=l.length->env.get 1=.slc (rws Qo.c m) m.length->env.get 2=f->env.get 15=.slc (rws Qo.c l) l.length->env.get 16=i64 l.length->env.get 17=i64 i ->
  LI Tryz.prog N Qf QkM env (H++G) K:=by
 have hlen:=QaI Qo.len l;have hlenm:=QaI Qo.len m;subst hf;intro k
 induction k with
 |zero =>
  intro i G env hi h1 h2 h15 h16 h17;refine Qu hm QkM.eq_1 ?_;have e:i=l.length:=by omega
  subst e;simp[h1,h2,h15,h16,h17];exact hexit _ _
 |succ k ih =>
  intro i G env hi h1 h2 h15 h16 h17;refine Qu hm QkM.eq_1 ?_;have hlt:i<l.length:=by omega
  have hlt':(i:Int)<l.length:=by omega
  have hltm:i<m.length:=by omega
  have hltm':(i:Int)<m.length:=by omega
  have g1:((rws Qo.c l).drop (i*7)).take 7=l[i].c:=by rw[QdR Qo.len hlt,VG (Qo.len _)]
  have g2:((rws Qo.c m).drop (i*7)).take 7=m[i].c:=by rw[QdR Qo.len hltm,VG (Qo.len _)]
  have hcc:=hc i hlt hltm;generalize l[i]=a at g1 hcc;generalize m[i]=b at g2 hcc;have ha:=Qo.len a;have hb':=Qo.len b;have ta:List.take 7 a.c=a.c:=VD (V2 ha);have tb:List.take 7 b.c=b.c:=VD (V2 hb');simp[h1,h2,h15,h16,h17,hlt',hltm',g1,g2,hlen,hlenm,ha,hb',ta,tb];refine⟨by omega,by omega,Qc (hcc _) ?_⟩;simp[h1,h2,h15,h16,h17];refine LI.cong (H':=H++(G++[⟨a.c,91,0,true⟩,⟨b.c,91,0,true⟩])) (by simp) (ih (i+1) _ _ (by omega) ?_ ?_ ?_ ?_ ?_);all_goals simp[QaH (show i<9223372036854775807 by omega)]
theorem QuG {l m:List Qo} (hl:m.length=l.length) (hb:l.length<2147483648) (hc:∀ i (h:i<l.length) (h':i<m.length) (H:ZG),Ok Tryz.prog 161 [.agg l[i].c,.agg m[i].c] H (.ret (bl true)) H) :
 Ok Tryz.prog 162 [.slc (rws Qo.c l) l.length,.slc (rws Qo.c m) m.length,.fn (.func 161) [] []] H (.ret (bl true)) H:=by
 refine Qz hm Tryz.func162 c162 (by simp) λhcl => ?_;simp[i162,r162,hl];refine LI.cong (H':=H++[]) (by simp) (QvI hl hb rfl hc (λenv G => ?_) l.length 0 [] _ (by omega) ?_ ?_ ?_ ?_ ?_)
 . simp;exact Qp 1 hcl rfl (by simp)
 all_goals simp[hl]
theorem Qve {l m:List Qm} (hl:m.length=l.length) (hb:l.length<2147483648) {f:SV} (hf:f=.fn (.func 118) [] []) (hc:∀ i (h:i<l.length) (h':i<m.length) (H:ZG),Ok Tryz.prog 118 [.agg l[i].c,.agg m[i].c] H (.ret (bl true)) H) {N:Nat} {K:ZF} (hexit:∀ env G,K (.exit 0) env (H++G)) :
 ∀ (k i:Nat) (G:ZG) (env:Env),i+k=l.length->env.get 1=.slc (rws Qm.c m) m.length->env.get 2=f->env.get 15=.slc (rws Qm.c l) l.length->env.get 16=i64 l.length->env.get 17=i64 i ->
  LI Tryz.prog N Qf Qji env (H++G) K:=by
 have hlen:=QaI Qm.c_len l;have hlenm:=QaI Qm.c_len m;subst hf;intro k
 induction k with
 |zero =>
  intro i G env hi h1 h2 h15 h16 h17;refine Qu hm Qji.eq_1 ?_;have e:i=l.length:=by omega
  subst e;simp[h1,h2,h15,h16,h17];exact hexit _ _
 |succ k ih =>
  intro i G env hi h1 h2 h15 h16 h17;refine Qu hm Qji.eq_1 ?_;have hlt:i<l.length:=by omega
  have hlt':(i:Int)<l.length:=by omega
  have hltm:i<m.length:=by omega
  have hltm':(i:Int)<m.length:=by omega
  have g1:((rws Qm.c l).drop (i*6)).take 6=l[i].c:=by rw[QdR Qm.c_len hlt,VG (Qm.c_len _)]
  have g2:((rws Qm.c m).drop (i*6)).take 6=m[i].c:=by rw[QdR Qm.c_len hltm,VG (Qm.c_len _)]
  have hcc:=hc i hlt hltm;generalize l[i]=a at g1 hcc;generalize m[i]=b at g2 hcc;have ha:=Qm.c_len a;have hb':=Qm.c_len b;have ta:List.take 6 a.c=a.c:=VD (V2 ha);have tb:List.take 6 b.c=b.c:=VD (V2 hb');simp[h1,h2,h15,h16,h17,hlt',hltm',g1,g2,hlen,hlenm,ha,hb',ta,tb];refine⟨by omega,by omega,Qc (hcc _) ?_⟩;simp[h1,h2,h15,h16,h17];refine LI.cong (H':=H++(G++[⟨a.c,89,0,true⟩,⟨b.c,89,0,true⟩])) (by simp) (ih (i+1) _ _ (by omega) ?_ ?_ ?_ ?_ ?_);all_goals simp[QaH (show i<9223372036854775807 by omega)]
theorem QtK {l m:List Qm} (hl:m.length=l.length) (hb:l.length<2147483648) (hc:∀ i (h:i<l.length) (h':i<m.length) (H:ZG),Ok Tryz.prog 118 [.agg l[i].c,.agg m[i].c] H (.ret (bl true)) H) :
 Ok Tryz.prog 117 [.slc (rws Qm.c l) l.length,.slc (rws Qm.c m) m.length,.fn (.func 118) [] []] H (.ret (bl true)) H:=by
 refine Qz hm Tryz.func117 c117 (by simp) λhcl => ?_;simp[i117,r117,hl];refine LI.cong (H':=H++[]) (by simp) (Qve hl hb rfl hc (λenv G => ?_) l.length 0 [] _ (by omega) ?_ ?_ ?_ ?_ ?_)
 . simp;exact Qp 1 hcl rfl (by simp)
 all_goals simp[hl]
theorem Qw5 {l m:List Qb} (hl:m.length=l.length) (hb:l.length<2147483648) {f:SV} (hf:f=.fn (.func 62) [] []) (hc:∀ i (h:i<l.length) (h':i<m.length) (H:ZG),Ok Tryz.prog 62 [.agg l[i].c,.agg m[i].c] H (.ret (bl true)) H) {N:Nat} {K:ZF} (hexit:∀ env G,K (.exit 0) env (H++G)) :
 ∀ (k i:Nat) (G:ZG) (env:Env),i+k=l.length->env.get 1=.slc (rws Qb.c m) m.length->env.get 2=f->env.get 15=.slc (rws Qb.c l) l.length->env.get 16=i64 l.length->env.get 17=i64 i ->
  LI Tryz.prog N Qf Qkw env (H++G) K:=by
 have hlen:=QaI Qb.c_len l;have hlenm:=QaI Qb.c_len m;subst hf;intro k
 induction k with
 |zero =>
  intro i G env hi h1 h2 h15 h16 h17;refine Qu hm Qkw.eq_1 ?_;have e:i=l.length:=by omega
  subst e;simp[h1,h2,h15,h16,h17];exact hexit _ _
 |succ k ih =>
  intro i G env hi h1 h2 h15 h16 h17;refine Qu hm Qkw.eq_1 ?_;have hlt:i<l.length:=by omega
  have hlt':(i:Int)<l.length:=by omega
  have hltm:i<m.length:=by omega
  have hltm':(i:Int)<m.length:=by omega
  have g1:((rws Qb.c l).drop (i*12)).take 12=l[i].c:=by rw[QdR Qb.c_len hlt,VG (Qb.c_len _)]
  have g2:((rws Qb.c m).drop (i*12)).take 12=m[i].c:=by rw[QdR Qb.c_len hltm,VG (Qb.c_len _)]
  have hcc:=hc i hlt hltm;generalize l[i]=a at g1 hcc;generalize m[i]=b at g2 hcc;have ha:=Qb.c_len a;have hb':=Qb.c_len b;have ta:List.take 12 a.c=a.c:=VD (V2 ha);have tb:List.take 12 b.c=b.c:=VD (V2 hb');simp[h1,h2,h15,h16,h17,hlt',hltm',g1,g2,hlen,hlenm,ha,hb',ta,tb];refine⟨by omega,by omega,Qc (hcc _) ?_⟩;simp[h1,h2,h15,h16,h17];refine LI.cong (H':=H++(G++[⟨a.c,78,0,true⟩,⟨b.c,78,0,true⟩])) (by simp) (ih (i+1) _ _ (by omega) ?_ ?_ ?_ ?_ ?_);all_goals simp[QaH (show i<9223372036854775807 by omega)]
theorem ok61 {l m:List Qb} (hl:m.length=l.length) (hb:l.length<2147483648) (hc:∀ i (h:i<l.length) (h':i<m.length) (H:ZG),Ok Tryz.prog 62 [.agg l[i].c,.agg m[i].c] H (.ret (bl true)) H) :
 Ok Tryz.prog 61 [.slc (rws Qb.c l) l.length,.slc (rws Qb.c m) m.length,.fn (.func 62) [] []] H (.ret (bl true)) H:=by
 refine Qz hm Tryz.func61 c61 (by simp) λhcl => ?_;simp[i61,r61,hl];refine LI.cong (H':=H++[]) (by simp) (Qw5 hl hb rfl hc (λenv G => ?_) l.length 0 [] _ (by omega) ?_ ?_ ?_ ?_ ?_)
 . simp;exact Qp 1 hcl rfl (by simp)
 all_goals simp[hl]
theorem QxR {l m:List Ql} (hl:m.length=l.length) (hb:l.length<2147483648) {f:SV} (hf:f=.fn (.func 59) [] []) (hc:∀ i (h:i<l.length) (h':i<m.length) (H:ZG),Ok Tryz.prog 59 [.agg l[i].c,.agg m[i].c] H (.ret (bl true)) H) {N:Nat} {K:ZF} (hexit:∀ env G,K (.exit 0) env (H++G)) :
 ∀ (k i:Nat) (G:ZG) (env:Env),i+k=l.length->env.get 1=.slc (rws Ql.c m) m.length->env.get 2=f->env.get 15=.slc (rws Ql.c l) l.length->env.get 16=i64 l.length->env.get 17=i64 i ->
  LI Tryz.prog N Qf Qkv env (H++G) K:=by
 have hlen:=QaI Ql.c_len l;have hlenm:=QaI Ql.c_len m;subst hf;intro k
 induction k with
 |zero =>
  intro i G env hi h1 h2 h15 h16 h17;refine Qu hm Qkv.eq_1 ?_;have e:i=l.length:=by omega
  subst e;simp[h1,h2,h15,h16,h17];exact hexit _ _
 |succ k ih =>
  intro i G env hi h1 h2 h15 h16 h17;refine Qu hm Qkv.eq_1 ?_;have hlt:i<l.length:=by omega
  have hlt':(i:Int)<l.length:=by omega
  have hltm:i<m.length:=by omega
  have hltm':(i:Int)<m.length:=by omega
  have g1:((rws Ql.c l).drop (i*3)).take 3=l[i].c:=by rw[QdR Ql.c_len hlt,VG (Ql.c_len _)]
  have g2:((rws Ql.c m).drop (i*3)).take 3=m[i].c:=by rw[QdR Ql.c_len hltm,VG (Ql.c_len _)]
  have hcc:=hc i hlt hltm;generalize l[i]=a at g1 hcc;generalize m[i]=b at g2 hcc;have ha:=Ql.c_len a;have hb':=Ql.c_len b;have ta:List.take 3 a.c=a.c:=VD (V2 ha);have tb:List.take 3 b.c=b.c:=VD (V2 hb');simp[h1,h2,h15,h16,h17,hlt',hltm',g1,g2,hlen,hlenm,ha,hb',ta,tb];refine⟨by omega,by omega,Qc (hcc _) ?_⟩;simp[h1,h2,h15,h16,h17];refine LI.cong (H':=H++(G++[⟨a.c,75,0,true⟩,⟨b.c,75,0,true⟩])) (by simp) (ih (i+1) _ _ (by omega) ?_ ?_ ?_ ?_ ?_);all_goals simp[QaH (show i<9223372036854775807 by omega)]
theorem ok60 {l m:List Ql} (hl:m.length=l.length) (hb:l.length<2147483648) (hc:∀ i (h:i<l.length) (h':i<m.length) (H:ZG),Ok Tryz.prog 59 [.agg l[i].c,.agg m[i].c] H (.ret (bl true)) H) :
 Ok Tryz.prog 60 [.slc (rws Ql.c l) l.length,.slc (rws Ql.c m) m.length,.fn (.func 59) [] []] H (.ret (bl true)) H:=by
 refine Qz hm Tryz.func60 c60 (by simp) λhcl => ?_;simp[i60,r60,hl];refine LI.cong (H':=H++[]) (by simp) (QxR hl hb rfl hc (λenv G => ?_) l.length 0 [] _ (by omega) ?_ ?_ ?_ ?_ ?_)
 . simp;exact Qp 1 hcl rfl (by simp)
 all_goals simp[hl]
end
mutual
theorem Qn7:∀ e:Ex,e.prp->e.sm
 |.mk op n nm l p,h=>by
  have:=QmU h;unfold Ex.sm;exact⟨this.1,Qpw l this.2⟩
theorem Qpw:∀ l:List Ex,(∀ e∈l,e.prp)->Ex.smL l
 |[],_=>Zo
 |e::r,h=>⟨Qn7 e (h e (by simp)),Qpw r λx hx=>h x (by simp[hx])⟩
end
section
variable {H:ZG}
theorem QhA {l m:List Ex} (hlm:Ex.erL l=Ex.erL m) (h:QbS l):Ok Tryz.prog 74 [exS l,exS m] H (.ret (bl true)) H:=ok74 hlm h.len (λe he=>Qn7 e (h.prp e he)) h.cst
def m161:IC :=
 (.seq
  (.reg [
    ⟨(some 2),none,.e (.box 91 (.t 0))⟩,
    ⟨(some 3),none,.e (.box 91 (.t 1))⟩,
    ⟨(some 4),none,.p (.mov (.c (bl false)))⟩])
  (.seq
   (.reg [
     ⟨(some 5),none,.p (.fa 0 (.t 2))⟩,
     ⟨(some 6),none,.p (.ld1 (.t 5))⟩,
     ⟨(some 7),none,.p (.fa 0 (.t 3))⟩,
     ⟨(some 8),none,.p (.ld1 (.t 7))⟩,
     ⟨(some 9),none,.p (.bin .eql .s (.t 6) (.t 8))⟩,
     ⟨(some 10),none,.p (.mov (.t 9))⟩,
     ⟨(some 11),(some (10,true)),.p (.fa 1 (.t 2))⟩,
     ⟨(some 12),(some (10,true)),.p (.ldn 5 (.t 11))⟩,
     ⟨(some 13),(some (10,true)),.e (.bsl 25 5 1 [i64 0,i64 0,st ⟨#[]⟩,.val (.slice none 0 0),i64 0] [(0,(.t 12))])⟩,
     ⟨(some 14),(some (10,true)),.p (.fa 1 (.t 3))⟩,
     ⟨(some 15),(some (10,true)),.p (.ldn 5 (.t 14))⟩,
     ⟨(some 16),(some (10,true)),.e (.bsl 25 5 1 [i64 0,i64 0,st ⟨#[]⟩,.val (.slice none 0 0),i64 0] [(0,(.t 15))])⟩,
     ⟨(some 17),(some (10,true)),.e (.call (.c (.fn (.func 74) [] [])) [(.t 13),(.t 16)])⟩,
     ⟨(some 18),none,.p (.pick (.t 10) (.t 17) (.c (bl false)))⟩,
     ⟨(some 4),none,.p (.mov (.t 18))⟩])
   .ret))
theorem d161:Qdv Tryz.prog Qf Tryz.f161 m161 r161=true:=by kernel_rfl
theorem Qv2 {a b:Qo} (he:a.er=b.er) (ha:a.prp):Ok Tryz.prog 161 [.agg a.c,.agg b.c] H (.ret (bl true)) H:=by
 obtain⟨nm,e,p⟩:=a;obtain⟨nm',e',p'⟩:=b;simp only[Qo.er,Qo.mk.injEq]at he;obtain⟨rfl,he,_⟩:=he;have h74:=λH=>(QhA (H:=H) (l:=[e]) (m:=[e']) (by simp only[Ex.erL,he]) ha.e).toP;have hex:∀ e,exS [e]=.slc e.c 1:=λe=>by simp[exS,Ex.cL]
 rw[hex,hex]at h74;have hce:=Ex.c_len e;have hce':=Ex.c_len e';have ht:∀ L,(e.c++L).take 5=e.c:=λL=>VG hce;have ht':∀ L,(e'.c++L).take 5=e'.c:=λL=>VG hce';have hok:=Ex.okc e;have hok':=Ex.okc e';have hcc:e.c.take 5=e.c:=by rw[<-hce,VN]
 have hcc':e'.c.take 5=e'.c:=by rw[<-hce',VN]
 have hcs:∀ (nm:ZE) (e:Ex) (p:Int),Qo.c ⟨nm,e,p⟩=st (B nm)::(e.c++[i64 p]):=λ_ _ _=>rfl;refine Qz hm Tryz.func161 d161 (by simp[SV.under,Qo.und]) λhcl => ?_;rw[hcs,hcs]at *;generalize e.c=ec at *;generalize e'.c=ec' at *;simp -implicitDefEqProofs[m161,r161,ht,ht',hok,hok',hce,hce'];refine Q4 (OkP.give (H.length+2) 1 (o:=⟨ec,25,0,true⟩) (by simp) rfl (OkP.give (H.length+3) 1 (o:=⟨ec',25,0,true⟩) (by simp) rfl (OkP.cast (by simp[hcc,hcc',hce,hce']) rfl (h74 _)))) ?_;rintro out H' ⟨rfl,rfl⟩;simp -implicitDefEqProofs;exact Qp 3 hcl rfl (by simp)
theorem QvQ {a b:Qm} (he:a.er=b.er) (ha:a.prp):Ok Tryz.prog 118 [.agg a.c,.agg b.c] H (.ret (bl true)) H:=by
 obtain⟨nm,wh,hid,sets,go,p⟩:=a;obtain⟨nm',wh',hid',sets',go',p'⟩:=b;simp only[Qm.er,Qm.mk.injEq]at he;obtain⟨rfl,hw,rfl,hs,rfl,_⟩:=he;have h74:=λH=>QhA (H:=H) hw ha.wh;have hsl:sets'.length=sets.length:=by simpa using (Zp List.length hs).symm
 have h162:=λH=>QuG (H:=H) (l:=sets) (m:=sets') hsl (by have:=ha.len; simp only at this; omega) λi h h' H=>Qv2 (by
  have:=Zp (λl=>l[i]?) hs;simpa[h,h']using this) (ha.sets _ (Vu h))
 refine Qz hm Tryz.func118 c118 (by simp[SV.under,Qm.und]) λhcl => ?_;simp -implicitDefEqProofs[i118,r118,Qm.c];refine⟨rfl,rfl,QZ (r:=bl true) (λ_=>by simpa[SV.strip,exS]using h74 _) ?_⟩;simp -implicitDefEqProofs;refine QZ (r:=bl true) (λ_=>by simpa[SV.strip]using h162 _) ?_;simp -implicitDefEqProofs;exact Qp 3 hcl rfl (by simp)
theorem ok59 {a b:Ql} (he:a.er=b.er):Ok Tryz.prog 59 [.agg a.c,.agg b.c] H (.ret (bl true)) H:=by
 obtain⟨nm,n,p⟩:=a;obtain⟨nm',n',p'⟩:=b;simp only[Ql.er,Ql.mk.injEq]at he;obtain⟨rfl,rfl,_⟩:=he;refine Qz hm Tryz.func59 c59 (by simp[SV.under,Ql.c,SV.underL]) λhcl => ?_;simp -implicitDefEqProofs[i59,r59,Ql.c];exact Qp 3 hcl rfl (by simp)
theorem Qvz {l:List Int} (hb:l.length<2147483648) {N:Nat} {K:ZF} (hexit:∀ env,K (.exit 0) env H) :
 ∀ (k i:Nat) (env:Env),i+k=l.length->env.get 0=.slc (QE l) l.length->env.get 1=.slc (QE l) l.length->env.get 12=i64 l.length->env.get 13=i64 i->LI Tryz.prog N Qf Qjd env H K:=by
 have hlen:(QE l).length=l.length:=by simp[QE]
 intro k
 induction k with
 |zero =>
  intro i env hi h0 h1 h12 h13;refine Qu hm Qjd.eq_1 ?_;have e:i=l.length:=by omega
  subst e;simp -implicitDefEqProofs[h0,h1,h12,h13];exact hexit _
 |succ k ih =>
  intro i env hi h0 h1 h12 h13;refine Qu hm Qjd.eq_1 ?_;have hlt:i<l.length:=by omega
  have hlt':(i:Int)<l.length:=by omega
  have hg:∀ h,(QE l)[i]'(h)=i64 l[i]:=λh=>by simp[QE]
  simp -implicitDefEqProofs[h0,h1,h12,h13,hlt,hlt',hg,hlen];refine⟨by omega,ih (i+1) _ (by omega) ?_ ?_ ?_ ?_⟩;all_goals simp[h0,h1,h12,QaH (show i<9223372036854775807 by omega)]
theorem QAR {l:List Int} (hb:l.length<2147483648):Ok Tryz.prog 116 [.slc (QE l) l.length,.slc (QE l) l.length] H (.ret (bl true)) H:=by
 refine Qz hm Tryz.func116 c116 (by simp[SV.under,Qlt]) λhcl => ?_;simp -implicitDefEqProofs[i116,r116];refine Qvz hb (λenv => ?_) l.length 0 _ (by omega) ?_ ?_ ?_ ?_
 . simp -implicitDefEqProofs;exact Qi
 all_goals simp
theorem Qgd:QbS []:=⟨by simp,λe he=>by simp at he,by simp[QaZ]⟩
theorem QAl {x:Qb} (h:x.prp):QbS x.wt/\QbS x.who/\QbS x.pays/\(∀ a∈x.acts,a.prp)/\x.acts.length<2147483648/\x.seen.length<2147483648:=by
 rcases h.kd with ⟨_,hd,h1,h2,h3⟩|⟨_,ht⟩|⟨_,he⟩
 . rw[h1,h2,h3]; exact⟨hd.wt,Qgd,Qgd,λa ha=>by simp at ha,by simp,hd.len⟩
 . rw[ht.wt,ht.pays,ht.seen]; exact⟨Qgd,ht.who,Qgd,ht.acts,ht.len,by simp⟩
 . rw[he.wt,he.who,he.acts,he.seen]; exact⟨Qgd,Qgd,he.pays,λa ha=>by simp at ha,by simp,by simp⟩
set_option maxHeartbeats 1000000 in
theorem ok62 {a b:Qb} (he:a.er=b.er) (ha:a.prp):Ok Tryz.prog 62 [.agg a.c,.agg b.c] H (.ret (bl true)) H:=by
 obtain⟨q1,q2,q3,q4,q5,q6⟩:=QAl ha;obtain⟨k,lb,nm,lo,hi,wt,all,seen,who,acts,pays,p⟩:=a;obtain⟨k',lb',nm',lo',hi',wt',all',seen',who',acts',pays',p'⟩:=b;simp only[Qb.er,Qb.mk.injEq]at he;obtain⟨rfl,rfl,rfl,rfl,rfl,hwt,rfl,rfl,hwho,hacts,hpays,_⟩:=he;have h1:=λH=>QhA (H:=H) hwt q1;have h2:=λH=>QhA (H:=H) hwho q2;have h3:=λH=>QhA (H:=H) hpays q3;have hal:acts'.length=acts.length:=by simpa using (Zp List.length hacts).symm
 have h4:=λH=>QtK (H:=H) (l:=acts) (m:=acts') hal q5 λi h h' H=>QvQ (by
  have:=Zp (λl=>l[i]?) hacts;simpa[h,h']using this) (q4 _ (Vu h))
 have h5:=λH=>QAR (H:=H) (l:=seen) q6;refine Qz hm Tryz.func62 c62 (by simp[SV.under,Qb.und]) λhcl => ?_;simp -implicitDefEqProofs[i62,r62,Qb.c];refine⟨⟨rfl,rfl,rfl⟩,⟨rfl,rfl,rfl⟩,QZ (r:=bl true) (λ_=>by simpa[SV.strip]using h5 _) ?_⟩;simp -implicitDefEqProofs;refine QZ (r:=bl true) (λ_=>by simpa[SV.strip,exS]using h1 _) ?_;simp -implicitDefEqProofs;refine QZ (r:=bl true) (λ_=>by simpa[SV.strip,exS]using h2 _) ?_;simp -implicitDefEqProofs;refine QZ (r:=bl true) (λ_=>by simpa[SV.strip]using h4 _) ?_;simp -implicitDefEqProofs;refine QZ (r:=bl true) (λ_=>by simpa[SV.strip,exS]using h3 _) ?_;simp -implicitDefEqProofs;exact Qp 3 hcl rfl (by simp)
theorem ok23 {a b:Qx} (he:a.er=b.er) (ha:a.prp):Ok Tryz.prog 23 [.agg a.c,.agg b.c] H (.ret (bl true)) H:=by
 have hv:=ha.vlen;have hst:=ha.stages;have hsl:=ha.slen;obtain⟨nm,pl,vars,stages⟩:=a;obtain⟨nm',pl',vars',stages'⟩:=b;simp only[Qx.er,Qx.mk.injEq]at he;obtain⟨rfl,rfl,h1,h2⟩:=he;have hal:vars'.length=vars.length:=by simpa using (Zp List.length h1).symm
 have hbl:stages'.length=stages.length:=by simpa using (Zp List.length h2).symm
 have k1:=λH=>ok60 (H:=H) (l:=vars) (m:=vars') hal hv λi h h' H=>ok59 (by
  have:=Zp (λl=>l[i]?) h1;simpa[h,h']using this)
 have k2:=λH=>ok61 (H:=H) (l:=stages) (m:=stages') hbl hsl λi h h' H=>ok62 (by
  have:=Zp (λl=>l[i]?) h2;simpa[h,h']using this) (hst _ (Vu h))
 refine Qz hm Tryz.func23 c23 (by simp[SV.under,QfP]) λhcl => ?_;simp -implicitDefEqProofs[i23,r23,Qx.c];refine QZ (r:=bl true) (λ_=>by simpa[SV.strip]using k1 _) ?_;simp -implicitDefEqProofs;refine QZ (r:=bl true) (λ_=>by simpa[SV.strip]using k2 _) ?_;simp -implicitDefEqProofs;exact Qp 3 hcl rfl (by simp)
end
def fW {α:Type} (f:α->ZE->ZE):List α->ZE->ZE
 |[],o=>o
 |x::r,o=>fW f r (f x o)
theorem Qex {α:Type} {f:α->ZE->ZE} (h:∀ x,QaA (f x)):∀ l,QaA (fW f l)
 |[],o=>Vb _
 |x::r,o=>Vg (h x o) (Qex h r (f x o))
def QgU (e:Ex) (o:ZE):ZE:=prE e (o++[32,119,104,101,110,32])
theorem QxV (e:Ex):QaA (QgU e):=λo=>by
 have:=Qep e (o++[32,119,104,101,110,32]);unfold QgU; simp at this; omega
def QkJ (s:Qo) (o:ZE):ZE:=prE s.e (o++([32]++s.nm++[32,61,32]))++[59]
theorem QvA (s:Qo):QaA (QkJ s):=λo=>by
 have:=Qep s.e (o++([32]++s.nm++[32,61,32]));unfold QkJ; simp at this ⊢; omega
def Qhn (b:Bool) (o:ZE):ZE:=if b=true then o++[32,104,105,100,100,101,110]else o
def goW (g:ZE) (o:ZE):ZE:=if g=[]then o else o++([32,103,111,116,111,32]++g++[59])
def Ql4 (a:Qm) (o:ZE):ZE :=
 goW a.go (fW QkJ a.sets (Qhn a.hid (fW QgU a.wh (o++([32,32,97,99,116,105,111,110,32]++a.nm)))++[32,123])++[32,125])++[10]
theorem QtM (b:Bool):QaA (Qhn b):=λo=>by unfold Qhn; split<;>simp
theorem QwF (g:ZE):QaA (goW g):=λo=>by unfold goW; split<;>simp
section
variable {H:ZG} {j q v0:Nat} {o0:ZE}
def PcW (H:ZG) (j q N:Nat) (b:AO) (p:IC) (F:ZE->ZE):Prop :=
 ∀ (K:ZF) (o:ZE) (v:Nat) (G:ZG) (env:Env),env.get 0=rp j->env.get 3=rp H.length->(F o).length<=140737488355328 ->
  (∀ env v' G',env.get 0=rp j->env.get 3=rp H.length->K .normal env (wr H j q (F o) v'++(b::G')))->X Tryz.prog N Qf p env (wr H j q o v++(b::G)) K
variable {N:Nat}
theorem Qei (l:ZE):QaA λo=>o++l:=λo=>by simp
structure PG (H:ZG) (j q N:Nat) (b:AO) (p:IC) (F:ZE->ZE):Prop where
 pc:PcW H j q N b p F
 gr:QaA F
end
def wtW (e:Ex) (o:ZE):ZE:=prE e (o++[32,119,101,105,103,104,116,32])
theorem Qyz (e:Ex):QaA (wtW e):=λo=>by
 have:=Qep e (o++[32,119,101,105,103,104,116,32]);unfold wtW; simp at this; omega
def Qkz:Bool->List Int->ZE->ZE
 |_,[],o=>o
 |b,n::r,o=>Qkz false r (o++(if b=true then [32,115,101,101,110,32,98,121,32]else [44,32])++QbV n)
theorem QoD:∀ (l:List Int) (b:Bool),QaA (Qkz b l)
 |[],b,o=>Vb _
 |n::r,b,o=>by
  rw[Qkz];refine Vg ?_ (QoD r false _);simp
def QmX (b:Bool) (o:ZE):ZE:=if b=true then o++[32,115,101,101,110,32,98,121,32,97,108,108]else o
theorem Qyq (b:Bool):QaA (QmX b):=λo=>by unfold QmX; split<;>simp
def QmP (x:Qb) (o:ZE):ZE :=
 Qkz true x.seen (QmX x.all (fW wtW x.wt (o++([100,101,97,108,32]++(x.nm++([32,105,110,32]++(QbV x.lo++([32,46,46,32]++QbV x.hi))))))))++[59,10]
section
variable {H:ZG} {j q v0 N:Nat} {o0:ZE}
def PE (H:ZG) (j q N:Nat) (b:AO) (p:IC) (F:ZE->ZE):Prop :=
 ∀ (K:ZF) (o:ZE) (v:Nat) (G:ZG) (env:Env),env.get 0=rp j->env.get 3=rp H.length->(F o).length<=140737488355328 ->
  (∀ env v' G',K .normal env (wr H j q (F o) v'++(b::G')))->X Tryz.prog N Qf p env (wr H j q o v++(b::G)) K
structure PEG (H:ZG) (j q N:Nat) (b:AO) (p:IC) (F:ZE->ZE):Prop where
 pc:PE H j q N b p F
 gr:QaA F
theorem PG.seqE {N:Nat} {b:AO} {p r:IC} {F G:ZE->ZE} (h1:PG H j q N b p F) (h2:PEG H j q N b r G):PEG H j q N b (.seq p r) λo=>G (F o):=by
 refine⟨?_,λo=>Vg (h1.gr o) (h2.gr _)⟩;intro K o v L env h0 h3 hL hK;simp only[Qv4];refine h1.pc _ o v L env h0 h3 (Vg (h2.gr _) hL) λenv v' G' h0 h3 => ?_;exact h2.pc _ _ _ _ _ h0 h3 hL hK
end
def QeA (s:ZE) (o:ZE):ZE:=if s=[]then o else o++(s++[58,32])
theorem Qx8 (s:ZE):QaA (QeA s):=λo=>by unfold QeA; split<;>simp
theorem Qzj (a:Qm):QaA (Ql4 a):=λo=>by
 unfold Ql4;have h1:=QwF a.go (fW QkJ a.sets (Qhn a.hid (fW QgU a.wh (o++([32,32,97,99,116,105,111,110,32]++a.nm)))++[32,123])++[32,125]);have h2:=Qex QvA a.sets (Qhn a.hid (fW QgU a.wh (o++([32,32,97,99,116,105,111,110,32]++a.nm)))++[32,123]);have h3:=QtM a.hid (fW QgU a.wh (o++([32,32,97,99,116,105,111,110,32]++a.nm)));have h4:=Qex QxV a.wh (o++([32,32,97,99,116,105,111,110,32]++a.nm));simp at h1 h2 h3 h4 ⊢;omega
theorem QwK (x:Qb):QaA (QmP x):=λo=>by
 unfold QmP;refine Vg (Vg (Vg (Qei _ o) (Qex Qyz _ _)) (Qyq _ _)) (Vg (QoD _ _ _) (Qei _ _))
def Qno (w:Ex) (l:List Qm) (o:ZE):ZE:=fW Ql4 l (prE w (o++[116,117,114,110,32])++[32,123,10])++[125,10]
def QfW (l:List Ex) (o:ZE):ZE:=QdB true (prF l) (o++[101,110,100,32,123,32,112,97,121,32])++[59,32,125,10]
theorem QxY (w:Ex) (l:List Qm):QaA (Qno w l):=λo=>by
 unfold Qno;exact Vg (Vg (Qei _ o) (Qep _ _)) (Vg (Vg (Qei _ _) (Qex Qzj _ _)) (Qei _ _))
theorem Qvv (l:List Ex):QaA (QfW l):=λo=>by
 unfold QfW;exact Vg (Qei _ o) (Vg (Qhd _ _ (QgN l) _) (Qei _ _))
def QfA (x:Qb):ZE->ZE:=if x.k=1 then QmP x else if x.k=2 then(match x.who with|[]=>id|w::_=>Qno w x.acts)else QfW x.pays
theorem QpV (x:Qb):QaA (QfA x):=by
 unfold QfA;split
 . exact QwK x
 . split
   . split
     . exact λo=>Vb _
     . exact QxY _ _
   . exact Qvv _
def Qf1 (x:Qb) (o:ZE):ZE:=QfA x (QeA x.lb o)
theorem Qqd (x:Qb):QaA (Qf1 x):=λo=>Vg (Qx8 _ _) (QpV _ _)
def k50:IC:=match Qc7 with|.keep _ a=>a|a=>a
def b50:IC:=match IC.nth 2 k50 with|.blk _ a=>a|a=>a
theorem Quq:Qc7=.keep [0,51,52,53] (.seq (IC.nth 0 k50) (.seq (IC.nth 1 k50) (.seq (IC.nth 2 k50) (IC.tl 3 k50)))):=rfl
theorem Qu4:IC.nth 2 k50=.blk 3 (.seq (IC.nth 0 b50) (.seq (IC.nth 1 b50) (IC.tl 2 b50))):=rfl
section
variable {H:ZG} {j q v0 N:Nat} {o0:ZE}
theorem Qxs (hp:PrA H j q o0 v0) (x:Qb) {K:ZF} (o:ZE) (v:Nat) (G:ZG) (env:Env) (h0:env.get 0=rp j) (h7:env.get 7=rp H.length) (hL:(QeA x.lb o).length<=140737488355328)
 (hK:∀ env' v' G',(∀ k∈[0,7,51,52,53],env'.get k=env.get k)->K .normal env' (wr H j q (QeA x.lb o) v'++(⟨x.c,78,0,true⟩::G'))) :
 X Tryz.prog N Qf (IC.nth 1 b50) env (wr H j q o v++(⟨x.c,78,0,true⟩::G)) K:=by
 have hF:QeA x.lb o=if x.lb=[]then o else o++(x.lb++[58,32]):=rfl;obtain⟨k,lb,nm,lo,hi,wt,all,seen,who,acts,pays,p⟩:=x;by_cases h:lb=[]
 . subst h;simp only[Zs]at hF;simp only[hF]at hL hK;simp -implicitDefEqProofs[IC.nth,b50,k50,Qc7,Qb.c,rp,h0,h7];exact hK _ _ _ (by simp)
 . simp only at hF hL hK;rw[Zm h]at hF;rw[hF]at hL hK;simp at hL;have hB:¬ B lb=B []:=λh'=>h (Qon.1 h');simp -implicitDefEqProofs[IC.nth,b50,k50,Qc7,Qb.c,rp,h0,h7,h,hB];refine Qc (QbR hp o v (l:=[lb,[58,32]]) (T:=9) (by simp; rfl) rfl (by simp) (by simp; omega)) ?_;simp -implicitDefEqProofs;exact hK _ _ _ (by simp)
theorem Qwp (hp:PrA H j q o0 v0) {x:Qb} (hx:QbS x.pays) (hk:x.k=3) {K:ZF} (o:ZE) (v:Nat) (G:ZG) (env:Env) (h0:env.get 0=rp j) (h7:env.get 7=rp H.length) (hL:(QfW x.pays o).length<=140737488355328)
 (hK:∀ env' v' G',(∀ k∈[0,51,52,53],env'.get k=env.get k)->K .normal env' (wr H j q (QfW x.pays o) v'++(⟨x.c,78,0,true⟩::G'))) :
 X Tryz.prog N Qf (IC.tl 2 b50) env (wr H j q o v++(⟨x.c,78,0,true⟩::G)) K:=by
 have h109:=Qqo hx.len λe he=>Qlz e (hx.prp e he);unfold QfW at hL hK;have hg:=Qhd (prF x.pays) true (QgN x.pays) (o++[101,110,100,32,123,32,112,97,121,32]);have key:=λo v L h=>h109.at hp o v L h;simp at hL hg;generalize QdB true (prF x.pays)=f at *;obtain⟨k,lb,nm,lo,hi,wt,all,seen,who,acts,pays,p⟩:=x;simp only at hk; subst hk;simp only[Qb.c]at key hK;simp -implicitDefEqProofs[IC.nth,IC.tl,b50,k50,Qc7,Qb.c,rp,h0,h7,exS];refine Qc (QbR hp o v (l:=[[101,110,100,32,123,32,112,97,121,32]]) (T:=9) (by simp; rfl) rfl (by simp) (by simp; omega)) ?_;simp -implicitDefEqProofs[rp,h0,h7,exS];refine Q4 (key _ _ _ (by omega)) ?_;rintro out H' ⟨rfl,v',rfl⟩;simp -implicitDefEqProofs[rp,h0,h7,exS];refine Qc (QbR hp _ v' (l:=[[59,32,125,10]]) (T:=9) (by simp; rfl) rfl (by simp) (by simp; omega)) ?_;simp -implicitDefEqProofs;exact hK _ _ _ (by simp)
def SwK (H:ZG) (j q N:Nat) (x:Qb):Prop:=∀ {v0:Nat} {o0:ZE} (_:PrA H j q o0 v0) {K:ZF} (o:ZE) (v:Nat) (G:ZG) (env:Env),env.get 0=rp j->env.get 7=rp H.length->(QfA x o).length<=140737488355328 ->
 (∀ env' v' G',(∀ k∈[0,51,52,53],env'.get k=env.get k)->K .normal env' (wr H j q (QfA x o) v'++(⟨x.c,78,0,true⟩::G'))) ->
 X Tryz.prog N Qf (IC.tl 2 b50) env (wr H j q o v++(⟨x.c,78,0,true⟩::G)) K
theorem QtF {x:Qb} (hk:x.k=3) (hx:x.prp):SwK H j q N x:=by
 intro v0 o0 hp K o v G env h0 h7 hL hK;have hF:QfA x o=QfW x.pays o:=by unfold QfA; rw[Zm (by omega),Zm (by omega)]
 rw[hF]at hL hK;rcases hx.kd with ⟨hk',_⟩|⟨hk',_⟩|⟨_,he⟩
 . omega
 . omega
 . exact Qwp hp he.pays hk o v G env h0 h7 hL hK
end
end Go.Proofs.YtmkdpmfhlfhjkaaGreatDoor
