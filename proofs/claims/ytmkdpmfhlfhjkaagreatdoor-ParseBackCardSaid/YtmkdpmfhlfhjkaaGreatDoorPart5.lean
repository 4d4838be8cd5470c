/- Steps of the proof. -/
import Derived.Test.YtmkdpmfhlfhjkaaGreatDoorPart4
import Derived.Test.YtmkdpmfhlfhjkaaGreatDoorPart1
import Derived.Test.YtmkdpmfhlfhjkaaGreatDoorIr07
import Derived.Test.YtmkdpmfhlfhjkaaGreatDoorPart2
set_option linter.all false
namespace Go.Proofs.YtmkdpmfhlfhjkaaGreatDoor
open Go.Ab
section
variable {bb:Bool}
def okB:TK->Bool
 |.wd s => !s.isEmpty&&(decide (ao s 0=2)&&(s.all (λc=>decide (cls c.toNat=2)||decide (cls c.toNat=3))&&decide (s.length<=40)))
 |.sg s=>(match s with|[c]=>Qgn.contains c|_=>QaO.contains s)
 |.nm n=>decide (n<=1000000000)
def Qi4 (k:TK) (c:UInt8):Bool:=match k with
 |.sg s=>decide (s.length=2)||(decide (c≠61)&&decide (c≠46))
 |_=>decide (cls c.toNat≠2)&&decide (cls c.toNat≠3)
def fb (l:List Pc) (c:UInt8):UInt8:=(al l++[c]).headD 0
def gd:List Pc->UInt8->Bool
 |[],_=>true
 |.b x::r,c=>(decide (x=32)||decide (x=10))&&gd r c
 |.t k::r,c=>okB k&&(Qi4 k (fb r c)&&gd r c)
theorem QD8 {k:TK} (h:okB k=true):k.ok:=by
 cases k with
 |wd s =>
  simp only[okB,Va,Zs,VL,List.isEmpty_eq_false_iff,Vi,V6]at h;refine⟨h.1,h.2.1,λi hi => ?_,h.2.2.2⟩;have:=h.2.2.1 s[i] (Vp hi);unfold ao;rw[Vy,Ve hi];exact this
 |sg s =>
  match s,h with
  |[c],h=>exact .inl ⟨c,by simpa[okB]using h,rfl⟩
  |[],h=>exact .inr (by simpa[okB]using h)
  |a::b::r,h=>exact .inr (by simpa[okB]using h)
 |nm n=>exact Zy (p:=n<=1000000000) h
theorem Qyk {k:TK} {r:ZG} (h:Qi4 k (r.getD 0 0)=true):k.sep r:=by
 cases k with
 |wd s=>simpa[Qi4,TK.sep,ao]using h
 |sg s=>simpa[Qi4,TK.sep]using h
 |nm n=>simpa[Qi4,TK.sep,ao]using h
theorem QAE (a:List Pc) (b:List Pc):fb a ((al b).getD 0 0)=(al (a++b)).getD 0 0:=by
 unfold fb;rw[QaK]
 cases al a<;>simp
theorem QmE {b:List Pc} (hb:Qa8 b):∀ a:List Pc,gd a ((al b).getD 0 0)=true->Qa8 (a++b)
 |[],_=>hb
 |.b x::r,h=>by
  simp only[gd,Va,V6,Zs]at h;exact⟨h.1,QmE hb r h.2⟩
 |.t k::r,h=>by
  simp only[gd,Va]at h;refine⟨QD8 h.1,Qyk ?_,QmE hb r h.2.2⟩;have:=h.2.1;rw[QAE]at this;exact this
theorem Qmo (a b:List Pc) (c:UInt8):fb (a++b) c=fb a (fb b c):=by
 unfold fb;rw[QaK]
 cases al a<;>simp
theorem Qci:∀ {a b:List Pc} {c:UInt8},gd a (fb b c)=true->gd b c=true->gd (a++b) c=true
 |[],_,_,_,h=>h
 |.b x::r,b,c,h,hb=>by
  simp only[gd,Va,Vv]at h ⊢;exact⟨h.1,Qci h.2 hb⟩
 |.t k::r,b,c,h,hb=>by
  simp only[gd,Va,Vv]at h ⊢;rw[Qmo];exact⟨h.1,h.2.1,Qci h.2.2 hb⟩
def QjU:ZG:=[32,44,59,41,10]
def QgM (n m:Nat) (f:GX->Bool):Bool:=(List.range n).all λk=>(List.range m).all λx=>(List.range m).all λy=>f ⟨k,x,y⟩
theorem QgJ {n m:Nat} {f:GX->Bool} (h:QgM n m f=true) {g:GX} {v:Nat} (hv:v<=m) (hg:g.Wf v n):f g=true:=by
 unfold QgM at h;simp only[Vi,V3]at h;obtain⟨h1,h2,h3⟩:=hg;exact h _ h1 _ (by omega) _ (by omega)
theorem QwD:QgM 8 3 (λg=>QjU.all λc=>gd ((exQ bb) g) c)=true:=by cases bb<;>kernel_rfl
theorem QBX:QgM 4 3 (λg=>QjU.all λc=>gd ((cdQ bb) g) c)=true:=by cases bb<;>kernel_rfl
theorem Qpj {g:GX} {v:Nat} (hv:v<=3) (hg:g.Wf v 8) {c:UInt8} (hc:c∈QjU):gd ((exQ bb) g) c=true:=Vi.1 (QgJ (QwD (bb:=bb)) hv hg) c hc
theorem Qqq {g:GX} {v:Nat} (hv:v<=3) (hg:g.Wf v 4) {c:UInt8} (hc:c∈QjU):gd ((cdQ bb) g) c=true:=Vi.1 (QgJ (QBX (bb:=bb)) hv hg) c hc
def upto (n:Nat) (f:Nat->Bool):Bool:=(List.range n).all f
theorem QbN {n:Nat} {f:Nat->Bool} (h:upto n f=true) {k:Nat} (hk:k<n):f k=true:=Vi.1 h k (V3.2 hk)
def Wh (c:UInt8):Prop:=c=32\/c=10
def GW (a:List Pc):Prop:=∀ c,Wh c->gd a c=true
def wst:List Pc->Bool
 |[]=>true
 |.b x::_=>decide (x=32)||decide (x=10)
 |_=>false
theorem fb_w {b:List Pc} {c:UInt8} (h:wst b=true) (hc:Wh c):Wh (fb b c):=by
 match b,h with
 |[],_=>exact hc
 |.b x::r,h =>
  show Wh x;simpa[wst,Wh]using h
theorem GW.app {a b:List Pc} (ha:GW a) (hb:GW b) (hw:wst b=true):GW (a++b):=λc hc=>Qci (ha _ (fb_w hw hc)) (hb c hc)
theorem GW.of {a:List Pc} (h:(gd a 32&&gd a 10)=true):GW a:=by
 rw[Va]at h;rintro c (rfl|rfl)
 . exact h.1
 . exact h.2
theorem GW.b {a:List Pc} (h:GW a):GW (pb::a):=λc hc=>by
 have:=h c hc;simp[gd,this]
theorem GW.nil:GW []:=λ_ _=>rfl
theorem GW.ex {a b:List Pc} (c0:UInt8) (ha:gd a c0=true) (hb:GW b) (hf:∀ c,fb b c=c0):GW (a++b):=λc hc=>Qci (by rw[hf]; exact ha) (hb c hc)
def GY (a:List Pc):Prop:=∀ c,gd a c=true
theorem GW.nl {a:List Pc} (h:GW a):GY (a++[pnl]):=λc=>Qci (h 10 (.inr rfl)) rfl
theorem GY.app {a b:List Pc} (ha:GY a) (hb:GY b):GY (a++b):=λc=>Qci (ha _) (hb c)
theorem Qzc {s:Nat×GX} {v:Nat} (hv:v<=3) (h:s.1<v/\s.2.Wf v 8):GW ((Qbc bb) s):=by
 have q:upto 3 (λx=>gd [pb,pw (vN x),pb,ps [61]] 32&&gd [pb,pw (vN x),pb,ps [61]] 10)=true:=by kernel_rfl
 have h1:=GW.of (QbN q (show s.1<3 by omega));have h2:GW ((exQ bb) s.2++[ps [59]]):=GW.ex 59 ((Qpj (bb:=bb)) hv h.2 (by decide)) (GW.of (by kernel_rfl)) λ_=>rfl;have:=h1.app h2.b rfl;simpa[Qbc]using this
theorem QtY {v:Nat} (hv:v<=3):∀ l:List (Nat×GX),(∀ s∈l,s.1<v/\s.2.Wf v 8)->GW (l.flatMap (Qbc bb))/\wst (l.flatMap (Qbc bb))=true
 |[],_=>⟨GW.nil,rfl⟩
 |s::r,h=>by
  obtain⟨h1,h2⟩:=QtY hv r λx hx=>h x (by simp[hx]);rw[VO];exact⟨((Qzc (bb:=bb)) hv (h s (by simp))).app h1 h2,rfl⟩
theorem Qyr {w:Option GX} {v:Nat} (hv:v<=3) (h:∀ c,w=some c->c.Wf v 4):GW ((QfX bb) w)/\wst ((QfX bb) w)=true:=by
 cases w with
 |none=>exact⟨GW.nil,rfl⟩
 |some g =>
  refine⟨?_,rfl⟩;have h1:GW [pb,pw Qev]:=GW.of (by kernel_rfl);have h2:GW ((cdQ bb) g):=λc hc=>(Qqq (bb:=bb)) hv (h g rfl) (by rcases hc with rfl|rfl<;>decide)
  exact h1.app h2.b rfl
theorem Qxq (b:Bool):GW (Qc7 kwH b)/\wst (Qc7 kwH b)=true:=by
 cases b with
 |true=>exact⟨GW.of (by kernel_rfl),rfl⟩
 |false=>exact⟨GW.nil,rfl⟩
theorem QxI {g:Option Nat} (h:∀ t,g=some t->t<=4):GW (Qc1 g)/\wst (Qc1 g)=true:=by
 cases g with
 |none=>exact⟨GW.nil,rfl⟩
 |some t =>
  have q:upto 5 (λt=>gd (Qc1 (some t)) 32&&gd (Qc1 (some t)) 10)=true:=by kernel_rfl
  exact⟨GW.of (QbN q (by have:=h t rfl; omega)),rfl⟩
theorem Qzd {k:Nat} (hk:k<3) {g:GA} {v i n:Nat} (hv:v<=3) (hn:n<=4) (h:g.Wf v i n):GY ((QdE bb) k g):=by
 have q:upto 3 (λk=>gd [pb,pb,pw QeM,pb,pw (aN k)] 32&&gd [pb,pb,pw QeM,pb,pw (aN k)] 10)=true:=by kernel_rfl
 have h1:=GW.of (QbN q hk);obtain⟨h2,w2⟩:=(Qyr (bb:=bb)) hv h.wh;obtain⟨h3,w3⟩:=Qxq g.hid;obtain⟨h4,w4⟩:=(QtY (bb:=bb)) hv g.sets h.sets;obtain⟨h5,w5⟩:=QxI (g:=g.go) λt ht=>by have:=h.go t ht; omega
 have b1:GW [pb,ps [123]]:=GW.of (by kernel_rfl);have b2:GW [pb,ps [125]]:=GW.of (by kernel_rfl);exact((((((h1.app h2 w2).app h3 w3).app b1 rfl).app h4 w4).app b2 rfl).app h5 w5).nl
theorem QsX {v i n:Nat} (hv:v<=3) (hn:n<=4):∀ (l:List GA) (k:Nat),k+l.length<=3->(∀ a∈l,a.Wf v i n)->GY ((QcD bb) k l)
 |[],_,_,_=>λ_=>rfl
 |g::r,k,hk,h=>by
  simp only[Vh]at hk;exact((Qzd (bb:=bb)) (by omega) hv hn (h g (by simp))).app (QsX hv hn r (k+1) (by omega) λa ha=>h a (by simp[ha]))
theorem QCs {w:Option GX} {p v:Nat} (hv:v<=3) (hp:p<3) (h:∀ c,w=some c->c.Wf v 4):GW ((QdG bb) w p):=by
 cases w with
 |none =>
  have q:upto 3 (λp=>gd [pnU p] 32&&gd [pnU p] 10)=true:=by kernel_rfl
  exact GW.of (QbN q hp)
 |some g =>
  have q:upto 3 (λp=>gd [ps [44],pb,pnU 0,ps [44],pb,pnU p,ps [41]] 32&&gd [ps [44],pb,pnU 0,ps [44],pb,pnU p,ps [41]] 10)=true:=by kernel_rfl
  have h1:GW ((cdQ bb) g++[ps [44],pb,pnU 0,ps [44],pb,pnU p,ps [41]]):=GW.ex 44 ((Qqq (bb:=bb)) hv (h g rfl) (by decide)) (GW.of (QbN q hp)) λ_=>rfl;have f:upto 4 (λk=>(List.range 3).all λx=>(List.range 3).all λy=>decide (cls (fb ((cdQ bb) ⟨k,x,y⟩) 0).toNat≠61)&&(gd [pw wIf,ps [40]] (fb ((cdQ bb) ⟨k,x,y⟩) 0) && !(al ((cdQ bb) ⟨k,x,y⟩)).isEmpty))=true:=by cases bb<;>kernel_rfl
  obtain⟨g1,g2,g3⟩:=h g rfl;have f2:=QbN f g1;simp only[Vi,V3,Va]at f2;obtain⟨_,f3,f4⟩:=f2 g.x (by omega) g.y (by omega);intro c hc;have e:(QdG bb) (some g) p=[pw wIf,ps [40]]++((cdQ bb) g++[ps [44],pb,pnU 0,ps [44],pb,pnU p,ps [41]]):=by simp[QdG]
  rw[e];refine Qci ?_ (h1 c hc);rw[Qmo];have e2:∀ c',fb ((cdQ bb) g) c'=fb ((cdQ bb) g) 0:=by
   intro c';unfold fb;have f5:(al ((cdQ bb) g)).isEmpty=false:=by simpa using f4
   cases hq:al ((cdQ bb) g)with
   |nil=>rw[hq]at f5; cases f5
   |cons a r=>rfl
  rw[e2]; exact f3
theorem QEn {w:Option GX} {p pl v i n:Nat} {acts:List GA} (hv:v<=3) (hn:n<=4) (hp3:pl<=3) (h:(GS.turn w p acts).Wf pl v n i):GY ((Qgj bb) w p acts):=by
 obtain⟨h1,h2,h3,h4,h5⟩:=h;have g1:GW [pw kwT]:=GW.of (by kernel_rfl);have g2:=QCs (bb:=bb) hv (show p<3 by omega) h1;have g3:GW [pb,ps [123]]:=GW.of (by kernel_rfl);have g4:=QsX (bb:=bb) hv hn acts 0 (by omega) h5;have g5:GY [ps [125],pnl]:=GW.nl (a:=[ps [125]]) (GW.of (by kernel_rfl));have:=(((g1.app g2.b rfl).app g3 rfl).nl.app g4).app g5;simpa[Qgj]using this
theorem Qx3 {x r w s p pl v n i:Nat} (hv:v<=3) (hp3:pl<=3) (h:(GS.deal x r w s p).Wf pl v n i):GY (Qfa x r w s p):=by
 obtain⟨h1,h2,h3,h4,h5⟩:=h;have q1:upto 3 (λx=>(List.range 4).all λr=>gd [pw kwD,pb,pw (vN x),pb,pw kwI,pb,pnU (loV r),pb,ps [46,46],pb,pnU (hiV r)] 32&&gd [pw kwD,pb,pw (vN x),pb,pw kwI,pb,pnU (loV r),pb,ps [46,46],pb,pnU (hiV r)] 59)=true:=by kernel_rfl
 have q2:upto 3 (λx=>(List.range 4).all λw=>gd (Qcl w x) 32&&gd (Qcl w x) 59)=true:=by kernel_rfl
 have q3:upto 3 (λs=>(List.range 3).all λp=>gd (Qbn s p) 59&&(decide (fb (Qbn s p) 59=59)||decide (fb (Qbn s p) 59=32)))=true:=by kernel_rfl
 have q4:upto 3 (λx=>(List.range 4).all λw=>(decide (fb (Qcl w x) 59=59)||decide (fb (Qcl w x) 59=32))&&decide (fb (Qcl w x) 32=32))=true:=by kernel_rfl
 have k1:=QbN q1 (show x<3 by omega);have k2:=QbN q2 (show x<3 by omega);have k3:=QbN q3 h4;have k4:=QbN q4 (show x<3 by omega);simp only[Vi,V3,Va,V6,Zs]at k1 k2 k3 k4;have k1:=k1 r h2;have k2:=k2 w h3;have k3:=k3 p (by omega);have k4:=k4 w h3;intro c;have e:Qfa x r w s p=[pw kwD,pb,pw (vN x),pb,pw kwI,pb,pnU (loV r),pb,ps [46,46],pb,pnU (hiV r)]++(Qcl w x++(Qbn s p++[ps [59],pnl])):=by simp[Qfa]
 rw[e];have f1:fb [ps [59],pnl] c=59:=rfl;have m1:gd (Qbn s p++[ps [59],pnl]) c=true:=Qci (by rw[f1]; exact k3.1) ((GW.nl (a:=[ps [59]]) (GW.of (by kernel_rfl))) c);have f2:fb (Qbn s p++[ps [59],pnl]) c=59\/fb (Qbn s p++[ps [59],pnl]) c=32:=by rw[Qmo,f1]; exact k3.2
 have m2:gd (Qcl w x++(Qbn s p++[ps [59],pnl])) c=true:=by
  refine Qci ?_ m1;rcases f2 with f2|f2
  . rw[f2]; exact k2.2
  . rw[f2]; exact k2.1
 refine Qci ?_ m2;rw[Qmo];rcases f2 with f2|f2
 . rw[f2];rcases k4.1 with k|k
   . rw[k]; exact k1.2
   . rw[k]; exact k1.1
 . rw[f2,k4.2]; exact k1.1
theorem Qyq {g:GS} {pl v n i:Nat} (hv:v<=3) (hn:n<=4) (hp3:pl<=3) (h:g.Wf pl v n i):GY ((Qen bb) g):=by
 cases g with
 |deal x r w s p=>exact Qx3 hv hp3 h
 |turn w p acts=>exact(QEn (bb:=bb)) hv hn hp3 h
theorem Qqo {pl v n:Nat} (hv:v<=3) (hn:n<=4) (hp3:pl<=3):∀ (l:List GS) (i:Nat),i+l.length<=4->Qf0 pl v n i l->GY ((Qcc bb) i l)
 |[],_,_,_=>λ_=>rfl
 |g::r,i,hi,h=>by
  simp only[Vh]at hi;have q:upto 5 (λi=>gd [pw (sN i),ps [58]] 32)=true:=by kernel_rfl
  have h1:GY [pw (sN i),ps [58],pb]:=λc=>Qci (a:=[pw (sN i),ps [58]]) (b:=[pb]) (QbN q (by omega)) rfl;exact(h1.app ((Qyq (bb:=bb)) hv hn hp3 h.1)).app (Qqo hv hn hp3 r (i+1) (by omega) h.2)
theorem Qqx:∀ (l:List Nat) (i:Nat),i+l.length<=3->(∀ c∈l,c<4)->GY ((Qcz bb) i l)
 |[],_,_,_=>λ_=>rfl
 |c::r,i,hi,h=>by
  simp only[Vh]at hi;have q:upto 3 (λi=>(List.range 4).all λc=>gd ([pw kwV,pb,pw (vN i),pb,ps [61],pb]++(Qd7 bb) c++[ps [59]]) 10)=true:=by cases bb<;>kernel_rfl
  have q2:=QbN q (show i<3 by omega);simp only[Vi,V3]at q2;have h1:GY (([pw kwV,pb,pw (vN i),pb,ps [61],pb]++(Qd7 bb) c++[ps [59]])++[pnl]):=λd=>Qci (q2 c (h c (by simp))) rfl;have:=h1.app (Qqx r (i+1) (by omega) λc hc=>h c (by simp[hc]));simpa[Qcz]using this
theorem Qsh {v:Nat} (hv:v<=3):∀ (l:List GX) (b:Bool),(∀ x∈l,x.Wf v 8)->gd ((Qax bb) b l) 59=true/\(b=true->fb ((Qax bb) b l) 59=59\/fb ((Qax bb) b l) 59=44)
 |[],_,_=>⟨rfl,λ_=>.inl rfl⟩
 |g::r,b,h=>by
  obtain⟨h1,h2⟩:=Qsh hv r true λx hx=>h x (by simp[hx]);have h3:gd ((exQ bb) g++(Qax bb) true r) 59=true:=Qci (by rcases h2 rfl with e|e<;>rw[e]<;>exact(Qpj (bb:=bb)) hv (h g (by simp)) (by decide)) h1
  cases b with
  |true=>exact⟨by
   have:gd ([ps [44],pb]++((exQ bb) g++(Qax bb) true r)) 59=true:=Qci (a:=[ps [44],pb]) rfl h3;simpa[Qax]using this,λ_=>.inr rfl⟩
  |false=>exact⟨by simpa[Qax]using h3,λh=>by cases h⟩
theorem Qty {g:GR} (h:g.Wf):Qa8 ((Qa9 bb) g):=by
 have q1:upto 9 (λm=>(List.range 4).all λp=>gd [pw kwG,pb,pw (gN m),ps [59],pnl,pw Qd4,pb,pnU p,ps [59]] 10)=true:=by kernel_rfl
 have q2:upto 5 (λi=>gd [pw (sN i),ps [58],pb,pw kwE,pb,ps [123],pb,pw kwP] 32)=true:=by kernel_rfl
 have k1:=QbN q1 h.nm;simp only[Vi,V3]at k1;have a1:GY ([pw kwG,pb,pw (gN g.nm),ps [59],pnl,pw Qd4,pb,pnU g.pl,ps [59]]++[pnl]):=λc=>Qci (k1 g.pl (by have:=h.pl3; omega)) rfl;have a2:=(Qqx (bb:=bb)) g.ini 0 (by have:=h.inl; have:=h.v3; omega) h.ini;have a3:=(Qqo (bb:=bb)) h.v3 h.st4 h.pl3 g.stages 0 (by have:=h.st4; omega) h.sts;have a4:GY ([pw (sN g.stages.length),ps [58],pb,pw kwE,pb,ps [123],pb,pw kwP]++[pb]):=λc=>Qci (QbN q2 (by have:=h.st4; omega)) rfl;have a5:GY ((Qax bb) false g.pays++[ps [59],pb,ps [125],pnl]):=λc=>Qci ((Qsh (bb:=bb)) h.v3 g.pays false h.pays).1 ((GW.nl (a:=[ps [59],pb,ps [125]]) (GW.of (by kernel_rfl))) c);have:=QmE (b:=[]) trivial _ ((((a1.app a2).app a3).app a4).app a5 0);simpa[Qa9]using this
end
section
variable {H:ZI} {j:Nat} {l:List Int} {a:Nat}
theorem QsU (Z:closed H) (b:Nat):closed (mvD H j l b):=Qfw Z j (by simp[drO])
theorem ok66 (ho:H[j]? = some (drO l a)) (ha:a<=l.length) (hl:l.length<4611686018427387904) {x:SV} {ws:ZF} (hx:∀ b,IsS (mvD H j l b) x ws) (h1:1<=ws.length) (h2:ws.length<=9) :
 Ok Tryz.prog 66 [rp j,x] H (.ret (st (B (ws.getD (af l a ws.length).1 [])))) (mvD H j l (af l a ws.length).2):=by
 have e4:=QAy ho;have hx0:=hx a;rw[e4]at hx0;refine Qt hm Tryz.func66 c66 (by simp[rp]) λZ => ?_;have h37:=QiC ho ha hl ws.length (by omega);have hk:=Qac (l:=l) (a:=a) (n:=ws.length) h1;have hx1:=hx (af l a ws.length).2;generalize af l a ws.length=kk at *;obtain⟨k,b⟩:=kk;simp only at *;have hv:=hx1.vA [] hk;have hok:=hx1.okA [] hk;rw[VE]at hv hok;have hg:ws.getD k []=ws[k]:=by rw[Vy,Ve hk]; rfl
 have hk':(k:Int)<ws.length:=by omega
 rw[hg];simp -implicitDefEqProofs[i66,r66,hx0.vd,hx0.ug,hx0.sl,hx0.len];refine Qb h37 ?_;simp -implicitDefEqProofs[hx1.vd,hx1.ug,hx1.sl,hx1.len,hk',hv,hok];exact Qi
theorem go39 (hd:Dr H j l) (ha:a<=l.length) (hl:l.length<4611686018427387904) (L:ZI) {x:SV} {ws:ZF} (hx:∀ b,IsS (mvD H j l b++L) x ws) (h1:1<=ws.length) (h2:ws.length<=9) :
 Ok Tryz.prog 66 [rp j,x] (mvD H j l a++L) (.ret (st (B (ws.getD (af l a ws.length).1 [])))) (mvD H j l (af l a ws.length).2++L):=by
 have:=ok66 (hd.at a L) ha hl (x:=x) (ws:=ws) (λb=>by rw[hd.mv]; exact hx b) h1 h2; rwa [hd.mv]at this
theorem row1 {L:ZI} {k n ver:Nat} {ws:ZF} (h:L[k]? = some ⟨wds ws,9,ver,true⟩) (hn:n=ws.length) (b:Nat):IsS (mvD H j l b++L) (.own (H.length+k) 0 n 1 ver) ws:=by
 have:=IsS.own1 (H:=mvD H j l b) (L:=L) h hn
 rwa [Yf]at this
theorem ok67 (hd:Dr H j l) (ha:a<=l.length) (hl:l.length<4611686018427387904) {v pl:Nat} (hv:1<=v) (h3:v<=3) (hp:1<=pl) (hp3:pl<=3) :
 Ok Tryz.prog 67 [rp j,V pl,V v] (mvD H j l a) (.ret (st (B (stB (Qep l pl v a).1)))) (mvD H j l (Qep l pl v a).2):=by
 refine Qt hm Tryz.func67 c67 (by simp[rp]) λZ => ?_;dsimp only[Qep,Qfy,stB,Qji];have a1:=QS (n:=v) ha;have g1:=go71 hd ha hl [] hv h3;have h2:=λL k (h:L[k]? = some ⟨wds Qer,9,0,true⟩)=>go39 hd a1 hl L (x:=.own (H.length+k) 0 4 1 0) (ws:=Qer) (λb=>row1 h rfl b) (by decide) (by decide);have a2:=QS (n:=4) a1;have g3:=λL=>Qb9 hd a2 hl L 4 (by decide);have b3:=Qac (l:=l) (a:=(af l (af l a v).2 4).2) (n:=4) (by decide);have a3:=QS (n:=4) a2;have g4:=λL=>Qb9 hd a3 hl L 3 (by decide);have b4:=Qac (l:=l) (a:=(af l (af l (af l a v).2 4).2 4).2) (n:=3) (by decide);have a4:=QS (n:=3) a3;have g5:=λL=>Qb9 hd a4 hl L pl (by omega);have b5:=Qac (l:=l) (a:=(af l (af l (af l (af l a v).2 4).2 4).2 3).2) hp;have lr:∀ k,(Qer.getD k []).length<=6:=by
  intro k
  match k with
  |0|1|2|3=>decide
  |k+4=>simp[Qer]
 simp only[show Qer.length=4 from rfl]at h2;generalize af l (af l (af l (af l (af l a v).2 4).2 4).2 3).2 pl=q5 at *;generalize af l (af l (af l (af l a v).2 4).2 4).2 3=q4 at *;generalize af l (af l (af l a v).2 4).2 4=q3 at *;generalize af l (af l a v).2 4=q2 at *;generalize af l a v=q1 at *;obtain⟨x1,c1⟩:=q1;obtain⟨x2,c2⟩:=q2;obtain⟨x3,c3⟩:=q3;obtain⟨x4,c4⟩:=q4;obtain⟨x5,c5⟩:=q5;simp only at *;have lx:(vN x1).length=2:=rfl;have lr:=lr x2;generalize Qer.getD x2 []=tr at *;simp -implicitDefEqProofs[i67,r67];refine Qb (by rw[VE,VE]at g1; exact g1) ?_;simp -implicitDefEqProofs[QU,lx];refine Qb (h2 _ 0 rfl) ?_;simp -implicitDefEqProofs[QU,lx];refine⟨by omega,?_⟩;refine Qb (g3 _) ?_;have hk4:x3=0\/x3=1\/x3=2\/x3=3:=by omega
 have hk3:x4=0\/x4=1\/x4=2:=by omega
 have hc:∀ b,closed (mvD H j l b):=λb=>by have:=QsU (j:=j) (l:=l) Z b; unfold mvD at this; rwa [VF]at this
 have ld:∀ k,(dg k).length=1:=λ_=>rfl;have g6:=λH=>QeE (H:=H) (n:=x5) (by omega);have ld:=ld x5;generalize hd5:dg x5=t5 at *;rcases hk4 with rfl|rfl|rfl|rfl
 all_goals
  simp -implicitDefEqProofs[QU,lx];repeat (refine⟨by omega,?_⟩)
  refine Qb (g4 _) ?_;rcases hk3 with rfl|rfl|rfl
  . simp -implicitDefEqProofs[QU,lx,wgB,Qfu];repeat (refine⟨by omega,?_⟩)
    exact Qq 1 (hc _) (Yf ..).symm rfl
  . simp -implicitDefEqProofs[QU,lx];repeat (refine⟨by omega,?_⟩)
    refine Qb (g5 _) ?_;simp -implicitDefEqProofs;refine Qb (g6 _) ?_;simp -implicitDefEqProofs[QU,lx,wgB,Qfu,ld,hd5];repeat (refine⟨by omega,?_⟩)
    exact Qq 1 (hc _) (Yf ..).symm rfl
  . simp -implicitDefEqProofs[QU,lx,wgB,Qfu];repeat (refine⟨by omega,?_⟩)
    exact Qq 1 (hc _) (Yf ..).symm rfl
end
section
variable {H:ZI} {j:Nat} {l:List Int}
structure E41 (j v i n k w:Nat) (U:Env):Prop where
 h0:U.get 0=rp j
 h2:U.get 2=V v
 h3:U.get 3=V i
 h4:U.get 4=V n
 h12:U.get 12=V w
 h13:U.get 13=V k
theorem QCk (hd:Dr H j l) (hl:l.length<4611686018427387904) {v i n k w:Nat} (hv:1<=v) (h3:v<=3) {G:ZI} {N:Nat} {K:ZH} :
 ∀ (m a:Nat) (P:ZG) (U:Env),a<=l.length->m<=9->P.length+60*m<=1000000000->E41 j v i n k w U->U.get 11=st (B P)->U.get 14=V m ->
  (∀ U,E41 j v i n k w U->U.get 11=st (B (P++Qed (Qbv l v m a).1))->K (.exit 2) U (mvD H j l (Qbv l v m a).2++G))->LI Tryz.prog N Qf Qjx U (mvD H j l a++G) K:=by
 intro m
 induction m with
 |zero =>
  intro a P U ha hm9 hP he h11 h14 hk;refine Qp hm Qjx.eq_1 ?_;simp[h14];refine hk _ ⟨?_,?_,?_,?_,?_,?_⟩ ?_;all_goals simp[he.h0,he.h2,he.h3,he.h4,he.h12,he.h13,h11,Qed,Qbv]
 |succ m ih =>
  intro a P U ha hm9 hP he h11 h14 hk;refine Qp hm Qjx.eq_1 ?_;have hsl:=Qra ((af l a v).1,(gx l v 8 (af l a v).2).1);have g1:=go71 hd ha hl G hv h3;have a1:=QS (n:=v) ha;have g2:=go42 hd a1 hl G hv h3;have a2:=QfL (v:=v) (n:=8) a1;have hih:=ih (gx l v 8 (af l a v).2).2 (P++QfV ((af l a v).1,(gx l v 8 (af l a v).2).1));have hk':∀ U,E41 j v i n k w U->U.get 11=st (B (P++QfV ((af l a v).1,(gx l v 8 (af l a v).2).1)++Qed (Qbv l v m (gx l v 8 (af l a v).2).2).1))->K (.exit 2) U (mvD H j l (Qbv l v m (gx l v 8 (af l a v).2).2).2++G):=by
   intro U e1 e2;refine hk U e1 ?_;rw[e2,Vr]; rfl
  clear hk ih;generalize Qbv l v m (gx l v 8 (af l a v).2).2=r at hk' hih;generalize gx l v 8 (af l a v).2=q2 at *;generalize af l a v=q1 at *;obtain⟨x1,c1⟩:=q1;obtain⟨x2,c2⟩:=q2;simp only at *;have hb:QfV (x1,x2)=[32]++vN x1++[32,61,32]++exB x2++[59]:=rfl;rw[hb]at hsl hih hk';have lx:(vN x1).length=2:=rfl;generalize vN x1=t1 at *;generalize exB x2=t2 at *;simp only[Vj,Vh,VH]at hsl;have w1:IntKind.i64.wrap (m:Int)=m:=QfM (by omega);simp[he.h0,he.h2,h11,h14,QU];repeat (refine⟨by omega,?_⟩)
  refine Qb g1 ?_;simp[he.h0,he.h2,h11,h14,QU];repeat (refine⟨by omega,?_⟩)
  refine Qb g2 ?_;simp[he.h0,he.h2,h11,h14,QU];repeat (refine⟨by omega,?_⟩)
  refine hih _ a2 (by omega) (by simp only[Vj,Vh,VH]; omega) ⟨?_,?_,?_,?_,?_,?_⟩ ?_ ?_ hk';all_goals simp[he.h3,he.h4,he.h12,he.h13,w1]
theorem Qtn (k:Nat) (g:GA) (h:g.sets.length<=2):(QeZ k g).length<=400:=by
 have h1:=Qsw g.wh;have h2:=QyS g.hid;have h3:=QmM g.sets;have h4:=QEA g.go;simp[QeZ,aN]; omega
end
def t41:IC:=(.seq
 (.seq
 (.reg [
 ⟨(some 66),none,.p (.mov (.t 0))⟩,
 ⟨(some 67),none,.e (.call (.c (.fn (.func 64) [] [])) [(.t 66),(.c (V 3))])⟩,
 ⟨(some 68),none,.p (.bin .eql (.i .i64) (.t 67) (.c (V 0)))⟩])
 (.cond (.t 68)
 (.reg [
 ⟨(some 69),none,.p (.mov (.t 11))⟩,
 ⟨(some 70),none,.p (.bin .add .s (.t 69) (.c (st ⟨#[32,104,105,100,100,101,110]⟩)))⟩,
 ⟨(some 11),none,.p (.mov (.t 70))⟩])
 .skip))
 (.seq
 (.reg [
 ⟨(some 71),none,.p (.mov (.t 11))⟩,
 ⟨(some 72),none,.p (.bin .add .s (.t 71) (.c (st ⟨#[32,123]⟩)))⟩,
 ⟨(some 11),none,.p (.mov (.t 72))⟩])
 (.seq
 (.seq
 (.reg [
 ⟨(some 73),none,.p (.mov (.t 0))⟩,
 ⟨(some 74),none,.e (.call (.c (.fn (.func 64) [] [])) [(.t 73),(.c (V 3))])⟩,
 ⟨(some 14),none,.p (.mov (.t 74))⟩])
 (.blk 2
 (.loop Qjx)))
 (.seq
 (.reg [
 ⟨(some 91),none,.p (.mov (.t 11))⟩,
 ⟨(some 92),none,.p (.bin .add .s (.t 91) (.c (st ⟨#[32,125]⟩)))⟩,
 ⟨(some 11),none,.p (.mov (.t 92))⟩])
 (.seq
 (.seq
 (.reg [
 ⟨(some 93),none,.p (.mov (.t 0))⟩,
 ⟨(some 94),none,.e (.call (.c (.fn (.func 64) [] [])) [(.t 93),(.c (V 3))])⟩,
 ⟨(some 95),none,.p (.bin .eql (.i .i64) (.t 94) (.c (V 0)))⟩])
 (.cond (.t 95)
 (.reg [
 ⟨(some 96),none,.p (.mov (.t 11))⟩,
 ⟨(some 97),none,.p (.bin .add .s (.t 96) (.c (st ⟨#[32,103,111,116,111,32,115]⟩)))⟩,
 ⟨(some 98),none,.p (.mov (.t 3))⟩,
 ⟨(some 99),none,.p (.bin .add (.i .i64) (.t 98) (.c (V 1)))⟩,
 ⟨(some 100),none,.p (.mov (.t 0))⟩,
 ⟨(some 101),none,.p (.mov (.t 4))⟩,
 ⟨(some 102),none,.p (.mov (.t 3))⟩,
 ⟨(some 103),none,.p (.bin .sub (.i .i64) (.t 101) (.t 102))⟩,
 ⟨(some 104),none,.e (.call (.c (.fn (.func 64) [] [])) [(.t 100),(.t 103)])⟩,
 ⟨(some 105),none,.p (.bin .add (.i .i64) (.t 99) (.t 104))⟩,
 ⟨(some 106),none,.e (.call (.c (.fn (.func 65) [] [])) [(.t 105)])⟩,
 ⟨(some 107),none,.p (.bin .add .s (.t 97) (.t 106))⟩,
 ⟨(some 108),none,.p (.bin .add .s (.t 107) (.c (st ⟨#[59]⟩)))⟩,
 ⟨(some 11),none,.p (.mov (.t 108))⟩])
 .skip))
 (.reg [
 ⟨(some 109),none,.p (.mov (.t 11))⟩,
 ⟨(some 110),none,.p (.bin .add .s (.t 109) (.c (st ⟨#[10]⟩)))⟩,
 ⟨(some 11),none,.p (.mov (.t 110))⟩]))))))
theorem Qu6:QkH=.keep [0,2,3,4,11,12,13]
 (.seq
 (.seq
 (.reg [
 ⟨(some 41),none,.p (.mov (.t 13))⟩,
 ⟨(some 42),none,.p (.mov (.t 12))⟩,
 ⟨(some 43),none,.p (.bin .lss (.i .i64) (.t 41) (.t 42))⟩])
 (.cond (.t 43)
 .skip
 (.exit 0)))
 (.seq
 (.blk 1
 (.seq
 (.reg [
 ⟨(some 46),none,.p (.mov (.t 11))⟩,
 ⟨(some 47),none,.p (.bin .add .s (.t 46) (.c (st ⟨#[32,32,97,99,116,105,111,110,32]⟩)))⟩,
 ⟨(some 48),none,.e (.bsl 9 1 3 [st ⟨#[]⟩] [(0,(.c (st ⟨#[97]⟩))),(1,(.c (st ⟨#[98]⟩))),(2,(.c (st ⟨#[99]⟩)))])⟩,
 ⟨(some 49),none,.p (.mov (.t 13))⟩,
 ⟨(some 50),none,.p (.ia 1 (.t 48) (.t 49))⟩,
 ⟨(some 51),none,.p (.ld1 (.t 50))⟩,
 ⟨(some 52),none,.p (.bin .add .s (.t 47) (.t 51))⟩,
 ⟨(some 11),none,.p (.mov (.t 52))⟩])
 (.seq
 (.seq
 (.reg [
 ⟨(some 53),none,.p (.mov (.t 13))⟩,
 ⟨(some 54),none,.p (.bin .gtr (.i .i64) (.t 53) (.c (V 0)))⟩,
 ⟨(some 55),none,.p (.mov (.t 54))⟩,
 ⟨(some 56),(some (55,true)),.p (.mov (.t 0))⟩,
 ⟨(some 57),(some (55,true)),.e (.call (.c (.fn (.func 64) [] [])) [(.t 56),(.c (V 3))])⟩,
 ⟨(some 58),(some (55,true)),.p (.bin .eql (.i .i64) (.t 57) (.c (V 0)))⟩,
 ⟨(some 59),none,.p (.pick (.t 55) (.t 58) (.c (bl false)))⟩])
 (.cond (.t 59)
 (.reg [
 ⟨(some 60),none,.p (.mov (.t 11))⟩,
 ⟨(some 61),none,.p (.bin .add .s (.t 60) (.c (st ⟨#[32,119,104,101,110,32]⟩)))⟩,
 ⟨(some 62),none,.p (.mov (.t 0))⟩,
 ⟨(some 63),none,.p (.mov (.t 2))⟩,
 ⟨(some 64),none,.e (.call (.c (.fn (.func 122) [] [])) [(.t 62),(.t 63)])⟩,
 ⟨(some 65),none,.p (.bin .add .s (.t 61) (.t 64))⟩,
 ⟨(some 11),none,.p (.mov (.t 65))⟩])
 .skip))
 t41)))
 (.reg [
 ⟨(some 44),none,.p (.mov (.t 13))⟩,
 ⟨(some 45),none,.p (.bin .add (.i .i64) (.t 44) (.c (V 1)))⟩,
 ⟨(some 13),none,.p (.mov (.t 45))⟩]))):=rfl
section
variable {H:ZI} {j:Nat} {l:List Int}
theorem QyR (hd:Dr H j l) (hl:l.length<4611686018427387904) {v i n k w:Nat} (hv:1<=v) (h3:v<=3) (hi:i<n) (hn:n<=4) {N:Nat} {K:ZH} {G:ZI} {a:Nat} {P:ZG} {U:Env}
 (ha:a<=l.length) (hP:P.length<=100000000) (he:E41 j v i n k w U) (h11:U.get 11=st (B P))
 (hk:∀ U,E41 j v i n k w U->U.get 11=st (B (P++QgE (decide ((af l a 3).1=0))++[32,123]++Qed (Qbv l v (af l (af l a 3).2 3).1 (af l (af l a 3).2 3).2).1++[32,125]++goB (goC l i n (Qbv l v (af l (af l a 3).2 3).1 (af l (af l a 3).2 3).2).2).1++[10])) ->
  K .normal U (mvD H j l (goC l i n (Qbv l v (af l (af l a 3).2 3).1 (af l (af l a 3).2 3).2).2).2++G)):X Tryz.prog N Qf t41 U (mvD H j l a++G) K:=by
 have g1:=Qb9 hd ha hl G 3 (by decide);have a1:=QS (n:=3) ha;have g2:=Qb9 hd a1 hl G 3 (by decide);have a2:=QS (n:=3) a1;have b2:=Qac (l:=l) (a:=(af l a 3).2) (n:=3) (by decide);generalize af l (af l a 3).2 3=q2 at *;generalize af l a 3=q1 at *;obtain⟨x1,c1⟩:=q1;obtain⟨x2,c2⟩:=q2;simp only at *;have a3:=QnO (v:=v) (m:=x2) a2;have s3:=QmM (Qbv l v x2 c2).1;rw[QiP]at s3;have g4:=Qb9 hd a3 hl G 3 (by decide);have a4:=QS (n:=3) a3;have g5:=Qb9 hd a4 hl G (n-i) (by omega);have b5:=Qac (l:=l) (a:=(af l (Qbv l v x2 c2).2 3).2) (n:=n-i) (by omega);have lp:=λ(P:ZG) (U:Env) (K:ZH)=>QCk hd hl (i:=i) (n:=n) (k:=k) (w:=w) hv h3 (G:=G) (N:=N) (K:=K) x2 c2 P U a2;unfold goC at hk;generalize Qbv l v x2 c2=r at *;obtain⟨tx,c3⟩:=r;simp only at *;generalize Qed tx=sx at *;generalize af l (af l c3 3).2 (n-i)=q5 at *;generalize af l c3 3=q4 at *;obtain⟨x4,c4⟩:=q4;obtain⟨x5,c5⟩:=q5;simp only at *;have e5:IntKind.i64.wrap ((n:Int)-i)=((n-i:Nat):Int):=by rw[Qam (by omega) (by omega)]; omega
 have e6:IntKind.i64.wrap (IntKind.i64.wrap ((i:Int)+1)+(x5:Int))=((i+1+x5:Nat):Int):=by rw[Qam (n:=(i:Int)+1) (by omega) (by omega),Qam (by omega) (by omega)]; omega
 have g6:=λH=>QeE (H:=H) (n:=i+1+x5) (by omega);have ld:(dg (i+1+x5)).length=1:=rfl;unfold t41;simp -implicitDefEqProofs[he.h0];refine Qb g1 ?_;rcases(by omega:x1=0\/¬ x1=0)with h1|h1
 all_goals
  have hh:QgE (decide (x1=0))=if x1=0 then [32,104,105,100,100,101,110]else []:=by unfold QgE; simp only[Zs]
  rw[hh]at hk;simp -implicitDefEqProofs[he.h0,h11,QU,h1];repeat (refine⟨by omega,?_⟩)
  refine Qb g2 ?_;simp -implicitDefEqProofs;refine lp (P++(if x1=0 then [32,104,105,100,100,101,110]else [])++[32,123]) _ _ (by omega) (by simp[h1]; omega) ⟨?_,?_,?_,?_,?_,?_⟩ ?_ ?_ ?_
  . simp[he.h0]
  . simp[he.h2]
  . simp[he.h3]
  . simp[he.h4]
  . simp[he.h12]
  . simp[he.h13]
  . simp[h1]
  . simp
  clear lp;intro U ah h112;simp -implicitDefEqProofs[ah.h0,h112,QU,h1];repeat (refine⟨by omega,?_⟩)
  refine Qb g4 ?_;rcases(by omega:x4=0\/¬ x4=0)with h4|h4
  . simp -implicitDefEqProofs[ah.h0,ah.h3,ah.h4,QU,h4,e5];repeat (refine⟨by omega,?_⟩)
    refine Qb g5 ?_;simp -implicitDefEqProofs[h4,e6];refine Qb (g6 _) ?_;rw[Zr h4]at hk;simp only[goB]at hk;generalize dg (i+1+x5)=t5 at *;simp -implicitDefEqProofs[QU];repeat (refine⟨by omega,?_⟩)
    refine hk _ ⟨?_,?_,?_,?_,?_,?_⟩ ?_;all_goals simp[ah.h0,ah.h2,ah.h3,ah.h4,ah.h12,ah.h13,h1]
  . rw[Zq h4]at hk;simp only[goB]at hk;simp -implicitDefEqProofs[QU,h4];repeat (refine⟨by omega,?_⟩)
    refine hk _ ⟨?_,?_,?_,?_,?_,?_⟩ ?_;all_goals simp[ah.h0,ah.h2,ah.h3,ah.h4,ah.h12,ah.h13,h1]
end
section
variable {H:ZI} {j:Nat} {l:List Int}
theorem Qvx (hd:Dr H j l) (hl:l.length<4611686018427387904) {v i n w:Nat} (hv:1<=v) (h3:v<=3) (hi:i<n) (hn:n<=4) (hw:w<=3) {N:Nat} {K:ZH} :
 ∀ (m k a:Nat) (P:ZG) (G:ZI) (U:Env),a<=l.length->k+m=w->P.length+400*m<=1000000->E41 j v i n k w U->U.get 11=st (B P) ->
  (∀ U G,U.get 11=st (B (P++QeJ k (Qcj l v i n m k a).1))->K (.exit 0) U (mvD H j l (Qcj l v i n m k a).2++G))->LI Tryz.prog N Qf QkH U (mvD H j l a++G) K:=by
 intro m
 induction m with
 |zero =>
  intro k a P G U ha hm' hP he h11 hk;refine Qp hm Qu6 ?_;have:k=w:=by omega
  subst this;simp[he.h12,he.h13];refine hk _ _ ?_;simp[h11,QeJ,Qcj]
 |succ m ih =>
  intro k a P G U ha hm9 hP he h11 hk;refine Qp hm Qu6 ?_;have hkw:(k:Int)<w:=by omega
  have hkw':k<w:=by omega
  have hal:=Qtn k (QbZ l v i n k a).1 (by
   have:=Qac (l:=l) (a:=(af l (whC l v k a).2 3).2) (n:=3) (by decide);dsimp only[QbZ];rw[QiP]; omega)
  have hk2:∀ U G,U.get 11=st (B (P++QeZ k (QbZ l v i n k a).1++QeJ (k+1) (Qcj l v i n m (k+1) (QbZ l v i n k a).2).1))->K (.exit 0) U (mvD H j l (Qcj l v i n m (k+1) (QbZ l v i n k a).2).2++G):=by
   intro U G e2;refine hk U G ?_;rw[e2,Vr]; rfl
  clear hk;have ht:=λ(c:Nat) (hc:c<=l.length) (G:ZI) (P:ZG) (U:Env) (K:ZH)=>QyR hd hl (i:=i) (n:=n) (k:=k) (w:=w) hv h3 hi hn (G:=G) (N:=N) (K:=K) (a:=c) (P:=P) (U:=U) hc;have key:∀ (wh:Option GX) (c:Nat),whC l v k a=(wh,c)->c<=l.length->∀ (U:Env) (G:ZI),E41 j v i n k w U->U.get 11=st (B (P++[32,32,97,99,116,105,111,110,32]++aN k++whB wh))->∀ K':ZH,
   (∀ U,E41 j v i n k w U->U.get 11=st (B (P++QeZ k (QbZ l v i n k a).1))->K' .normal U (mvD H j l (QbZ l v i n k a).2++G))->X Tryz.prog N Qf t41 U (mvD H j l c++G) K':=by
   intro wh c hw1 hc U G he h11 K' hk';refine ht c hc G _ U K' ?_ he h11 λU ah h112 => ?_
   . have:=Qsw wh;simp[aN]; omega
   . have e:(QbZ l v i n k a).2=(goC l i n (Qbv l v (af l (af l c 3).2 3).1 (af l (af l c 3).2 3).2).2).2:=by dsimp only[QbZ]; rw[hw1]
     rw[<-e];refine hk' U ah ?_;rw[h112];dsimp only[QbZ,QeZ];rw[hw1];simp
  have fin:∀ (U:Env),E41 j v i n k w U->U.get 11=st (B (P++QeZ k (QbZ l v i n k a).1))->∀ G,∀ env2:Env,E41 j v i n (k+1) w env2->env2.get 11=U.get 11->LI Tryz.prog N Qf QkH env2 (mvD H j l (QbZ l v i n k a).2++G) K:=λU e1 e2 G env2 e3 e4 =>
   ih (k+1) _ _ G env2 (Quw ha) (by omega) (by simp; omega) e3 (by rw[e4,e2]) hk2
  clear ih hk2 ht;have hk3:k=0\/k=1\/k=2:=by omega
  rcases hk3 with rfl|rfl|rfl
  . simp[he.h0,he.h2,he.h3,he.h4,he.h12,he.h13,h11,hkw',QU];repeat (refine⟨by omega,?_⟩)
    refine key none a rfl ha _ _ ⟨?_,?_,?_,?_,?_,?_⟩ ?_ _ λU e1 e2 => ?_
    . simp
    . simp
    . simp
    . simp
    . simp
    . simp
    . simp[whB,aN]
    . refine⟨by rw[e1.h13]; rfl,fin U e1 e2 _ _ ⟨?_,?_,?_,?_,?_,?_⟩ ?_⟩;all_goals simp[e1.h0,e1.h2,e1.h3,e1.h4,e1.h12,e1.h13,show IntKind.i64.wrap 1=1 from rfl]
  . have hc1:(1:Int)<w:=by omega
    have g1:=λG=>Qb9 hd ha hl G 3 (by decide);have a1:=QS (n:=3) ha;have g2:=λG=>Qnz hd a1 hl G hv h3;have a2:=QfL (v:=v) (n:=4) a1;have cl:=Qjg (gx l v 4 (af l a 3).2).1;unfold whC at key;simp only[show ¬ (1:Nat)=0 from by decide,Zx]at key;generalize gx l v 4 (af l a 3).2=q2 at *;generalize af l a 3=q1 at *;obtain⟨x1,c1⟩:=q1;obtain⟨x2,c2⟩:=q2;simp only at *;simp[he.h0,he.h2,he.h3,he.h4,he.h12,he.h13,h11,hc1,QU];repeat (refine⟨by omega,?_⟩)
    refine QtE (g1 _) ?_;rcases(by omega:x1=0\/¬ x1=0)with h1|h1
    . rw[Zr h1]at key;simp[he.h0,he.h2,he.h3,he.h4,he.h12,he.h13,h11,QU,h1];repeat (refine⟨by omega,?_⟩)
      refine Qb (g2 _) ?_;simp[he.h0,he.h2,he.h3,he.h4,he.h12,he.h13,h11,QU,h1];repeat (refine⟨by omega,?_⟩)
      refine key (some x2) c2 rfl a2 _ _ ⟨?_,?_,?_,?_,?_,?_⟩ ?_ _ λU e1 e2 => ?_
      . simp
      . simp
      . simp
      . simp
      . simp
      . simp
      . simp[whB,aN]
      . refine⟨by rw[e1.h13]; rfl,fin U e1 e2 _ _ ⟨?_,?_,?_,?_,?_,?_⟩ ?_⟩;all_goals simp[e1.h0,e1.h2,e1.h3,e1.h4,e1.h12,e1.h13,show IntKind.i64.wrap 2=2 from rfl]
    . rw[Zq h1]at key;simp[he.h0,he.h2,he.h3,he.h4,he.h12,he.h13,h11,h1];refine key none c1 rfl a1 _ _ ⟨?_,?_,?_,?_,?_,?_⟩ ?_ _ λU e1 e2 => ?_
      . simp
      . simp
      . simp
      . simp
      . simp
      . simp
      . simp[whB,aN]
      . refine⟨by rw[e1.h13]; rfl,fin U e1 e2 _ _ ⟨?_,?_,?_,?_,?_,?_⟩ ?_⟩;all_goals simp[e1.h0,e1.h2,e1.h3,e1.h4,e1.h12,e1.h13,show IntKind.i64.wrap 2=2 from rfl]
  . have hc1:(2:Int)<w:=by omega
    have g1:=λG=>Qb9 hd ha hl G 3 (by decide);have a1:=QS (n:=3) ha;have g2:=λG=>Qnz hd a1 hl G hv h3;have a2:=QfL (v:=v) (n:=4) a1;have cl:=Qjg (gx l v 4 (af l a 3).2).1;unfold whC at key;simp only[show ¬ (2:Nat)=0 from by decide,Zx]at key;generalize gx l v 4 (af l a 3).2=q2 at *;generalize af l a 3=q1 at *;obtain⟨x1,c1⟩:=q1;obtain⟨x2,c2⟩:=q2;simp only at *;simp[he.h0,he.h2,he.h3,he.h4,he.h12,he.h13,h11,hc1,QU];repeat (refine⟨by omega,?_⟩)
    refine QtE (g1 _) ?_;rcases(by omega:x1=0\/¬ x1=0)with h1|h1
    . rw[Zr h1]at key;simp[he.h0,he.h2,he.h3,he.h4,he.h12,he.h13,h11,QU,h1];repeat (refine⟨by omega,?_⟩)
      refine Qb (g2 _) ?_;simp[he.h0,he.h2,he.h3,he.h4,he.h12,he.h13,h11,QU,h1];repeat (refine⟨by omega,?_⟩)
      refine key (some x2) c2 rfl a2 _ _ ⟨?_,?_,?_,?_,?_,?_⟩ ?_ _ λU e1 e2 => ?_
      . simp
      . simp
      . simp
      . simp
      . simp
      . simp
      . simp[whB,aN]
      . refine⟨by rw[e1.h13]; rfl,fin U e1 e2 _ _ ⟨?_,?_,?_,?_,?_,?_⟩ ?_⟩;all_goals simp[e1.h0,e1.h2,e1.h3,e1.h4,e1.h12,e1.h13,show IntKind.i64.wrap 3=3 from rfl]
    . rw[Zq h1]at key;simp[he.h0,he.h2,he.h3,he.h4,he.h12,he.h13,h11,h1];refine key none c1 rfl a1 _ _ ⟨?_,?_,?_,?_,?_,?_⟩ ?_ _ λU e1 e2 => ?_
      . simp
      . simp
      . simp
      . simp
      . simp
      . simp
      . simp[whB,aN]
      . refine⟨by rw[e1.h13]; rfl,fin U e1 e2 _ _ ⟨?_,?_,?_,?_,?_,?_⟩ ?_⟩;all_goals simp[e1.h0,e1.h2,e1.h3,e1.h4,e1.h12,e1.h13,show IntKind.i64.wrap 3=3 from rfl]
theorem QmL:∀ (gs:List GA) (k:Nat),(∀ g∈gs,g.sets.length<=2)->(QeJ k gs).length<=400*gs.length
 |[],k,_=>by simp[QeJ]
 |g::r,k,h=>by
  have h1:=Qtn k g (h g (by simp));have h2:=QmL r (k+1) λx hx=>h x (by simp[hx]);simp[QeJ]; omega
theorem Qnt {v i n:Nat}:∀ (m k a:Nat),∀ g∈(Qcj l v i n m k a).1,g.sets.length<=2
 |0,_,_,g,h=>by cases h
 |m+1,k,a,g,h=>by
  rw[Qcj,Vd]at h;rcases h with rfl|h
  . have:=Qac (l:=l) (a:=(af l (whC l v k a).2 3).2) (n:=3) (by decide);dsimp only[QbZ];rw[QiP]; omega
  . exact Qnt m _ _ g h
theorem ok68 (hd:Dr H j l) {a:Nat} (ha:a<=l.length) (hl:l.length<4611686018427387904) {v pl i n:Nat} (hv:1<=v) (h3:v<=3) (hp:1<=pl) (hp3:pl<=3) (hi:i<n) (hn:n<=4) :
 Ok Tryz.prog 68 [rp j,V pl,V v,V i,V n] (mvD H j l a) (.ret (st (B (stB (Qdv l pl v i n a).1)))) (mvD H j l (Qdv l pl v i n a).2):=by
 refine Qt hm Tryz.func68 c68 (by simp[rp]) λZ => ?_;have hc:∀ b,closed (mvD H j l b):=λb=>by have:=QsU (j:=j) (l:=l) Z b; unfold mvD at this; rwa [VF]at this
 have g1:=Qb9 hd ha hl [] 4 (by decide);have a1:=QS (n:=4) ha;have g2:=Qnz hd a1 hl [] hv h3;have a2:=QfL (v:=v) (n:=4) a1;have cl:=Qjg (gx l v 4 (af l a 4).2).1;have g3:=Qb9 hd a1 hl [] pl (by omega);have b3:=Qac (l:=l) (a:=(af l a 4).2) hp;have a3:=QS (n:=pl) a1;have key:∀ (w:Option GX) (p c:Nat),Qdq l pl v a=((w,p),c)->c<=l.length->∀ (U:Env),U.get 0=rp j->U.get 2=V v->U.get 3=V i->U.get 4=V n->U.get 11=st (B ([116,117,114,110,32]++Qey w p)) ->
  X Tryz.prog Tryz.f68.ntmps Qf (IC.tl 3 i68) U (mvD H j l c) (Fin H.length r68 (.ret (st (B (stB (Qdv l pl v i n a).1)))) (mvD H j l (Qdv l pl v i n a).2)):=by
  intro w p c hw hc' U h0 h2 h3' h4 h11;have wl:=QuN w p;have e:Qdv l pl v i n a=(.turn w p (Qcj l v i n (1+(af l c 3).1) 0 (af l c 3).2).1,(Qcj l v i n (1+(af l c 3).1) 0 (af l c 3).2).2):=by dsimp only[Qdv]; rw[hw]
  rw[e];have g1:=Qb9 hd hc' hl [] 3 (by decide);have b1:=Qac (l:=l) (a:=c) (n:=3) (by decide);have a1:=QS (n:=3) hc';generalize af l c 3=q at *;obtain⟨x,d⟩:=q;simp only[VE,stB]at *;have e6:IntKind.i64.wrap (1+(x:Int))=((1+x:Nat):Int):=by rw[Qam (by omega) (by omega)]; omega
  have hal:=QmL _ 0 (Qnt (l:=l) (v:=v) (i:=i) (n:=n) (1+x) 0 d);rw[Qij]at hal;unfold Qk3;generalize Qey w p=tw at *;simp[IC.tl,i68,h0,h11,QU];repeat (refine⟨by omega,?_⟩)
  refine Qb g1 ?_;simp[e6];refine LI.cong (H':=mvD H j l d++[]) (by simp) ?_;refine Qvx hd hl (v:=v) (i:=i) (n:=n) (w:=1+x) hv h3 hi hn (by omega) (1+x) 0 d ([116,117,114,110,32]++tw++[32,123,10]) [] _ a1 (by omega) (by simp; omega) ⟨?_,?_,?_,?_,?_,?_⟩ ?_ λU G h112 => ?_
  . simp[h0]
  . simp[h2]
  . simp[h3']
  . simp[h4]
  . simp
  . simp
  . simp
  . generalize Qcj l v i n (1+x) 0 d=r at *;simp[h112,QU,r68];repeat (refine⟨by omega,?_⟩)
    exact Qq 1 (hc _) (Yf ..).symm (by simp)
 unfold Qdq at key;generalize gx l v 4 (af l a 4).2=q2 at *;generalize af l (af l a 4).2 pl=q3 at *;generalize af l a 4=q1 at *;obtain⟨x1,c1⟩:=q1;obtain⟨x2,c2⟩:=q2;obtain⟨x3,c3⟩:=q3;simp only[VE]at *;have hd41:i68=.seq (IC.nth 0 i68) (.seq (IC.nth 1 i68) (.seq (IC.nth 2 i68) (IC.tl 3 i68))):=rfl;rw[hd41];generalize IC.tl 3 i68=tl at *;have w1:IntKind.i64.wrap ((pl:Int)-1)=((pl-1:Nat):Int):=by rw[Qam (by omega) (by omega)]; omega
 simp[IC.nth,i68];refine Qb g1 ?_;rcases(by omega:x1=0\/¬ x1=0)with h1|h1
 . rw[Zr h1]at key;have g6:=λH=>QeE (H:=H) (n:=pl-1) (by omega);have ld:(dg (pl-1)).length=1:=rfl;simp[h1];refine Qb g2 ?_;simp[QU,w1];repeat (refine⟨by omega,?_⟩)
   refine Qb (g6 _) ?_;have key:=key (some x2) (pl-1) c2 rfl a2;simp only[Qey]at key;generalize dg (pl-1)=t5 at *;simp[QU];repeat (refine⟨by omega,?_⟩)
   refine key _ ?_ ?_ ?_ ?_ ?_;all_goals simp
 . rw[Zq h1]at key;have g6:=λH=>QeE (H:=H) (n:=x3) (by omega);have ld:(dg x3).length=1:=rfl;simp[h1];refine Qb g3 ?_;simp;refine Qb (g6 _) ?_;have key:=key none x3 c3 rfl a3;simp only[Qey]at key;generalize dg x3=t5 at *;simp[QU];repeat (refine⟨by omega,?_⟩)
   refine key _ ?_ ?_ ?_ ?_ ?_;all_goals simp
end
structure R17 (j pl v n:Nat) (U:Env):Prop where
 h3:U.get 3=rp j
 h4:U.get 4=V pl
 h5:U.get 5=V v
 h6:U.get 6=V n
theorem Qxo (k:Nat):(Qer.getD k []).length<=6:=by
 match k with
 |0|1|2|3=>decide
 |k+4=>simp[Qer]
theorem Qtw (k:Nat):(Qfc.getD k []).length<=2:=by
 match k with
 |0|1|2|3=>decide
 |k+4=>simp[Qfc]
section
variable {H:ZI} {j:Nat} {l:List Int}
theorem QqA {pl v i n a:Nat}:(stB (stC l pl v i n a).1).length<=1300:=by
 unfold stC;split
 . dsimp only[Qep,stB,Qji];have h1:=Qxo (af l (af l (af l a 3).2 v).2 4).1;have h2:=Qx2 (af l (af l (af l (af l a 3).2 v).2 4).2 4).1 (af l (af l a 3).2 v).1;have h3:=Qvu (Qfy l pl (af l (af l (af l (af l a 3).2 v).2 4).2 4).2).1.1 (Qfy l pl (af l (af l (af l (af l a 3).2 v).2 4).2 4).2).1.2;have h4:(vN (af l (af l a 3).2 v).1).length=2:=rfl;simp only[Vj,Vh,VH];omega
 . dsimp only[Qdv,stB,Qk3];generalize (af l a 3).2=b;have h1:=QuN (Qdq l pl v b).1.1 (Qdq l pl v b).1.2;have h2:=QmL _ 0 (Qnt (l:=l) (v:=v) (i:=i) (n:=n) (1+(af l (Qdq l pl v b).2 3).1) 0 (af l (Qdq l pl v b).2 3).2);rw[Qij]at h2;have h3:=Qac (l:=l) (a:=(Qdq l pl v b).2) (n:=3) (by decide);simp only[Vj,Vh,VH];omega
theorem go40 (hd:Dr H j l) {a:Nat} (ha:a<=l.length) (hl:l.length<4611686018427387904) (G:ZI) {v pl:Nat} (hv:1<=v) (h3:v<=3) (hp:1<=pl) (hp3:pl<=3) :
 Ok Tryz.prog 67 [rp j,V pl,V v] (mvD H j l a++G) (.ret (st (B (stB (Qep l pl v a).1)))) (mvD H j l (Qep l pl v a).2++G):=by
 have:=ok67 (hd.app G) ha hl hv h3 hp hp3;unfold mvD at this
 rwa [Vn _ _ hd.lt,Vn _ _ hd.lt]at this
theorem go41 (hd:Dr H j l) {a:Nat} (ha:a<=l.length) (hl:l.length<4611686018427387904) (G:ZI) {v pl i n:Nat} (hv:1<=v) (h3:v<=3) (hp:1<=pl) (hp3:pl<=3) (hi:i<n) (hn:n<=4) :
 Ok Tryz.prog 68 [rp j,V pl,V v,V i,V n] (mvD H j l a++G) (.ret (st (B (stB (Qdv l pl v i n a).1)))) (mvD H j l (Qdv l pl v i n a).2++G):=by
 have:=ok68 (hd.app G) ha hl hv h3 hp hp3 hi hn;unfold mvD at this
 rwa [Vn _ _ hd.lt,Vn _ _ hd.lt]at this
theorem QCr (hd:Dr H j l) (hl:l.length<4611686018427387904) {pl v n:Nat} (hv:v<=3) {N:Nat} {K:ZH} :
 ∀ (m i a:Nat) (P:ZG) (G:ZI) (U:Env),a<=l.length->i+m=v->P.length+40*m<=1000000->R17 j pl v n U->U.get 7=st (B P)->U.get 8=V i ->
  (∀ U G,R17 j pl v n U->U.get 7=st (B (P++Qds i (QbL l m a).1))->K (.exit 0) U (mvD H j l (QbL l m a).2++G))->LI Tryz.prog N Qf Qlz U (mvD H j l a++G) K:=by
 intro m
 induction m with
 |zero =>
  intro i a P G U ha hm' hP he h7 h8 hk;refine Qp hm Qlz.eq_1 ?_;have:i=v:=by omega
  subst this;simp[he.h5,h8];refine hk _ _ ⟨?_,?_,?_,?_⟩ ?_;all_goals simp[he.h3,he.h4,he.h6,h7,Qds,QbL]
 |succ m ih =>
  intro i a P G U ha hm9 hP he h7 h8 hk;refine Qp hm Qlz.eq_1 ?_;have hiv:(i:Int)<v:=by omega
  have hiv':i<v:=by omega
  have g1:=λH=>QeE (H:=H) (n:=i) (by omega);have ld:(dg i).length=1:=rfl;have g2:=λL k (h:L[k]? = some ⟨wds Qfc,9,0,true⟩)=>go39 hd ha hl L (x:=.own (H.length+k) 0 4 1 0) (ws:=Qfc) (λb=>row1 h rfl b) (by decide) (by decide);have a1:=QS (n:=4) ha;simp only[show Qfc.length=4 from rfl]at g2;have wl:=Qtw (af l a 4).1;have hk2:∀ U G,R17 j pl v n U->U.get 7=st (B ((P++[118,97,114,32,118]++dg i++[32,61,32]++Qfc.getD (af l a 4).1 []++[59,10])++Qds (i+1) (QbL l m (af l a 4).2).1))->K (.exit 0) U (mvD H j l (QbL l m (af l a 4).2).2++G):=by
   intro U G e1 e2;refine hk U G e1 ?_;rw[e2]; simp[QbL,Qds]
  clear hk;have ih:=λP G U=>ih (i+1) (af l a 4).2 P G U a1 (by omega);generalize QbL l m (af l a 4).2=r at *;generalize af l a 4=q at *;obtain⟨x,c⟩:=q;simp only at *;generalize Qfc.getD x []=tx at *;generalize dg i=t1 at *;simp[he.h3,he.h5,h7,h8,hiv,QU];repeat (refine⟨by omega,?_⟩)
  refine Qb (g1 _) ?_;simp[he.h3,he.h5,h7,h8,QU];repeat (refine⟨by omega,?_⟩)
  refine Qb (g2 _ G.length (by simp; rfl)) ?_;simp[he.h3,he.h5,h7,h8,QU];repeat (refine⟨by omega,?_⟩)
  refine ih (P++[118,97,114,32,118]++t1++[32,61,32]++tx++[59,10]) _ _ (by simp; omega) ⟨?_,?_,?_,?_⟩ ?_ ?_ hk2;all_goals simp[he.h4,he.h6,Qaj (show i<9223372036854775807 by omega)]
theorem QzC (hd:Dr H j l) (hl:l.length<4611686018427387904) {pl v n:Nat} (hp:1<=pl) (hp3:pl<=3) (hv1:1<=v) (hv:v<=3) (hn:n<=4) {N:Nat} {K:ZH} :
 ∀ (m i a:Nat) (P:ZG) (G:ZI) (U:Env),a<=l.length->i+m=n->P.length+1400*m<=1000000->R17 j pl v n U->U.get 7=st (B P)->U.get 9=V i ->
  (∀ U G,R17 j pl v n U->U.get 7=st (B (P++QdU i (QbO l pl v n m i a).1))->K (.exit 2) U (mvD H j l (QbO l pl v n m i a).2++G))->LI Tryz.prog N Qf Qk5 U (mvD H j l a++G) K:=by
 intro m
 induction m with
 |zero =>
  intro i a P G U ha hm' hP he h7 h8 hk;refine Qp hm Qk5.eq_1 ?_;have:i=n:=by omega
  subst this;simp[he.h6,h8];refine hk _ _ ⟨?_,?_,?_,?_⟩ ?_;all_goals simp[he.h3,he.h4,he.h5,h7,QdU,QbO]
 |succ m ih =>
  intro i a P G U ha hm9 hP he h7 h8 hk;refine Qp hm Qk5.eq_1 ?_;have hiv:(i:Int)<n:=by omega
  have hiv':i<n:=by omega
  have g1:=λH=>QeE (H:=H) (n:=i) (by omega);have ld:(dg i).length=1:=rfl;have g2:=Qb9 hd ha hl G 3 (by decide);have a1:=QS (n:=3) ha;have g3:=go40 hd a1 hl G hv1 hv hp hp3;have g4:=go41 hd a1 hl G hv1 hv hp hp3 hiv' hn;have sl:=QqA (l:=l) (pl:=pl) (v:=v) (i:=i) (n:=n) (a:=a);have a2:=QpP (pl:=pl) (v:=v) (i:=i) (n:=n) ha;have hk2:∀ U G,R17 j pl v n U->U.get 7=st (B ((P++[115]++dg i++[58,32]++stB (stC l pl v i n a).1)++QdU (i+1) (QbO l pl v n m (i+1) (stC l pl v i n a).2).1))->K (.exit 2) U (mvD H j l (QbO l pl v n m (i+1) (stC l pl v i n a).2).2++G):=by
   intro U G e1 e2;refine hk U G e1 ?_;rw[e2]; simp[QbO,QdU,lbB]
  clear hk;have ih:=λP G U=>ih (i+1) (stC l pl v i n a).2 P G U a2 (by omega);generalize QbO l pl v n m (i+1) (stC l pl v i n a).2=r at *;unfold stC at *;generalize Qep l pl v (af l a 3).2=q3 at *;generalize Qdv l pl v i n (af l a 3).2=q4 at *;generalize af l a 3=q at *;obtain⟨x,c⟩:=q;obtain⟨y3,c3⟩:=q3;obtain⟨y4,c4⟩:=q4;simp only at *;generalize dg i=t1 at *;simp[he.h3,he.h4,he.h5,he.h6,h7,h8,hiv,QU];repeat (refine⟨by omega,?_⟩)
  refine Qb (g1 _) ?_;simp[he.h3,he.h4,he.h5,he.h6,h7,h8,QU];repeat (refine⟨by omega,?_⟩)
  refine Qb g2 ?_;rcases(by omega:x=0\/¬ x=0)with h1|h1
  . simp only[Zr h1]at *;simp[he.h3,he.h4,he.h5,he.h6,h7,h8,h1];refine Qb g3 ?_;generalize stB y3=ts at *;simp[he.h3,he.h4,he.h5,he.h6,h7,h8,QU];repeat (refine⟨by omega,?_⟩)
    refine ih (P++[115]++t1++[58,32]++ts) _ _ (by simp; omega) ⟨?_,?_,?_,?_⟩ ?_ ?_ hk2;all_goals simp[Qaj (show i<9223372036854775807 by omega)]
  . simp only[Zq h1]at *;simp[he.h3,he.h4,he.h5,he.h6,h7,h8,h1];refine Qb g4 ?_;generalize stB y4=ts at *;simp[he.h3,he.h4,he.h5,he.h6,h7,h8,QU];repeat (refine⟨by omega,?_⟩)
    refine ih (P++[115]++t1++[58,32]++ts) _ _ (by simp; omega) ⟨?_,?_,?_,?_⟩ ?_ ?_ hk2;all_goals simp[Qaj (show i<9223372036854775807 by omega)]
theorem Qx4 (hd:Dr H j l) (hl:l.length<4611686018427387904) {pl v:Nat} (hp3:pl<=3) (hv1:1<=v) (hv:v<=3) {G:ZI} {N:Nat} {K:ZH} :
 ∀ (m i a:Nat) (P:ZG) (U:Env),a<=l.length->i+m=pl->P.length+50*m<=1000000->U.get 3=rp j->U.get 4=V pl->U.get 5=V v->U.get 7=st (B P)->U.get 10=V i ->
  (∀ U,U.get 7=st (B (P++QdV (decide (0<i)) (Qch l v m a).1))->K (.exit 4) U (mvD H j l (Qch l v m a).2++G))->LI Tryz.prog N Qf QlL U (mvD H j l a++G) K:=by
 intro m
 induction m with
 |zero =>
  intro i a P U ha hm' hP h3 h4 h5 h7 h8 hk;refine Qp hm QlL.eq_1 ?_;have:i=pl:=by omega
  subst this;simp[h4,h8];refine hk _ ?_;simp[h7,QdV,Qch]
 |succ m ih =>
  intro i a P U ha hm9 hP h3 h4 h5 h7 h8 hk;refine Qp hm QlL.eq_1 ?_;have hiv:(i:Int)<pl:=by omega
  have hiv':i<pl:=by omega
  have g1:=go42 hd ha hl G hv1 hv;have a1:=QfL (v:=v) (n:=8) ha;have el:=QmV (gx l v 8 a).1;have hk2:∀ U,U.get 7=st (B ((P++(if 0<i then [44,32]else [])++exB (gx l v 8 a).1)++QdV (decide (0<i+1)) (Qch l v m (gx l v 8 a).2).1))->K (.exit 4) U (mvD H j l (Qch l v m (gx l v 8 a).2).2++G):=by
   intro U e2;refine hk U ?_;rw[e2]; simp[Qch,QdV]
  clear hk;have ih:=λP U=>ih (i+1) (gx l v 8 a).2 P U a1 (by omega);generalize Qch l v m (gx l v 8 a).2=r at *;generalize gx l v 8 a=q at *;obtain⟨x,c⟩:=q;simp only at *;generalize exB x=tx at *;rcases(by omega:0<i\/i=0)with h1|h1
  . simp only[Zr h1]at *;simp[h3,h4,h5,h7,h8,hiv,QU,h1];repeat (refine⟨by omega,?_⟩)
    refine Qb g1 ?_;simp[h3,h4,h5,h7,h8,QU];repeat (refine⟨by omega,?_⟩)
    refine ih (P++[44,32]++tx) _ (by simp; omega) ?_ ?_ ?_ ?_ ?_ hk2;all_goals simp[Qaj (show i<9223372036854775807 by omega)]
  . simp only[Zq (show ¬ 0<i by omega)]at *;subst h1;simp[h3,h4,h5,h7,h8,hiv'];repeat (refine⟨by omega,?_⟩)
    refine Qb g1 ?_;simp[h3,h4,h5,h7,h8,QU];repeat (refine⟨by omega,?_⟩)
    refine ih (P++[]++tx) _ (by simp; omega) ?_ ?_ ?_ ?_ ?_ hk2;all_goals simp[show IntKind.i64.wrap 1=1 from rfl]
end
theorem QnB:∀ (cs:List Nat) (i:Nat),(Qds i cs).length<=40*cs.length
 |[],_=>by simp[Qds]
 |c::r,i=>by
  have h1:=Qtw c;have h2:=QnB r (i+1);simp only[Qds,dg,Vj,Vh,VH]; omega
theorem QoO {l:List Int}:∀ {m a:Nat},(QbL l m a).1.length=m
 |0,_=>rfl
 |m+1,_=>Zt (· + 1) (QoO (m:=m))
theorem QoF {l:List Int} {pl v n:Nat}:∀ {m i a:Nat},(QbO l pl v n m i a).1.length=m
 |0,_,_=>rfl
 |m+1,_,_=>Zt (· + 1) (QoF (m:=m))
theorem QmA {l:List Int} {v:Nat}:∀ {m a:Nat},(Qch l v m a).1.length=m
 |0,_=>rfl
 |m+1,_=>Zt (· + 1) (QmA (m:=m))
theorem QoI {l:List Int} {pl v n:Nat}:∀ (m i a:Nat),(QdU i (QbO l pl v n m i a).1).length<=1400*m
 |0,_,_=>by simp[QdU,QbO]
 |m+1,i,a=>by
  have h1:=QqA (l:=l) (pl:=pl) (v:=v) (i:=i) (n:=n) (a:=a);have h2:=QoI (l:=l) (pl:=pl) (v:=v) (n:=n) m (i+1) (stC l pl v i n a).2;simp only[QbO,QdU,lbB,dg,Vj,Vh,VH]; omega
theorem Qo5:∀ (cs:List GX) (b:Bool),(QdV b cs).length<=50*cs.length
 |[],_=>by simp[QdV]
 |c::r,b=>by
  have h1:=QmV c;have h2:=Qo5 r true
  cases b<;>simp only[QdV,Zv,Vz,Zx,Vj,Vh,VH]<;>omega
section
variable {H:ZI} {l:List Int}
theorem ok25 (hl:l.length<4611686018427387904):Ok Tryz.prog 25 [.slc (QE l) l.length] H (.ret (st (B (QdQ (Qav l))))) H:=by
 refine Qt hm Tryz.func25 c25 (by simp[QE]) λZ => ?_;have hd:Dr (H++[drO l 0]) H.length l:=⟨0,by simp⟩;have e0:∀ b,H++[drO l b]=mvD (H++[drO l 0]) H.length l b:=λb=>by simp[mvD]
 have g1:=Qb9 hd (V5 _) hl [] 3 (by decide);have a1:=QS (n:=3) (V5 l.length);have b1:=Qac (l:=l) (a:=0) (n:=3) (by decide);have g2:=Qb9 hd a1 hl [] 3 (by decide);have a2:=QS (n:=3) a1;have b2:=Qac (l:=l) (a:=(af l 0 3).2) (n:=3) (by decide);have g3:=Qb9 hd a2 hl [] 4 (by decide);have a3:=QS (n:=4) a2;have b3:=Qac (l:=l) (a:=(af l (af l 0 3).2 3).2) (n:=4) (by decide);have g4:=Qb9 hd a3 hl [] 9 (by decide);have a4:=QS (n:=9) a3;have b4:=Qac (l:=l) (a:=(af l (af l (af l 0 3).2 3).2 4).2) (n:=9) (by decide);dsimp only[Qav,QdQ];rw[QoF];generalize af l (af l (af l (af l 0 3).2 3).2 4).2 9=q4 at *;generalize af l (af l (af l 0 3).2 3).2 4=q3 at *;generalize af l (af l 0 3).2 3=q2 at *;generalize af l 0 3=q1 at *;obtain⟨x1,c1⟩:=q1;obtain⟨x2,c2⟩:=q2;obtain⟨x3,c3⟩:=q3;obtain⟨x4,c4⟩:=q4;simp only[VE]at *;have w1:IntKind.i64.wrap (1+(x1:Int))=((1+x1:Nat):Int):=by rw[Qam (by omega) (by omega)]; omega
 have w2:IntKind.i64.wrap (1+(x2:Int))=((1+x2:Nat):Int):=by rw[Qam (by omega) (by omega)]; omega
 have w3:IntKind.i64.wrap (1+(x3:Int))=((1+x3:Nat):Int):=by rw[Qam (by omega) (by omega)]; omega
 have k1:=λH=>QeE (H:=H) (n:=x4) (by omega);have k2:=λH=>QeE (H:=H) (n:=1+x1) (by omega);have k3:=λH=>QeE (H:=H) (n:=1+x3) (by omega);have l1:(dg x4).length=1:=rfl;have l2:(dg (1+x1)).length=1:=rfl;have l3:(dg (1+x3)).length=1:=rfl;rw[<-e0]at g1;simp -implicitDefEqProofs[i25,r25];refine Qb g1 ?_;have hlen:(H++[drO l 0]).length=H.length+1:=by simp
 clear g1;generalize H++[drO l 0]=HH at *;simp -implicitDefEqProofs[w1];refine Qb g2 ?_;simp -implicitDefEqProofs[w2];refine Qb g3 ?_;simp -implicitDefEqProofs[w3];refine Qb g4 ?_;simp -implicitDefEqProofs;refine Qb (k1 _) ?_;simp -implicitDefEqProofs[QU,l1];refine Qb (k2 _) ?_;simp -implicitDefEqProofs[QU,l1,l2];clear k1 k2 g2 g3 g4;refine LI.cong (H':=mvD HH H.length l c4++[]) (by simp) ?_;have i1:=QnB (QbL l (1+x2) c4).1 0;rw[QoO]at i1;have a5:=Qro (m:=1+x2) a4;refine QCr hd hl (pl:=1+x1) (v:=1+x2) (n:=1+x3) (by omega) (1+x2) 0 c4 ([103,97,109,101,32,103]++dg x4++[59,10,112,108,97,121,101,114,115,32]++dg (1+x1)++[59,10]) [] _ a4 (by omega) (by simp[l1,l2]; omega) ⟨?_,?_,?_,?_⟩ ?_ ?_ λU G he h7 => ?_
 . simp[rp]
 . simp
 . simp
 . simp
 . simp
 . simp
 generalize QbL l (1+x2) c4=qi at *;obtain⟨ci,c5⟩:=qi;simp only at *;simp -implicitDefEqProofs;have i2:=QoI (l:=l) (pl:=1+x1) (v:=1+x2) (n:=1+x3) (1+x3) 0 c5;have i3:=QoF (l:=l) (pl:=1+x1) (v:=1+x2) (n:=1+x3) (m:=1+x3) (i:=0) (a:=c5);have a6:=Qs7 (pl:=1+x1) (v:=1+x2) (n:=1+x3) (m:=1+x3) (i:=0) a5;refine QzC hd hl (pl:=1+x1) (v:=1+x2) (n:=1+x3) (by omega) (by omega) (by omega) (by omega) (by omega) (1+x3) 0 c5 ([103,97,109,101,32,103]++dg x4++[59,10,112,108,97,121,101,114,115,32]++dg (1+x1)++[59,10]++Qds 0 ci) G _ a5 (by omega) (by simp[l1,l2]; omega) ⟨?_,?_,?_,?_⟩ ?_ ?_ λU G he h7 => ?_
 . simp[he.h3]
 . simp[he.h4]
 . simp[he.h5]
 . simp[he.h6]
 . simp[h7]
 . simp
 generalize QbO l (1+x1) (1+x2) (1+x3) (1+x3) 0 c5=qs at *;obtain⟨ss,c6⟩:=qs;simp only at *;generalize QdU 0 ss=ts at *;generalize Qds 0 ci=ti at *;have i4:=Qo5 (Qch l (1+x2) (1+x1) c6).1 false;rw[QmA]at i4;have lp:=λP U K=>Qx4 hd hl (pl:=1+x1) (v:=1+x2) (by omega) (by omega) (by omega) (G:=G) (N:=Tryz.f25.ntmps) (K:=K) (1+x1) 0 c6 P U a6 (by omega);generalize Qch l (1+x2) (1+x1) c6=qp at *;obtain⟨ps,c7⟩:=qp;simp only[show decide (0<0)=false from rfl]at *;generalize QdV false ps=tp at *;simp -implicitDefEqProofs[he.h6,h7,QU,l1,l2];repeat (refine⟨by omega,?_⟩)
 refine Qb (k3 _) ?_;generalize dg x4=t1 at *;generalize dg (1+x1)=t2 at *;generalize dg (1+x3)=t3 at *;simp -implicitDefEqProofs[QU,l1,l2];repeat (refine⟨by omega,?_⟩)
 refine lp ([103,97,109,101,32,103]++t1++[59,10,112,108,97,121,101,114,115,32]++t2++[59,10]++ti++ts++[115]++t3++[58,32,101,110,100,32,123,32,112,97,121,32]) _ _ (by simp; omega) ?_ ?_ ?_ ?_ ?_ λU h72 => ?_
 . simp[he.h3]
 . simp[he.h4]
 . simp[he.h5]
 . simp
 . simp
 simp -implicitDefEqProofs[h72,QU];repeat (refine⟨by omega,?_⟩)
 rw[<-e0,Vr];exact Qq 1 Z rfl (by simp)
end
section
variable {bb:Bool}
theorem Qrv:∀ (ts:List Tok) (i:Nat),i+ts.length<=5000->Qce i (ts.map .tok)=(0,0)
 |[],_,_=>rfl
 |t::r,i,h=>by
  simp only[Vh]at h;rw[Vl,Qce,Zq (by omega)];exact Qrv r (i+1) (by omega)
theorem QDa {ts:List Tok} {ks:List TK} (h:QbK ts ks):ts.length=ks.length:=by
 induction h with
 |nil=>rfl
 |cons _ _ ih=>simp[ih]
theorem Qru {ps:List Pc} (hg:Qa8 ps) (h1:(al ps).length<=20000) (h2:(ak ps).length<=5000):(QB (al ps)).2.1=0:=by
 obtain⟨ts,g1,g2,_⟩:=QjM ps hg [] (al ps).length (Vb _) (.inl (.inl rfl));have g1:QaA (al ps)=ts.map .tok:=g1;have hf:=Qrv ts 0 (by rw[QDa g2]; omega);unfold QB;rw[Zq (by omega),g1,hf,Zr rfl]
structure Sz (a b:Nat) (ps:List Pc):Prop where
 t:(ak ps).length<=a
 x:(al ps).length<=b
theorem Sz.app {a b c d:Nat} {ps qs:List Pc} (h:Sz a b ps) (g:Sz c d qs):Sz (a+c) (b+d) (ps++qs) :=
 ⟨by rw[QaL,Vj]; exact Nat.add_le_add h.t g.t,by rw[QaK,Vj]; exact Nat.add_le_add h.x g.x⟩
theorem Sz.le {a b c d:Nat} {ps:List Pc} (h:Sz a b ps) (h1:a<=c) (h2:b<=d):Sz c d ps:=⟨Vf h.t h1,Vf h.x h2⟩
theorem Sz.of {a b:Nat} {ps:List Pc} (h1:Nat.ble (ak ps).length a=true) (h2:Nat.ble (al ps).length b=true):Sz a b ps:=⟨Nat.le_of_ble_eq_true h1,Nat.le_of_ble_eq_true h2⟩
theorem Sz.nil {a b:Nat}:Sz a b []:=⟨V5 _,V5 _⟩
theorem QhJ (n:Nat):Sz 1 19 [pnU n]:=⟨Vb _,by simp only[al,TK.tx,VE]; exact Qn4 n⟩
theorem QsZ (g:GX):Sz 14 60 (exQ bb g):=by
 cases bb
 . show Sz 14 60 (Qfk g);unfold Qfk;repeat' split
   all_goals exact Sz.of rfl rfl
 . show Sz 14 60 (aq (exE g));unfold exE;repeat' split
   all_goals exact Sz.of rfl rfl
theorem Qtf (g:GX):Sz 14 60 (cdQ bb g):=by
 cases bb
 . show Sz 14 60 (Qgz g);unfold Qgz;repeat' split
   all_goals exact Sz.of rfl rfl
 . show Sz 14 60 (aq (cdE g));unfold cdE;repeat' split
   all_goals exact Sz.of rfl rfl
theorem QsS:∀ l:List (Nat×GX),Sz (20*l.length) (80*l.length) (l.flatMap (Qbc bb))
 |[]=>Sz.nil
 |s::r=>by
  have h:Sz 17 67 (Qbc bb s):=((Sz.of (a:=2) (b:=6) (ps:=[pb,pw (vN s.1),pb,ps [61],pb]) rfl rfl).app (QsZ (bb:=bb) s.2)).app (Sz.of (a:=1) (b:=1) (ps:=[ps [59]]) rfl rfl);rw[VO,Vh];exact(h.app (QsS r)).le (by omega) (by omega)
theorem QEo {k:Nat} {g:GA} (h:g.sets.length<=2):Sz 80 400 (QdE bb k g):=by
 have h1:Sz 15 66 (QfX bb g.wh):=by
  cases g.wh with
  |none=>exact Sz.nil
  |some c=>exact(Sz.of (a:=1) (b:=6) (ps:=[pb,pw Qev,pb]) rfl rfl).app (Qtf (bb:=bb) c)
 have h2:Sz 1 7 (Qc7 kwH g.hid):=by cases g.hid<;>exact Sz.of rfl rfl
 have h4:Sz 3 9 (Qc1 g.go):=by cases g.go<;>exact Sz.of rfl rfl
 exact((((((((Sz.of (a:=2) (b:=10) (ps:=[pb,pb,pw QeM,pb,pw (aN k)]) rfl rfl).app h1).app h2).app (Sz.of (a:=1) (b:=2) (ps:=[pb,ps [123]]) rfl rfl)).app (QsS (bb:=bb) g.sets)).app (Sz.of (a:=1) (b:=2) (ps:=[pb,ps [125]]) rfl rfl)).app h4).app (Sz.of (a:=0) (b:=1) (ps:=[pnl]) rfl rfl)).le (by omega) (by omega)
theorem QuR:∀ (l:List GA) (k:Nat),(∀ a∈l,a.sets.length<=2)->Sz (80*l.length) (400*l.length) (QcD bb k l)
 |[],_,_=>Sz.nil
 |g::r,k,h=>by
  rw[QcD,Vh];exact((QEo (bb:=bb) (k:=k) (h g (by simp))).app (QuR r (k+1) λa ha=>h a (by simp[ha]))).le (by omega) (by omega)
theorem Qvo {pl v n i:Nat} {g:GS} (h:g.Wf pl v n i):Sz 300 1500 (Qen bb g):=by
 cases g with
 |deal x r w s p =>
  have h1:Sz 30 60 (Qcl w x):=by
   unfold Qcl wgX;repeat' split
   all_goals exact Sz.of rfl rfl
  have h2:Sz 3 40 (Qbn s p):=by
   unfold Qbn;split
   . exact Sz.of rfl rfl
   . split
     . exact((Sz.of (a:=2) (b:=9) (ps:=[pb,pw kwS,pb,pw kwB,pb]) rfl rfl).app (QhJ p)).le (by decide) (by decide)
     . exact Sz.nil
  exact((((((Sz.of (a:=3) (b:=11) (ps:=[pw kwD,pb,pw (vN x),pb,pw kwI,pb]) rfl rfl).app (QhJ (loV r))).app ((Sz.of (a:=1) (b:=4) (ps:=[pb,ps [46,46],pb]) rfl rfl).app (QhJ (hiV r)))).app h1).app h2).app (Sz.of (a:=1) (b:=2) (ps:=[ps [59],pnl]) rfl rfl)).le (by decide) (by decide)
 |turn w p acts =>
  have h1:Sz 23 110 (QdG bb w p):=by
   cases w with
   |none=>exact(QhJ p).le (by decide) (by decide)
   |some c=>exact(((Sz.of (a:=2) (b:=3) (ps:=[pw wIf,ps [40]]) rfl rfl).app (Qtf (bb:=bb) c)).app ((Sz.of (a:=3) (b:=5) (ps:=[ps [44],pb,pnU 0,ps [44],pb]) rfl rfl).app ((QhJ p).app (Sz.of (a:=1) (b:=1) (ps:=[ps [41]]) rfl rfl)))).le (by decide) (by decide)
  have h2:=QuR (bb:=bb) acts 0 λa ha=>(h.2.2.2.2 a ha).len;have h3:=h.2.2.2.1;exact(((((Sz.of (a:=1) (b:=5) (ps:=[pw kwT,pb]) rfl rfl).app h1).app (Sz.of (a:=1) (b:=3) (ps:=[pb,ps [123],pnl]) rfl rfl)).app h2).app (Sz.of (a:=1) (b:=2) (ps:=[ps [125],pnl]) rfl rfl)).le (by omega) (by omega)
theorem QsK {pl v n:Nat}:∀ (l:List GS) (i:Nat),Qf0 pl v n i l->Sz (310*l.length) (1510*l.length) (Qcc bb i l)
 |[],_,_=>Sz.nil
 |g::r,i,h=>by
  rw[Qcc,Vh];exact(((Sz.of (a:=2) (b:=4) (ps:=[pw (sN i),ps [58],pb]) rfl rfl).app (Qvo (bb:=bb) h.1)).app (QsK r (i+1) h.2)).le (by omega) (by omega)
theorem Qpn:∀ (l:List Nat) (i:Nat),Sz (10*l.length) (20*l.length) (Qcz bb i l)
 |[],_=>Sz.nil
 |c::r,i=>by
  have h1:Sz 2 3 (Qd7 bb c):=by
   unfold Qd7
   cases bb<;>(repeat' split)<;>exact Sz.of rfl rfl
  rw[Qcz,Vh];exact((((Sz.of (a:=3) (b:=9) (ps:=[pw kwV,pb,pw (vN i),pb,ps [61],pb]) rfl rfl).app h1).app (Sz.of (a:=1) (b:=2) (ps:=[ps [59],pnl]) rfl rfl)).app (Qpn r (i+1))).le (by omega) (by omega)
theorem QsQ:∀ (l:List GX) (b:Bool),Sz (20*l.length) (70*l.length) (Qax bb b l)
 |[],_=>Sz.nil
 |g::r,b=>by
  have h:Sz 1 2 (if b=true then [ps [44],pb]else []):=by cases b<;>exact Sz.of rfl rfl
  rw[Qax,Vh];exact((h.app (QsZ (bb:=bb) g)).app (QsQ r true)).le (by omega) (by omega)
theorem Qof {g:GR} (h:g.Wf):Sz 5000 20000 (Qa9 bb g):=by
 have h1:=Qpn (bb:=bb) g.ini 0;have h2:=QsK (bb:=bb) g.stages 0 h.sts;have h3:=QsQ (bb:=bb) g.pays false;have:=h.inl;have:=h.v3;have:=h.st4;have:=h.payl;have:=h.pl3;have h0:Sz 7 60 [pw kwG,pb,pw (gN g.nm),ps [59],pnl,pw Qd4,pb,pnU g.pl,ps [59],pnl]:=((Sz.of (a:=4) (b:=17) (ps:=[pw kwG,pb,pw (gN g.nm),ps [59],pnl,pw Qd4,pb]) rfl rfl).app ((QhJ g.pl).app (Sz.of (a:=1) (b:=2) (ps:=[ps [59],pnl]) rfl rfl))).le (by decide) (by decide);have h4:Sz 10 30 [pw (sN g.stages.length),ps [58],pb,pw kwE,pb,ps [123],pb,pw kwP,pb]:=Sz.of rfl rfl;exact(((((h0.app h1).app h2).app h4).app h3).app (Sz.of (a:=2) (b:=4) (ps:=[ps [59],pb,ps [125],pnl]) rfl rfl)).le (by omega) (by omega)
theorem Qwa (l:List Int):(QdQ (Qav l)).length<=6000:=by
 dsimp only[Qav,QdQ];have b1:=Qac (l:=l) (a:=0) (n:=3) (by decide);have b2:=Qac (l:=l) (a:=(af l 0 3).2) (n:=3) (by decide);have b3:=Qac (l:=l) (a:=(af l (af l 0 3).2 3).2) (n:=4) (by decide);generalize af l (af l (af l 0 3).2 3).2 4=q3 at *;generalize af l (af l 0 3).2 3=q2 at *;generalize af l 0 3=q1 at *;have i1:=QnB (QbL l (1+q2.1) (af l q3.2 9).2).1 0;rw[QoO]at i1;have i2:=QoI (l:=l) (pl:=1+q1.1) (v:=1+q2.1) (n:=1+q3.1) (1+q3.1) 0 (QbL l (1+q2.1) (af l q3.2 9).2).2;have i3:=Qo5 (Qch l (1+q2.1) (1+q1.1) (QbO l (1+q1.1) (1+q2.1) (1+q3.1) (1+q3.1) 0 (QbL l (1+q2.1) (af l q3.2 9).2).2).2).1 false;rw[QmA]at i3;simp only[Vj,Vh,VH,dg];omega
theorem QDs (l:List Int):(QdQ (Qav l)).length<=20000:=Vf (Qwa l) (by decide)
theorem Qw7 (l:List Int):(QB (al (Qa9 bb (Qav l)))).2.1=0/\QbK (QB (al (Qa9 bb (Qav l)))).1 (ak (Qa9 bb (Qav l))):=by
 have h:=Qjt l;have hz:=Qof (bb:=bb) h;have h1:=Qru (Qty (bb:=bb) h) hz.x hz.t;exact⟨h1,Qtl (Qty (bb:=bb) h) h1⟩
end
section
variable {bb:Bool}
def Qgi (s:Nat×GX):Ql:=⟨vN s.1,exE s.2,0⟩
def whL (w:Option GX):List Ex:=match w with
 |none=>[]
 |some c=>[cdE c]
def goN (w:Option Nat):ZG:=match w with
 |none=>[]
 |some t=>sN t
def QeB (k:Nat) (g:GA):Qh:=⟨aN k,whL g.wh,g.hid,g.sets.map Qgi,goN g.go,0⟩
def Qde:Nat->List GA->List Qh
 |_,[]=>[]
 |k,g::r=>QeB k g::Qde (k+1) r
def QfW (w:Option GX) (p:Nat):Ex:=match w with
 |none=>eIn p
 |some g=>eOp 20 [cdE g,eIn 0,eIn p]
def wgE (w x:Nat):List Ex :=
 if w=0 then [eOp 8 [eIn 1,eNm x]]else if w=1 then [eOp 20 [eOp 10 [eNm x,eIn 1],eIn 2,eIn 1]]
 else if w=2 then [eOp 8 [eOp 19 [eNm x,eIn 0],eOp 20 [eOp 10 [eNm x,eIn 2],eIn 0,eIn 1]]]else []
def QeD (i:Nat):GS->Qc
 |.deal x r w s p=>⟨1,sN i,vN x,loV r,hiV r,wgE w x,decide (s=0),if s=1 then [(p:Int)]else [],[],[],[],0⟩
 |.turn w p acts=>⟨2,sN i,[],0,0,[],false,[],[QfW w p],Qde 0 acts,[],0⟩
def Qfs (n:Nat) (l:List GX):Qc:=⟨3,sN n,[],0,0,[],false,[],[],[],l.map exE,0⟩
def Qc8:Nat->List GS->List Qc
 |_,[]=>[]
 |i,g::r=>QeD i g::Qc8 (i+1) r
def QeA (c:Nat):Int:=if c=0 then 0 else if c=1 then 1 else if c=2 then -1 else 2
def Qdh:Nat->List Nat->List Qn
 |_,[]=>[]
 |i,c::r=>⟨vN i,QeA c,0⟩::Qdh (i+1) r
def Qgx (g:GR):Qy:=⟨gN g.nm,g.pl,Qdh 0 g.ini,Qc8 0 g.stages++[Qfs g.stages.length g.pays]⟩
theorem res2 {a b:UInt8} (h:(QaB.all λw=>decide (w.length≠2)||decide (w.headD 0≠a))=true):[a,b]∉QaB:=by
 intro hm;have:=Vi.1 h _ hm;simp at this
theorem QnZ (i:Nat):sN i∉QaB:=res2 (by decide)
theorem Qwl (i:Nat):gN i∉QaB:=res2 (by decide)
theorem QBy (k:Nat):aN k∉QaB:=by
 intro hm;have h:∀ w∈QaB,w.length≠1:=by decide
 exact h _ hm rfl
section
variable {c:Cx} {r:Rd} {L:List TK}
theorem QhN {l:List TK} {e:Ex} (h:Whole c 40 l e) (hs:Sta c 40 r (l++L)) (hL:Qfr L):Sta c 40 (au c r).2 L/\(au c r).1.er=e.er:=h r L hs hL
theorem QBh {s:Nat×GX} {acc:List Ql} (ha:acc.length<32) (h:Sta c 40 r (ak ((Qbc bb) s)++L)):Sta c 40 (Qbp c (au c) acc r).2 L/\(Qbp c (au c) acc r).1.er=(Qgi s).er:=by
 have h:Sta c 40 r (.wd (vN s.1)::.sg [61]::(ak ((exQ bb) s.2)++.sg [59]::L)):=by
  unfold Qbc at h; simpa[ak,QaL]using h
 unfold Qbp;simp only;rw[Zq (by omega)];obtain⟨g1,g2⟩:=h.word (QiX s.1);rw[g1];obtain⟨g4,g5⟩:=QhN (QoH (bb:=bb) s.2) (g2.t2 (s:=[61]) rfl) (QcR (s:=[59]) (by decide) (.inl rfl) L);refine⟨g4.t2 rfl,?_⟩;unfold Ql.er;simp only[g5,Qgi]
theorem QrN:∀ (ss:List (Nat×GX)) (n:Nat) (acc:List Ql) (r:Rd),ss.length<n->acc.length+ss.length<32->Sta c 40 r (ak (ss.flatMap (Qbc bb))++.sg [125]::L) ->
 Sta c 40 (Qb8 c (au c) n acc r).2 (.sg [125]::L)/\∃ l,(Qb8 c (au c) n acc r).1=acc++l/\l.map Ql.er=(ss.map Qgi).map Ql.er
 |[],n,acc,r,hn,ha,h=>by
  have h:Sta c 40 r (.sg [125]::L):=h
  cases n with
  |zero=>simp at hn
  |succ n =>
   rw[Qb8,Zq (by rintro⟨_,h2⟩; rw[h.peek]at h2; cases h2)]
   exact⟨h,[],by simp,rfl⟩
 |s::ss,n,acc,r,hn,ha,h=>by
  have h:Sta c 40 r (ak ((Qbc bb) s)++(ak (ss.flatMap (Qbc bb))++.sg [125]::L)):=by
   rw[VO,QaL,Vr]at h; exact h
  simp only[Vh]at hn ha
  cases n with
  |zero=>omega
  |succ n =>
   have hp:Qd c [125] r=false:=by rw[h.peek]; rfl
   rw[Qb8,Zr ⟨h.e,hp⟩];obtain⟨g1,g2⟩:=QBh (bb:=bb) (acc:=acc) (by omega) h;obtain⟨g3,l,g4,g5⟩:=QrN ss n (acc++[(Qbp c (au c) acc r).1]) _ (by omega) (by simp; omega) g1;refine⟨g3,(Qbp c (au c) acc r).1::l,by rw[g4]; simp,?_⟩;simp only[Vl,g2,g5]
theorem QvH {w:ZG} {b:Bool} (hL:pk L w=false) (h:Sta c 40 r (ak (Qc7 w b)++L)):Sta c 40 (Qbh c w r).2 L/\(Qbh c w r).1=b:=by
 unfold Qbh
 cases b with
 |true =>
  have h:Sta c 40 r (.wd w::L):=h;rw[Zr (by rw[h.peek]; simp[pk])];exact⟨h.t2 (by simp[pk]),rfl⟩
 |false =>
  have h:Sta c 40 r L:=h;rw[Zq (by rw[h.peek,hL]; decide)];exact⟨h,rfl⟩
theorem Qz9 {w:Option Nat} (hL:pk L Qgw=false) (h:Sta c 40 r (ak (Qc1 w)++L)):Sta c 40 (Qb2 c r).2 L/\(Qb2 c r).1=goN w:=by
 unfold Qb2
 cases w with
 |none =>
  have h:Sta c 40 r L:=h;rw[Zq (by rw[h.peek]; exact λh=>by rw[show pk L [103,111,116,111]=false from hL]at h; cases h)]
  exact⟨h,rfl⟩
 |some t =>
  have h:Sta c 40 r (.wd Qgw::.wd (sN t)::.sg [59]::L):=h;rw[Zr (by rw[h.peek]; rfl)];obtain⟨h2,h3⟩:=(h.t2 (s:=[103,111,116,111]) rfl).word (QnZ t);rw[h2];exact⟨h3.t2 rfl,rfl⟩
theorem QrP {k:Nat} {g:GA} (hl:g.sets.length<=2) (hL:pk L Qgw=false) (h:Sta c 40 r (ak ((QdE bb) k g)++L)):Sta c 40 (Qaa c (au c) r).2 L/\(Qaa c (au c) r).1.er=(QeB k g).er:=by
 have h:Sta c 40 r (.wd QeM::.wd (aN k)::(ak ((QfX bb) g.wh)++(ak (Qc7 kwH g.hid)++.sg [123]::(ak (g.sets.flatMap (Qbc bb))++.sg [125]::(ak (Qc1 g.go)++L))))):=by
  unfold QdE at h; simpa[ak,QaL,pnl]using h
 unfold Qaa;simp only;have g1:=(h.take (s:=[97,99,116,105,111,110]) rfl).2;obtain⟨g2,g3⟩:=g1.word (QBy k);rw[g2];simp only;generalize Qa (Qj c [97,99,116,105,111,110] r).2=r1 at g3 ⊢;have hfl:∀ X:List TK,Qfr (ak (Qc7 kwH g.hid)++.sg [123]::X)/\pk (ak (Qc7 kwH g.hid)++.sg [123]::X) Qev=false:=by
  intro X
  cases g.hid with
  |true=>exact⟨QcR (s:=kwH) (by decide) (.inr rfl) _,rfl⟩
  |false=>exact⟨QcR (s:=[123]) (by decide) (.inl rfl) _,rfl⟩
 have k12:Sta c 40 (Qbm c (au c) [119,104,101,110] r1).2 (ak (Qc7 kwH g.hid)++.sg [123]::(ak (g.sets.flatMap (Qbc bb))++.sg [125]::(ak (Qc1 g.go)++L)))/\Ex.erL (Qbm c (au c) [119,104,101,110] r1).1=Ex.erL (whL g.wh):=by
  unfold Qbm
  cases hw:g.wh with
  |none =>
   rw[hw]at g3;have g3:Sta c 40 r1 (ak (Qc7 kwH g.hid)++.sg [123]::(ak (g.sets.flatMap (Qbc bb))++.sg [125]::(ak (Qc1 g.go)++L))):=g3;rw[Zq (by rw[g3.peek]; exact λh=>by rw[show pk _ [119,104,101,110]=false from(hfl _).2]at h; cases h)]
   exact⟨g3,rfl⟩
  |some w =>
   rw[hw]at g3;have g3:Sta c 40 r1 (.wd Qev::(ak ((cdQ bb) w)++(ak (Qc7 kwH g.hid)++.sg [123]::(ak (g.sets.flatMap (Qbc bb))++.sg [125]::(ak (Qc1 g.go)++L))))):=g3;rw[Zr (by rw[g3.peek]; rfl)];obtain⟨m1,m2⟩:=QhN (QrS (bb:=bb) w) (g3.t2 (s:=[119,104,101,110]) rfl) (hfl _).1;exact⟨m1,by simp only[Ex.erL,whL,m2]⟩
 obtain⟨k1,k2⟩:=k12;obtain⟨k3,k4⟩:=QvH (w:=[104,105,100,100,101,110]) (b:=g.hid) rfl k1;have k5:=k3.t2 (s:=[123]) rfl;have hle:=k5.len;have hsl:g.sets.length<c.ts.length+1:=by
  rw[Vj]at hle;have:∀ ss:List (Nat×GX),ss.length<=(ak (ss.flatMap (Qbc bb))).length:=by
   intro ss
   induction ss with
   |nil=>simp
   |cons s ss ih =>
    rw[VO,QaL,Vj];have:1<=(ak ((Qbc bb) s)).length:=by unfold Qbc; simp[ak]
    simp only[Vh]; omega
  have:=this g.sets;omega
 obtain⟨k6,l,k7,k8⟩:=(QrN (bb:=bb)) g.sets (c.ts.length+1) [] _ hsl (by simp; omega) k5;have k9:=k6.t2 (s:=[125]) rfl;obtain⟨m1,m2⟩:=Qz9 hL k9;refine⟨m1,?_⟩;unfold Qh.er;simp only[k2,k4,k7,VG,k8,m2,QeB]
theorem QtV:∀ (ms:List GA) (k n:Nat) (acc:List Qh) (r:Rd),ms.length<=n->acc.length+ms.length<=10->(∀ a∈ms,a.sets.length<=2)->Sta c 40 r (ak ((QcD bb) k ms)++.sg [125]::L) ->
 Sta c 40 (QbY c (au c) 0 n acc r).2 (.sg [125]::L)/\∃ l,(QbY c (au c) 0 n acc r).1=acc++l/\l.map Qh.er=(Qde k ms).map Qh.er
 |[],k,n,acc,r,hn,ha,hs,h=>by
  have h:Sta c 40 r (.sg [125]::L):=h
  cases n with
  |zero=>exact⟨h,[],by simp[QbY],rfl⟩
  |succ n =>
   rw[QbY,Zq (by rw[h.peek]; exact λh=>by cases h)];exact⟨h,[],by simp,rfl⟩
 |m::ms,k,n,acc,r,hn,ha,hs,h=>by
  have h:Sta c 40 r (ak ((QdE bb) k m)++(ak ((QcD bb) (k+1) ms)++.sg [125]::L)):=by
   rw[QcD,QaL,Vr]at h; exact h
  simp only[Vh]at hn ha
  cases n with
  |zero=>omega
  |succ n =>
   rw[QbY,Zr (by rw[h.peek]; rfl)];simp only;rw[Zq (by omega)];obtain⟨g1,g2⟩:=(QrP (bb:=bb)) (hs m (by simp)) (by
    cases ms with
    |nil=>rfl
    |cons y ys=>rfl) h
   obtain⟨g3,l,g4,g5⟩:=QtV ms (k+1) n (acc++[(Qaa c (au c) r).1]) _ (by omega) (by simp; omega) (λa ha=>hs a (by simp[ha])) g1;exact⟨g3,(Qaa c (au c) r).1::l,by rw[g4]; simp,by simp only[Qde,Vl,g2,g5]⟩
theorem QuB:∀ (ss:List GA) (k:Nat),ss.length<=(ak ((QcD bb) k ss)).length
 |[],_=>by simp
 |s::ss,k=>by
  have:=QuB ss (k+1);rw[QcD,QaL,Vj];have:1<=(ak ((QdE bb) k s)).length:=by unfold QdE; simp[ak]
  simp only[Vh]; omega
theorem QBd {w:Option GX} {p:Nat}:Whole c 40 (ak ((QdG bb) w p)) (QfW w p):=by
 cases w with
 |none=>exact QfJ p
 |some g =>
  have h:=wh0 (c:=c) (QgW (d:=39) (w:=wIf) (x:=ak ((cdQ bb) g)) (xs:=[[.nm 0],[.nm p]]) (show(wIf,(20:Int),2)∈Qan by decide) (QrS (bb:=bb) g) (.cons (QfJ 0) (.cons (QfJ p) .nil))) λ_=>rfl;have e:ak ((QdG bb) (some g) p)=.wd wIf::.sg [40]::(ak ((cdQ bb) g)++cmm [[.nm 0],[.nm p]]++[.sg [41]]):=by simp[QdG,ak,QaL,cmm]
  rw[e]; exact h
theorem QzL {i p:Nat} {w:Option GX} {acts:List GA} {y:Qc} (hy:y={ QdZ with lb:=sN i }) (h1:1<=acts.length) (h3:acts.length<=3) (hs:∀ a∈acts,a.sets.length<=2) (h:Sta c 40 r (ak ((Qgj bb) w p acts)++L)) :
 Sta c 40 (Qfg c (au c) y r).2 L/\(Qfg c (au c) y r).1.er=(QeD i (.turn w p acts)).er:=by
 obtain⟨a,rest,ha⟩:∃ a rest,acts=a::rest:=by
  cases acts with
  |nil=>simp at h1
  |cons a rest=>exact⟨a,rest,rfl⟩
 subst ha;simp only[Vh]at h3;have h:Sta c 40 r (.wd kwT::(ak ((QdG bb) w p)++.sg [123]::(ak ((QdE bb) 0 a)++(ak ((QcD bb) 1 rest)++.sg [125]::L)))):=by
  unfold Qgj at h; simpa[ak,QaL,QcD,pnl]using h
 unfold Qfg;simp only;have g1:=(h.take (s:=[116,117,114,110]) rfl).2;generalize Qj c [116,117,114,110] r=t at g1 ⊢;obtain⟨g2,g3⟩:=QhN (QBd (bb:=bb)) g1 (QcR (s:=[123]) (by decide) (.inl rfl) _);have g4:=g2.t2 (s:=[123]) rfl;obtain⟨g5,g6⟩:=(QrP (bb:=bb)) (hs a (by simp)) (by
  cases rest with
  |nil=>rfl
  |cons y ys=>rfl) g4
 have hle:=g5.len;have hal:=(QuB (bb:=bb)) rest 1;rw[Vj]at hle;obtain⟨g7,l,g8,g9⟩:=(QtV (bb:=bb)) rest 1 c.ts.length [(Qaa c (au c) (t2 c [123] (au c t.2).2)).1] _ (by omega) (by simp; omega) (λa ha=>hs a (by simp[ha])) g5;refine⟨g7.t2 rfl,?_⟩;unfold Qc.er;simp only[hy,QdZ,QeD,g8,Vv,VG,Vl,g6,g9,Ex.erL,g3,Qde]
theorem Qvn {w x:Nat} (hw:w<3):∃ e,wgE w x=[e]/\Whole c 40 (ak (wgX w x)) e:=by
 unfold wgE wgX;by_cases h0:w=0
 . rw[Zr h0,Zr h0];exact⟨_,rfl,QgL [43] 8 (la:=[.nm 1]) (rq1 QbV) (rq1 (nm1 x)) (by decide) (by decide) λ_=>rfl⟩
 rw[Zq h0,Zq h0];have ifx:∀ (a b q:Nat),Red c 40 (lv c 40).fac (.wd wIf::.sg [40]::(([.wd (vN x)]++.sg [61,61]::[.nm q])++cmm [[.nm a],[.nm b]]++[.sg [41]])) (eOp 20 [eOp 10 [eNm x,eIn q],eIn a,eIn b]) (λ_=>True):=λa b q =>
  QgW (d:=39) (w:=wIf) (x:=[.wd (vN x)]++.sg [61,61]::[.nm q]) (xs:=[[.nm a],[.nm b]]) (show(wIf,(20:Int),2)∈Qan by decide) (Qe6 [61,61] 10 (nm1 _) QbV (by decide) (by decide) (by decide) λL=>QbT _ _) (.cons (QfJ a) (.cons (QfJ b) .nil))
 by_cases h1:w=1
 . rw[Zr h1,Zr h1];exact⟨_,rfl,wh0 (ifx 2 1 1) λ_=>rfl⟩
 rw[Zq h1,Zq h1,Zr (by omega)];refine⟨_,rfl,?_⟩;exact QgL [43] 8 (la:=.wd Qgg::.sg [40]::([.wd (vN x)]++cmm [[.nm 0]]++[.sg [41]])) (rq1 (QgW (op:=19) (d:=39) (show(Qgg,(19:Int),1)∈Qan by decide) (Qiq _) (.cons (QfJ 0) .nil))) (rq1 (ifx 0 1 2)) (by decide) (by decide) (λ_=>rfl)
theorem QBL {i x q w s p:Nat} {y:Qc} (hs:s<3) (hy:y={ QdZ with lb:=sN i }) (h:Sta c 40 r (ak (Qfa x q w s p)++L)) :
 Sta c 40 (QeX c (au c) y r).2 L/\(QeX c (au c) y r).1.er=(QeD i (.deal x q w s p)).er:=by
 have h:Sta c 40 r (.wd kwD::.wd (vN x)::.wd kwI::.nm (loV q)::.sg [46,46]::.nm (hiV q)::(ak (Qcl w x)++(ak (Qbn s p)++.sg [59]::L))):=by
  unfold Qfa at h; simpa[ak,QaL,pnl]using h
 unfold QeX;simp only;have g1:=(h.take (s:=[100,101,97,108]) rfl).2;obtain⟨g2,g3⟩:=g1.word (QiX x);rw[g2];simp only;generalize Qa (Qj c [100,101,97,108] r).2=r1 at g3 ⊢;have g4:=g3.t2 (s:=[105,110]) rfl;obtain⟨g5,g6⟩:=g4.numb;rw[g5];simp only;have g7:=g6.t2 (s:=[46,46]) rfl;obtain⟨g8,g9⟩:=g7.numb;rw[g8];simp only;generalize Qa (t2 c [46,46] (Qa (t2 c [105,110] r1)))=r2 at g9 ⊢;have hst:∀ X,Qfr (ak (Qbn s p)++.sg [59]::X)/\pk (ak (Qbn s p)++.sg [59]::X) kwW=false:=by
  intro X;unfold Qbn;by_cases h0:s=0
  . rw[Zr h0]; exact⟨QcR (s:=kwS) (by decide) (.inr rfl) _,rfl⟩
  rw[Zq h0];by_cases h1:s=1
  . rw[Zr h1]; exact⟨QcR (s:=kwS) (by decide) (.inr rfl) _,rfl⟩
  rw[Zq h1];exact⟨QcR (s:=[59]) (by decide) (.inl rfl) _,rfl⟩
 have k12:Sta c 40 (Qbm c (au c) [119,101,105,103,104,116] r2).2 (ak (Qbn s p)++.sg [59]::L)/\Ex.erL (Qbm c (au c) [119,101,105,103,104,116] r2).1=Ex.erL (wgE w x):=by
  unfold Qbm;by_cases hw:w<3
  . obtain⟨e,he,hwh⟩:=Qvn (c:=c) (x:=x) hw;have g9:Sta c 40 r2 (.wd kwW::(ak (wgX w x)++(ak (Qbn s p)++.sg [59]::L))):=by
     unfold Qcl at g9; rw[Zr hw]at g9; exact g9
    rw[Zr (by rw[g9.peek]; rfl)];obtain⟨m1,m2⟩:=QhN hwh (g9.t2 (s:=[119,101,105,103,104,116]) rfl) (hst _).1;exact⟨m1,by simp only[Ex.erL,he,m2]⟩
  . have g9:Sta c 40 r2 (ak (Qbn s p)++.sg [59]::L):=by
     unfold Qcl at g9; rw[Zq hw]at g9; exact g9
    have e:wgE w x=[]:=by unfold wgE; rw[Zq (by omega),Zq (by omega),Zq (by omega)]
    rw[Zq (by rw[g9.peek]; exact λh=>by rw[show pk _ [119,101,105,103,104,116]=false from(hst _).2]at h; cases h),e]
    exact⟨g9,rfl⟩
 obtain⟨k1,k2⟩:=k12;generalize Qbm c (au c) [119,101,105,103,104,116] r2=o at k1 k2 ⊢;have k34:Sta c 40 (Qa3 c o.2).2 (.sg [59]::L)/\(Qa3 c o.2).1=(decide (s=0),if s=1 then [(p:Int)]else []):=by
  unfold Qa3;by_cases h0:s=0
  . subst h0;have h:Sta c 40 o.2 (.wd kwS::.wd kwB::.wd kwA::.sg [59]::L):=k1;have h2:=(h.t2 (s:=[115,101,101,110]) rfl).t2 (s:=[98,121]) rfl;rw[Zr (by rw[h.peek]; rfl)];simp only;rw[Zr (by rw[h2.peek]; rfl)];exact⟨h2.t2 rfl,rfl⟩
  by_cases h1:s=1
  . subst h1;have h:Sta c 40 o.2 (.wd kwS::.wd kwB::.nm p::.sg [59]::L):=k1;have h2:=(h.t2 (s:=[115,101,101,110]) rfl).t2 (s:=[98,121]) rfl;rw[Zr (by rw[h.peek]; rfl)];simp only;rw[Zq (by rw[h2.peek]; exact λh=>by cases h)];obtain⟨g1,g2⟩:=h2.numb;rw[g1];simp only;have hpos:0<c.ts.length:=by have:=g2.len; simp at this; omega
    obtain⟨n,hn⟩:∃ n,c.ts.length=n+1:=⟨c.ts.length-1,by omega⟩;rw[hn,QcP,Zq (by rw[g2.peek]; exact λh=>by cases h)];exact⟨g2,rfl⟩
  have h2:s=2:=by omega
  subst h2;have h:Sta c 40 o.2 (.sg [59]::L):=k1;rw[Zq (by rw[h.peek]; exact λh=>by cases h)];exact⟨h,rfl⟩
 obtain⟨k3,k4⟩:=k34;refine⟨k3.t2 rfl,?_⟩;unfold Qc.er;simp only[hy,QdZ,k2,k4,QeD]
theorem QpW {i:Nat} (h:Sta c 40 r (.wd (sN i)::.sg [58]::L)):(Qbg c r).1=sN i/\Sta c 40 (Qbg c r).2 L:=by
 unfold Qbg;have hr:=QnZ i;rw[Zr (by rw[h.free]; simp[Qdy,hr])];obtain⟨g1,g2⟩:=h.word hr;rw[g1];exact⟨rfl,g2.t2 rfl⟩
theorem QzY {pl v n i:Nat} {g:GS} (hg:g.Wf pl v n i) (h:Sta c 40 r (.wd (sN i)::.sg [58]::(ak ((Qen bb) g)++L))):Sta c 40 (QaE c (au c) r).2 L/\(QaE c (au c) r).1.er=(QeD i g).er:=by
 obtain⟨l1,l2⟩:=QpW h;unfold QaE;simp only;rw[l1]
 cases g with
 |deal x q w s p =>
  rw[Zr (by rw[l2.peek]; rfl)];exact QBL hg.2.2.2.1 rfl l2
 |turn w p acts =>
  rw[Zq (by rw[l2.peek]; exact λh=>by cases h),Zr (by rw[l2.peek]; rfl)];exact QzL rfl hg.2.2.1 hg.2.2.2.1 (λa ha=>(hg.2.2.2.2 a ha).len) l2
theorem Qqb:∀ (ms:List GX) (n:Nat) (acc:List Ex) (r:Rd),ms.length<=n->acc.length+ms.length<32->Sta c 40 r (ak ((Qax bb) true ms)++.sg [59]::L) ->
 Sta c 40 (Qcg c (au c) n acc r).2 (.sg [59]::L)/\∃ l,(Qcg c (au c) n acc r).1=acc++l/\Ex.erL l=Ex.erL (ms.map exE)
 |[],n,acc,r,hn,ha,h=>by
  have h:Sta c 40 r (.sg [59]::L):=h
  cases n with
  |zero=>exact⟨h,[],by simp[Qcg],rfl⟩
  |succ n =>
   rw[Qcg,Zq (by rw[h.peek]; exact λh=>by cases h)];exact⟨h,[],by simp,rfl⟩
 |m::ms,n,acc,r,hn,ha,h=>by
  have h:Sta c 40 r (.sg [44]::(ak ((exQ bb) m)++(ak ((Qax bb) true ms)++.sg [59]::L))):=by simpa[Qax,ak,QaL]using h
  simp only[Vh]at hn ha
  cases n with
  |zero=>omega
  |succ n =>
   rw[Qcg,Zr (by rw[h.peek]; rfl)];simp only;rw[Zq (by omega)];obtain⟨g1,g2⟩:=QhN (QoH (bb:=bb) m) (h.t2 (s:=[44]) rfl) (by
    cases ms with
    |nil=>exact QcR (s:=[59]) (by decide) (.inl rfl) _
    |cons y ys=>exact QcR (s:=[44]) (by decide) (.inl rfl) _)
   obtain⟨g3,l,g4,g5⟩:=Qqb ms n (acc++[(au c (t2 c [44] r)).1]) _ (by omega) (by simp; omega) g1;exact⟨g3,(au c (t2 c [44] r)).1::l,by rw[g4]; simp,by simp only[Vl,Ex.erL,g2,g5]⟩
theorem QuG:∀ ms:List GX,ms.length<=(ak ((Qax bb) true ms)).length
 |[]=>by simp
 |m::ms=>by have:=QuG ms; simp[Qax,ak,QaL]; omega
theorem QDc {n:Nat} {ms:List GX} (h1:1<=ms.length) (h3:ms.length<=3) (h:Sta c 40 r (.wd (sN n)::.sg [58]::.wd kwE::.sg [123]::.wd kwP::(ak ((Qax bb) false ms)++.sg [59]::.sg [125]::L))) :
 Sta c 40 (QaE c (au c) r).2 L/\(QaE c (au c) r).1.er=(Qfs n ms).er:=by
 obtain⟨l1,l2⟩:=QpW h;obtain⟨m,rest,rfl⟩:∃ m rest,ms=m::rest:=by
  cases ms with
  |nil=>simp at h1
  |cons m rest=>exact⟨m,rest,rfl⟩
 simp only[Vh]at h3;unfold QaE;simp only;rw[l1,Zq (by rw[l2.peek]; exact λh=>by cases h),Zq (by rw[l2.peek]; exact λh=>by cases h)];have g1:=(l2.take (s:=[101,110,100]) rfl).2;have g2:=(g1.t2 (s:=[123]) rfl).t2 (s:=[112,97,121]) rfl;generalize t2 c [112,97,121] (t2 c [123] (Qj c [101,110,100] (Qbg c r).2).2)=r1 at g2 ⊢;have g2:Sta c 40 r1 (ak ((exQ bb) m)++(ak ((Qax bb) true rest)++.sg [59]::.sg [125]::L)):=by simpa[Qax,QaL]using g2
 unfold QeQ;obtain⟨g3,g4⟩:=QhN (QoH (bb:=bb) m) g2 (by
  cases rest with
  |nil=>exact QcR (s:=[59]) (by decide) (.inl rfl) _
  |cons y ys=>exact QcR (s:=[44]) (by decide) (.inl rfl) _)
 have hle:=g3.len;have hal:=(QuG (bb:=bb)) rest;rw[Vj]at hle;obtain⟨g5,l,g6,g7⟩:=(Qqb (bb:=bb)) rest c.ts.length [(au c r1).1] _ (by omega) (by simp; omega) g3;refine⟨(g5.t2 (s:=[59]) rfl).t2 rfl,?_⟩;unfold Qc.er;simp only[QdZ,Qfs,g6,Vv,VG,Vl,VM,Ex.erL,g4,g7]
end
end
section
variable {bb:Bool}
section
variable {c:Cx} {r:Rd} {L:List TK}
theorem Qvq {i k:Nat} (hk:k<4) {acc:List Qn} (ha:acc.length<40) (h:Sta c 40 r (.wd kwV::.wd (vN i)::.sg [61]::(ak ((Qd7 bb) k)++.sg [59]::L))) :
 Sta c 40 (QbU c acc r).2 L/\(QbU c acc r).1.er=⟨vN i,QeA k,0⟩:=by
 unfold QbU;simp only;have h1:=h.t2 (s:=[118,97,114]) rfl;generalize t2 c [118,97,114] r=r0 at h1 ⊢;rw[Zq (by omega)];obtain⟨g1,g2⟩:=h1.word (QiX i);rw[g1];simp only;have g3:=g2.t2 (s:=[61]) rfl;generalize t2 c [61] (Qa r0)=r1 at g3 ⊢;have pos:∀ n:Nat,n<=9->(Qd7 bb) k=[pnU n]->QeA k=n->Sta c 40 (t2 c [59] (nmR c (Qbh c [45] r1).2).2) L/\Qn.er ⟨vN i,IntKind.i64.wrap ((if(Qbh c [45] r1).1=true then -1 else 1)*(nmR c (Qbh c [45] r1).2).1),Qm c r0⟩=⟨vN i,QeA k,0⟩:=by
  intro n hn e1 e2;have g3:Sta c 40 r1 (.nm n::.sg [59]::L):=by rw[e1]at g3; exact g3
  have e:Qbh c [45] r1=(false,r1):=by unfold Qbh; rw[Zq (by rw[g3.peek]; exact λh=>by cases h)]
  rw[e];obtain⟨g5,g6⟩:=g3.numb;rw[g5];refine⟨g6.t2 rfl,?_⟩;have w:IntKind.i64.wrap (1*(n:Int))=n:=by rw[Qam (by omega) (by omega)]; omega
  unfold Qn.er;simp only[Vz,Zx,w,e2]
 match k,hk with
 |0,_=>exact pos 0 (by decide) rfl rfl
 |1,_=>exact pos 1 (by decide) rfl rfl
 |3,_=>exact pos 2 (by decide) rfl rfl
 |2,_ =>
  have g3:Sta c 40 r1 (.sg [45]::.nm 1::.sg [59]::L):=by cases bb<;>exact g3
  have g4:=g3.t2 (s:=[45]) rfl;have e:Qbh c [45] r1=(true,t2 c [45] r1):=by unfold Qbh; rw[Zr (by rw[g3.peek]; rfl)]
  rw[e];obtain⟨g5,g6⟩:=g4.numb;simp only;rw[g5];exact⟨g6.t2 rfl,rfl⟩
theorem Qu2:∀ (vs:List Nat) (i n:Nat) (acc:List Qn) (r:Rd),(∀ k∈vs,k<4)->vs.length<=n->acc.length+vs.length<40->pk L kwV=false->Sta c 40 r (ak ((Qcz bb) i vs)++L) ->
 Sta c 40 (QbX c n acc r).2 L/\∃ l,(QbX c n acc r).1=acc++l/\l.map Qn.er=Qdh i vs
 |[],i,n,acc,r,hv,hn,ha,hL,h=>by
  have h:Sta c 40 r L:=h
  cases n with
  |zero=>exact⟨h,[],by simp[QbX],rfl⟩
  |succ n =>
   rw[QbX,Zq (by rw[h.peek]; exact λh=>by rw[show pk L [118,97,114]=false from hL]at h; cases h)]
   exact⟨h,[],by simp,rfl⟩
 |v::vs,i,n,acc,r,hv,hn,ha,hL,h=>by
  have h:Sta c 40 r (.wd kwV::.wd (vN i)::.sg [61]::(ak ((Qd7 bb) v)++.sg [59]::(ak ((Qcz bb) (i+1) vs)++L))):=by
   simpa[Qcz,ak,QaL,pnl]using h
  simp only[Vh]at hn ha
  cases n with
  |zero=>omega
  |succ n =>
   rw[QbX,Zr (by rw[h.peek]; rfl)];obtain⟨g1,g2⟩:=Qvq (bb:=bb) (acc:=acc) (hv v (by simp)) (by omega) h;obtain⟨g3,l,g4,g5⟩:=Qu2 vs (i+1) n (acc++[(QbU c acc r).1]) _ (λk hk=>hv k (by simp[hk])) (by omega) (by simp; omega) hL g1;exact⟨g3,(QbU c acc r).1::l,by rw[g4]; simp,by simp only[Vl,g2,g5,Qdh]⟩
theorem QrO {acc:List Qc} (h:acc.length<100):Qdd c acc r=r:=by
 unfold Qdd;rw[Zq (by omega)]
theorem QuI {pl v n:Nat} {ms:List GX} {N:Nat} (h1:1<=ms.length) (h3:ms.length<=3):∀ (ss:List GS) (i m:Nat) (acc:List Qc) (r:Rd),Qf0 pl v n i ss->ss.length+1<m->acc.length+ss.length<50 ->
 Sta c 40 r (ak ((Qcc bb) i ss)++(.wd (sN N)::.sg [58]::.wd kwE::.sg [123]::.wd kwP::(ak ((Qax bb) false ms)++.sg [59]::.sg [125]::[]))) ->
 (QaS c (au c) m acc r).2.e=0/\∃ l,(QaS c (au c) m acc r).1=acc++l/\l.map Qc.er=(Qc8 i ss++[Qfs N ms]).map Qc.er
 |[],i,m,acc,r,_,hm,ha,h=>by
  have h:Sta c 40 r (.wd (sN N)::.sg [58]::.wd kwE::.sg [123]::.wd kwP::(ak ((Qax bb) false ms)++.sg [59]::.sg [125]::[])):=h
  cases m with
  |zero=>simp at hm
  |succ m =>
   cases m with
   |zero=>simp at hm
   |succ m =>
    rw[QaS,Zr ⟨h.e,.inr h.rem.lt.1⟩,QrO (by simp at ha; omega)];obtain⟨g1,g2⟩:=(QDc (bb:=bb)) h1 h3 h;have:=g1.rem.end;rw[QaS,Zq (by rintro⟨_,h2|h2⟩; simp at h2; omega)];exact⟨g1.e,[(QaE c (au c) r).1],rfl,by simp only[Vl,VM,Qc8,VG,g2]⟩
 |s::ss,i,m,acc,r,hw,hm,ha,h=>by
  have h:Sta c 40 r (.wd (sN i)::.sg [58]::(ak ((Qen bb) s)++(ak ((Qcc bb) (i+1) ss)++(.wd (sN N)::.sg [58]::.wd kwE::.sg [123]::.wd kwP::(ak ((Qax bb) false ms)++.sg [59]::.sg [125]::[]))))):=by
   simpa[Qcc,ak,QaL]using h
  simp only[Vh]at hm ha
  cases m with
  |zero=>simp at hm
  |succ m =>
   rw[QaS,Zr ⟨h.e,.inr h.rem.lt.1⟩,QrO (by omega)];obtain⟨g1,g2⟩:=(QzY (bb:=bb)) hw.1 h;obtain⟨g3,l,g4,g5⟩:=QuI h1 h3 ss (i+1) m (acc++[(QaE c (au c) r).1]) _ hw.2 (by omega) (by simp; omega) g1;exact⟨g3,(QaE c (au c) r).1::l,by rw[g4]; simp,by simp only[Qc8,Vv,Vl,g2,g5]⟩
end
theorem Qtx:∀ (ss:List GS) (i:Nat),ss.length<=(ak ((Qcc bb) i ss)).length
 |[],_=>by simp
 |s::ss,i=>by have:=Qtx ss (i+1); simp[Qcc,ak,QaL]; omega
theorem Qtg:∀ (ss:List Nat) (i:Nat),ss.length<=(ak ((Qcz bb) i ss)).length
 |[],_=>by simp
 |s::ss,i=>by have:=Qtg ss (i+1); simp[Qcz,ak,QaL,pnl]; omega
theorem Qx6 {ss:List GS} {i:Nat} {N:Nat} {X:List TK}:pk (ak ((Qcc bb) i ss)++.wd (sN N)::X) kwV=false:=by
 have h:∀ (i:Nat) (Y:List TK),pk (.wd (sN i)::Y) kwV=false:=by
  intro i Y;have:sN i≠kwV:=λe=>QnZ i (by rw[e]; decide);simp[pk,this]
 cases ss with
 |nil=>exact h N X
 |cons s ss=>exact h i _
theorem QqS (bb:Bool) (l:List Int):(QR (al (Qa9 bb (Qav l)))).2.1=0/\(QR (al (Qa9 bb (Qav l)))).1.er=(Qgx (Qav l)).er:=by
 have hw:=Qjt l;obtain⟨hsc,hA⟩:=(Qw7 (bb:=bb)) l;unfold QR;rw[Zq (λh=>h hsc)];generalize (QB (al (Qa9 bb (Qav l)))).1=ts at *;generalize (al (Qa9 bb (Qav l))).length=en at *;generalize Qav l=g at *;have hst:Sta ⟨ts,en⟩ 40 ⟨0,0,0,0⟩ (.wd kwG::.wd (gN g.nm)::.sg [59]::.wd Qd4::.nm g.pl::.sg [59]::(ak ((Qcz bb) 0 g.ini)++(ak ((Qcc bb) 0 g.stages)++(.wd (sN g.stages.length)::.sg [58]::.wd kwE::.sg [123]::.wd kwP::(ak ((Qax bb) false g.pays)++.sg [59]::.sg [125]::[]))))):=by
  refine⟨rfl,?_,rfl,by decide⟩;unfold Rem;rw[Yr];unfold Qa9 at hA;simpa[ak,QaL,pnl]using hA
 unfold QhP;simp only;have g1:=hst.t2 (s:=[103,97,109,101]) rfl;obtain⟨g2,g3⟩:=g1.word (Qwl g.nm);rw[g2];simp only;generalize Qa (t2 ⟨ts,en⟩ [103,97,109,101] ⟨0,0,0,0⟩)=r1 at g3 ⊢;have g4:=(g3.t2 (s:=[59]) rfl).t2 (s:=[112,108,97,121,101,114,115]) rfl;obtain⟨g5,g6⟩:=g4.numb;rw[g5];simp only;generalize Qa (t2 ⟨ts,en⟩ [112,108,97,121,101,114,115] (t2 ⟨ts,en⟩ [59] r1))=r2 at g6 ⊢;have g7:=g6.t2 (s:=[59]) rfl;have hle:=g7.len;have l1:=(Qtg (bb:=bb)) g.ini 0;have l2:=(Qtx (bb:=bb)) g.stages 0;rw[Vj,Vj]at hle;simp only[Vh]at hle;have h1:=hw.inl;have h2:=hw.v3;have h3:=hw.st4;have h4:=hw.payl;have h5:=hw.pl1;have h6:=hw.pl3;obtain⟨k1,l,k2,k3⟩:=(Qu2 (bb:=bb)) g.ini 0 ts.length [] _ hw.ini (by omega) (by simp; omega) (Qx6 (bb:=bb)) g7;obtain⟨k4,l2,k5,k6⟩:=(QuI (bb:=bb)) (by omega) (by omega) g.stages 0 (ts.length+1) [] _ hw.sts (by omega) (by simp; omega) k1;rw[Zq (λh=>h k4)];refine⟨rfl,?_⟩;have hvE:(Qdh 0 g.ini).map Qn.er=Qdh 0 g.ini:=by
  generalize 0=i;generalize g.ini=cs
  induction cs generalizing i with
  |nil=>rfl
  |cons a r ih=>simp only[Qdh,Vl,ih]; rfl
 unfold Qy.er;simp only[k2,k5,VG,k3,k6,Qgx,hvE]
theorem QyH (l:List Int):(QR (QdQ (Qav l))).2.1=0/\(QR (QdQ (Qav l))).1.er=(Qgx (Qav l)).er:=by
 rw[<-QDy (Qjt l)]; exact QqS false l
end
def QjD:IC:=.keep [5,6,7,68,69,70]
 (.seq
  (.reg [
    ⟨(some 71),none,.p (.bin .lss (.i .i64) (.t 70) (.t 69))⟩])
  (.seq
   (.cond (.t 71)
    .skip
    (.exit 2))
   (.seq
    (.blk 3
     (.seq
      (.reg [
        ⟨(some 72),none,.p (.mov (.t 70))⟩,
        ⟨(some 73),none,.p (.ia 5 (.t 68) (.t 70))⟩,
        ⟨(some 74),none,.p (.ldn 5 (.t 73))⟩,
        ⟨(some 9),none,.e (.alc 25 [V 0,V 0,st ⟨#[]⟩,.val (.slice none 0 0),V 0])⟩,
        ⟨(some 8),none,.p (.mov (.t 72))⟩,
        ⟨none,none,.e (.st 5 (.t 9) (.t 74))⟩])
      (.seq
       (.reg [
         ⟨(some 75),none,.p (.fa 1 (.t 7))⟩,
         ⟨(some 76),none,.p (.ld1 (.t 75))⟩,
         ⟨(some 77),none,.p (.mov (.t 8))⟩,
         ⟨(some 78),none,.p (.ia 5 (.t 76) (.t 77))⟩,
         ⟨(some 79),none,.p (.ldn 5 (.t 78))⟩,
         ⟨(some 10),none,.e (.alc 25 [V 0,V 0,st ⟨#[]⟩,.val (.slice none 0 0),V 0])⟩,
         ⟨none,none,.e (.st 5 (.t 10) (.t 79))⟩])
       (.seq
        (.seq
         (.reg [
           ⟨(some 80),none,.p (.fa 0 (.t 9))⟩,
           ⟨(some 81),none,.p (.ld1 (.t 80))⟩,
           ⟨(some 82),none,.p (.fa 0 (.t 10))⟩,
           ⟨(some 83),none,.p (.ld1 (.t 82))⟩,
           ⟨(some 84),none,.p (.bin .neq (.i .i64) (.t 81) (.t 83))⟩,
           ⟨(some 85),none,.p (.mov (.t 84))⟩,
           ⟨(some 86),(some (85,false)),.p (.fa 1 (.t 9))⟩,
           ⟨(some 87),(some (85,false)),.p (.ld1 (.t 86))⟩,
           ⟨(some 88),(some (85,false)),.p (.fa 1 (.t 10))⟩,
           ⟨(some 89),(some (85,false)),.p (.ld1 (.t 88))⟩,
           ⟨(some 90),(some (85,false)),.p (.bin .neq (.i .i64) (.t 87) (.t 89))⟩,
           ⟨(some 91),none,.p (.pick (.t 85) (.c (bl true)) (.t 90))⟩,
           ⟨(some 92),none,.p (.mov (.t 91))⟩,
           ⟨(some 93),(some (92,false)),.p (.fa 2 (.t 9))⟩,
           ⟨(some 94),(some (92,false)),.p (.ld1 (.t 93))⟩,
           ⟨(some 95),(some (92,false)),.p (.fa 2 (.t 10))⟩,
           ⟨(some 96),(some (92,false)),.p (.ld1 (.t 95))⟩,
           ⟨(some 97),(some (92,false)),.p (.bin .neq .s (.t 94) (.t 96))⟩,
           ⟨(some 98),none,.p (.pick (.t 92) (.c (bl true)) (.t 97))⟩])
         (.cond (.t 98)
          (.seq
           (.reg [
             ⟨(some 4),none,.p (.mov (.c (bl false)))⟩])
           .ret)
          .skip))
        (.reg [
          ⟨(some 99),none,.p (.mov (.t 5))⟩,
          ⟨(some 100),none,.p (.fa 3 (.t 9))⟩,
          ⟨(some 101),none,.p (.ld1 (.t 100))⟩,
          ⟨(some 102),none,.p (.fa 3 (.t 10))⟩,
          ⟨(some 103),none,.p (.ld1 (.t 102))⟩,
          ⟨(some 104),none,.p (.bld [.val (.slice none 0 0),.val (.slice none 0 0)] [(0,1,(.t 101)),(1,1,(.t 103))])⟩,
          ⟨(some 105),none,.e (.bsl 170 2 1 [.val (.slice none 0 0),.val (.slice none 0 0)] [(0,(.t 104))])⟩,
          ⟨(some 106),none,.e (.app 170 2 48 (.t 99) (.t 105))⟩,
          ⟨(some 5),none,.p (.mov (.t 106))⟩])))))
    (.reg [
      ⟨(some 107),none,.p (.bin .add (.i .i64) (.t 70) (.c (V 1)))⟩,
      ⟨(some 70),none,.p (.mov (.t 107))⟩]))))
def r74:List RS:=[.t 4]
def Qdz:IC:=.keep [5,6]
 (.seq
  (.seq
   (.reg [
     ⟨(some 16),none,.p (.mov (.t 5))⟩,
     ⟨(some 17),none,.p (.len (.t 16))⟩,
     ⟨(some 18),none,.p (.bin .gtr (.i .i64) (.t 17) (.c (V 0)))⟩])
   (.cond (.t 18)
    .skip
    (.exit 0)))
  (.blk 1
   (.seq
    (.reg [
      ⟨(some 19),none,.p (.mov (.t 5))⟩,
      ⟨(some 20),none,.p (.mov (.t 5))⟩,
      ⟨(some 21),none,.p (.len (.t 20))⟩,
      ⟨(some 22),none,.p (.bin .sub (.i .i64) (.t 21) (.c (V 1)))⟩,
      ⟨(some 23),none,.p (.ia 2 (.t 19) (.t 22))⟩,
      ⟨(some 24),none,.p (.ldn 2 (.t 23))⟩,
      ⟨(some 7),none,.e (.alc 170 [.val (.slice none 0 0),.val (.slice none 0 0)])⟩,
      ⟨none,none,.e (.st 2 (.t 7) (.t 24))⟩])
    (.seq
     (.reg [
       ⟨(some 25),none,.p (.mov (.t 5))⟩,
       ⟨(some 26),none,.p (.mov (.t 5))⟩,
       ⟨(some 27),none,.p (.len (.t 26))⟩,
       ⟨(some 28),none,.p (.bin .sub (.i .i64) (.t 27) (.c (V 1)))⟩,
       ⟨(some 29),none,.p (.sl 2 (.t 25) none (some (.t 28)))⟩,
       ⟨(some 5),none,.p (.mov (.t 29))⟩])
     (.seq
      (.seq
       (.reg [
         ⟨(some 30),none,.p (.fa 0 (.t 7))⟩,
         ⟨(some 31),none,.p (.ld1 (.t 30))⟩,
         ⟨(some 32),none,.p (.lnv (.t 31))⟩,
         ⟨(some 33),none,.p (.fa 1 (.t 7))⟩,
         ⟨(some 34),none,.p (.ld1 (.t 33))⟩,
         ⟨(some 35),none,.p (.lnv (.t 34))⟩,
         ⟨(some 36),none,.p (.bin .neq (.i .i64) (.t 32) (.t 35))⟩])
       (.cond (.t 36)
        (.seq
         (.reg [
           ⟨(some 4),none,.p (.mov (.c (bl false)))⟩])
         .ret)
        .skip))
      (.seq
       (.seq
        (.drw [0,1,2,3,4,5,6,7,8,9,10,11,12,13,14,15,16,17,18] [
          ⟨(some 37),none,.p (.fa 0 (.t 7))⟩,
          ⟨(some 38),none,.p (.ld1 (.t 37))⟩,
          ⟨(some 39),none,.p (.lnv (.t 38))⟩,
          ⟨(some 40),none,.p (.bin .eql (.i .i64) (.t 39) (.c (V 0)))⟩,
          ⟨(some 41),none,.p (.mov (.t 40))⟩,
          ⟨(some 42),(some (41,false)),.p (.mov (.t 6))⟩,
          ⟨(some 43),(some (41,false)),.p (.fa 0 (.t 7))⟩,
          ⟨(some 44),(some (41,false)),.p (.ld1 (.t 43))⟩,
          ⟨(some 45),(some (41,false)),.p (.iav 5 (.t 44) (.c (V 0)))⟩,
          ⟨(some 46),(some (41,false)),.p (.fa 1 (.t 7))⟩,
          ⟨(some 47),(some (41,false)),.p (.ld1 (.t 46))⟩,
          ⟨(some 48),(some (41,false)),.p (.iav 5 (.t 47) (.c (V 0)))⟩,
          ⟨(some 49),(some (41,false)),.p (.bld [.val (.pointer none),.val (.pointer none)] [(0,1,(.t 45)),(1,1,(.t 48))])⟩,
          ⟨(some 50),(some (41,false)),.p (.lkp (.pp 164 25) false (V 0) (.t 42) (.t 49))⟩,
          ⟨(some 51),(some (41,false)),.p (.fa 0 (.t 7))⟩,
          ⟨(some 52),(some (41,false)),.p (.ld1 (.t 51))⟩,
          ⟨(some 53),(some (41,false)),.p (.lnv (.t 52))⟩,
          ⟨(some 54),(some (41,false)),.p (.bin .geq (.i .i64) (.t 50) (.t 53))⟩,
          ⟨(some 55),none,.p (.pick (.t 41) (.c (bl true)) (.t 54))⟩])
        (.cond (.t 55)
         (.exit 1)
         .skip))
       (.seq
        (.drw [0,1,2,3,4,5,6,7,8,9,10,11] [
          ⟨(some 56),none,.p (.mov (.t 6))⟩,
          ⟨(some 57),none,.p (.fa 0 (.t 7))⟩,
          ⟨(some 58),none,.p (.ld1 (.t 57))⟩,
          ⟨(some 59),none,.p (.iav 5 (.t 58) (.c (V 0)))⟩,
          ⟨(some 60),none,.p (.fa 1 (.t 7))⟩,
          ⟨(some 61),none,.p (.ld1 (.t 60))⟩,
          ⟨(some 62),none,.p (.iav 5 (.t 61) (.c (V 0)))⟩,
          ⟨(some 63),none,.p (.bld [.val (.pointer none),.val (.pointer none)] [(0,1,(.t 59)),(1,1,(.t 62))])⟩,
          ⟨(some 64),none,.p (.fa 0 (.t 7))⟩,
          ⟨(some 65),none,.p (.ld1 (.t 64))⟩,
          ⟨(some 66),none,.p (.lnv (.t 65))⟩,
          ⟨none,none,.e (.mup (.pp 164 25) (.t 56) (.t 63) (.t 66))⟩])
        (.seq
         (.reg [
           ⟨(some 67),none,.p (.fa 0 (.t 7))⟩,
           ⟨(some 68),none,.p (.ld1 (.t 67))⟩,
           ⟨(some 69),none,.p (.lnv (.t 68))⟩,
           ⟨(some 70),none,.p (.mov (.c (V 0)))⟩])
         (.blk 2
          (.loop QjD))))))))))
def i74m:IC :=
 (.seq
  (.reg [
    ⟨(some 4),none,.p (.mov (.c (bl false)))⟩])
  (.seq
   (.reg [
     ⟨(some 11),none,.p (.mov (.t 0))⟩,
     ⟨(some 12),none,.p (.mov (.t 1))⟩,
     ⟨(some 13),none,.p (.bld [.val (.slice none 0 0),.val (.slice none 0 0)] [(0,1,(.t 11)),(1,1,(.t 12))])⟩,
     ⟨(some 14),none,.e (.bsl 170 2 1 [.val (.slice none 0 0),.val (.slice none 0 0)] [(0,(.t 13))])⟩,
     ⟨(some 5),none,.p (.mov (.t 14))⟩])
   (.seq
    (.reg [
      ⟨(some 15),none,.e (.mkm 172)⟩,
      ⟨(some 6),none,.p (.mov (.t 15))⟩])
    (.seq
     (.blk 0
      (.loop Qdz))
     (.seq
      (.reg [
        ⟨(some 4),none,.p (.mov (.c (bl true)))⟩])
      .ret)))))
theorem c74m:Qdn Tryz.prog Qf Tryz.f74 i74m r74=true:=by kernel_rfl
theorem Qki:∀ l:List Ex,Ex.erL l=l.map Ex.er
 |[]=>rfl
 |e::r=>by rw[Ex.erL,Qki r,Vl]
theorem Qc0 {a b:List Ex} (h:Ex.erL a=Ex.erL b):a.length=b.length:=by
 have:=Zt List.length h;simpa[Qki]using this
theorem Qrt {a b:List Ex} (h:Ex.erL a=Ex.erL b) {i:Nat} (h1:i<a.length) (h2:i<b.length):(a[i]).er=(b[i]).er:=by
 rw[Qki,Qki]at h;have:=Zt (λl=>l[i]?) h;simpa[h1,h2]using this
theorem QEC:∀ {x y:Ex},x.er=y.er->Ex.erL x.lsE=Ex.erL y.lsE
 |.mk _ _ _ _ _,.mk _ _ _ _ _,h=>by simp only[Ex.er,Ex.mk.injEq]at h; exact h.2.2.2.1
def Qbi (a b:List Ex):List (List Ex×List Ex):=List.zipWith (λx y=>(x.lsE,y.lsE)) a b
def exP (td:List (List Ex×List Ex)):ZJ:=td.flatMap λp=>[an p.1,an p.2]
theorem QiN:∀ td:List (List Ex×List Ex),(exP td).length=td.length*2
 |[]=>rfl
 |p::r=>by
  have:=QiN r;simp only[exP,VO,Vj,Vh,VH]at *;omega
theorem QpH (a b:List (List Ex×List Ex)):exP (a++b)=exP a++exP b:=by simp[exP]
theorem QrI (p:List Ex×List Ex):exP [p]=[an p.1,an p.2]:=by simp[exP]
def QcH (td:List (List Ex×List Ex)):Nat:=(td.map λp=>Qap p.1).sum
theorem Qor (a b:List (List Ex×List Ex)):QcH (a++b)=QcH a+QcH b:=by simp[QcH]
theorem Qut:∀ td:List (List Ex×List Ex),td.length<=QcH td
 |[]=>Vb _
 |l::r=>by
  have h1:=QiO l.1;have h2:=Qut r;simp only[QcH,Vl,VY,Vh]at h2 ⊢;omega
theorem Ql1 {a b:List Ex} (h:a.length=b.length):(Qbi a b).length=a.length:=by simp[Qbi,h]
theorem Qmw {a b:List Ex} {i:Nat} (h1:i<a.length) (h2:i<b.length) (h:i<(Qbi a b).length):(Qbi a b)[i]=((a[i]).lsE,(b[i]).lsE):=by simp[Qbi]
theorem Qrd:∀ {a b:List Ex},a.length=b.length->Qap a=1+QcH (Qbi a b)
 |[],[],_=>rfl
 |x::a,y::b,h=>by
  have:=Qrd (a:=a) (b:=b) (by simpa using h);obtain⟨o,n,s,l,p⟩:=x;rw[Qap,this,QcN];simp only[Qbi,QcH,List.zipWith_cons_cons,Vl,VY,Ex.lsE];omega
theorem QEK {a b:List Ex} (h:Ex.erL a=Ex.erL b):∀ p∈Qbi a b,Ex.erL p.1=Ex.erL p.2:=by
 intro p hp;obtain⟨i,hi,rfl⟩:=Y3 hp;have hl:=Qc0 h;have hi':i<a.length:=by rw[<-Ql1 hl]; exact hi
 rw[Qmw hi' (by omega) hi];exact QEC (Qrt h hi' (by omega))
abbrev T2 (td:List (List Ex×List Ex)) (kp:ZK) (vp:ZJ) (vt:Nat) (G:ZI):ZI:=⟨exP td,170,vt,true⟩::⟨.mk kp::vp,172,0,false⟩::G
structure SE (n:Nat) (td:List (List Ex×List Ex)) (vt:Nat) (U:Env):Prop where
 s5:U.get 5=.own n 0 td.length 2 vt
 s6:U.get 6=.mp (n+1) 0
theorem mo2 (H:ZI) (a:AO) (ks:ZK) (vs:ZJ) (T:ZM) (G:ZI):SV.mapOf (H++a::⟨.mk ks::vs,T,0,false⟩::G) (.mp (H.length+1) 0)=some (ks,vs):=by
 simp[SV.mapOf]
section
variable [Qv] {H:ZI} {kp:ZK} {vp:ZJ} {N:Nat} {K:ZH}
theorem QxS {vt:Nat} {G:ZI} {U:Env} (he:SE H.length [] vt U) (h:∀ U G,K (.exit 0) U (H++G)) :
 LI Tryz.prog N Qf Qdz U (H++T2 [] kp vp vt G) K:=by
 obtain⟨h5,h6⟩:=he;refine Qp hm Qdz.eq_1 ?_;simp -implicitDefEqProofs[h5,h6];exact h _ _
theorem QpE (A:ZJ) (x y z:SV) {n:Nat} (h:A.length=n):(A++[x,y]).set n z=A++[z,y]:=by
 rw[Yk _ _ (by omega),h]; simp
theorem QuL (A:ZJ) (x y z:SV) {n:Nat} (h:A.length=n):(A++[x,y]).set (n+1) z=A++[x,z]:=by
 rw[Yk _ _ (by omega),h]; simp
theorem QCO {rest:List (List Ex×List Ex)} {vt:Nat} {G:ZI} {U:Env} (hr:rest.length<2000000000) (he:SE H.length (rest++[([],[])]) vt U)
 (h:∀ G U,SE H.length rest vt U->LI Tryz.prog N Qf Qdz U (H++T2 rest kp vp vt G) K) :
 LI Tryz.prog N Qf Qdz U (H++T2 (rest++[([],[])]) kp vp vt G) K:=by
 obtain⟨h5,h6⟩:=he;have hl:(rest++[(([],[]):List Ex×List Ex)]).length=rest.length+1:=by simp
 rw[hl]at h5;have hlen:=QiN rest;have hcell:exP (rest++[([],[])])=exP rest++[SV.slc [] 0,SV.slc [] 0]:=by rw[QpH,QrI]; rfl
 rw[show T2 (rest++[([],[])]) kp vp vt G=⟨exP rest++[SV.slc [] 0,SV.slc [] 0],170,vt,true⟩::⟨.mk kp::vp,172,0,false⟩::G by rw[T2,hcell]];refine LI.learn0 H.length (rest.length*2) (o:=⟨exP rest++[SV.slc [] 0,SV.slc [] 0],170,vt,true⟩) (cells:=[]) (len:=0) (by simp) rfl (by simp[hlen]) λoa cap => ?_;refine LI.cong (H':=H++⟨exP rest++[SV.val (.slice oa 0 cap),SV.slc [] 0],170,vt,true⟩::⟨.mk kp::vp,172,0,false⟩::G) (by rw[<-QpE (exP rest) (SV.slc [] 0) (SV.slc [] 0) (SV.val (.slice oa 0 cap)) hlen]; simp) ?_;refine LI.learn0 H.length (rest.length*2+1) (o:=⟨exP rest++[SV.val (.slice oa 0 cap),SV.slc [] 0],170,vt,true⟩) (cells:=[]) (len:=0) (by simp) rfl (by rw[Vk (by omega)]; simp[hlen]) λob cap' => ?_;refine LI.cong (H':=H++⟨exP rest++[SV.val (.slice oa 0 cap),SV.val (.slice ob 0 cap')],170,vt,true⟩::⟨.mk kp::vp,172,0,false⟩::G) (by rw[<-QuL (exP rest) (SV.val (.slice oa 0 cap)) (SV.slc [] 0) (SV.val (.slice ob 0 cap')) hlen]; simp) ?_;have htk:List.take (rest.length*2) (exP rest++[SV.val (.slice oa 0 cap),.val (.slice ob 0 cap')])=exP rest:=VP hlen;have hcc:(exP rest++[SV.val (.slice oa 0 cap),.val (.slice ob 0 cap')]).length=rest.length*2+2:=by simp[hlen]
 have hgd:(List.drop (rest.length*2) (exP rest++[SV.val (.slice oa 0 cap),.val (.slice ob 0 cap')]))=[.val (.slice oa 0 cap),.val (.slice ob 0 cap')]:=Y7 hlen;have w1:IntKind.i64.wrap (rest.length:Int)=(rest.length:Int):=QfM (by omega);refine Qp hm Qdz.eq_1 ?_;generalize exP rest++[SV.val (.slice oa 0 cap),.val (.slice ob 0 cap')]=cc at *;simp -implicitDefEqProofs[h5,h6,w1,hgd];refine⟨by omega,⟨rfl,rfl⟩,LI.tell (Qat.trunc (j:=H.length) (o:=⟨cc,170,vt,true⟩) (by simp) rfl (rest.length*2)) (LI.cong (H':=H++T2 rest kp vp vt (G++[⟨[SV.val (.slice oa 0 cap),SV.val (.slice ob 0 cap')],170,0,true⟩])) (by simp[htk]) (h _ _ ⟨by simp,by simp⟩))⟩
theorem QEa {a b:List Ex} (hab:Ex.erL a=Ex.erL b) (hl3:a.length<=100) {rest:List (List Ex×List Ex)} (hr:rest.length+200<2000000000) {G1:ZI}
 (h:∀ vt G U,SE H.length (rest++Qbi a b) vt U->K (.exit 2) U (H++T2 (rest++Qbi a b) kp vp vt G)) :
 ∀ (m i vt:Nat) (G:ZI) (U:Env),i+m=a.length->SE H.length (rest++(Qbi a b).take i) vt U->U.get 7=rp (H.length+(G1.length+2))->U.get 68=an a->U.get 69=V a.length->U.get 70=V i ->
  LI Tryz.prog N Qf QjD U (H++T2 (rest++(Qbi a b).take i) kp vp vt (G1++⟨[an a,an b],170,0,true⟩::G)) K:=by
 have hlab:=Qc0 hab;intro m
 induction m with
 |zero =>
  intro i vt G U hi he h7 h68 h69 h70;obtain⟨h5,h6⟩:=he;refine Qp hm QjD.eq_1 ?_;have e:i=a.length:=by omega
  subst e;rw[VD (by rw[Ql1 hlab]; exact Vb _)]at *;simp -implicitDefEqProofs[h5,h6,h7,h68,h69,h70];exact h vt _ _ ⟨by simp,by simp⟩
 |succ m ih =>
  intro i vt G U hi he h7 h68 h69 h70;obtain⟨h5,h6⟩:=he;refine Qp hm QjD.eq_1 ?_;have hlt:i<a.length:=by omega
  have hltb:i<b.length:=by omega
  have ax:(i:Int)<a.length:=by omega
  have hltb':(i:Int)<b.length:=by omega
  have hg:=QeC hlt;have hgb:=QeC hltb;have hcl':=Qeo a;have hclb':=Qeo b;have hoke:=Qrt hab hlt hltb;have hki:i<(Qbi a b).length:=by rw[Ql1 hlab]; exact hlt
  have htk:rest++(Qbi a b).take (i+1)=(rest++(Qbi a b).take i)++[((a[i]).lsE,(b[i]).lsE)]:=by
   rw[<-Y6 hki,Qmw hlt hltb hki,Vr]
  have ih:=ih (i+1);rw[htk]at ih;have hrl:(rest++(Qbi a b).take i).length<2000000000:=by simp; omega
  generalize rest++(Qbi a b).take i=td at *;generalize a[i]=x at *;generalize b[i]=y at *;obtain⟨op,n,nm,le,p⟩:=x;obtain⟨op',n',nm',le',p'⟩:=y;simp only[Ex.er,Ex.mk.injEq]at hoke;obtain⟨rfl,rfl,rfl,hle,_⟩:=hoke;have hex:=QiN td;simp -implicitDefEqProofs[h5,h6,h7,h68,h69,h70,an,ax,hltb',hg,hgb,hcl',hclb',Ex.c,rp,hex,Yi];refine⟨by omega,by omega,by omega,by omega,LI.cong ?_ (ih (vt+1) (G++[⟨[V op,V n,st (B nm),.slc (Ex.cL le) le.length,V p],25,0,true⟩,⟨[V op,V n,st (B nm),.slc (Ex.cL le') le'.length,V p'],25,0,true⟩,⟨[.slc (Ex.cL le) le.length,.slc (Ex.cL le') le'.length],170,0,true⟩]) _ (by omega) ⟨?_,?_⟩ ?_ ?_ ?_ ?_)⟩
  . simp[exP,Ex.lsE,an]
  . simp
  . simp
  . simp[rp]
  . simp[an]
  . simp
  . simp[Qaj (show i<9223372036854775807 by omega)]
theorem QBW {l m:List Ex} {rest:List (List Ex×List Ex)} {a b:Addr} {cap cap' vt:Nat} {G:ZI} {U:Env} (hk:(an l,Value.slice (some a) l.length cap)∈Qv.kn) (hk':(an m,Value.slice (some b) l.length cap')∈Qv.kn)
 (hlm:Ex.erL l=Ex.erL m) (hl0:l≠[]) (hl3:l.length<=100) (hr:rest.length+200<2000000000)
 (hkl:kp.length=vp.length) (hkn:∀ v∈kp,(KK.pp 164 25).knows v) (hvp:∀ x∈vp,∃ n,x=V n) (he:SE H.length (rest++[(l,m)]) vt U)
 (hskip:∀ G U,SE H.length rest vt U->LI Tryz.prog N Qf Qdz U (H++T2 rest kp vp vt G) K)
 (h:∀ kp' vp' vt G U,kp'.length=vp'.length->(∀ v∈kp',(KK.pp 164 25).knows v)->(∀ x∈vp',∃ n,x=V n)->SE H.length (rest++Qbi l m) vt U->LI Tryz.prog N Qf Qdz U (H++T2 (rest++Qbi l m) kp' vp' vt G) K) :
 LI Tryz.prog N Qf Qdz U (H++⟨exP rest++[.val (.slice (some a) l.length cap),.val (.slice (some b) l.length cap')],170,vt,true⟩::⟨.mk kp::vp,172,0,false⟩::G) K:=by
 obtain⟨h5,h6⟩:=he;have hl:(rest++[(l,m)]).length=rest.length+1:=by simp
 rw[hl]at h5;have hlm':=Qc0 hlm;have hkn1:∀ {x:List Ex} {c:Addr} {cap:Nat},x≠[]->(an x,Value.slice (some c) l.length cap)∈Qv.kn->x.length=l.length->QdK (.pointer (some c)):=by
  intro x c cap hx hk hxl;rw[an,hxl]at hk;refine⟨rfl,c,Ex.cL x,l.length,cap,rfl,hk,?_⟩
  cases x with
  |nil=>exact absurd rfl hx
  |cons x r =>
   obtain⟨op,n,nm,l,p⟩:=x;exact⟨B nm,by rw[Ex.cL,Ex.c]; exact YA _ (.tail _ (.tail _ (.head _)))⟩
 have hm0:m≠[]:=by
  intro e; rw[e]at hlm'; simp at hlm'; exact hl0 hlm'
 have hknow:(KK.pp 164 25).knows (.agg #[.pointer (some a),.pointer (some b)]):=⟨_,_,rfl,hkn1 hl0 hk rfl,hkn1 hm0 hk' hlm'.symm⟩;have hkall:∀ v∈(Value.agg #[.pointer (some a),.pointer (some b)])::kp,(KK.pp 164 25).knows v:=by
  intro v hv;rcases Vd.1 hv with rfl|hv
  . exact hknow
  . exact hkn v hv
 have hkis:∀ v∈kp,(KK.pp 164 25).is v=true:=by
  intro v hv;obtain⟨x,y,rfl,⟨_,c,_,_,_,rfl,_⟩,⟨_,d,_,_,_,rfl,_⟩⟩:=hkn v hv;rfl
 have hl0':¬ (l.length:Int)=0:=by
  cases l with
  |nil=>exact absurd rfl hl0
  |cons x r=>simp; omega
 have hl00:¬ l.length=0:=by omega
 have hpos:0<l.length:=by omega
 have hlen:=QiN rest;have htk:List.take (rest.length*2) (exP rest++[SV.val (.slice (some a) l.length cap),.val (.slice (some b) l.length cap')])=exP rest:=VP hlen;have hcc:(exP rest++[SV.val (.slice (some a) l.length cap),.val (.slice (some b) l.length cap')]).length=rest.length*2+2:=by simp[hlen]
 have hgd:(List.drop (rest.length*2) (exP rest++[SV.val (.slice (some a) l.length cap),.val (.slice (some b) l.length cap')]))=[.val (.slice (some a) l.length cap),.val (.slice (some b) l.length cap')]:=Y7 hlen;have w1:IntKind.i64.wrap (rest.length:Int)=(rest.length:Int):=QfM (by omega);refine Qp hm Qdz.eq_1 ?_;generalize exP rest++[SV.val (.slice (some a) l.length cap),.val (.slice (some b) l.length cap')]=cc at *;obtain⟨n,hn⟩:∃ n,(lkm (Value.agg #[.pointer (some a),.pointer (some b)]) kp vp).getD (V 0)=V n:=by
  cases hlk:lkm (Value.agg #[.pointer (some a),.pointer (some b)]) kp vp with
  |none=>exact⟨0,rfl⟩
  |some x=>obtain⟨n,rfl⟩:=hvp x (Qog hlk); exact⟨n,rfl⟩
 have hal:((kp,vp):ZK×ZJ).1.all (KK.pp 164 25).is=true:=Vi.2 hkis;have add0:∀ a:Addr,a.add 0=a:=λa=>Zr rfl;have hpt:QaW 1 (SV.val (Value.pointer (some a)))/\QaW 1 (SV.val (Value.pointer (some b))):=⟨⟨rfl,rfl,rfl⟩,rfl,rfl,rfl⟩;by_cases hmet:(l.length:Int)<=n
 . simp -implicitDefEqProofs[h5,h6,w1,hgd,hl00,hpos,mo2,Qk8,add0,hn,hmet,SV.isK,SV.key,SV.isPP,SV.ppval,SV.isP,SV.pval];refine⟨by omega,⟨rfl,rfl⟩,hpt,⟨rfl,hkis,hknow,hkn⟩,LI.tell (Qat.trunc (j:=H.length) (o:=⟨cc,170,vt,true⟩) (by simp) rfl (rest.length*2)) (LI.cong (H':=H++T2 rest kp vp vt (G++[⟨[SV.val (.slice (some a) l.length cap),SV.val (.slice (some b) l.length cap')],170,0,true⟩])) (by simp[htk]) (hskip _ _ ⟨by simp,by simp⟩))⟩
 . simp -implicitDefEqProofs[h5,h6,w1,hgd,hl00,hpos,mo2,Qk8,add0,hn,hmet,SV.isK,SV.key,SV.isPP,SV.ppval,SV.isP,SV.pval];refine⟨by omega,⟨rfl,rfl⟩,hpt,⟨rfl,hkis,hknow,hkn⟩,hpt,?_⟩;refine Qb0 (x:=(kp,vp)) (mo2 ..) rfl rfl hal ?_ (by simpa[SV.key,SV.ppval,SV.pval]using hkall);simp -implicitDefEqProofs[SV.key,SV.ppval,SV.pval];have hk2:(SV.slc (Ex.cL m) l.length,Value.slice (some b) l.length cap')∈Qv.kn:=by rw[an,<- hlm']at hk'; exact hk'
   refine LI.tell (Qat.knownE (k:=68) (by simp) hk) ?_;refine LI.tell (Qat.known (j:=H.length+(G.length+2)) (p:=0) (o:=⟨[SV.val (.slice (some a) l.length cap),SV.val (.slice (some b) l.length cap')],170,0,true⟩) (by simp) rfl rfl hk) ?_;refine LI.tell (Qat.known (j:=H.length+(G.length+2)) (p:=1) (o:=⟨[SV.slc (Ex.cL l) l.length,SV.val (.slice (some b) l.length cap')],170,0,true⟩) (by simp) rfl rfl hk2) ?_;refine LI.tell (Qat.trunc (j:=H.length) (o:=⟨cc,170,vt,true⟩) (by simp) rfl (rest.length*2)) ?_;generalize hks:Q9 (Value.agg #[Value.pointer (some a),Value.pointer (some b)]) kp=kp';generalize hvs:Q6 (Value.agg #[Value.pointer (some a),Value.pointer (some b)]) (V l.length) kp vp=vp';have hkl':kp'.length=vp'.length:=by
    rw[<-hks,<- hvs]; exact QoM hkl
   have hkn':∀ v∈kp',(KK.pp 164 25).knows v:=λv hv=>by
    rw[<-hks]at hv;rcases QnL hv with hv|rfl
    . exact hkn v hv
    . exact hknow
   have hvp':∀ x∈vp',∃ n,x=V n:=λx hx=>by
    rw[<-hvs]at hx;rcases Qn7 hx with hx|rfl
    . exact hvp x hx
    . exact⟨_,rfl⟩
   refine LI.cong (H':=H++T2 (rest++(Qbi l m).take 0) kp' vp' vt (G++⟨[an l,an m],170,0,true⟩::[])) (by simp[htk,an,<- hlm']) ?_;refine QEa hlm hl3 hr (λvt G U he => ?_) l.length 0 vt [] _ (by omega) ⟨?_,?_⟩ ?_ ?_ ?_ ?_
   . simp -implicitDefEqProofs;exact h _ _ vt G U hkl' hkn' hvp' he
   all_goals simp[an,h6,rp]
theorem QEz {l m:List Ex} {rest:List (List Ex×List Ex)} {vt:Nat} {G:ZI} {U:Env} (hlm:Ex.erL l=Ex.erL m) (hl0:l≠[]) (hl3:l.length<=100) (hr:rest.length+200<2000000000)
 (hkl:kp.length=vp.length) (hkn:∀ v∈kp,(KK.pp 164 25).knows v) (hvp:∀ x∈vp,∃ n,x=V n) (he:SE H.length (rest++[(l,m)]) vt U)
 (h:∀ (kn:Qv) td kp' vp' vt G U,(td=rest\/td=rest++Qbi l m)->kp'.length=vp'.length->(∀ v∈kp',@KK.knows _ kn (.pp 164 25) v)->(∀ x∈vp',∃ n,x=V n)->SE H.length td vt U -> @LI _ _ kn Tryz.prog N Qf Qdz U (H++T2 td kp' vp' vt G) K) :
 LI Tryz.prog N Qf Qdz U (H++T2 (rest++[(l,m)]) kp vp vt G) K:=by
 have hne:∀ {l:List Ex},l≠[]->Ex.cL l≠[]:=by
  intro l hl0
  cases l with
  |nil=>exact absurd rfl hl0
  |cons x r=>obtain⟨a,b,c,d,e⟩:=x; simp[Ex.cL,Ex.c]
 have hlm':=Qc0 hlm;have hm0:m≠[]:=by
  intro e; rw[e]at hlm'; simp at hlm'; exact hl0 hlm'
 have hlen:=QiN rest;have hcell:exP (rest++[(l,m)])=exP rest++[SV.slc (Ex.cL l) l.length,SV.slc (Ex.cL m) m.length]:=by rw[QpH,QrI]; rfl
 rw[show T2 (rest++[(l,m)]) kp vp vt G=⟨exP rest++[SV.slc (Ex.cL l) l.length,SV.slc (Ex.cL m) m.length],170,vt,true⟩::⟨.mk kp::vp,172,0,false⟩::G by rw[T2,hcell]];refine LI.learn H.length (rest.length*2) (o:=⟨exP rest++[SV.slc (Ex.cL l) l.length,SV.slc (Ex.cL m) m.length],170,vt,true⟩) (cells:=Ex.cL l) (len:=l.length) (by simp) rfl (by simp[hlen]) (hne hl0) (Ex.undL 0 l) λa cap => ?_;have mono:∀ (A B:Qv) (v:Value),(∀ q∈A.kn,q∈B.kn) -> @KK.knows _ A (.pp 164 25) v -> @KK.knows _ B (.pp 164 25) v:=by
  rintro A B v hq ⟨x,y,rfl,⟨hf,a,cells,len,cap,h1,h2,h3⟩,⟨hf',a',cells',len',cap',h1',h2',h3'⟩⟩;exact⟨x,y,rfl,⟨hf,a,cells,len,cap,h1,hq _ h2,h3⟩,⟨hf',a',cells',len',cap',h1',hq _ h2',h3'⟩⟩
 refine @LI.cong _ _ ⟨(.slc (Ex.cL l) l.length,.slice (some a) l.length cap)::Qv.kn⟩ _ _ _ _ _ _ (H++⟨exP rest++[SV.val (.slice (some a) l.length cap),SV.slc (Ex.cL m) m.length],170,vt,true⟩::⟨.mk kp::vp,172,0,false⟩::G) _ (by rw[<-QpE (exP rest) (SV.slc (Ex.cL l) l.length) (SV.slc (Ex.cL m) m.length) (SV.val (.slice (some a) l.length cap)) hlen]; simp) ?_;refine @LI.learn _ _ ⟨(.slc (Ex.cL l) l.length,.slice (some a) l.length cap)::Qv.kn⟩ _ _ _ _ _ _ _ H.length (rest.length*2+1) (⟨exP rest++[SV.val (.slice (some a) l.length cap),SV.slc (Ex.cL m) m.length],170,vt,true⟩) (Ex.cL m) m.length (by simp) rfl (by rw[Vk (by omega)]; simp[hlen]) (hne hm0) (Ex.undL 0 m) λb cap' => ?_;let G3:Qv:=⟨(.slc (Ex.cL m) m.length,.slice (some b) m.length cap')::(.slc (Ex.cL l) l.length,.slice (some a) l.length cap)::Qv.kn⟩
 refine @LI.cong _ _ G3 _ _ _ _ _ _ (H++⟨exP rest++[SV.val (.slice (some a) l.length cap),SV.val (.slice (some b) l.length cap')],170,vt,true⟩::⟨.mk kp::vp,172,0,false⟩::G) _ (by rw[hlm',<- QuL (exP rest) (SV.val (.slice (some a) m.length cap)) (SV.slc (Ex.cL m) m.length) (SV.val (.slice (some b) m.length cap')) hlen]; simp) ?_;have hkn':∀ v∈kp,@KK.knows _ G3 (.pp 164 25) v:=λv hv=>mono _ G3 v (λq hq=>VW _ (VW _ hq)) (hkn v hv);exact @QBW G3 H kp vp N K l m rest a b cap cap' vt G U (VW _ (YF ..)) (by rw[hlm']; exact YF ..) hlm hl0 hl3 hr hkl hkn' hvp he
  (λG U he=>h _ _ _ _ _ G U (.inl rfl) hkl hkn' hvp he) (λkp' vp' vt G U h1 h2 h3 he=>h _ _ _ _ _ G U (.inr rfl) h1 h2 h3 he)
end
section
variable {H:ZI} {N:Nat} {K:ZH}
theorem QwJ (hK:∀ U G,K (.exit 0) U (H++G)):∀ (M:Nat),M<1000000000->∀ (kn:Qv) (td:List (List Ex×List Ex)) (kp:ZK) (vp:ZJ) (vt:Nat) (G:ZI) (U:Env),QcH td<=M->(∀ p∈td,Ex.erL p.1=Ex.erL p.2/\p.1.length<=100/\∀ e∈p.1,e.sm) ->
 kp.length=vp.length->(∀ v∈kp,@KK.knows _ kn (.pp 164 25) v)->(∀ x∈vp,∃ n,x=V n)->SE H.length td vt U -> @LI _ _ kn Tryz.prog N Qf Qdz U (H++T2 td kp vp vt G) K:=by
 intro M
 induction M using Nat.strongRecOn with
 |ind M ih =>
  intro hM kn td kp vp vt G U hc hok hkl hkn hvp he;rcases List.eq_nil_or_concat td with rfl|⟨rest,⟨l,m⟩,rfl⟩
  . exact QxS he hK
  . rw[List.concat_eq_append]at *;have hrl:=Qut (rest++[(l,m)]);simp only[Vj,List.length_singleton]at hrl;rw[Qor]at hc hrl;have hl1:QcH [(l,m)]=Qap l:=by simp[QcH]
    rw[hl1]at hc hrl;have hpos:=QiO l;have hrest:∀ p∈rest,Ex.erL p.1=Ex.erL p.2/\p.1.length<=100/\∀ e∈p.1,e.sm:=λx hx=>hok x (by simp[hx]);obtain⟨hlm,hl3,hle⟩:=hok (l,m) (by simp);have hce:=Qrd (a:=l) (b:=m) (Qc0 hlm);by_cases hl0:l=[]
    . subst hl0;have hm0:m=[]:=by
       have:=Qc0 hlm;exact Yh.1 (by simpa using this.symm)
      subst hm0;exact QCO (by omega) he λG U he=>ih (QcH rest) (by omega) (by omega) kn rest kp vp vt G U (Vb _) hrest hkl hkn hvp he
    . refine QEz hlm hl0 hl3 (by omega) hkl hkn hvp he λkn' td kp' vp' vt G U htd h1 h2 h3 ah => ?_;rcases htd with rfl|rfl
      . exact ih (QcH td) (by omega) (by omega) kn' td kp' vp' vt G U (Vb _) hrest h1 h2 h3 ah
      . refine ih (QcH (rest++Qbi l m)) (by rw[Qor]; omega) (by rw[Qor]; omega) kn' _ kp' vp' vt G U (Vb _) ?_ h1 h2 h3 ah;intro x hx;rcases Vt.1 hx with hx|hx
        . exact hrest x hx
        . refine⟨QEK hlm x hx,?_⟩;obtain⟨i,hi,rfl⟩:=Y3 hx;have hll:l.length=m.length:=Qc0 hlm;have hi':i<l.length:=by rw[<-Ql1 hll]; exact hi
          rw[Qmw hi' (by omega) hi];have:=hle l[i] (Vp hi');generalize l[i]=e at this ⊢;obtain⟨op,n,nm,l',p⟩:=e;unfold Ex.sm at this;exact⟨Vf this.1 (by omega),Qn6.1 this.2⟩
theorem ok74 {l m:List Ex} (hlm:Ex.erL l=Ex.erL m) (hl:l.length<=100) (hok:∀ e∈l,e.sm) (hc:Qap l<1000000000):Ok Tryz.prog 74 [an l,an m] H (.ret (bl true)) H:=by
 refine Qt hm Tryz.func74 c74m (by simp[an]) λZ => ?_;simp -implicitDefEqProofs[i74m,r74,an];refine LI.cong (H':=H++T2 [(l,m)] [] [] 0 []) (by simp[exP,an]) ?_;refine QwJ (λU G => ?_) (Qap l) hc _ [(l,m)] [] [] 0 [] _ (by simp[QcH]) (by simpa using ⟨hlm,hl,hok⟩) rfl (by simp) (by simp) ⟨?_,?_⟩
 . simp -implicitDefEqProofs;exact Qq 3 Z rfl (by simp)
 all_goals simp
end
section
variable {H:ZI}
@[simp] theorem Qn.okT (v:Qn):QF v.c=True:=Zz λs hs=>by
 simp[Qn.c]at hs; rcases hs with rfl|rfl|rfl<;>rfl
theorem Qy0 {l m:List Ql} (hl:m.length=l.length) (hb:l.length<2147483648) {f:SV} (hf:f=.fn (.func 161) [] []) (hc:∀ i (h:i<l.length) (h':i<m.length) (H:ZI),Ok Tryz.prog 161 [.agg l[i].c,.agg m[i].c] H (.ret (bl true)) H) {N:Nat} {K:ZH} (ai:∀ U G,K (.exit 0) U (H++G)) :
 ∀ (k i:Nat) (G:ZI) (U:Env),i+k=l.length->U.get 1=.slc (rws Ql.c m) m.length->U.get 2=f->U.get 15=.slc (rws Ql.c l) l.length->U.get 16=V l.length->U.get 17=V i ->
  LI Tryz.prog N Qf Ql5 U (H++G) K:=by
 have hlen:=QaF Ql.len l;have hlenm:=QaF Ql.len m;subst hf;intro k
 induction k with
 |zero =>
  intro i G U hi h1 h2 h15 h16 h17;refine Qp hm Ql5.eq_1 ?_;have e:i=l.length:=by omega
  subst e;simp[h1,h2,h15,h16,h17];exact ai _ _
 |succ k ih =>
  intro i G U hi h1 h2 h15 h16 h17;refine Qp hm Ql5.eq_1 ?_;have hlt:i<l.length:=by omega
  have ax:(i:Int)<l.length:=by omega
  have hltm:i<m.length:=by omega
  have hltm':(i:Int)<m.length:=by omega
  have g1:((rws Ql.c l).drop (i*7)).take 7=l[i].c:=by rw[Qej Ql.len hlt,VP (Ql.len _)]
  have g2:((rws Ql.c m).drop (i*7)).take 7=m[i].c:=by rw[Qej Ql.len hltm,VP (Ql.len _)]
  have hcc:=hc i hlt hltm;generalize l[i]=a at g1 hcc;generalize m[i]=b at g2 hcc;have ha:=Ql.len a;have hb':=Ql.len b;have ta:List.take 7 a.c=a.c:=VD (V0 ha);have tb:List.take 7 b.c=b.c:=VD (V0 hb');simp[h1,h2,h15,h16,h17,ax,hltm',g1,g2,hlen,hlenm,ha,hb',ta,tb];refine⟨by omega,by omega,Qb (hcc _) ?_⟩;simp[h1,h2,h15,h16,h17];refine LI.cong (H':=H++(G++[⟨a.c,91,0,true⟩,⟨b.c,91,0,true⟩])) (by simp) (ih (i+1) _ _ (by omega) ?_ ?_ ?_ ?_ ?_);all_goals simp[Qaj (show i<9223372036854775807 by omega)]
theorem QBf {l m:List Ql} (hl:m.length=l.length) (hb:l.length<2147483648) (hc:∀ i (h:i<l.length) (h':i<m.length) (H:ZI),Ok Tryz.prog 161 [.agg l[i].c,.agg m[i].c] H (.ret (bl true)) H) :
 Ok Tryz.prog 162 [.slc (rws Ql.c l) l.length,.slc (rws Ql.c m) m.length,.fn (.func 161) [] []] H (.ret (bl true)) H:=by
 refine Qt hm Tryz.func162 c162 (by simp) λZ => ?_;simp[i162,r162,hl];refine LI.cong (H':=H++[]) (by simp) (Qy0 hl hb rfl hc (λU G => ?_) l.length 0 [] _ (by omega) ?_ ?_ ?_ ?_ ?_)
 . simp;exact Qq 1 Z rfl (by simp)
 all_goals simp[hl]
theorem Qwr {l m:List Qh} (hl:m.length=l.length) (hb:l.length<2147483648) {f:SV} (hf:f=.fn (.func 118) [] []) (hc:∀ i (h:i<l.length) (h':i<m.length) (H:ZI),Ok Tryz.prog 118 [.agg l[i].c,.agg m[i].c] H (.ret (bl true)) H) {N:Nat} {K:ZH} (ai:∀ U G,K (.exit 0) U (H++G)) :
 ∀ (k i:Nat) (G:ZI) (U:Env),i+k=l.length->U.get 1=.slc (rws Qh.c m) m.length->U.get 2=f->U.get 15=.slc (rws Qh.c l) l.length->U.get 16=V l.length->U.get 17=V i ->
  LI Tryz.prog N Qf Qmt U (H++G) K:=by
 have hlen:=QaF Qh.c_len l;have hlenm:=QaF Qh.c_len m;subst hf;intro k
 induction k with
 |zero =>
  intro i G U hi h1 h2 h15 h16 h17;refine Qp hm Qmt.eq_1 ?_;have e:i=l.length:=by omega
  subst e;simp[h1,h2,h15,h16,h17];exact ai _ _
 |succ k ih =>
  intro i G U hi h1 h2 h15 h16 h17;refine Qp hm Qmt.eq_1 ?_;have hlt:i<l.length:=by omega
  have ax:(i:Int)<l.length:=by omega
  have hltm:i<m.length:=by omega
  have hltm':(i:Int)<m.length:=by omega
  have g1:((rws Qh.c l).drop (i*6)).take 6=l[i].c:=by rw[Qej Qh.c_len hlt,VP (Qh.c_len _)]
  have g2:((rws Qh.c m).drop (i*6)).take 6=m[i].c:=by rw[Qej Qh.c_len hltm,VP (Qh.c_len _)]
  have hcc:=hc i hlt hltm;generalize l[i]=a at g1 hcc;generalize m[i]=b at g2 hcc;have ha:=Qh.c_len a;have hb':=Qh.c_len b;have ta:List.take 6 a.c=a.c:=VD (V0 ha);have tb:List.take 6 b.c=b.c:=VD (V0 hb');simp[h1,h2,h15,h16,h17,ax,hltm',g1,g2,hlen,hlenm,ha,hb',ta,tb];refine⟨by omega,by omega,Qb (hcc _) ?_⟩;simp[h1,h2,h15,h16,h17];refine LI.cong (H':=H++(G++[⟨a.c,89,0,true⟩,⟨b.c,89,0,true⟩])) (by simp) (ih (i+1) _ _ (by omega) ?_ ?_ ?_ ?_ ?_);all_goals simp[Qaj (show i<9223372036854775807 by omega)]
theorem QCl {l m:List Qh} (hl:m.length=l.length) (hb:l.length<2147483648) (hc:∀ i (h:i<l.length) (h':i<m.length) (H:ZI),Ok Tryz.prog 118 [.agg l[i].c,.agg m[i].c] H (.ret (bl true)) H) :
 Ok Tryz.prog 117 [.slc (rws Qh.c l) l.length,.slc (rws Qh.c m) m.length,.fn (.func 118) [] []] H (.ret (bl true)) H:=by
 refine Qt hm Tryz.func117 c117 (by simp) λZ => ?_;simp[i117,r117,hl];refine LI.cong (H':=H++[]) (by simp) (Qwr hl hb rfl hc (λU G => ?_) l.length 0 [] _ (by omega) ?_ ?_ ?_ ?_ ?_)
 . simp;exact Qq 1 Z rfl (by simp)
 all_goals simp[hl]
theorem QBU {l m:List Qc} (hl:m.length=l.length) (hb:l.length<2147483648) {f:SV} (hf:f=.fn (.func 62) [] []) (hc:∀ i (h:i<l.length) (h':i<m.length) (H:ZI),Ok Tryz.prog 62 [.agg l[i].c,.agg m[i].c] H (.ret (bl true)) H) {N:Nat} {K:ZH} (ai:∀ U G,K (.exit 0) U (H++G)) :
 ∀ (k i:Nat) (G:ZI) (U:Env),i+k=l.length->U.get 1=.slc (rws Qc.c m) m.length->U.get 2=f->U.get 15=.slc (rws Qc.c l) l.length->U.get 16=V l.length->U.get 17=V i ->
  LI Tryz.prog N Qf QkQ U (H++G) K:=by
 have hlen:=QaF Qc.c_len l;have hlenm:=QaF Qc.c_len m;subst hf;intro k
 induction k with
 |zero =>
  intro i G U hi h1 h2 h15 h16 h17;refine Qp hm QkQ.eq_1 ?_;have e:i=l.length:=by omega
  subst e;simp[h1,h2,h15,h16,h17];exact ai _ _
 |succ k ih =>
  intro i G U hi h1 h2 h15 h16 h17;refine Qp hm QkQ.eq_1 ?_;have hlt:i<l.length:=by omega
  have ax:(i:Int)<l.length:=by omega
  have hltm:i<m.length:=by omega
  have hltm':(i:Int)<m.length:=by omega
  have g1:((rws Qc.c l).drop (i*12)).take 12=l[i].c:=by rw[Qej Qc.c_len hlt,VP (Qc.c_len _)]
  have g2:((rws Qc.c m).drop (i*12)).take 12=m[i].c:=by rw[Qej Qc.c_len hltm,VP (Qc.c_len _)]
  have hcc:=hc i hlt hltm;generalize l[i]=a at g1 hcc;generalize m[i]=b at g2 hcc;have ha:=Qc.c_len a;have hb':=Qc.c_len b;have ta:List.take 12 a.c=a.c:=VD (V0 ha);have tb:List.take 12 b.c=b.c:=VD (V0 hb');simp[h1,h2,h15,h16,h17,ax,hltm',g1,g2,hlen,hlenm,ha,hb',ta,tb];refine⟨by omega,by omega,Qb (hcc _) ?_⟩;simp[h1,h2,h15,h16,h17];refine LI.cong (H':=H++(G++[⟨a.c,78,0,true⟩,⟨b.c,78,0,true⟩])) (by simp) (ih (i+1) _ _ (by omega) ?_ ?_ ?_ ?_ ?_);all_goals simp[Qaj (show i<9223372036854775807 by omega)]
theorem ok61 {l m:List Qc} (hl:m.length=l.length) (hb:l.length<2147483648) (hc:∀ i (h:i<l.length) (h':i<m.length) (H:ZI),Ok Tryz.prog 62 [.agg l[i].c,.agg m[i].c] H (.ret (bl true)) H) :
 Ok Tryz.prog 61 [.slc (rws Qc.c l) l.length,.slc (rws Qc.c m) m.length,.fn (.func 62) [] []] H (.ret (bl true)) H:=by
 refine Qt hm Tryz.func61 c61 (by simp) λZ => ?_;simp[i61,r61,hl];refine LI.cong (H':=H++[]) (by simp) (QBU hl hb rfl hc (λU G => ?_) l.length 0 [] _ (by omega) ?_ ?_ ?_ ?_ ?_)
 . simp;exact Qq 1 Z rfl (by simp)
 all_goals simp[hl]
theorem QCf {l m:List Qn} (hl:m.length=l.length) (hb:l.length<2147483648) {f:SV} (hf:f=.fn (.func 59) [] []) (hc:∀ i (h:i<l.length) (h':i<m.length) (H:ZI),Ok Tryz.prog 59 [.agg l[i].c,.agg m[i].c] H (.ret (bl true)) H) {N:Nat} {K:ZH} (ai:∀ U G,K (.exit 0) U (H++G)) :
 ∀ (k i:Nat) (G:ZI) (U:Env),i+k=l.length->U.get 1=.slc (rws Qn.c m) m.length->U.get 2=f->U.get 15=.slc (rws Qn.c l) l.length->U.get 16=V l.length->U.get 17=V i ->
  LI Tryz.prog N Qf Qlv U (H++G) K:=by
 have hlen:=QaF Qn.c_len l;have hlenm:=QaF Qn.c_len m;subst hf;intro k
 induction k with
 |zero =>
  intro i G U hi h1 h2 h15 h16 h17;refine Qp hm Qlv.eq_1 ?_;have e:i=l.length:=by omega
  subst e;simp[h1,h2,h15,h16,h17];exact ai _ _
 |succ k ih =>
  intro i G U hi h1 h2 h15 h16 h17;refine Qp hm Qlv.eq_1 ?_;have hlt:i<l.length:=by omega
  have ax:(i:Int)<l.length:=by omega
  have hltm:i<m.length:=by omega
  have hltm':(i:Int)<m.length:=by omega
  have g1:((rws Qn.c l).drop (i*3)).take 3=l[i].c:=by rw[Qej Qn.c_len hlt,VP (Qn.c_len _)]
  have g2:((rws Qn.c m).drop (i*3)).take 3=m[i].c:=by rw[Qej Qn.c_len hltm,VP (Qn.c_len _)]
  have hcc:=hc i hlt hltm;generalize l[i]=a at g1 hcc;generalize m[i]=b at g2 hcc;have ha:=Qn.c_len a;have hb':=Qn.c_len b;have ta:List.take 3 a.c=a.c:=VD (V0 ha);have tb:List.take 3 b.c=b.c:=VD (V0 hb');simp[h1,h2,h15,h16,h17,ax,hltm',g1,g2,hlen,hlenm,ha,hb',ta,tb];refine⟨by omega,by omega,Qb (hcc _) ?_⟩;simp[h1,h2,h15,h16,h17];refine LI.cong (H':=H++(G++[⟨a.c,75,0,true⟩,⟨b.c,75,0,true⟩])) (by simp) (ih (i+1) _ _ (by omega) ?_ ?_ ?_ ?_ ?_);all_goals simp[Qaj (show i<9223372036854775807 by omega)]
theorem ok60 {l m:List Qn} (hl:m.length=l.length) (hb:l.length<2147483648) (hc:∀ i (h:i<l.length) (h':i<m.length) (H:ZI),Ok Tryz.prog 59 [.agg l[i].c,.agg m[i].c] H (.ret (bl true)) H) :
 Ok Tryz.prog 60 [.slc (rws Qn.c l) l.length,.slc (rws Qn.c m) m.length,.fn (.func 59) [] []] H (.ret (bl true)) H:=by
 refine Qt hm Tryz.func60 c60 (by simp) λZ => ?_;simp[i60,r60,hl];refine LI.cong (H':=H++[]) (by simp) (QCf hl hb rfl hc (λU G => ?_) l.length 0 [] _ (by omega) ?_ ?_ ?_ ?_ ?_)
 . simp;exact Qq 1 Z rfl (by simp)
 all_goals simp[hl]
end
mutual
theorem Qvh:∀ e:Ex,e.prp->e.sm
 |.mk op n nm l p,h=>by
  have:=QoX h;unfold Ex.sm;exact⟨this.1,Qs4 l this.2⟩
theorem Qs4:∀ l:List Ex,(∀ e∈l,e.prp)->Ex.smL l
 |[],_=>trivial
 |e::r,h=>⟨Qvh e (h e (by simp)),Qs4 r λx hx=>h x (by simp[hx])⟩
end
section
variable {H:ZI}
theorem Qi1 {l m:List Ex} (hlm:Ex.erL l=Ex.erL m) (h:QbB l):Ok Tryz.prog 74 [an l,an m] H (.ret (bl true)) H:=ok74 hlm h.len (λe he=>Qvh e (h.prp e he)) h.cst
def m161:IC :=
 (.seq
  (.reg [
    ⟨(some 2),none,.e (.box 91 (.t 0))⟩,
    ⟨(some 3),none,.e (.box 91 (.t 1))⟩,
    ⟨(some 4),none,.p (.mov (.c (bl false)))⟩])
  (.seq
   (.reg [
     ⟨(some 5),none,.p (.fa 0 (.t 2))⟩,
     ⟨(some 6),none,.p (.ld1 (.t 5))⟩,
     ⟨(some 7),none,.p (.fa 0 (.t 3))⟩,
     ⟨(some 8),none,.p (.ld1 (.t 7))⟩,
     ⟨(some 9),none,.p (.bin .eql .s (.t 6) (.t 8))⟩,
     ⟨(some 10),none,.p (.mov (.t 9))⟩,
     ⟨(some 11),(some (10,true)),.p (.fa 1 (.t 2))⟩,
     ⟨(some 12),(some (10,true)),.p (.ldn 5 (.t 11))⟩,
     ⟨(some 13),(some (10,true)),.e (.bsl 25 5 1 [V 0,V 0,st ⟨#[]⟩,.val (.slice none 0 0),V 0] [(0,(.t 12))])⟩,
     ⟨(some 14),(some (10,true)),.p (.fa 1 (.t 3))⟩,
     ⟨(some 15),(some (10,true)),.p (.ldn 5 (.t 14))⟩,
     ⟨(some 16),(some (10,true)),.e (.bsl 25 5 1 [V 0,V 0,st ⟨#[]⟩,.val (.slice none 0 0),V 0] [(0,(.t 15))])⟩,
     ⟨(some 17),(some (10,true)),.e (.call (.c (.fn (.func 74) [] [])) [(.t 13),(.t 16)])⟩,
     ⟨(some 18),none,.p (.pick (.t 10) (.t 17) (.c (bl false)))⟩,
     ⟨(some 4),none,.p (.mov (.t 18))⟩])
   .ret))
theorem d161:Qdn Tryz.prog Qf Tryz.f161 m161 r161=true:=by kernel_rfl
theorem QxM {a b:Ql} (he:a.er=b.er) (ha:a.prp):Ok Tryz.prog 161 [.agg a.c,.agg b.c] H (.ret (bl true)) H:=by
 obtain⟨nm,e,p⟩:=a;obtain⟨nm',e',p'⟩:=b;simp only[Ql.er,Ql.mk.injEq]at he;obtain⟨rfl,he,_⟩:=he;have h74:=λH=>(Qi1 (H:=H) (l:=[e]) (m:=[e']) (by simp only[Ex.erL,he]) ha.e).toP;have hex:∀ e,an [e]=.slc e.c 1:=λe=>by simp[an,Ex.cL]
 rw[hex,hex]at h74;have hce:=Ex.c_len e;have hce':=Ex.c_len e';have ht:∀ L,(e.c++L).take 5=e.c:=λL=>VP hce;have ht':∀ L,(e'.c++L).take 5=e'.c:=λL=>VP hce';have hok:=Ex.okc e;have hok':=Ex.okc e';have hcc:e.c.take 5=e.c:=by rw[<-hce,VI]
 have hcc':e'.c.take 5=e'.c:=by rw[<-hce',VI]
 have hcs:∀ (nm:ZG) (e:Ex) (p:Int),Ql.c ⟨nm,e,p⟩=st (B nm)::(e.c++[V p]):=λ_ _ _=>rfl;refine Qt hm Tryz.func161 d161 (by simp) λZ => ?_;rw[hcs,hcs]at *;generalize e.c=ec at *;generalize e'.c=ec' at *;simp[m161,r161,ht,ht',hok,hok',hce,hce'];refine QQ (OkP.give (H.length+2) 1 (o:=⟨ec,25,0,true⟩) (by simp) rfl (OkP.give (H.length+3) 1 (o:=⟨ec',25,0,true⟩) (by simp) rfl (OkP.cast (by simp[hcc,hcc',hce,hce']) rfl (h74 _)))) ?_;rintro out H' ⟨rfl,rfl⟩;simp;exact Qq 3 Z rfl (by simp)
theorem ok29 {a b:Ex} (he:a.er=b.er) (ha:a.sm) (hc:QcN a<1000000000-1):Ok Tryz.prog 29 [.agg a.c,.agg b.c] H (.ret (bl true)) H:=by
 have h74:=λH=>(ok74 (H:=H) (l:=[a]) (m:=[b]) (by simp only[Ex.erL,he]) (by simp) (by simpa using ha) (by simp only[Qap]; omega)).toP;have hex:∀ e,an [e]=.slc e.c 1:=λe=>by simp[an,Ex.cL]
 rw[hex,hex]at h74;have hce:=Ex.c_len a;have hce':=Ex.c_len b;have hok:=Ex.okc a;have hok':=Ex.okc b;have hcc:a.c.take 5=a.c:=by rw[<-hce,VI]
 have hcc':b.c.take 5=b.c:=by rw[<-hce',VI]
 refine Qt hm Tryz.func29 c29 (by simp) λZ => ?_;generalize a.c=ec at *;generalize b.c=ec' at *;simp[i29,r29,hok,hok',hce,hce',hcc,hcc'];refine QQ (OkP.give (H.length+2) 1 (o:=⟨ec,25,0,true⟩) (by simp) rfl (OkP.give (H.length+3) 1 (o:=⟨ec',25,0,true⟩) (by simp) rfl (OkP.cast (by simp[hcc,hcc',hce,hce']) rfl (h74 _)))) ?_;rintro out H' ⟨rfl,rfl⟩;simp;exact Qq 3 Z rfl (by simp)
theorem QCN {a b:Qh} (he:a.er=b.er) (ha:a.prp):Ok Tryz.prog 118 [.agg a.c,.agg b.c] H (.ret (bl true)) H:=by
 obtain⟨nm,wh,hid,sets,go,p⟩:=a;obtain⟨nm',wh',hid',sets',go',p'⟩:=b;simp only[Qh.er,Qh.mk.injEq]at he;obtain⟨rfl,hw,rfl,hs,rfl,_⟩:=he;have h74:=λH=>Qi1 (H:=H) hw ha.wh;have hsl:sets'.length=sets.length:=by simpa using (Zt List.length hs).symm
 have h162:=λH=>QBf (H:=H) (l:=sets) (m:=sets') hsl (by have:=ha.len; simp only at this; omega) λi h h' H=>QxM (by
  have:=Zt (λl=>l[i]?) hs;simpa[h,h']using this) (ha.sets _ (Vp h))
 refine Qt hm Tryz.func118 c118 (by simp) λZ => ?_;simp[i118,r118,Qh.c];refine⟨rfl,rfl,QL (r:=bl true) (λ_=>by simpa[SV.strip,an]using h74 _) ?_⟩;simp;refine QL (r:=bl true) (λ_=>by simpa[SV.strip]using h162 _) ?_;simp;exact Qq 3 Z rfl (by simp)
theorem ok59 {a b:Qn} (he:a.er=b.er):Ok Tryz.prog 59 [.agg a.c,.agg b.c] H (.ret (bl true)) H:=by
 obtain⟨nm,n,p⟩:=a;obtain⟨nm',n',p'⟩:=b;simp only[Qn.er,Qn.mk.injEq]at he;obtain⟨rfl,rfl,_⟩:=he;refine Qt hm Tryz.func59 c59 (by simp[Qn.c]) λZ => ?_;simp[i59,r59,Qn.c];exact Qq 3 Z rfl (by simp)
theorem QDx {l:List Int} (hb:l.length<2147483648) {N:Nat} {K:ZH} (ai:∀ U,K (.exit 0) U H) :
 ∀ (k i:Nat) (U:Env),i+k=l.length->U.get 0=.slc (QE l) l.length->U.get 1=.slc (QE l) l.length->U.get 12=V l.length->U.get 13=V i->LI Tryz.prog N Qf Qmb U H K:=by
 have hlen:(QE l).length=l.length:=by simp[QE]
 intro k
 induction k with
 |zero =>
  intro i U hi h0 h1 h12 h13;refine Qp hm Qmb.eq_1 ?_;have e:i=l.length:=by omega
  subst e;simp[h0,h1,h12,h13];exact ai _
 |succ k ih =>
  intro i U hi h0 h1 h12 h13;refine Qp hm Qmb.eq_1 ?_;have hlt:i<l.length:=by omega
  have ax:(i:Int)<l.length:=by omega
  have hg:∀ h,(QE l)[i]'(h)=V l[i]:=λh=>by simp[QE]
  simp[h0,h1,h12,h13,hlt,ax,hg,hlen];refine⟨by omega,ih (i+1) _ (by omega) ?_ ?_ ?_ ?_⟩;all_goals simp[Qaj (show i<9223372036854775807 by omega)]
theorem QBg {l:List Int} (hb:l.length<2147483648):Ok Tryz.prog 116 [.slc (QE l) l.length,.slc (QE l) l.length] H (.ret (bl true)) H:=by
 refine Qt hm Tryz.func116 c116 (by simp) λZ => ?_;simp[i116,r116];refine QDx hb (λU => ?_) l.length 0 _ (by omega) ?_ ?_ ?_ ?_
 . simp;exact Qi
 all_goals simp
theorem Qgk:QbB []:=⟨by simp,λe he=>by simp at he,by simp[Qap]⟩
theorem QBD {x:Qc} (h:x.prp):QbB x.wt/\QbB x.who/\QbB x.pays/\(∀ a∈x.acts,a.prp)/\x.acts.length<2147483648/\x.seen.length<2147483648:=by
 rcases h.kd with ⟨_,hd,h1,h2,h3⟩|⟨_,ht⟩|⟨_,he⟩
 . rw[h1,h2,h3]; exact⟨hd.wt,Qgk,Qgk,λa ha=>by simp at ha,by simp,hd.len⟩
 . rw[ht.wt,ht.pays,ht.seen]; exact⟨Qgk,ht.who,Qgk,ht.acts,ht.len,by simp⟩
 . rw[he.wt,he.who,he.acts,he.seen]; exact⟨Qgk,Qgk,he.pays,λa ha=>by simp at ha,by simp,by simp⟩
set_option maxHeartbeats 1000000 in
theorem ok62 {a b:Qc} (he:a.er=b.er) (ha:a.prp):Ok Tryz.prog 62 [.agg a.c,.agg b.c] H (.ret (bl true)) H:=by
 obtain⟨q1,q2,q3,q4,q5,q6⟩:=QBD ha;obtain⟨k,lb,nm,lo,hi,wt,all,seen,who,acts,pays,p⟩:=a;obtain⟨k',lb',nm',lo',hi',wt',all',seen',who',acts',pays',p'⟩:=b;simp only[Qc.er,Qc.mk.injEq]at he;obtain⟨rfl,rfl,rfl,rfl,rfl,hwt,rfl,rfl,hwho,hacts,hpays,_⟩:=he;have h1:=λH=>Qi1 (H:=H) hwt q1;have h2:=λH=>Qi1 (H:=H) hwho q2;have h3:=λH=>Qi1 (H:=H) hpays q3;have hal:acts'.length=acts.length:=by simpa using (Zt List.length hacts).symm
 have h4:=λH=>QCl (H:=H) (l:=acts) (m:=acts') hal q5 λi h h' H=>QCN (by
  have:=Zt (λl=>l[i]?) hacts;simpa[h,h']using this) (q4 _ (Vp h))
 have h5:=λH=>QBg (H:=H) (l:=seen) q6;refine Qt hm Tryz.func62 c62 (by simp) λZ => ?_;simp -implicitDefEqProofs[i62,r62,Qc.c];refine⟨⟨rfl,rfl,rfl⟩,⟨rfl,rfl,rfl⟩,QL (r:=bl true) (λ_=>by simpa[SV.strip]using h5 _) ?_⟩;simp -implicitDefEqProofs;refine QL (r:=bl true) (λ_=>by simpa[SV.strip,an]using h1 _) ?_;simp -implicitDefEqProofs;refine QL (r:=bl true) (λ_=>by simpa[SV.strip,an]using h2 _) ?_;simp -implicitDefEqProofs;refine QL (r:=bl true) (λ_=>by simpa[SV.strip]using h4 _) ?_;simp -implicitDefEqProofs;refine QL (r:=bl true) (λ_=>by simpa[SV.strip,an]using h3 _) ?_;simp -implicitDefEqProofs;exact Qq 3 Z rfl (by simp)
theorem ok23 {a b:Qy} (he:a.er=b.er) (ha:a.prp):Ok Tryz.prog 23 [.agg a.c,.agg b.c] H (.ret (bl true)) H:=by
 have hv:=ha.vlen;have hst:=ha.stages;have hsl:=ha.slen;obtain⟨nm,pl,vars,stages⟩:=a;obtain⟨nm',pl',vars',stages'⟩:=b;simp only[Qy.er,Qy.mk.injEq]at he;obtain⟨rfl,rfl,h1,h2⟩:=he;have hal:vars'.length=vars.length:=by simpa using (Zt List.length h1).symm
 have hbl:stages'.length=stages.length:=by simpa using (Zt List.length h2).symm
 have k1:=λH=>ok60 (H:=H) (l:=vars) (m:=vars') hal hv λi h h' H=>ok59 (by
  have:=Zt (λl=>l[i]?) h1;simpa[h,h']using this)
 have k2:=λH=>ok61 (H:=H) (l:=stages) (m:=stages') hbl hsl λi h h' H=>ok62 (by
  have:=Zt (λl=>l[i]?) h2;simpa[h,h']using this) (hst _ (Vp h))
 refine Qt hm Tryz.func23 c23 (by simp) λZ => ?_;simp[i23,r23,Qy.c];refine QL (r:=bl true) (λ_=>by simpa[SV.strip]using k1 _) ?_;simp;refine QL (r:=bl true) (λ_=>by simpa[SV.strip]using k2 _) ?_;simp;exact Qq 3 Z rfl (by simp)
end
def rep (s:ZG):Nat->ZG
 |0=>[]
 |n+1=>rep s n++s
theorem Qbd (s:ZG):∀ n,(rep s n).length=n*s.length
 |0=>by simp[rep]
 |n+1=>by rw[rep,Vj,Qbd s n,YK]
mutual
def Qje:Ex->Bool
 |.mk op n nm l p=>Qda (.mk op n nm l p)&&decide (nm.length<100000)&&QiV l
def QiV:List Ex->Bool
 |[]=>true
 |e::r=>Qje e&&QiV r
end
mutual
theorem QmB:∀ {e:Ex},Qje e=true->e.prp
 |.mk op n nm l p,h=>by
  unfold Qje at h;simp only[Va,Zs]at h;obtain⟨⟨h1,h2⟩,h3⟩:=h;unfold Ex.prp;refine⟨h1,by omega,λho => ?_,QmP h3⟩;subst ho;simp only[Qda,Zv,Va,Zs]at h1;exact Qft h1.2.1 (by omega)
theorem QmP:∀ {l:List Ex},QiV l=true->Ex.prpL l
 |[],_=>by simp[Ex.prpL]
 |e::r,h=>by
  unfold QiV at h;simp only[Va]at h;unfold Ex.prpL;exact⟨QmB h.1,QmP h.2⟩
end
section
variable {H:ZI}
theorem Qid {tx:ZG} {e p:Int} (hl:tx.length<4611686018427387904) (hr:Qz tx=(zE,e,p)):Ok Tryz.prog 18 [st (B tx),V e,V p] H (.ret (bl true)) H:=by
 have h11:=λH=>Qhv (H:=H) (l:=tx) hl;have h13:=λH=>Qne zE QdW H;rw[hr]at h11;refine Qt hm Tryz.func18 c18 (by simp) λZ => ?_;simp -implicitDefEqProofs[i18,r18];refine Qb (h11 _) ?_;simp -implicitDefEqProofs[zE,Ex.v,Ex.c,QG];refine QL (r:=bl true) (λ_=>(OkP.le ?_ (h13 _).toP).toOk) ?_
 . simp only[zE,Ex.v,Ex.cL,Ex.c,List.map,SV.strip,VH];repeat first
    |exact leL.nil
    |refine leL.cons ?_ ?_
    |exact SV.le.refl _
    |exact QdA
    |refine QiK ?_ _
    |refine QeW ?_
 simp -implicitDefEqProofs;exact Qq 3 Z rfl (by simp)
theorem QCF {s:ZG} {n:Nat} (hn:n<2147483648) (hL:n*s.length<=140737488355328) {N:Nat} {K:ZH} (ai:∀ U,U.get 5=st (B (rep s n))->K (.exit 0) U H) :
 ∀ (m i:Nat) (U:Env),i+m=n->U.get 0=st (B s)->U.get 1=V n->U.get 5=st (B (rep s i))->U.get 6=V i->LI Tryz.prog N Qf QkV U H K:=by
 intro m
 induction m with
 |zero =>
  intro i U hi h0 h1 h5 h6;refine Qp hm QkV.eq_1 ?_;have e:i=n:=by omega
  subst e;simp[h0,h1,h5,h6];exact ai _ (by simp)
 |succ m ih =>
  intro i U hi h0 h1 h5 h6;refine Qp hm QkV.eq_1 ?_;have hlt:i<n:=by omega
  have ax:(i:Int)<n:=by omega
  simp[h0,h1,h5,h6,ax];have hb:(rep s i).length+s.length<=140737488355328:=by
   rw[Qbd,<- YK];exact Vf (YV _ (by omega)) hL
  refine⟨by omega,ih (i+1) _ (by omega) ?_ ?_ ?_ ?_⟩;all_goals simp[rep,Qaj (show i<9223372036854775807 by omega)]
theorem Qd6 (s:ZG) {n:Nat} (hn:n<2147483648) (hL:n*s.length<=140737488355328):Ok Tryz.prog 19 [st (B s),V n] H (.ret (st (B (rep s n)))) H:=by
 refine Qt hm Tryz.func19 c19 (by simp) λZ => ?_;simp[i19,r19];refine QCF (s:=s) hn hL (λU h5 => ?_) n 0 _ (by omega) (by simp) (by simp) (by simp[rep]) (by simp);simp[h5];exact Qi
end
mutual
theorem prp_er:∀ {a b:Ex},a.er=b.er->b.prp->a.prp
 |.mk op n nm l p,.mk op' n' nm' l' p',h,hb=>by
  simp only[Ex.er,Ex.mk.injEq]at h;obtain⟨rfl,rfl,rfl,hl,_⟩:=h;unfold Ex.prp at hb ⊢;obtain⟨h1,h2,h3,h4⟩:=hb;have hle:=Qc0 hl;have hn:l=[]↔l'=[]:=by rw[<-Yh,<- Yh,hle]
  refine⟨?_,h2,h3,Qoj hl h4⟩;simp only[Qda,hle,ZE.2 hn]at h1 ⊢;exact h1
theorem Qoj:∀ {a b:List Ex},Ex.erL a=Ex.erL b->Ex.prpL b->Ex.prpL a
 |[],_,_,_=>trivial
 |x::a,[],h,_=>by simp[Ex.erL]at h
 |x::a,y::b,h,hb=>by
  simp only[Ex.erL,List.cons.injEq]at h;exact⟨prp_er h.1 hb.1,Qoj h.2 hb.2⟩
end
mutual
theorem QrH:∀ {a b:Ex},a.er=b.er->QcN a=QcN b
 |.mk op n nm l p,.mk op' n' nm' l' p',h=>by
  simp only[Ex.er,Ex.mk.injEq]at h;unfold QcN;exact QmJ h.2.2.2.1
theorem QmJ:∀ {a b:List Ex},Ex.erL a=Ex.erL b->Qap a=Qap b
 |[],[],_=>rfl
 |[],y::b,h=>by simp[Ex.erL]at h
 |x::a,[],h=>by simp[Ex.erL]at h
 |x::a,y::b,h=>by
  simp only[Ex.erL,List.cons.injEq]at h;unfold Qap;rw[QrH h.1,QmJ h.2]
end
theorem QbB.er {a b:List Ex} (h:Ex.erL a=Ex.erL b) (hb:QbB b):QbB a :=
 ⟨by rw[Qc0 h]; exact hb.len,Qg4.1 (Qoj h (Qg4.2 hb.prp)),by rw[QmJ h]; exact hb.cst⟩
theorem QjN {α β:Type} {f:α->β} {P:α->Prop} {l m:List α} (h:l.map f=m.map f) (hp:∀ a b,f a=f b->P b->P a) (hm:∀ x∈m,P x):∀ x∈l,P x:=by
 intro x hx;obtain⟨i,hi,rfl⟩:=Y3 hx;have hl:l.length=m.length:=by simpa using Zt List.length h
 have:=Zt (λl=>l[i]?) h;exact hp _ (m[i]'(by omega)) (by simpa[hi,show i<m.length by omega]using this) (hm _ (Vp _))
theorem Qgf {α β:Type} {f:α->β} {l m:List α} (h:l.map f=m.map f):l.length=m.length:=by simpa using Zt List.length h
theorem Ql.prp_er {a b:Ql} (h:a.er=b.er) (hb:b.prp):a.prp:=by
 simp only[Ql.er,Ql.mk.injEq]at h;exact⟨by rw[h.1]; exact hb.nm,hb.e.er (by simp only[Ex.erL,h.2.1])⟩
theorem Qh.prp_er {a b:Qh} (h:a.er=b.er) (hb:b.prp):a.prp:=by
 simp only[Qh.er,Qh.mk.injEq]at h;obtain⟨h1,h2,h3,h4,h5,_⟩:=h;exact⟨by rw[h1]; exact hb.nm,by rw[Qc0 h2]; exact hb.wh1,hb.wh.er h2,QjN h4 (λ_ _=>Ql.prp_er) hb.sets,by rw[Qgf h4]; exact hb.len,by rw[h5]; exact hb.go⟩
theorem QhV {a b:List Ex} (h:Ex.erL a=Ex.erL b) (hb:b=[]):a=[]:=Yh.1 (by rw[Qc0 h,hb]; rfl)
theorem QtZ {α β:Type} {f:α->β} {l m:List α} (h:l.map f=m.map f) (hb:m=[]):l=[]:=Yh.1 (by rw[Qgf h,hb]; rfl)
theorem Qc.prp_er {a b:Qc} (h:a.er=b.er) (hb:b.prp):a.prp:=by
 simp only[Qc.er,Qc.mk.injEq]at h;obtain⟨e1,e2,e3,e4,e5,e6,e7,e8,e9,e10,e11,_⟩:=h;refine⟨by rw[e2]; exact hb.lb,?_⟩;rcases hb.kd with ⟨k,d,h1,h2,h3⟩|⟨k,t⟩|⟨k,e⟩
 . exact .inl ⟨by rw[e1]; exact k,⟨by rw[e3]; exact d.nm,by rw[e4]; exact d.lo,by rw[e5]; exact d.hi,by rw[e8]; exact d.seen,by rw[e8]; exact d.len,by rw[Qc0 e6]; exact d.wt1,d.wt.er e6,by rw[e7,e8]; exact d.all⟩,QhV e9 h1,QtZ e10 h2,QhV e11 h3⟩
 . exact .inr (.inl ⟨by rw[e1]; exact k,⟨by rw[Qc0 e9]; exact t.who1,t.who.er e9,by rw[Qgf e10]; exact t.acts0,QjN e10 (λ_ _=>Qh.prp_er) t.acts,by rw[Qgf e10]; exact t.len,by rw[e3]; exact t.nm,by rw[e4]; exact t.lo,by rw[e5]; exact t.hi,QhV e6 t.wt,by rw[e7]; exact t.all,by rw[e8]; exact t.seen,QhV e11 t.pays⟩⟩)
 . exact .inr (.inr ⟨by rw[e1]; exact k,⟨by rw[Qc0 e11]; exact e.pays0,e.pays.er e11,by rw[e3]; exact e.nm,by rw[e4]; exact e.lo,by rw[e5]; exact e.hi,QhV e6 e.wt,by rw[e7]; exact e.all,by rw[e8]; exact e.seen,QhV e9 e.who,QtZ e10 e.acts⟩⟩)
theorem Qn.prp_er {a b:Qn} (h:a.er=b.er) (hb:b.prp):a.prp:=by
 simp only[Qn.er,Qn.mk.injEq]at h;exact⟨by rw[h.1]; exact hb.nm,by rw[h.2.1]; exact hb.lo,by rw[h.2.1]; exact hb.hi⟩
theorem Qy.prp_er {a b:Qy} (h:a.er=b.er) (hb:b.prp):a.prp:=by
 simp only[Qy.er,Qy.mk.injEq]at h;obtain⟨h1,h2,h3,h4⟩:=h;exact⟨by rw[h1]; exact hb.nm,by rw[h2]; exact hb.pl,QjN h3 (λ_ _=>Qn.prp_er) hb.vars,by rw[Qgf h3]; exact hb.vlen,QjN h4 (λ_ _=>Qc.prp_er) hb.stages,by rw[Qgf h4]; exact hb.slen,by rw[Qgf h4]; exact hb.s0⟩
def okE (e:Ex):Bool:=Qje e&&decide (QcN e<=1000)
theorem Qh8 {l:List Ex} (hl:l.length<=100) (h:l.all okE=true):QbB l:=by
 have h2:=Vi.1 h;refine⟨hl,λe he=>QmB (by have:=h2 e he; unfold okE at this; rw[Va]at this; exact this.1),?_⟩;have key:∀ l:List Ex,(∀ e∈l,okE e=true)->Qap l<=1+1000*l.length:=by
  intro l
  induction l with
  |nil=>intro _; simp[Qap]
  |cons x r ih =>
   intro h;have h1:=h x (by simp);have h3:=ih λe he=>h e (by simp[he]);unfold okE at h1;simp only[Va,Zs]at h1;unfold Qap;simp only[Vh];omega
 have:=key l h2;omega
theorem Qt1:QgM 8 3 (λg=>okE (exE g))=true:=by kernel_rfl
theorem QA8:QgM 4 3 (λg=>okE (cdE g))=true:=by kernel_rfl
theorem Qsb:QgM 4 3 (λg=>upto 3 λp=>okE (QfW (some g) p)&&okE (QfW none p))=true:=by kernel_rfl
theorem Qyg:upto 4 (λw=>upto 3 λx=>(wgE w x).all okE)=true:=by kernel_rfl
theorem QBm:upto 10 (λi=>QaR (vN i)&&(QaR (sN i)&&(QaR (gN i)&&QaR (aN i))))=true:=by kernel_rfl
theorem Qkc {s:ZG} (h:QaR s=true):Qcy s:=by
 refine⟨?_,h⟩;have:=(Qic h).1.2.2.2;omega
theorem Qfe {i:Nat} (h:i<10):Qcy (vN i)/\Qcy (sN i)/\Qcy (gN i)/\Qcy (aN i):=by
 have:=QbN QBm h;simp only[Va]at this;exact⟨Qkc this.1,Qkc this.2.1,Qkc this.2.2.1,Qkc this.2.2.2⟩
theorem QCp {s:Nat×GX} {v:Nat} (hv:v<=3) (h:s.1<v/\s.2.Wf v 8):(Qgi s).prp :=
 ⟨(Qfe (by omega)).1,Qh8 (by simp) (by simpa[Qgi]using QgJ Qt1 hv h.2)⟩
theorem QBw {k v i n:Nat} {g:GA} (hk:k<10) (hv:v<=3) (hn:n<=4) (h:g.Wf v i n):(QeB k g).prp:=by
 refine⟨(Qfe hk).2.2.2,?_,?_,?_,?_,?_⟩
 . unfold QeB whL; cases g.wh<;>simp
 . unfold QeB whL
   cases hw:g.wh with
   |none=>exact Qgk
   |some c=>exact Qh8 (by simp) (by simpa using QgJ QA8 hv (h.wh c hw))
 . intro s hs;obtain⟨x,hx,rfl⟩:=VC.1 hs;exact QCp hv (h.sets x hx)
 . have:=h.len; simp[QeB]; omega
 . unfold QeB goN
   cases hg:g.go with
   |none=>exact .inl rfl
   |some t=>exact .inr (Qfe (by have:=h.go t hg; omega)).2.1
theorem Qqt {v i n:Nat} (hv:v<=3) (hn:n<=4):∀ (l:List GA) (k:Nat),k+l.length<=10->(∀ a∈l,a.Wf v i n)->(∀ a∈Qde k l,a.prp)/\(Qde k l).length=l.length
 |[],k,_,_=>⟨λa ha=>by simp[Qde]at ha,rfl⟩
 |g::r,k,hl,h=>by
  simp only[Vh]at hl;obtain⟨h1,h2⟩:=Qqt hv hn r (k+1) (by omega) λa ha=>h a (by simp[ha]);refine⟨λa ha => ?_,by simp[Qde,h2]⟩;rcases Vd.1 ha with rfl|ha
  . exact QBw (by omega) hv hn (h g (by simp))
  . exact h1 a ha
theorem QxK {pl v n i:Nat} {g:GS} (hi:i<10) (hv:v<=3) (hn:n<=4) (hp:pl<=3) (h:g.Wf pl v n i):(QeD i g).prp:=by
 cases g with
 |deal x r w s p =>
  obtain⟨h1,h2,h3,h4,h5⟩:=h;have hw1:(wgE w x).length<=100:=by
   unfold wgE;repeat' split
   all_goals simp
  have hw:QbB (wgE w x):=Qh8 hw1 (QbN (QbN Qyg h3) (by omega));refine⟨.inr (Qfe hi).2.1,.inl ⟨rfl,⟨(Qfe (by omega)).1,?_,?_,?_,?_,?_,hw,?_⟩,rfl,rfl,rfl⟩⟩
  . show(0:Int)<=(loV r:Int)/\(loV r:Int)<=1000000000;unfold loV; split<;>(try split)<;>omega
  . show(0:Int)<=(hiV r:Int)/\(hiV r:Int)<=1000000000;unfold hiV; split<;>(try split)<;>omega
  . intro m hm;have hm:m∈(if s=1 then [(p:Int)]else []):=hm;split at hm
    . simp at hm; omega
    . simp at hm
  . show(if s=1 then [(p:Int)]else []).length<_;split<;>simp
  . show(wgE w x).length<=1;unfold wgE; repeat' split
    all_goals simp
  . intro ha;have ha:decide (s=0)=true:=ha;show(if s=1 then [(p:Int)]else [])=[];rw[Zs]at ha;rw[Zq (by omega)]
 |turn w p acts =>
  obtain⟨h1,h2,h3,h4,h5⟩:=h;obtain⟨k1,k2⟩:=Qqt hv hn acts 0 (by omega) h5;have hw:QbB [QfW w p]:=Qh8 (by simp) (by
   cases w with
   |none =>
    have:GX.Wf 3 4 ⟨0,0,0⟩:=⟨by decide,by decide,by decide⟩;have:=QbN (QgJ Qsb (Vb 3) this) (show p<3 by omega);rw[Va]at this;simpa using this.2
   |some g =>
    have:=QbN (QgJ Qsb hv (h1 g rfl)) (show p<3 by omega);rw[Va]at this;simpa using this.1)
  exact⟨.inr (Qfe hi).2.1,.inr (.inl ⟨rfl,⟨rfl,hw,by show 0<(Qde 0 acts).length; omega,k1,by show(Qde 0 acts).length<_; omega,rfl,rfl,rfl,rfl,rfl,rfl,rfl⟩⟩)⟩
theorem QrA {pl v n:Nat} (hv:v<=3) (hn:n<=4) (hp:pl<=3):∀ (l:List GS) (i:Nat),i+l.length<=10->Qf0 pl v n i l->(∀ x∈Qc8 i l,x.prp)/\(Qc8 i l).length=l.length
 |[],i,_,_=>⟨λa ha=>by simp[Qc8]at ha,rfl⟩
 |g::r,i,hl,h=>by
  simp only[Vh]at hl;obtain⟨h1,h2⟩:=QrA hv hn hp r (i+1) (by omega) h.2;refine⟨λa ha => ?_,by simp[Qc8,h2]⟩;rcases Vd.1 ha with rfl|ha
  . exact QxK (by omega) hv hn hp h.1
  . exact h1 a ha
theorem Qvj:∀ (l:List Nat) (i:Nat),i+l.length<=10->(∀ c∈l,c<4)->(∀ x∈Qdh i l,x.prp)/\(Qdh i l).length=l.length
 |[],i,_,_=>⟨λa ha=>by simp[Qdh]at ha,rfl⟩
 |c::r,i,hl,h=>by
  simp only[Vh]at hl;obtain⟨h1,h2⟩:=Qvj r (i+1) (by omega) λa ha=>h a (by simp[ha]);refine⟨λa ha => ?_,by simp[Qdh,h2]⟩;rcases Vd.1 ha with rfl|ha
  . refine⟨(Qfe (by omega)).1,?_,?_⟩
    . show -1000000000<=QeA c;unfold QeA; repeat' split
      all_goals omega
    . show QeA c<=1000000000;unfold QeA; repeat' split
      all_goals omega
  . exact h1 a ha
theorem Qt6 {g:GR} (h:g.Wf):(Qgx g).prp:=by
 have hs:=h.st4;have hv:=h.v3;have hp:=h.pl3;have hp1:=h.pl1;have hpl:=h.payl;obtain⟨k1,k2⟩:=QrA hv hs hp g.stages 0 (by omega) h.sts;obtain⟨j1,j2⟩:=Qvj g.ini 0 (by have:=h.inl; omega) h.ini;refine⟨(Qfe (by have:=h.nm; omega)).2.2.1,by show(0:Int)<=(g.pl:Int)/\(g.pl:Int)<=_; omega,j1,by show(Qdh 0 g.ini).length<_; have:=h.inl; omega,?_,?_,?_⟩
 . intro x hx;rcases Vt.1 hx with hx|hx
   . exact k1 x hx
   . rw[VX.1 hx];refine⟨.inr (Qfe (by omega)).2.1,.inr (.inr ⟨rfl,⟨?_,Qh8 ?_ ?_,rfl,rfl,rfl,rfl,rfl,rfl,rfl,rfl⟩⟩)⟩
     . show 0<(g.pays.map exE).length;simp; omega
     . show(g.pays.map exE).length<=100;simp; omega
     . rw[Vi];intro e he;obtain⟨x,hx,rfl⟩:=VC.1 he;exact QgJ Qt1 hv (h.pays x hx)
 . show(Qc8 0 g.stages++[_]).length<_;simp[k2]; omega
 . show 0<(Qc8 0 g.stages++[_]).length;simp
theorem QrY:∀ k n:Nat,n<10 ^ (k+1)->QaN k n=Lib.decDigits n
 |0,n,h=>by
  rw[QaN,Lib.decDigits,ZD (by simpa using h)]
 |k+1,n,h=>by
  rw[QaN,Lib.decDigits];by_cases h1:n<10
  . rw[Zq (by omega),ZD h1]
  . rw[Zr (by omega),dif_neg h1,QrY k (n / 10) (by rw[Y8]at h; omega)]
theorem Qgb {n:Int} (h:n<=1000000000):QaC n=Qa6 n.toNat:=(QrY 18 n.toNat (by omega)).symm
theorem pcT (k:TK) (l:List Pc):al (.t k::l)=k.tx++al l:=rfl
theorem pcB (c:UInt8) (l:List Pc):al (.b c::l)=c::al l:=rfl
theorem Qyi (e:Ex):e.opE=e.op:=by cases e; rfl
def Wr (f:ZG->ZG) (ps:List Pc):Prop:=∀ o:ZG,o.length+(al ps).length<=20000->f o=o++al ps
theorem Qy6 {k:Int} {f:ZG->ZG} {ps:List Pc} (hk:18<=k↔Qdm k=true) (h:Wr f ps):Wr (Qct (k,f)) (opP (k,ps)):=by
 intro o ho;unfold Qct;by_cases hc:k=1\/k=2\/18<=k
 . rw[Qg8 hc]at ho ⊢;rw[Zr (by rw[<-hk]; exact hc)];exact h o ho
 . rw[Qi5 hc]at ho ⊢;rw[Zq (by rw[<-hk]; exact hc)];simp only[pcT,TK.tx,QaK,Vj,Vh,VH]at ho;show f (o++[40])++[41]=_;rw[h (o++[40]) (by simp; omega)];simp[TK.tx,QaK,al]
theorem Qnk {op:Int} (h:op<=20):18<=op↔Qdm op=true:=by
 simp only[Qdm,V6,Zs]; omega
theorem Qxh {e:Ex} (h:QaG e=true):1<=e.op/\e.op<=20:=by
 cases e with
 |mk op n nm l p=>exact QgX (QcJ.1 h).1
theorem Qtt:∀ l:List Ex,(∀ e∈l,Wr (az e) (aq e))->∀ o:ZG,o.length+(al ((shL l).flatMap λy=>.t (.sg [44])::.b 32::y.2)).length<=20000 ->
 QbG false (prF l) o=o++al ((shL l).flatMap λy=>.t (.sg [44])::.b 32::y.2)
 |[],_,o,_=>by simp[prF,QbG,shL,al]
 |e::r,h,o,ho=>by
  rw[shL,VO,Vv,Vv,pcT,pcB,QaK]at ho ⊢;simp only[TK.tx,Vj,Vh,VH]at ho;rw[prF,QbG];show QbG false (prF r) (az e (o++[44,32]))=_;rw[h e (by simp) (o++[44,32]) (by simp; omega),Qtt r (λx hx=>h x (by simp[hx])) _ (by simp; omega)];simp[TK.tx]
theorem Qq5 (l:List Ex) (h:∀ e∈l,Wr (az e) (aq e)):Wr (QbG true (prF l)) (lsP (shL l)):=by
 intro o ho
 cases l with
 |nil=>simp[prF,QbG,shL,lsP,al]
 |cons e r =>
  rw[shL,lsP,QaK]at ho ⊢;simp only[Vj]at ho;rw[prF,QbG];show QbG false (prF r) (az e o)=_;rw[h e (by simp) o (by omega),Qtt r (λx hx=>h x (by simp[hx])) _ (by simp; omega)];simp
theorem Qmm (l:List Ex) (h:∀ e∈l,Wr (az e) (aq e)/\e.op<=20) (i:Nat):Wr (Qdo (prF l) i) (ndP (shL l) i):=by
 have h1:(prF l)[i]? = l[i]?.map λe=>(e.opE,az e):=by rw[Qud]; simp
 have h2:∀ l:List Ex,shL l=l.map λe=>(e.op,aq e):=λl=>by
  induction l with
  |nil=>rfl
  |cons e r ih=>rw[shL,ih]; rfl
 have h3:(shL l)[i]? = l[i]?.map λe=>(e.op,aq e):=by rw[h2]; simp
 intro o ho;unfold Qdo;unfold ndP at ho ⊢;rw[h1];rw[h3]at ho ⊢
 cases he:l[i]? with
 |none=>simp[al]
 |some e =>
  rw[he]at ho;have hm:=h e (Vw he);show Qct (e.opE,az e) o=_;rw[Qyi];exact Qy6 (Qnk hm.2) hm.1 o ho
theorem QA4 {op n p:Int} {nm:ZG} {l:List Ex} (hf:QaG (.mk op n nm l p)=true) (h:∀ e∈l,Wr (az e) (aq e)/\e.op<=20):Wr (az (.mk op n nm l p)) (aq (.mk op n nm l p)):=by
 obtain⟨f1,f2,f3,f4,f5,f6,f7⟩:=QcJ.1 hf;obtain⟨g1,g2⟩:=QgX f1;intro o ho;rw[az];show(if _ then _ else _)=_;rw[Zq (by omega)];have hs:aq (.mk op n nm l p)=shK op n nm (shL l):=by rw[aq]
 rw[hs]at ho ⊢;unfold shK at ho ⊢;by_cases h1:op=1
 . rw[Zr h1,Zr h1,Qgb f6]; simp[al,TK.tx]
 rw[Zq h1]at ho ⊢; rw[Zq h1];by_cases h2:op=2
 . rw[Zr h2,Zr h2]; simp[al,TK.tx]
 rw[Zq h2]at ho ⊢; rw[Zq h2];have hL:=λe he=>(h e he).1;by_cases h3:op=3
 . subst h3;rw[Zr rfl,pcT,pcB]at ho ⊢;simp only[TK.tx,Vj,Vh,VH]at ho;show Qdo (prF l) 0 (o++[45]++[32])=_;rw[Qmm l h 0 _ (by simp; omega)];simp[TK.tx]
 rw[Zq h3]at ho ⊢;by_cases h4:op=4
 . subst h4;rw[Zr rfl,pcT,pcB]at ho ⊢;simp only[TK.tx,Vj,Vh,VH]at ho;show Qdo (prF l) 0 (o++[110,111,116]++[32])=_;rw[Qmm l h 0 _ (by simp; omega)];simp[TK.tx]
 rw[Zq h4]at ho ⊢;by_cases h5:18<=op
 . rw[Zr h5,pcT,pcT,QaK]at ho ⊢;simp only[TK.tx,Vj,Vh,VH]at ho;rw[Zr ((Qnk g2).1 h5)];have hw:(QW op).1=Qdx op:=by
    have:op=18\/op=19\/op=20:=by omega
    rcases this with rfl|rfl|rfl<;>rfl
   rw[hw,Qq5 l hL _ (by simp; omega)];simp[TK.tx,al]
 . rw[Zq h5]at ho ⊢;rw[Zq (by rw[<-Qnk g2]; exact h5)];have hb:(QW op).2=2/\(Qbt op).tx=(QW op).1:=by
    have:op=5\/op=6\/op=7\/op=8\/op=9\/op=10\/op=11\/op=12\/op=13\/op=14\/op=15\/op=16\/op=17:=by omega
    rcases this with rfl|rfl|rfl|rfl|rfl|rfl|rfl|rfl|rfl|rfl|rfl|rfl|rfl<;>exact⟨rfl,rfl⟩
   rw[Zq (by rw[hb.1]; decide)];rw[QaK,pcB,pcT,pcB,hb.2]at ho ⊢;simp only[Vj,Vh]at ho;rw[Qmm l h 0 o (by omega),Qmm l h 1 _ (by simp; omega)];simp
mutual
theorem QfD:∀ e:Ex,QaG e=true->Wr (az e) (aq e)
 |.mk op n nm l p,h=>QA4 h (QuZ l (QcJ.1 h).2.2.2.2.2.2)
theorem QuZ:∀ l:List Ex,Qai l=true->∀ e∈l,Wr (az e) (aq e)/\e.op<=20
 |[],_,e,he=>by cases he
 |x::r,h,e,he=>by
  rw[Qai,Va]at h;have h1:=QfD x h.1;have h2:=QuZ r h.2;rcases Vd.1 he with rfl|he
  . exact⟨h1,(Qxh h.1).2⟩
  . exact h2 e he
end
theorem Wr.seq {f g:ZG->ZG} {ps qs:List Pc} (hf:Wr f ps) (hg:Wr g qs):Wr (λo=>g (f o)) (ps++qs):=by
 intro o ho;rw[QaK]at ho ⊢;simp only[Vj]at ho;show g (f o)=_;rw[hf o (by omega),hg _ (by simp; omega),Vr]
theorem Wr.c (ps:List Pc):Wr (λo=>o++al ps) ps:=λ_ _=>rfl
theorem Wr.nil:Wr id []:=λo _=>(VE o).symm
theorem Wr.ite {p:Prop} [Decidable p] {f g:ZG->ZG} {ps qs:List Pc} (hf:p->Wr f ps) (hg:¬ p->Wr g qs):Wr (if p then f else g) (if p then ps else qs):=by
 by_cases h:p
 . rw[Zr h,Zr h]; exact hf h
 . rw[Zq h,Zq h]; exact hg h
theorem Wr.ap {p:Prop} [Decidable p] {f g:ZG->ZG} {ps:List Pc} (h:Wr (if p then f else g) ps):Wr (λo=>if p then f o else g o) ps:=λo ho=>by
 have:=h o ho;split
 . rw[Zr ‹_›]at this; exact this
 . rw[Zq ‹_›]at this; exact this
theorem QiE {α:Type} {f:α->ZG->ZG} {p:α->List Pc}:∀ l:List α,(∀ x∈l,Wr (f x) (p x))->Wr (fW f l) (l.flatMap p)
 |[],_=>λo _=>(VE o).symm
 |x::r,h=>(h x (by simp)).seq (QiE r λy hy=>h y (by simp[hy]))
theorem Qr2 {w:ZG} {f:Ex->ZG->ZG} {l:List Ex} (h1:l.length<=1) (h:∀ e∈l,Wr (f e) (.b 32::.t (.wd w)::.b 32::aq e)):Wr (fW f l) (Qek w l):=by
 match l,h1,h with
 |[],_,_=>exact Wr.nil
 |[e],_,h=>exact h e (by simp)
theorem QEq {s:Ql} (h:QiL s=true):Wr (Qew s) (Qhz s):=by
 unfold QiL at h;rw[Va]at h;exact(Wr.c [.b 32,.t (.wd s.nm),.b 32,.t (.sg [61]),.b 32]).seq ((QfD _ h.2).seq (Wr.c [.t (.sg [59])]))
theorem QlE {l:List Ex} (h:Qai l=true):∀ e∈l,QaG e=true:=by
 induction l with
 |nil=>intro e he; cases he
 |cons x r ih =>
  rw[Qai,Va]at h;intro e he;rcases Vd.1 he with rfl|he
  . exact h.1
  . exact ih h.2 e he
theorem QAb (b:Bool):Wr (Qf3 b) (Qc7 kwH b):=(Wr.ite (p:=b=true) (λ_=>Wr.c [.b 32,.t (.wd kwH)]) (λ_=>Wr.nil)).ap
theorem QAt (g:ZG):Wr (goW g) (QiY g):=(Wr.ite (p:=g=[]) (λ_=>Wr.nil) (λ_=>Wr.c [.b 32,.t (.wd Qgw),.b 32,.t (.wd g),.t (.sg [59])])).ap
theorem QAr {a:Qh} (h:Qiw a=true):Wr (QdJ a) (Qd9 a):=by
 unfold Qiw at h;simp only[Va,Zs]at h;obtain⟨h1,h2,h3,h4,h5⟩:=h;have hs:Wr (fW Qew a.sets) (a.sets.flatMap Qhz):=QiE _ λs hs=>QEq (Vi.1 h5 s hs);have ho:Wr (fW Qd3 a.wh) (Qek Qev a.wh):=Qr2 h2 λe he=>(Wr.c [.b 32,.t (.wd Qev),.b 32]).seq (QfD e (QlE h3 e he));have hx:=(Wr.c [.b 32,.b 32,.t (.wd QeM),.b 32,.t (.wd a.nm)]).seq (ho.seq ((QAb a.hid).seq ((Wr.c [.b 32,.t (.sg [123])]).seq (hs.seq ((Wr.c [.b 32,.t (.sg [125])]).seq ((QAt a.go).seq (Wr.c [.b 10])))))));intro o hl;refine Eq.trans ?_ (hx o hl);have ht:al [.b 32,.b 32,.t (.wd QeM),.b 32,.t (.wd a.nm)]=[32,32,97,99,116,105,111,110,32]++a.nm:=by simp[al,TK.tx,QeM]
 unfold QdJ;rw[ht]; rfl
theorem Qh5 {n:Int} (h:inB n=true):0<=n/\n<=1000000000:=by
 unfold inB at h;simpa using h
theorem Quo:∀ l:List Int,l.all inB=true->Wr (Qca false l) (l.flatMap λm=>[.t (.sg [44]),.b 32,.t (.nm m.toNat)])
 |[],_=>Wr.nil
 |n::r,h=>by
  rw[Yw,Va]at h;have hx:=(Wr.c [.t (.sg [44]),.b 32,.t (.nm n.toNat)]).seq (Quo r h.2);intro o ho;have:=hx o ho;rw[Qca];rw[Qgb (Qh5 h.1).2];refine Eq.trans ?_ this;show Qca false r _=Qca false r _;congr 1;simp[al,TK.tx]
theorem QyI (l:List Int) (h:l.all inB=true):Wr (Qca true l) (Qkh l):=by
 cases l with
 |nil=>exact Wr.nil
 |cons n r =>
  rw[Yw,Va]at h;have hx:=(Wr.c [.b 32,.t (.wd kwS),.b 32,.t (.wd kwB),.b 32,.t (.nm n.toNat)]).seq (Quo r h.2);intro o ho;have:=hx o ho;rw[Qca];rw[Qgb (Qh5 h.1).2];refine Eq.trans ?_ this;show Qca false r _=Qca false r _;congr 1;simp[al,TK.tx,kwS,kwB]
theorem QBI (b:Bool):Wr (Qgq b) (Qj7 b):=(Wr.ite (p:=b=true) (λ_=>Wr.c [.b 32,.t (.wd kwS),.b 32,.t (.wd kwB),.b 32,.t (.wd kwA)]) (λ_=>Wr.nil)).ap
theorem Qyv (s:ZG):Wr (QeN s) (QeS s):=(Wr.ite (p:=s=[]) (λ_=>Wr.nil) (λ_=>Wr.c [.t (.wd s),.t (.sg [58]),.b 32])).ap
theorem QA9 {x:Qc} (h:QhE x=true):Wr (Qcs x) (if x.k=1 then Qn8 x else if x.k=2 then Qjm x else QmR x):=by
 unfold QhE at h;simp only[Va]at h;obtain⟨_,h2,h3,h4,h5⟩:=h;unfold Qcs;refine Wr.ite (λhk => ?_) λhk=>Wr.ite (λhk2 => ?_) λhk2 => ?_
 . rw[Zr hk]at h5;simp only[Va,Zs]at h5;obtain⟨g1,_,_,_,g5,g6,g7,_⟩:=h5;have ho:Wr (fW wtW x.wt) (Qek kwW x.wt):=Qr2 g7 λe he=>(Wr.c [.b 32,.t (.wd kwW),.b 32]).seq (QfD e (QlE h2 e he));have hx:=(Wr.c [.t (.wd kwD),.b 32,.t (.wd x.nm),.b 32,.t (.wd kwI),.b 32,.t (.nm x.lo.toNat),.b 32,.t (.sg [46,46]),.b 32,.t (.nm x.hi.toNat)]).seq (ho.seq ((QBI x.all).seq ((QyI x.seen g1).seq (Wr.c [.t (.sg [59]),.b 10]))));intro o ho;have:=hx o ho;refine Eq.trans ?_ this;unfold Qe3;rw[Qgb (Qh5 g5).2,Qgb (Qh5 g6).2];have ht:al [.t (.wd kwD),.b 32,.t (.wd x.nm),.b 32,.t (.wd kwI),.b 32,.t (.nm x.lo.toNat),.b 32,.t (.sg [46,46]),.b 32,.t (.nm x.hi.toNat)]=[100,101,97,108,32]++(x.nm++([32,105,110,32]++(Qa6 x.lo.toNat++([32,46,46,32]++Qa6 x.hi.toNat)))):=by simp[al,TK.tx,kwD,kwI]
   rw[ht]; rfl
 . rw[Zq hk,Zr hk2]at h5;simp only[Va,Zs]at h5;obtain⟨g1,_,_,g4,_⟩:=h5;have ha:Wr (fW QdJ x.acts) (x.acts.flatMap Qd9):=QiE _ λa ha=>QAr (Vi.1 g1 a ha)
   cases hw:x.who with
   |nil=>rw[hw]at g4; cases g4
   |cons w r =>
    have he:=QlE h3 w (by rw[hw]; simp);have hx:=(Wr.c [.t (.wd kwT),.b 32]).seq ((QfD w he).seq ((Wr.c [.b 32,.t (.sg [123]),.b 10]).seq (ha.seq (Wr.c [.t (.sg [125]),.b 10]))));have ht:Qjm x=[.t (.wd kwT),.b 32]++(aq w++([.b 32,.t (.sg [123]),.b 10]++(x.acts.flatMap Qd9++[.t (.sg [125]),.b 10]))):=by unfold Qjm; rw[hw]; rfl
    rw[ht];exact hx
 . have hp:=Qq5 x.pays λe he=>QfD e (QlE h4 e he);exact(Wr.c [.t (.wd kwE),.b 32,.t (.sg [123]),.b 32,.t (.wd kwP),.b 32]).seq (hp.seq (Wr.c [.t (.sg [59]),.b 32,.t (.sg [125]),.b 10]))
theorem Qw6 {x:Qc} (h:QhE x=true):Wr (QfI x) (QdF x):=(Qyv x.lb).seq (QA9 h)
theorem QEI {v:Qn} (h:Qj2 v=true):Wr (QgK v) (Qib v):=by
 unfold Qj2 at h;simp only[Va,Zs]at h;obtain⟨_,h2,h3⟩:=h;have hn:Wr (QeG v.n) (QjK v.n):=by
  have h1:v.n<0->([45,32]++QaC (-v.n))=al [.t (.sg [45]),.b 32,.t (.nm v.n.natAbs)]:=λhc=>by
   rw[Qgb (by omega),show(-v.n).toNat=v.n.natAbs by omega]; simp[al,TK.tx]
  have h4:¬ v.n<0->QaC v.n=al [.t (.nm v.n.natAbs)]:=λhc=>by
   rw[Qgb h3,show v.n.toNat=v.n.natAbs by omega]; simp[al,TK.tx]
  intro o ho;unfold QeG;unfold QjK;split
  . rw[h1 ‹_›]
  . rw[h4 ‹_›]
 exact(Wr.c [.t (.wd kwV),.b 32,.t (.wd v.nm),.b 32,.t (.sg [61]),.b 32]).seq (hn.seq (Wr.c [.t (.sg [59]),.b 10]))
theorem QAx {r:Qy} (h:QlR r=true):Wr (Qby r) (QgD r):=by
 unfold QlR at h;simp only[Va]at h;obtain⟨_,h2,_,h4,h5⟩:=h;have hx:=(Wr.c [.t (.wd kwG),.b 32,.t (.wd r.nm),.t (.sg [59]),.b 10,.t (.wd Qd4),.b 32,.t (.nm r.pl.toNat),.t (.sg [59]),.b 10]).seq ((QiE r.vars λv hv=>QEI (Vi.1 h4 v hv)).seq (QiE r.stages λx hx=>Qw6 (Vi.1 h5 x hx)));intro o ho;refine Eq.trans ?_ (hx o ho);unfold Qby;rw[Qgb (Qh5 h2).2];have ht:al [.t (.wd kwG),.b 32,.t (.wd r.nm),.t (.sg [59]),.b 10,.t (.wd Qd4),.b 32,.t (.nm r.pl.toNat),.t (.sg [59]),.b 10]=[103,97,109,101,32]++(r.nm++([59,10,112,108,97,121,101,114,115,32]++(Qa6 r.pl.toNat++[59,10]))):=by simp[al,TK.tx,kwG,Qd4]
 rw[ht]
end Go.Proofs.YtmkdpmfhlfhjkaaGreatDoor
