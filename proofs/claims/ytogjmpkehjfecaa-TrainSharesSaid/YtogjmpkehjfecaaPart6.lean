/- Steps of the proof. -/
import Derived.Test.YtogjmpkehjfecaaPart5
import Derived.Test.YtogjmpkehjfecaaPart2
set_option linter.all false
namespace Go.Proofs.Ytogjmpkehjfecaa.Rc
open Go.Ab Go.Ab.Shr Go.Ab.Lm
theorem Qks {n:Nat} (h:n<1000000000000000000000000000):(lim n).length<=3:=Qco (by
 have:B ^ 3=1000000000000000000000000000:=by decide
 omega)
theorem Qeb {neg:Bool} {n d:Nat} (h1:n<1000000000000000000000000000) (h2:d<1000000000000000000000000000) (h0:0<d):(low neg n d).few:=by
 have a1:(low neg n d).n<=n:=Y4 _ _;have a2:(low neg n d).d<=d:=Y4 _ _;have h3:=Qks (n:=(low neg n d).n) (by omega);have h4:=Qks (n:=(low neg n d).d) (by omega);have hg:Nat.gcd n d<=d:=Nat.le_of_dvd h0 (ZR _ _);have hgp:0<Nat.gcd n d:=Y8 _ h0;exact⟨by omega,by omega,Nat.div_pos hg hgp⟩
theorem Qkv {x:Int} {y:Nat} (hx:0<=x):Qbw (decide (x<0)) x.natAbs y=(low false x.toNat y).sv:=by
 rw[Ws (by omega),show x.natAbs=x.toNat by omega]; rfl
theorem QnM {x y:Int} (hx:0<=x) (hy:0<=y):Qfl x y=(low false x.toNat y.toNat).sv:=by
 unfold Qfl;rw[Ws (by omega),Ws (by omega),show x.natAbs=x.toNat by omega,show y.natAbs=y.toNat by omega]; rfl
def shN (r:List Int) (a:Nat):Nat:=if 0<Qg r then(max 0 (r.getD a 0)).toNat*65536 else 65536
def shD (r:List Int):Nat:=if 0<Qg r then(Qg r).toNat else r.length
def exQ (r:List Int) (a:Nat):Qr:=low false (shN r a) (shD r)
def ofQ (r:List Int) (a:Nat) (s:Int):Qr:=((low false s.toNat 1).plus (exQ r a).mi).sz
theorem Qtd {r:List Int} {a:Nat} (ha:a<r.length) {s:Int} (hs:s=(Qp r).getD a 0):(ofQ r a s).ord QdC<0:=by
 obtain⟨h1,h2⟩:=QlG ha;have h3:=(Qer ha).1;rw[<-hs]at h1 h2 h3;have hT:=Qik (l:=r) (by omega);have ht:=Qdt r;have eD:(shD r:Int)=shT r:=by
  unfold shD shT;by_cases h:Qg r=0
  . rw[Wa (by omega),Wb h]
  . rw[Wb (by omega),Wa h]; omega
 have eN:(shN r a:Int)=shC r a:=by
  unfold shN shC QaN;by_cases h:Qg r=0
  . rw[Wa (by omega),Wb h]; rfl
  . rw[Wb (by omega),Wa h,Int.max_comm];have:0<=max (r.getD a 0) 0:=by omega
    generalize max (r.getD a 0) 0=v at *;omega
 have em:((shD r*s.toNat:Nat):Int)=shT r*s:=by
  rw[Int.natCast_mul,eD,Int.toNat_of_nonneg h3]
 unfold ofQ exQ;generalize shT r*s=p at *;exact Qpt (by omega) (by omega) (by omega)
theorem Qs2 {r:List Int} (hl:r.length<=10) (hr:∀ x∈r,-70368744177664<=x/\x<=70368744177664) {a:Nat} (ha:a<r.length):shN r a<1000000000000000000000/\0<shD r/\shD r<=1000000000000000:=by
 have ht:=Qdt r;have h2:Qg r<=10*70368744177664:=by
  have:=QfN hl (λv hv=>(hr v hv).2) r.length (Vc _);have e:Qg r=Qbi r r.length:=rfl;omega
 have e:r.getD a 0=r[a]:=by simp[ha]
 have h3:=hr _ (Vg ha);unfold shN shD;rw[e];split<;>omega
theorem Qss {r:List Int} (hl:r.length<=10) (hr:∀ x∈r,-70368744177664<=x/\x<=70368744177664) {a:Nat} (ha:a<r.length) {s:Int} (hs:0<=s/\s<=65536):(low false s.toNat 1).few/\(exQ r a).few/\(exQ r a).mi.few/\(ofQ r a s).few:=by
 obtain⟨b1,b2,b3⟩:=Qs2 hl hr ha;have f1:(low false s.toNat 1).few:=Qeb (by omega) (by omega) (by omega);have f2:(exQ r a).few:=Qeb (by omega) (by omega) b2;have f3:(exQ r a).mi.few:=f2;refine⟨f1,f2,f3,?_⟩;have n1:(exQ r a).mi.n<=shN r a:=Y4 _ _;have n2:(exQ r a).mi.d<=shD r:=Y4 _ _;have n3:=f3.2.2;unfold ofQ;rw[QiK];generalize (exQ r a).mi=q at *;have m1:s.toNat*q.d<=65536*1000000000000000:=Nat.mul_le_mul (by omega) (by omega);have hf:(Qr.plus ⟨false,s.toNat,1⟩ q).few:=by
  unfold Qr.plus;simp only[Yc,Y7];generalize s.toNat*q.d=p at *;split
  . exact Qeb (by omega) (by omega) n3
  . split
    . exact Qeb (by omega) (by omega) n3
    . exact Qeb (by omega) (by omega) n3
 exact hf
theorem QtZ {r:List Int} {a:Nat} (h:0<Qg r):exQ r a=(low false (max 0 (r.getD a 0)).toNat (Qg r).toNat).times (low false 65536 1):=by
 unfold exQ shN shD;rw[Wb h,Wb h,Qql _ _ _ (by omega)]
theorem Qry {r:List Int} {a:Nat} (h:¬ 0<Qg r):exQ r a=low false 65536 r.length:=by
 unfold exQ shN shD;rw[Wa h,Wa h]
section
variable {H:Wu} {g:Gm} {T Nx:Tin} {Sh:List (List Int)}
structure S4 (T Nx:Tin) (Sh:List (List Int)) (j:Nat) (s r r' p p':List Int):Prop where
 jS:j<Sh.length
 jA:j<T.A.length
 jP:j<T.P.length
 jA':j<Nx.A.length
 jP':j<Nx.P.length
 eS:Sh[j]=s
 eA:T.A[j]=r
 eP:T.P[j]=p
 eA':Nx.A[j]=r'
 eP':Nx.P[j]=p'
 ls:s.length=r.length
 lp:p.length=r.length
 lr':r'.length=r.length
 lp':p'.length=r.length
 sh:s=Qp r
 l10:r.length<=10
 rr:∀ x∈r,-70368744177664<=x/\x<=70368744177664
 all:∀ a (h:a<r.length),s[a]'(by omega)=65536->r'[a]'(by omega)=r[a]
 none:∀ a (h:a<r.length),s[a]'(by omega)=0->p'[a]'(by omega)=p[a]'(by omega)
set_option maxRecDepth 10000 in
set_option maxHeartbeats 2000000 in
theorem Qqx {s r r' p p':List Int} {j:Nat} (h4:S4 T Nx Sh j s r r' p p') {N:Nat} {K:Wt}
 (hexit:∀ env (G:Wu),env.get 7=.ptr (.own H.length 0 0 0 0) 0->env.get 8=.ptr (.own (H.length+1) 0 0 0 0) 0->env.get 11=.slc (sls Sh) Sh.length->env.get 13=.ptr (.own (H.length+2) 0 0 0 0) 0->env.get 15=i64 j->K (.exit 4) env (X4 H g T Nx G)) :
 ∀ (m a:Nat) (env:Env) (G:Wu),a+m=r.length->env.get 7=.ptr (.own H.length 0 0 0 0) 0->env.get 8=.ptr (.own (H.length+1) 0 0 0 0) 0->env.get 11=.slc (sls Sh) Sh.length->env.get 13=.ptr (.own (H.length+2) 0 0 0 0) 0->env.get 15=i64 j->env.get 17=i64 (Qg r)->env.get 19=i64 a ->
  LI Try.prog N Qcy QhR env (X4 H g T Nx G) K:=by
 obtain⟨hjS,hjA,hjP,hjA',hjP',eS,eA,eP,eA',eP',ls,lp,lr',lp',hsh,hl10,hrr,hall,hnone⟩:=h4;have hS1:(sls Sh)[j]?.getD .any=sl s:=by rw[<-eS]; exact Qdh hjS
 have hS2:∀ h,(sls Sh)[j]'h=sl s:=λh=>by rw[<-eS]; exact QbY hjS
 have hA1:(sls T.A)[j]?.getD .any=sl r:=by rw[<-eA]; exact Qdh hjA
 have hA2:∀ h,(sls T.A)[j]'h=sl r:=λh=>by rw[<-eA]; exact QbY hjA
 have hP1:(sls T.P)[j]?.getD .any=sl p:=by rw[<-eP]; exact Qdh hjP
 have hP2:∀ h,(sls T.P)[j]'h=sl p:=λh=>by rw[<-eP]; exact QbY hjP
 have hA1':(sls Nx.A)[j]?.getD .any=sl r':=by rw[<-eA']; exact Qdh hjA'
 have hA2':∀ h,(sls Nx.A)[j]'h=sl r':=λh=>by rw[<-eA']; exact QbY hjA'
 have hP1':(sls Nx.P)[j]?.getD .any=sl p':=by rw[<-eP']; exact Qdh hjP'
 have hP2':∀ h,(sls Nx.P)[j]'h=sl p':=λh=>by rw[<-eP']; exact QbY hjP'
 have ht0:=Qdt r;have htb:Qg r<=10*70368744177664:=by
  have:=QfN hl10 (λv hv=>(hrr v hv).2) r.length (Vc _);have e:Qg r=Qbi r r.length:=rfl;omega
 intro m
 induction m with
 |zero =>
  intro a env G hi h7 h8 h11 h13 h15 h17 h19;refine Qe6 hm QhR.eq_1 ?_;have e:a=s.length:=by omega
  subst e;simp -implicitDefEqProofs[h7,h8,h11,h13,h15,h17,h19,X4,hjS,hS1,hS2,sl];exact⟨by omega,hexit _ G (by simp[h7]) (by simp[h8]) (by simp[h11]) (by simp[h13]) (by simp[h15])⟩
 |succ m ih =>
  intro a env G hi h7 h8 h11 h13 h15 h17 h19;refine Qe6 hm QhR.eq_1 ?_;have har:a<r.length:=by omega
  have has:a<s.length:=by omega
  have hap:a<p.length:=by omega
  have har':a<r'.length:=by omega
  have hap':a<p'.length:=by omega
  have hra:=hall a har;have hpa:=hnone a har;have hsg:s[a]=(Qp r).getD a 0:=by simp[hsh,show a<(Qp r).length by rw[QdZ]; exact har]
  have hsr:=Qer har;rw[<-hsg]at hsr;have hz:=λ(h1:0<Qg r) (h2:r[a]<=0)=>Qs1 har h1 (by simpa[har]using h2);rw[<-hsg]at hz;have hord:=Qtd har hsg;obtain⟨f1,f2,f3,f4⟩:=Qss hl10 hrr har hsr;have hrv:=hrr _ (Vg har);have h17a:=λH=>ok17 (H:=H) (x:=65536) (y:=r.length) (by omega) (by omega) (by omega);rw[QnM (by omega) (by omega)]at h17a;have h17b:=λH (h:0<Qg r)=>ok17 (H:=H) (x:=max 0 r[a]) (y:=Qg r) (by omega) (by omega) (by omega);have h19a:=λH=>Qjt (H:=H) (x:=65536) (by omega);rw[Qkv (by omega)]at h19a;have h19s:=λH=>Qjt (H:=H) (x:=s[a]) (by omega);rw[Qkv hsr.1]at h19s;have h191:=λH=>Qjt (H:=H) (x:=1) (by omega);have e1:Qbw (decide ((1:Int)<0)) (1:Int).natAbs 1=QdC.sv:=by rw[Qkv (by omega)]; show(low false 1 1).sv=_; rw[QiK]; rfl
  rw[e1]at h191;have h22:=λH=>ok22 (H:=H) (exQ r a);have h21:=λH=>ok21 (H:=H) f1 f3;have h20:=λH=>ok20 (H:=H) ((low false s[a].toNat 1).plus (exQ r a).mi);have eof:((low false s[a].toNat 1).plus (exQ r a).mi).sz=ofQ r a s[a]:=rfl;rw[eof]at h20;have one_few:QdC.few:=by
   have:=Qks (n:=1) (by omega);exact⟨by show(lim 1).length<=1000; omega,by show(lim 1).length<=1000; omega,by show 0<1; omega⟩
  have h23:=λH=>ok23 (H:=H) f4 one_few;generalize hod:(ofQ r a s[a]).ord QdC=od at *;generalize ofQ r a s[a]=O at *;have h18:∀ H,0<Qg r->Ok Try.prog 18 [(low false (max 0 r[a]).toNat (Qg r).toNat).sv,(low false 65536 1).sv] H (.ret (exQ r a).sv) H:=λH h=>by
   rw[QtZ h];have e:r.getD a 0=r[a]:=by simp[har]
   rw[e];exact ok18 (Qeb (by omega) (by omega) (by omega)) (Qeb (by omega) (by omega) (by omega))
  have hE0:=λh=>Qry (r:=r) (a:=a) h;generalize hL1:(low false s[a].toNat 1).plus (exQ r a).mi=L1 at *;clear hL1;generalize (exQ r a).mi=Em at *;generalize exQ r a=E at *;have hih:=ih (a+1);have hneg:¬ s[a]<0:=by omega
  by_cases ht:0<Qg r
  . have h17b':=λH=>h17b H ht;rw[QnM (by omega) (by omega)]at h17b';have h18':=λH=>h18 H ht;generalize low false (max 0 r[a]).toNat (Qg r).toNat=Q1 at *;generalize low false ((65536:Int).toNat) ((r.length:Int).toNat)=Q2 at *;have e65:low false (65536:Int).toNat 1=low false 65536 1:=rfl;rw[e65]at h19a;generalize low false 65536 1=Q3 at *;generalize low false s[a].toNat 1=Q4 at *;simp only[Qr.sv]at h17a h17b' h18' h19a h19s h191 h20 h21 h22 h23;simp -implicitDefEqProofs[h7,h8,h11,h13,h15,h17,h19,X4,hjS,hS1,hS2,hjA,hA1,hA2,sl,has,har,ls,tB,Tin.cells,ht];repeat (refine⟨by omega,?_⟩)
    refine Qj (h17a _) ?_;simp -implicitDefEqProofs[h7,h8,h11,h13,h15,h17,h19,X4,hjS,hS1,hS2,hjA,hA1,hA2,hjP,hP1,hP2,hjA',hA1',hA2',hjP',hP1',hP2',sl,has,har,hap,har',hap',ls,tB,Tin.cells,ht];refine⟨⟨rfl,rfl⟩,by omega,by omega,Qj (h17b' _) ?_⟩;simp -implicitDefEqProofs[h7,h8,h11,h13,h15,h17,h19,X4,hjS,hS1,hS2,hjA,hA1,hA2,hjP,hP1,hP2,hjA',hA1',hA2',hjP',hP1',hP2',sl,has,har,hap,har',hap',ls,tB,Tin.cells,ht];refine Qj (h19a _) ?_;simp -implicitDefEqProofs[h7,h8,h11,h13,h15,h17,h19,X4,hjS,hS1,hS2,hjA,hA1,hA2,hjP,hP1,hP2,hjA',hA1',hA2',hjP',hP1',hP2',sl,has,har,hap,har',hap',ls,tB,Tin.cells,ht];refine Qj (h18' _) ?_;simp -implicitDefEqProofs[h7,h8,h11,h13,h15,h17,h19,X4,hjS,hS1,hS2,hjA,hA1,hA2,hjP,hP1,hP2,hjA',hA1',hA2',hjP',hP1',hP2',sl,has,har,hap,har',hap',ls,tB,Tin.cells,ht];refine⟨⟨rfl,rfl⟩,?_⟩;repeat (refine⟨by omega,?_⟩)
    refine QN (λ_=>h19s _) ?_;simp -implicitDefEqProofs[h7,h8,h11,h13,h15,h17,h19,X4,hjS,hS1,hS2,hjA,hA1,hA2,hjP,hP1,hP2,hjA',hA1',hA2',hjP',hP1',hP2',sl,has,har,hap,har',hap',ls,tB,Tin.cells,ht,hneg];refine QN (λ_=>h22 _) ?_;simp -implicitDefEqProofs[h7,h8,h11,h13,h15,h17,h19,X4,hjS,hS1,hS2,hjA,hA1,hA2,hjP,hP1,hP2,hjA',hA1',hA2',hjP',hP1',hP2',sl,has,har,hap,har',hap',ls,tB,Tin.cells,ht,hneg];refine QN (λ_=>h21 _) ?_;simp -implicitDefEqProofs[h7,h8,h11,h13,h15,h17,h19,X4,hjS,hS1,hS2,hjA,hA1,hA2,hjP,hP1,hP2,hjA',hA1',hA2',hjP',hP1',hP2',sl,has,har,hap,har',hap',ls,tB,Tin.cells,ht,hneg];refine QN (λ_=>h20 _) ?_;simp -implicitDefEqProofs[h7,h8,h11,h13,h15,h17,h19,X4,hjS,hS1,hS2,hjA,hA1,hA2,hjP,hP1,hP2,hjA',hA1',hA2',hjP',hP1',hP2',sl,has,har,hap,har',hap',ls,tB,Tin.cells,ht,hneg];refine⟨⟨⟨rfl,h20 _⟩,⟨rfl,h21 _⟩,⟨rfl,h22 _⟩,⟨rfl,h19s _⟩,?_⟩,?_⟩
    . repeat (refine⟨by omega,?_⟩)
      omega
    refine⟨⟨rfl,rfl⟩,by omega,by omega,?_⟩;simp -implicitDefEqProofs[h7,h8,h11,h13,h15,h17,h19,X4,hjS,hS1,hS2,hjA,hA1,hA2,hjP,hP1,hP2,hjA',hA1',hA2',hjP',hP1',hP2',sl,has,har,hap,har',hap',ls,tB,Tin.cells,ht,hneg];refine QN (λ_=>h191 _) ?_;simp -implicitDefEqProofs[h7,h8,h11,h13,h15,h17,h19,X4,hjS,hS1,hS2,hjA,hA1,hA2,hjP,hP1,hP2,hjA',hA1',hA2',hjP',hP1',hP2',sl,has,har,hap,har',hap',ls,tB,Tin.cells,ht,hneg];refine QdK (r:=i64 od) (λ_=>by simp only[Vs,V3,SV.strip]; exact h23 _) ?_;have h0:(0:Int)≠65536:=by decide
    by_cases c1:r[a]<=0
    . have c2:=hz ht c1;have c3:=hpa c2;simp -implicitDefEqProofs[h7,h8,h11,h13,h15,h17,h19,X4,hjS,hS1,hS2,hjA,hA1,hA2,hjP,hP1,hP2,hjA',hA1',hA2',hjP',hP1',hP2',sl,has,har,hap,har',hap',ls,tB,Tin.cells,ht,hneg,show ¬ 0<=od by omega,c1,c2,c3];repeat (refine⟨by omega,?_⟩)
      refine hih _ _ (by omega) ?_ ?_ ?_ ?_ ?_ ?_ ?_;all_goals simp[h7,h8,h11,h13,h15,h17,QR (show a<9223372036854775807 by omega)]
    by_cases c2:s[a]=0
    . have c3:=hpa c2;simp -implicitDefEqProofs[h7,h8,h11,h13,h15,h17,h19,X4,hjS,hS1,hS2,hjA,hA1,hA2,hjP,hP1,hP2,hjA',hA1',hA2',hjP',hP1',hP2',sl,has,har,hap,har',hap',ls,tB,Tin.cells,ht,hneg,show ¬ 0<=od by omega,c1,c2,c3];repeat (refine⟨by omega,?_⟩)
      refine hih _ _ (by omega) ?_ ?_ ?_ ?_ ?_ ?_ ?_;all_goals simp[h7,h8,h11,h13,h15,h17,QR (show a<9223372036854775807 by omega)]
    by_cases c4:s[a]=65536
    . have c3:=hra c4;simp -implicitDefEqProofs[h7,h8,h11,h13,h15,h17,h19,X4,hjS,hS1,hS2,hjA,hA1,hA2,hjP,hP1,hP2,hjA',hA1',hA2',hjP',hP1',hP2',sl,has,har,hap,har',hap',ls,tB,Tin.cells,ht,hneg,show ¬ 0<=od by omega,c1,c4,c3];repeat (refine⟨by omega,?_⟩)
      refine hih _ _ (by omega) ?_ ?_ ?_ ?_ ?_ ?_ ?_;all_goals simp[h7,h8,h11,h13,h15,h17,QR (show a<9223372036854775807 by omega)]
    . skip
      simp -implicitDefEqProofs[h7,h8,h11,h13,h15,h17,h19,X4,hjS,hS1,hS2,hjA,hA1,hA2,hjP,hP1,hP2,hjA',hA1',hA2',hjP',hP1',hP2',sl,has,har,hap,har',hap',ls,tB,Tin.cells,ht,hneg,show ¬ 0<=od by omega,c1,c2,c4];repeat (refine⟨by omega,?_⟩)
      refine hih _ _ (by omega) ?_ ?_ ?_ ?_ ?_ ?_ ?_;all_goals simp[h7,h8,h11,h13,h15,h17,QR (show a<9223372036854775807 by omega)]
  . have hE1:=hE0 ht;have eQ:low false ((65536:Int).toNat) ((r.length:Int).toNat)=E:=by rw[hE1,Int.toNat_natCast]; rfl
    rw[eQ]at h17a;generalize low false s[a].toNat 1=Q4 at *;simp only[Qr.sv]at h17a h19s h191 h20 h21 h22 h23;simp -implicitDefEqProofs[h7,h8,h11,h13,h15,h17,h19,X4,hjS,hS1,hS2,hjA,hA1,hA2,hjP,hP1,hP2,hjA',hA1',hA2',hjP',hP1',hP2',sl,has,har,hap,har',hap',ls,tB,Tin.cells,ht,hneg];repeat (refine⟨by omega,?_⟩)
    refine Qj (h17a _) ?_;simp -implicitDefEqProofs[h7,h8,h11,h13,h15,h17,h19,X4,hjS,hS1,hS2,hjA,hA1,hA2,hjP,hP1,hP2,hjA',hA1',hA2',hjP',hP1',hP2',sl,has,har,hap,har',hap',ls,tB,Tin.cells,ht,hneg];refine⟨⟨rfl,rfl⟩,?_⟩;repeat (refine⟨by omega,?_⟩)
    refine QN (λ_=>h19s _) ?_;simp -implicitDefEqProofs[h7,h8,h11,h13,h15,h17,h19,X4,hjS,hS1,hS2,hjA,hA1,hA2,hjP,hP1,hP2,hjA',hA1',hA2',hjP',hP1',hP2',sl,has,har,hap,har',hap',ls,tB,Tin.cells,ht,hneg];refine QN (λ_=>h22 _) ?_;simp -implicitDefEqProofs[h7,h8,h11,h13,h15,h17,h19,X4,hjS,hS1,hS2,hjA,hA1,hA2,hjP,hP1,hP2,hjA',hA1',hA2',hjP',hP1',hP2',sl,has,har,hap,har',hap',ls,tB,Tin.cells,ht,hneg];refine QN (λ_=>h21 _) ?_;simp -implicitDefEqProofs[h7,h8,h11,h13,h15,h17,h19,X4,hjS,hS1,hS2,hjA,hA1,hA2,hjP,hP1,hP2,hjA',hA1',hA2',hjP',hP1',hP2',sl,has,har,hap,har',hap',ls,tB,Tin.cells,ht,hneg];refine QN (λ_=>h20 _) ?_;simp -implicitDefEqProofs[h7,h8,h11,h13,h15,h17,h19,X4,hjS,hS1,hS2,hjA,hA1,hA2,hjP,hP1,hP2,hjA',hA1',hA2',hjP',hP1',hP2',sl,has,har,hap,har',hap',ls,tB,Tin.cells,ht,hneg];refine⟨⟨⟨rfl,h20 _⟩,⟨rfl,h21 _⟩,⟨rfl,h22 _⟩,⟨rfl,h19s _⟩,?_⟩,?_⟩
    . repeat (refine⟨by omega,?_⟩)
      omega
    refine⟨⟨rfl,rfl⟩,by omega,by omega,?_⟩;simp -implicitDefEqProofs[h7,h8,h11,h13,h15,h17,h19,X4,hjS,hS1,hS2,hjA,hA1,hA2,hjP,hP1,hP2,hjA',hA1',hA2',hjP',hP1',hP2',sl,has,har,hap,har',hap',ls,tB,Tin.cells,ht,hneg];refine QN (λ_=>h191 _) ?_;simp -implicitDefEqProofs[h7,h8,h11,h13,h15,h17,h19,X4,hjS,hS1,hS2,hjA,hA1,hA2,hjP,hP1,hP2,hjA',hA1',hA2',hjP',hP1',hP2',sl,has,har,hap,har',hap',ls,tB,Tin.cells,ht,hneg];refine QdK (r:=i64 od) (λ_=>by simp only[Vs,V3,SV.strip]; exact h23 _) ?_;by_cases c2:s[a]=0
    . have c3:=hpa c2;simp -implicitDefEqProofs[h7,h8,h11,h13,h15,h17,h19,X4,hjS,hS1,hS2,hjA,hA1,hA2,hjP,hP1,hP2,hjA',hA1',hA2',hjP',hP1',hP2',sl,has,har,hap,har',hap',ls,tB,Tin.cells,ht,hneg,show ¬ 0<=od by omega,c2,c3];repeat (refine⟨by omega,?_⟩)
      refine hih _ _ (by omega) ?_ ?_ ?_ ?_ ?_ ?_ ?_;all_goals simp[h7,h8,h11,h13,h15,h17,QR (show a<9223372036854775807 by omega)]
    by_cases c4:s[a]=65536
    . have c3:=hra c4;simp -implicitDefEqProofs[h7,h8,h11,h13,h15,h17,h19,X4,hjS,hS1,hS2,hjA,hA1,hA2,hjP,hP1,hP2,hjA',hA1',hA2',hjP',hP1',hP2',sl,has,har,hap,har',hap',ls,tB,Tin.cells,ht,hneg,show ¬ 0<=od by omega,c4,c3];repeat (refine⟨by omega,?_⟩)
      refine hih _ _ (by omega) ?_ ?_ ?_ ?_ ?_ ?_ ?_;all_goals simp[h7,h8,h11,h13,h15,h17,QR (show a<9223372036854775807 by omega)]
    . skip
      simp -implicitDefEqProofs[h7,h8,h11,h13,h15,h17,h19,X4,hjS,hS1,hS2,hjA,hA1,hA2,hjP,hP1,hP2,hjA',hA1',hA2',hjP',hP1',hP2',sl,has,har,hap,har',hap',ls,tB,Tin.cells,ht,hneg,show ¬ 0<=od by omega,c2,c4];repeat (refine⟨by omega,?_⟩)
      refine hih _ _ (by omega) ?_ ?_ ?_ ?_ ?_ ?_ ?_;all_goals simp[h7,h8,h11,h13,h15,h17,QR (show a<9223372036854775807 by omega)]
end
section
variable {H:Wu} {g:Gm} {T Nx:Tin} {Sh:List (List Int)}
set_option maxRecDepth 10000 in
set_option maxHeartbeats 1000000 in
theorem Qt4 (hlen:Sh.length=g.is.length) (hil:g.is.length<=100000) (h4:∀ j,j<Sh.length->∃ s r r' p p',S4 T Nx Sh j s r r' p p'/\0<r.length/\∃ h:j<g.is.length,(r.length:Int)=g.is[j].2) {N:Nat} {K:Wt}
 (hexit:∀ env (G:Wu),K (.exit 0) env (X4 H g T Nx G)) :
 ∀ (m j:Nat) (env:Env) (G:Wu),j+m=Sh.length->env.get 7=.ptr (.own H.length 0 0 0 0) 0->env.get 8=.ptr (.own (H.length+1) 0 0 0 0) 0->env.get 11=.slc (sls Sh) Sh.length->env.get 13=.ptr (.own (H.length+2) 0 0 0 0) 0->env.get 15=i64 j ->
  LI Try.prog N Qcy QhO env (X4 H g T Nx G) K:=by
 intro m
 induction m with
 |zero =>
  intro j env G hi h7 h8 h11 h13 h15;refine Qe6 hm QhO.eq_1 ?_;have e:j=Sh.length:=by omega
  subst e;simp -implicitDefEqProofs[h7,h8,h11,h13,h15];exact hexit _ G
 |succ m ih =>
  intro j env G hi h7 h8 h11 h13 h15;refine Qe6 hm QhO.eq_1 ?_;have hjS:j<Sh.length:=by omega
  obtain⟨s,r,r',p,p',h,hr0,hjg,hac⟩:=h4 j hjS;have key1:=λN K hx=>QoZ (H:=H) (g:=g) (T:=T) (Nx:=Nx) (G:=G) (N:=N) (K:=K) hjS h.eS h.jA h.eA h.ls h.l10 (λx hx=>by
   have hx2:=hx;rw[h.sh]at hx2;obtain⟨k,hk,rfl⟩:=VX hx2;have:=Qer (l:=r) (k:=k) (by rw[<-QdZ r]; exact hk);simpa[hk]using this) h.rr hx s.length 0
  have key2:=λN K hx=>Qqx (H:=H) (g:=g) (N:=N) (K:=K) h hx r.length 0;have hsum:Qe (shF s) s.length=65536:=by
   have:=Qi0 hr0;have e:Qe (shF s) s.length=Qe (λk=>(Qp r).getD k 0) r.length:=by rw[h.ls,h.sh]; rfl
   rw[e]; exact this
  rw[hsum]at key1;have hS1:(sls Sh)[j]?.getD .any=sl s:=by rw[<-h.eS]; exact Qdh hjS
  have hS2:∀ h,(sls Sh)[j]'h=sl s:=λh'=>by rw[<-h.eS]; exact QbY hjS
  have hA1:(sls T.A)[j]?.getD .any=sl r:=by rw[<-h.eA]; exact Qdh h.jA
  have hA2:∀ h,(sls T.A)[j]'h=sl r:=λh'=>by rw[<-h.eA]; exact QbY h.jA
  have hjA:=h.jA;have hls:=h.ls;have hl10:=h.l10;have i2:(Qy g.is)[j*2+1]?.getD .any=i64 g.is[j].2:=by
   rw[<-Vq,QbH hjg]; rfl
  have i3:(Qy g.is).length=2*g.is.length:=Qch _;clear h h4;have hX:X4 H g T Nx G=H++QG g::tB T::tB Nx::G:=rfl;simp -implicitDefEqProofs[h7,h8,h11,h13,h15,hX,hjS,hS1,hS2,hjA,hA1,hA2,sl,QG,Gm.cells,tB,Tin.cells,i2,i3,hls,hac];repeat (refine⟨by omega,?_⟩)
  simp only[X4,QG,tB,Gm.cells,Tin.cells]at key1 key2 ih;refine key1 _ _ (λenv k7 k8 k11 k13 k15 k16 k17 => ?_) _ (by omega) ?_ ?_ ?_ ?_ ?_ ?_ ?_ ?_
  rotate_left
  all_goals try simp[Qe,Qbi]
  simp -implicitDefEqProofs[k7,k8,k11,k13,k15,k16,k17];refine key2 _ _ (λenv2 G q7 q8 q11 q13 q15 => ?_) _ _ (by omega) ?_ ?_ ?_ ?_ ?_ ?_ ?_
  rotate_left
  all_goals try simp[k7,k8,k11,k13,k15,k17]
  simp -implicitDefEqProofs[q7,q8,q11,q13,q15];refine ih (j+1) _ _ (by omega) ?_ ?_ ?_ ?_ ?_;all_goals simp[q7,q8,q11,q13,QR (show j<9223372036854775807 by omega)]
theorem QoT {t:Tin} (h:Qao g t=0) {j:Nat} (hj:j<g.is.length):(∃ h1:j<t.A.length,t.A[j]=t.A.getD j []/\t.A[j].length=g.acts j/\∀ x∈t.A[j],-70368744177664<=x/\x<=70368744177664)/\(∃ h1:j<t.P.length,t.P[j]=t.P.getD j []/\t.P[j].length=g.acts j):=by
 obtain⟨hW,r0,r1,hA,hP⟩:=QdG h;obtain⟨a1,a2⟩:=Qb3 hW hA;obtain⟨p1,p2⟩:=Qb3 hW hP;have hjA:j<t.A.length:=by omega
 have hjP:j<t.P.length:=by omega
 have eA:t.A.getD j []=t.A[j]:=by simp[Vr,hjA]
 have eP:t.P.getD j []=t.P[j]:=by simp[Vr,hjP]
 obtain⟨b1,b2⟩:=a2 j hj;obtain⟨q1,_⟩:=p2 j hj;unfold Qag at b1 q1;rw[eA]at b1 b2;rw[eP]at q1;exact⟨⟨hjA,eA.symm,b1,b2⟩,⟨hjP,eP.symm,q1⟩⟩
def shS (g:Gm) (T:Tin):List (List Int):=(List.range g.is.length).map λj=>Qp (T.A.getD j [])
theorem Qs3 (hT:Qao g T=0) (hN:Qao g Nx=0) (hx:∀ j,j<g.is.length->∀ a,a<g.acts j->((Qp (T.A.getD j [])).getD a 0=65536->(Nx.A.getD j []).getD a 0=(T.A.getD j []).getD a 0)/\((Qp (T.A.getD j [])).getD a 0=0->(Nx.P.getD j []).getD a 0=(T.P.getD j []).getD a 0)) :
 ∀ j,j<(shS g T).length->∃ s r r' p p',S4 T Nx (shS g T) j s r r' p p'/\0<r.length/\∃ h:j<g.is.length,(r.length:Int)=g.is[j].2:=by
 intro j hj;have hjg:j<g.is.length:=by simpa[shS]using hj
 obtain⟨hW,_⟩:=QdG hT;obtain⟨⟨a1,a2,a3,a4⟩,⟨p1,p2,p3⟩⟩:=QoT hT hjg;obtain⟨⟨b1,b2,b3,b4⟩,⟨q1,q2,q3⟩⟩:=QoT hN hjg;have hac:=Qby hW hjg;have hgi:g.is.getD j (0,0)=g.is[j]:=by simp[hjg]
 have ha:(g.acts j:Int)=g.is[j].2:=by unfold Gm.acts at hac ⊢; rw[hgi]at hac ⊢; omega
 have hS:(shS g T)[j]=Qp T.A[j]:=by simp only[shS,List.getElem_map,List.getElem_range]; rw[a2]
 refine⟨Qp T.A[j],T.A[j],Nx.A[j],T.P[j],Nx.P[j],⟨hj,a1,p1,b1,q1,hS,rfl,rfl,rfl,rfl,QdZ _,by omega,by omega,by omega,rfl,by omega,a4,λa h h1 => ?_,λa h h1 => ?_⟩,by omega,hjg,by omega⟩
 . have h2:=(hx j hjg a (by omega)).1;rw[<-a2,<- b2]at h2;have e1:(Qp T.A[j]).getD a 0=65536:=by rw[<-h1]; simp[show a<(Qp T.A[j]).length by rw[QdZ]; exact h]
   have h3:=h2 e1;simpa[h,show a<Nx.A[j].length by omega]using h3
 . have h2:=(hx j hjg a (by omega)).2;rw[<-a2,<- p2,<- q2]at h2;have e1:(Qp T.A[j]).getD a 0=0:=by rw[<-h1]; simp[show a<(Qp T.A[j]).length by rw[QdZ]; exact h]
   have h3:=h2 e1;simpa[show a<T.P[j].length by omega,show a<Nx.P[j].length by omega]using h3
end
section
variable {H:Wu} {l:List Int}
set_option maxRecDepth 10000 in
set_option maxHeartbeats 1000000 in
theorem ok4 (hl:l.length<=9223372036854775807) (pl n:Int):Ok Try.prog 4 [.slc (Qa l) l.length,i64 pl,i64 n] H (.ret (bl true)) H:=by
 refine Qt6 hm Try.func4 c4 (by simp) λhcl => ?_;simp -implicitDefEqProofs[i4,r4];refine Qj ok6 ?_;by_cases hb:80<l.length
 . simp -implicitDefEqProofs[hb,show(80:Int)<l.length by omega];exact Qn
 . have h12p:=λH=>Qj2 (H:=H) pl 3 (by omega) (by omega);have h12n:=λH=>Qj2 (H:=H) n 41 (by omega) (by omega);obtain⟨p,hp⟩:∃ p,p=pl % 3:=⟨_,rfl⟩;obtain⟨b,hbn⟩:∃ b:Nat,n % 41=b:=⟨(n % 41).toNat,by omega⟩;have wp:IntKind.i64.wrap (1+p)=1+p:=Qi (by omega) (by omega);rw[<-hp]at h12p;rw[hbn]at h12n;simp -implicitDefEqProofs[hb,show ¬ (80:Int)<l.length by omega];refine Qj (h12p _) ?_;simp -implicitDefEqProofs[wp];refine Q6 (ok11 (l:=l) (pl:=1+p) (most:=25) (zero:=false) (by omega) (by omega) (by omega) (by omega) (by omega)) ?_;rintro o G' ⟨g,hg,rfl,rfl⟩;have hs:=hg.sml (by omega) (by omega) (by omega);obtain⟨T,Nx,e1,e2,e3,e4,e5,e6⟩:=Qso hs (m:=b) (by omega);have hW:=hs.w;have hgi:=hW.gd.i;have h13:=λH=>ok13 (H:=H) (g:=g);rw[QsW hs]at h13;have h8:=λH=>ok8 (H:=H) (g:=g) (T0 g) (b:Int) (by omega);rw[e1]at h8;have h15:=λH=>ok15 (H:=H) (g:=g) T;rw[e2]at h15;have h14:=λH=>ok14 (H:=H) hW e3 (Qm6 e3) e5;have h16:=λH=>QiC (H:=H) (g:=g) (t:=T);rw[e3]at h16;have h16n:=λH=>QiC (H:=H) (g:=g) (t:=Nx);rw[e4]at h16n;have key:=λN K hx=>Qt4 (H:=G') (g:=g) (T:=T) (Nx:=Nx) (Sh:=shS g T) (N:=N) (K:=K) (by simp[shS]) (by omega) (Qs3 e3 e4 e6) hx (shS g T).length 0;have hSl:(shS g T).length=g.is.length:=by simp[shS]
   have hTl:T.A.length=g.is.length:=by
    obtain⟨hW,r0,r1,hA,hP⟩:=QdG e3;exact(Qb3 hW hA).1
   have hSe:((List.range g.is.length).map λj=>Qp (T.A.getD j []))=shS g T:=rfl;rw[hSe,<- hSl]at h14;generalize shS g T=Sh at *;generalize T0 g=T1 at *;clear e1 e2 e6 e5;simp only[Gm.cells,Tin.cells,X4,QG,tB]at h13 h8 h15 h14 h16 h16n key;simp -implicitDefEqProofs[Gm.cells];refine Qj (h13 _) ?_;simp -implicitDefEqProofs;refine QN (λ_=>h12n _) ?_;simp -implicitDefEqProofs;refine QN (λ_=>h8 _) ?_;simp -implicitDefEqProofs;refine Qj (h14 _) ?_;simp -implicitDefEqProofs;refine Qj (h15 _) ?_;simp -implicitDefEqProofs;refine QdK (r:=i64 0) (λ_=>by simp only[Vs,V3,SV.strip]; exact h16 _) ?_;simp -implicitDefEqProofs;refine QdK (r:=i64 0) (λ_=>by simp only[Vs,V3,SV.strip]; exact h16n _) ?_;simp -implicitDefEqProofs[hSl,hTl];simp only[hSl,hTl]at key;refine key _ _ (λenv G => ?_) _ [] (by omega) ?_ ?_ ?_ ?_ ?_
   . simp -implicitDefEqProofs;exact Ql 1 hcl rfl (by simp)
   all_goals simp
end
end Go.Proofs.Ytogjmpkehjfecaa.Rc
namespace Go.Proofs.Ytogjmpkehjfecaa.Rc
open Go.Ab
end Go.Proofs.Ytogjmpkehjfecaa.Rc
