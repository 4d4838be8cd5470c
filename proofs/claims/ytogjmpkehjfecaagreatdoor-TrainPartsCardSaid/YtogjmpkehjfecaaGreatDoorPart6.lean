/- Steps of the proof. -/
import Derived.Test.YtogjmpkehjfecaaGreatDoorPart5
import Derived.Test.YtogjmpkehjfecaaGreatDoorPart1
import Derived.LaidMore
import Derived.OpenShut
import Derived.Stop.Joined
import Derived.LaidHandle
import Derived.Test.YtogjmpkehjfecaaGreatDoorCore4
set_option linter.all false
namespace Go.Proofs.YtogjmpkehjfecaaGreatDoor.Rc
open Go.Ab
structure Mc.Good (c:Mc):Prop where
 l:c.l.length<4611686018427387904
 p1:1<=c.pl
 p2:c.pl<=1000
 m:c.most<=2000
 lv:c.lv.length<=100
 lvr:∀ q∈c.lv,-1<=q.1/\q.1<c.pl/\2<=q.2.1/\q.2.1<=3
structure Qcq (c:Mc) (s:Ms) (level:Nat):Prop where
 a0:0<=s.at'
 vl:s.vs.length=s.is.length
 vi:∀ j (h:j<s.vs.length),s.vs[j].inf=j/\s.vs[j].pl=(s.is[j]'(by omega)).1
 vsn:∀ v∈s.vs,v.sn.length<=100
 used:∀ j (h:j<s.vs.length),(level:Int)<=s.vs[j].lv->∃ x∈s.ns,x.k=2/\x.i=j
 isr:∀ q∈s.is,0<=q.1/\q.1<c.pl/\1<=q.2/\q.2<=3
 nsr:∀ x∈s.ns,x.k=2->0<=x.i/\x.i<s.is.length
 il:s.is.length<=s.ns.length
 ml:(s.ns.length:Int)+s.pend<=c.most
structure Qfo (c:Mc) (s s':Ms) (level h:Nat) (sub:List Nd) (isN:List (Int×Int)) (vsN:List Vw):Prop where
 ns:s'.ns=s.ns++sub
 is:s'.is=s.is++isN
 vs:s'.vs=s.vs++vsN
 pend:s'.pend=s.pend-1
 lv:∀ v∈vsN,(level:Int)<=v.lv
 wlk:Wlk s.ns.length h sub
 rg:rg sub s.is.length=some s'.is.length
 good:∀ x∈sub,x.good c.pl s'.is
 inv:Qcq c s' level
def Unq (vs:List Vw):Prop:=∀ (i j:Nat) (u v:Vw),vs[i]? = some u->vs[j]? = some v->u.pl=v.pl->u.lv=v.lv->u.sn=v.sn->i=j
def Lnk (b:Nat) (ns:List Nd) (gs:List Gh):Prop:=∀ (j:Nat) (x:Nd) (y:Gh),ns[j]? = some x->gs[j]? = some y->∀ (k:Nat) (d:Int),x.nx[k]? = some d->∃ (m:Nat) (z:Gh),d=((b+m:Nat):Int)/\gs[m]? = some z/\QeJ y.sn z.sn x.mvr k/\z.lv=y.lv+1
def lvF (c:Mc) (l:Nat):Int:=(c.lv.getD l (0,0,0)).1
def Qdz (c:Mc) (ns:List Nd) (gs:List Gh) (vs:List Vw):Prop:=∀ (j:Nat) (x:Nd) (y:Gh),ns[j]? = some x->gs[j]? = some y ->
 (x.k=2->lvF c y.lv=x.p/\0<=x.i/\0<=x.p/\∃ s v,y.sn[x.p.toNat]? = some s/\vs[x.i.toNat]? = some v/\v.pl=x.p/\v.lv=y.lv/\v.sn=s)/\(x.k=1->lvF c y.lv<0)
theorem Qdz.mono {c:Mc} {ns:List Nd} {gs:List Gh} {vs:List Vw} (h:Qdz c ns gs vs) (l:List Vw):Qdz c ns gs (vs++l):=λj x y hx hy=>by
 obtain⟨h1,h2⟩:=h j x y hx hy;refine⟨λhk => ?_,h2⟩;obtain⟨a,b,b',s,v,d,e,f⟩:=h1 hk;exact⟨a,b,b',s,v,d,by rw[Vd (Qd e)]; exact e,f⟩
theorem Qdz.app {c:Mc} {n1 n2:List Nd} {g1 g2:List Gh} {vs:List Vw} (hl:g1.length=n1.length) (h1:Qdz c n1 g1 vs) (h2:Qdz c n2 g2 vs):Qdz c (n1++n2) (g1++g2) vs:=λj x y hx hy=>by
 by_cases h:j<n1.length
 . rw[Vd h]at hx;rw[Vd (by omega)]at hy;exact h1 j x y hx hy
 . rw[Vg (by omega)]at hx;rw[Vg (by omega),hl]at hy;exact h2 _ x y hx hy
theorem Lnk.app {b:Nat} {n1 n2:List Nd} {g1 g2:List Gh} (hl:g1.length=n1.length) (h1:Lnk b n1 g1) (h2:Lnk (b+n1.length) n2 g2):Lnk b (n1++n2) (g1++g2):=λj x y hx hy k d hd=>by
 by_cases h:j<n1.length
 . rw[Vd h]at hx;rw[Vd (by omega)]at hy;obtain⟨m,z,e1,e2,e3⟩:=h1 j x y hx hy k d hd;exact⟨m,z,e1,by rw[Vd (Qd e2)]; exact e2,e3⟩
 . rw[Vg (by omega)]at hx;rw[Vg (by omega),hl]at hy;obtain⟨m,z,e1,e2,e3⟩:=h2 _ x y hx hy k d hd;exact⟨n1.length+m,z,by rw[e1]; congr 1; omega,by rw[Vg (by omega),hl,Z9]; exact e2,e3⟩
def GhP (c:Mc) (b level:Nat) (seen:List (List Int)) (sub:List Nd) (vs:List Vw):Prop:=Unq vs/\∃ gs:List Gh,gs.length=sub.length/\gs[0]? = some ⟨level,seen⟩/\Lnk b sub gs/\Qdz c sub gs vs
def KGh (c:Mc) (b level:Nat) (seen:List (List Int)) (x0:Int) (nx:List Int) (subs:List Nd) (vs:List Vw):Prop:=Unq vs/\∃ gs:List Gh,gs.length=subs.length/\(∀ (k:Nat) (d:Int),nx[k]? = some d->∃ (m:Nat) (z:Gh),d=((b+m:Nat):Int)/\gs[m]? = some z/\QeJ seen z.sn x0 k/\z.lv=level)/\Lnk b subs gs/\Qdz c subs gs vs
theorem KGh.zero {c:Mc} {b level:Nat} {seen:List (List Int)} {x0:Int} {vs:List Vw} (h:Unq vs):KGh c b level seen x0 [] [] vs :=
 ⟨h,[],rfl,λk d h=>by simp at h,λj x y h=>by simp at h,λj x y h=>by simp at h⟩
theorem KGh.snoc {c:Mc} {b level:Nat} {seen now:List (List Int)} {x0:Int} {nx:List Int} {subs sub:List Nd} {vs vs':List Vw} (h:KGh c b level seen x0 nx subs vs) (hn:QeJ seen now x0 nx.length) (hp:GhP c (b+subs.length) level now sub (vs++vs')) :
 KGh c b level seen x0 (nx++[((b+subs.length:Nat):Int)]) (subs++sub) (vs++vs'):=by
 obtain⟨_,g1,l1,k1,n1,f1⟩:=h;obtain⟨u2,g2,l2,r2,n2,f2⟩:=hp;refine⟨u2,g1++g2,by simp[l1,l2],λk d hd => ?_,n1.app l1 n2,(f1.mono vs').app l1 f2⟩;by_cases hk:k<nx.length
 . rw[Vd hk]at hd;obtain⟨m,z,e1,e2,e3⟩:=k1 k d hd;exact⟨m,z,e1,by rw[Vd (Qd e2)]; exact e2,e3⟩
 . rw[Vg (by omega)]at hd;have hlt:=Qd hd;have e:k=nx.length:=by simp at hlt; omega
   subst e;simp at hd;exact⟨subs.length,_,hd.symm,by rw[Vg (by omega),l1,Ze]; exact r2,hn,rfl⟩
def QeP (c:Mc) (A B:Ws) (s:Ms) (level:Nat) (seen:List (List Int)) (o:Out) (G':Ws):Prop :=
 o=.ret (i64 s.ns.length)/\∃ s' sub isN vsN,Qfo c s s' level (c.lv.length-level) sub isN vsN/\GhP c s.ns.length level seen sub s'.vs/\G'=c.hp A B s'
def Qea (c:Mc) (level:Nat):Prop :=
 ∀ (A B:Ws) (s:Ms) (seen:List (List Int)),Qcq c s level->Unq s.vs->1<=s.pend->(seen.length:Int)=c.pl->(∀ l∈seen,l.length<=level) ->
  OkP Tryz.prog 49 [.ptr (.own (A.length+1) 0 0 0 0) 0,i64 level,Qba seen] (c.hp A B s) (QeP c A B s level seen)
structure Qcw (c:Mc) (s s':Ms) (level h:Nat) (nx:List Int) (subs:List Nd) (isN:List (Int×Int)) (vsN:List Vw):Prop where
 ns:s'.ns=s.ns++subs
 is:s'.is=s.is++isN
 vs:s'.vs=s.vs++vsN
 pend:s'.pend=s.pend-nx.length
 lv:∀ v∈vsN,(level:Int)<=v.lv
 kds:Kds s.ns.length h nx subs
 rg:rg subs s.is.length=some s'.is.length
 good:∀ x∈subs,x.good c.pl s'.is
 inv:Qcq c s' level
theorem Qcw.zero {c:Mc} {s:Ms} {level h:Nat} (hi:Qcq c s level):Qcw c s s level h [] [] [] [] :=
 ⟨by simp,by simp,by simp,by simp,by simp,Kds.nil _ _,by simp[Proofs.YtogjmpkehjfecaaGreatDoor.Rc.rg],by simp,hi⟩
theorem Qcw.snoc {c:Mc} {s s1 s2:Ms} {level h:Nat} {nx:List Int} {subs sub:List Nd} {i1 i2:List (Int×Int)} {v1 v2:List Vw} (hk:Qcw c s s1 level h nx subs i1 v1) (hp:Qfo c s1 s2 level h sub i2 v2) :
 Qcw c s s2 level h (nx++[(s1.ns.length:Int)]) (subs++sub) (i1++i2) (v1++v2):=by
 refine⟨?_,?_,?_,?_,?_,?_,?_,?_,hp.inv⟩
 . rw[hp.ns,hk.ns,VC]
 . rw[hp.is,hk.is,VC]
 . rw[hp.vs,hk.vs,VC]
 . rw[hp.pend,hk.pend]; simp; omega
 . intro v hv;rcases Vj.1 hv with h|h
   . exact hk.lv v h
   . exact hp.lv v h
 . exact hk.kds.snoc hp.wlk (by rw[hk.ns]; simp)
 . rw[Qjb,hk.rg]; exact hp.rg
 . intro x hx;rcases Vj.1 hx with h|h
   . rw[hp.is]; exact(hk.good x h).app _
   . exact hp.good x h
section
variable {A B:Ws} {c:Mc} {s:Ms}
def QV (A B:Ws) (ch:Bool) (x0 info:Int) (nx ws:List Int):AO :=
 ⟨[i64 (if ch=true then 1 else 2),i64 (if ch=true then 0 else x0),i64 (if ch=true then 0 else info),.own (A.length+(B.length+9)) 0 nx.length 1 nx.length,if ch=true then .own (A.length+(B.length+10)) 0 ws.length 1 ws.length else .val (.slice none 0 0),.val (.slice none 0 0)],57,0,true⟩
def QG (l:List Int):AO:=⟨Qa l,3,l.length,true⟩
theorem Qp1 {n:Nat} (hA:Cl n A) (hB:Cl n B) (hn:A.length+6<=n):Cl n (c.hp A B s):=by
 unfold Mc.hp;refine hA.app ?_;refine Cl.cons (by simp[Mc.D,SV.underL,SV.under]) (Cl.cons (by simp only[Mc.M,SV.underL,SV.under,Va,Wd,Bool.and_true]; refine⟨?_,?_,?_,?_,?_,?_,?_,?_,?_,?_⟩<;>first|omega|rfl) (Cl.cons ?_ (Cl.cons ?_ (Cl.cons ?_ (Cl.cons ?_ hB)))))
 . exact QbX (λx=>by simp[lcN,SV.underL,SV.under]) _
 . exact QbX (λx=>by simp[Vw.cells,SV.underL,SV.under]) _
 . exact QbX (QjM _) _
 . exact QbX (λx=>by simp[icN,SV.underL,SV.under]) _
def w60:IC:=match Qdu with
 |.keep _ (.seq _ (.seq (.blk 1 (.seq _ (.seq _ (.seq _ w)))) _))=>w
 |_=>.skip
set_option maxRecDepth 10000 in
theorem QrK {l:List (List Int)} {ch:Bool} {x0 x1 x2 info:Int} {level:Nat} {g:AO} {s':Ms} {N:Nat} {K:Wr} (hb:Qea c (level+1)) {nx ws:List Int} {L L2:Ws} {env:Env} (hl:(l.length:Int)=c.pl) (hll:∀ x∈l,x.length<=level+1) (hi:Qcq c s' (level+1)) (hu:Unq s'.vs) (hp:1<=s'.pend) (hm:level<=1000) (hx:nx.length<=1000) (hns:s'.ns.length<=100000)
 (h0:env.get 0=.ptr (.own (A.length+1) 0 0 0 0) 0) (h1:env.get 1=i64 level) (h11:env.get 11=.ptr (.own (A.length+(B.length+8)) 0 0 0 0) 0) (h13:env.get 13=.own (A.length+(B.length+(L.length+11))) 0 l.length 1 l.length)
 (hK:∀ env' v1 v2 s2 sub isN vsN,Qfo c s' s2 (level+1) (c.lv.length-(level+1)) sub isN vsN->GhP c s'.ns.length (level+1) l sub s2.vs->(∀ t,t<185->env'.get t=env.get t)->K .normal env' (c.hp A (B++g::⟨[i64 x0,i64 x1,i64 x2],97,0,true⟩::QV A B ch x0 info (nx++[(s'.ns.length:Int)]) ws::QG (nx++[(s'.ns.length:Int)])::QG ws::(L++⟨[],45,v1,false⟩::(L2++[⟨[i64 v2],3,0,true⟩]))) s2)) :
 X Tryz.prog N Qb w60 env (c.hp A (B++g::⟨[i64 x0,i64 x1,i64 x2],97,0,true⟩::QV A B ch x0 info nx ws::QG nx::QG ws::(L++Qbd l::L2)) s') K:=by
 have w1:IntKind.i64.wrap ((level:Int)+1)=((level+1:Nat):Int):=QaB (by omega);simp -implicitDefEqProofs[w60,Qdu,h0,h1,h11,h13,QV,Mc.hp,w1];have hb':=hb A (B++g::⟨[i64 x0,i64 x1,i64 x2],97,0,true⟩::QV A B ch x0 info nx ws::QG nx::QG ws::(L++⟨[],45,l.length+1,false⟩::L2)) s' l hi hu hp hl hll;refine Q4 (OkP.give (A.length+(B.length+(L.length+11))) 1 (o:=Qbd l) ?_ rfl (OkP.cast ?_ ?_ hb')) ?_
 . simp only[QbL,QhQ,VW,QfR,Yp]
 . simp[Qbd,Qba,VB]
 . simp[Go.Ab.set_app,Qkk,QgG,Mc.hp,QV,Qbd,AO.dead]
 rintro o G' ⟨rfl,s2,sub,isN,vsN,hp2,hgh,rfl⟩;simp -implicitDefEqProofs[w60,Qdu,h0,h1,h11,h13,QV,Mc.hp,w1];refine⟨by omega,by omega,⟨rfl,rfl,rfl,by simp[QG]⟩,?_⟩;have e:Qa (nx++[(s'.ns.length:Int)])=Qa nx++[i64 s'.ns.length]:=by simp[Qa]
 have:=hK ((194,(SV.own (A.length+(B.length+8)) 0 0 0 0).ptr 3)::(193,SV.own (A.length+(B.length+9)) 0 (nx.length+1) 1 (nx.length+1))::(192,SV.own (A.length+(B.length+(L.length+(L2.length+12)))) 0 1 1 0)::(191,i64 s'.ns.length)::(190,SV.own (A.length+(B.length+(L.length+11))) 0 l.length 1 l.length)::(189,i64 (level+1))::(188,i64 level) ::
  (187,(SV.own (A.length+1) 0 0 0 0).ptr 0)::(186,SV.own (A.length+(B.length+9)) 0 nx.length 1 nx.length)::(185,(SV.own (A.length+(B.length+8)) 0 0 0 0).ptr 3)::env) (l.length+1) s'.ns.length s2 sub isN vsN hp2 hgh (λt ht=>by
   simp only[Env.get];repeat rw[Wa (by omega)])
 simpa[Mc.hp,QV,QG,e]using this
set_option maxRecDepth 10000 in
theorem Qr9 {seen:List (List Int)} {ch:Bool} {x0 x1 x2 info:Int} {level many:Nat} {g:AO} {s1:Ms} {N:Nat} {K:Wr} (hc:c.Good) (hb:Qea c (level+1)) (hA:Cl (A.length+(B.length+6)) A) (hB:Cl (A.length+(B.length+6)) B) (hg:Cl 0 [g])
 (hs:(seen.length:Int)=c.pl) (hsl:∀ l∈seen,l.length<=level) (hlv:level<c.lv.length) (hmy:many<=3) (hx0:ch=decide (x0<0)) (hp1:(many:Int)<=s1.pend) {at':Nat}
 (hexit:∀ env L s' nx ws subs isN vsN,nx.length=many->Qcw c s1 s' (level+1) (c.lv.length-(level+1)) nx subs isN vsN->KGh c s1.ns.length (level+1) seen x0 nx subs s'.vs->(ws.length=if ch=true then many else 0)->(∀ w∈ws,1<=w/\w<=3)->Cl 0 L ->
  env.get 0=.ptr (.own (A.length+1) 0 0 0 0) 0->env.get 7=i64 at'->env.get 11=.ptr (.own (A.length+(B.length+8)) 0 0 0 0) 0 ->
  K (.exit 0) env (c.hp A (B++g::⟨[i64 x0,i64 x1,i64 x2],97,0,true⟩::QV A B ch x0 info nx ws::QG nx::QG ws::L) s')) :
 ∀ (n:Nat) (env:Env) (L:Ws) (s':Ms) (nx ws:List Int) (subs:List Nd) (isN:List (Int×Int)) (vsN:List Vw),nx.length+n=many->Qcw c s1 s' (level+1) (c.lv.length-(level+1)) nx subs isN vsN->KGh c s1.ns.length (level+1) seen x0 nx subs s'.vs ->
  (ws.length=if ch=true then nx.length else 0)->(∀ w∈ws,1<=w/\w<=3)->Cl 0 L ->
  env.get 0=.ptr (.own (A.length+1) 0 0 0 0) 0->env.get 1=i64 level->env.get 2=Qba seen->env.get 7=i64 at'->env.get 8=.ptr (.own (A.length+(B.length+7)) 0 0 0 0) 0->env.get 9=i64 many->env.get 11=.ptr (.own (A.length+(B.length+8)) 0 0 0 0) 0->env.get 12=i64 nx.length ->
  LI Tryz.prog N Qb Qdu env (c.hp A (B++g::⟨[i64 x0,i64 x1,i64 x2],97,0,true⟩::QV A B ch x0 info nx ws::QG nx::QG ws::L) s') K:=by
 intro n
 induction n with
 |zero =>
  intro env L s' nx ws subs isN vsN hn hk hkg hws hw hL h0 h1 h2 h7 h8 h9 h11 h12;refine Qc hm' Qdu.eq_1 ?_;simp -implicitDefEqProofs[h0,h1,h2,h7,h8,h9,h11,h12,show ¬ nx.length<many by omega];refine hexit _ L s' nx ws subs isN vsN (by omega) hk hkg (by rw[hws]; split<;>omega) hw hL ?_ ?_ ?_<;>simp[h0,h7,h11]
 |succ n ih =>
  intro env L s' nx ws subs isN vsN hn hk hkg hws hw hL h0 h1 h2 h7 h8 h9 h11 h12;refine Qc hm' Qdu.eq_1 ?_;have hlt:nx.length<many:=by omega
  have w1:IntKind.i64.wrap ((nx.length:Int)+1)=((nx.length+1:Nat):Int):=QaB (by omega);have hps:=hk.pend;have hil:=hk.inv.ml;have hcm:=hc.m;have hcl':=hc.lv;have hcp:=hc.p2;have key:∀ (ws':List Int) (s2:Ms) (L2:Ws) (env:Env),Qcw c s1 s2 (level+1) (c.lv.length-(level+1)) nx subs isN vsN->KGh c s1.ns.length (level+1) seen x0 nx subs s2.vs->(ws'.length=if ch=true then nx.length+1 else 0)->(∀ w∈ws',1<=w/\w<=3)->Cl 0 L2 ->
   env.get 0=.ptr (.own (A.length+1) 0 0 0 0) 0->env.get 1=i64 level->env.get 2=Qba seen->env.get 7=i64 at'->env.get 8=.ptr (.own (A.length+(B.length+7)) 0 0 0 0) 0->env.get 9=i64 many->env.get 11=.ptr (.own (A.length+(B.length+8)) 0 0 0 0) 0->env.get 12=i64 nx.length ->
   env.get 13=.own (A.length+(B.length+(L2.length+11))) 0 0 1 0->env.get 14=i64 0 ->
   ∀ K' K2:Wr,(∀ env H,X Tryz.prog N Qb w60 env H K2->K' (.exit 2) env H)->(∀ (e:Env) (H:Ws),e.get 12=i64 nx.length->LI Tryz.prog N Qb Qdu ((12,i64 ((nx.length+1:Nat):Int))::(135,i64 ((nx.length+1:Nat):Int))::(134,i64 nx.length)::e) H K->K2 .normal e H) ->
   LI Tryz.prog N Qb QeZ env (c.hp A (B++g::⟨[i64 x0,i64 x1,i64 x2],97,0,true⟩::QV A B ch x0 info nx ws'::QG nx::QG ws'::(L2++[Qbd []])) s2) K':=by
   intro ws' s2 L2 env hk2 hkg2 hws2 hw2 hL2 g0 g1 g2 g7 g8 g9 g11 g12 g13 g14 K' K2 hK' hK2;have hps2:=hk2.pend;have hil2:=hk2.inv.ml;have hm:A.length+(B.length+6)<=A.length+((B++g::⟨[i64 x0,i64 x1,i64 x2],97,0,true⟩::QV A B ch x0 info nx ws'::QG nx::QG ws'::L2).length+6):=by simp
   have hclo:closed (c.hp A (B++g::⟨[i64 x0,i64 x1,i64 x2],97,0,true⟩::QV A B ch x0 info nx ws'::QG nx::QG ws'::L2) s2):=by
    rw[Qi8,Qco];refine Qp1 (hA.mono hm) ((hB.mono hm).app ?_) (by omega);refine Cl.cons ((SV.underL_iff _ _).2 λy hy=>SV.under_mono (Yq _) y (hg g (by simp) y hy)) (Cl.cons (by simp[SV.underL,SV.under]) (Cl.cons ?_ (Cl.cons (Qk4 _ _) (Cl.cons (Qk4 _ _) (hL2.mono (Yq _))))))
    cases ch<;>simp[QV,SV.underL,SV.under]<;>omega
   refine LI.cong (H':=c.hp A ((B++g::⟨[i64 x0,i64 x1,i64 x2],97,0,true⟩::QV A B ch x0 info nx ws'::QG nx::QG ws'::L2)++Qbd []::[]) s2) (by simp) ?_;refine Qs1 (seen:=seen) (m:=level) (jp:=B.length+1) (x0:=x0) (x1:=x1) (x2:=x2) (i:=nx.length) (y1:=level) (y7:=at') (y9:=many) (y11:=A.length+(B.length+8)) hclo (by omega) hsl (by omega) (by simp) (λenv L l hL hl hl2 hnq k0 k1 k2 k7 k8 k9 k11 k12 k13 => ?_) seen.length env [] [] (by simp) (Cl.nil _) (by simp) (QcS.nil _ _ _) g0 g1 g2 g7 (by rw[g8]) g9 g11 g12 (by rw[g13]; simp; omega) g14;refine hK' _ _ ?_;have e:c.hp A ((B++g::⟨[i64 x0,i64 x1,i64 x2],97,0,true⟩::QV A B ch x0 info nx ws'::QG nx::QG ws'::L2)++Qbd l::L) s2=c.hp A (B++g::⟨[i64 x0,i64 x1,i64 x2],97,0,true⟩::QV A B ch x0 info nx ws'::QG nx::QG ws'::(L2++Qbd l::L)) s2:=by simp
   rw[e];refine QrK hb (l:=l) (L:=L2) (L2:=L) (by rw[hl]; exact hs) hl2 hk2.inv hkg2.1 (by omega) (by omega) (by omega) (by omega) k0 k1 k11 (by rw[k13,hl]; simp; omega) (λenv' v1 v2 s3 sub isN' vsN' hpo hgh he => ?_);refine hK2 _ _ (by rw[he 12 (by omega)]; exact k12) ?_;refine ih _ _ s3 (nx++[(s2.ns.length:Int)]) ws' _ _ _ (by simp; omega) (hk2.snoc hpo) (by
    have e1:s2.ns.length=s1.ns.length+subs.length:=by rw[hk2.ns]; simp
    have e2:=hpo.vs;rw[e1]at hgh ⊢;rw[e2]at hgh ⊢;exact hkg2.snoc (hnq.full hl) hgh) (by simpa using hws2) hw2 (hL2.app (Cl.cons rfl (hL.app (Cl.cons rfl (Cl.nil _))))) ?_ ?_ ?_ ?_ ?_ ?_ ?_ ?_
   all_goals simp[he,k0,k1,k2,k7,k8,k9,k11]
  cases ch with
  |true =>
   have hneg:x0<0:=by simpa using hx0.symm
   simp -implicitDefEqProofs[h0,h1,h2,h7,h8,h9,h11,h12,hlt,hneg,QV,Mc.hp,Mc.M];have h59:=Qej (A:=A) (c:=c) (B:=B++g::⟨[i64 x0,i64 x1,i64 x2],97,0,true⟩::QV A B true x0 info nx ws::QG nx::QG ws::L) (n:=3) (s:=s') hc.l hk.inv.a0 (by omega);refine Q4 (by simpa[Mc.hp,Mc.M,QV]using h59) ?_;rintro o G' ⟨v,a,rfl,hv1,hv2,hv3,rfl⟩;have w2:IntKind.i64.wrap (1+v)=1+v:=Qj (by omega) (by omega);simp -implicitDefEqProofs[h0,h1,h2,h7,h8,h9,h11,h12,hlt,hneg,QV,Mc.hp,Mc.M,w2,QG];simp at hws;refine⟨by omega,by omega,?_⟩;have hk3:Qcw c s1 { s' with at':=a } (level+1) (c.lv.length-(level+1)) nx subs isN vsN:=⟨hk.ns,hk.is,hk.vs,hk.pend,hk.lv,hk.kds,hk.rg,hk.good,⟨hv1,hk.inv.vl,hk.inv.vi,hk.inv.vsn,hk.inv.used,hk.inv.isr,hk.inv.nsr,hk.inv.il,hk.inv.ml⟩⟩;refine LI.cong (H':=c.hp A (B++g::⟨[i64 x0,i64 x1,i64 x2],97,0,true⟩::QV A B true x0 info nx (ws++[1+v])::QG nx::QG (ws++[1+v])::((L++[⟨[i64 (1+v)],3,0,true⟩])++[Qbd []])) { s' with at':=a }) (by simp[Mc.hp,Mc.M,QV,Qbd,QG,show Qa (ws++[1+v])=Qa ws++[i64 (1+v)]by simp[Qa]])
    (key (ws++[1+v]) _ _ _ hk3 hkg (by simp; omega) ?_ (hL.app (Cl.cons rfl (Cl.nil _))) ?_ ?_ ?_ ?_ ?_ ?_ ?_ ?_ ?_ ?_ _ _ (λenv H hX=>by simp only[We]; exact hX) ?_)
   . intro w hw';rcases Vj.1 hw' with h|h
     . exact hw w h
     . simp at h; omega
   all_goals try (simp[h0,h1,h2,h7,h8,h9,h11,h12]; done)
   intro e H g12 hLI;simp -implicitDefEqProofs[g12,w1];exact hLI
  |false =>
   have hneg:¬ x0<0:=by simpa using hx0.symm
   simp -implicitDefEqProofs[h0,h1,h2,h7,h8,h9,h11,h12,hlt,hneg,QV,Mc.hp,Mc.M];refine LI.cong (H':=c.hp A (B++g::⟨[i64 x0,i64 x1,i64 x2],97,0,true⟩::QV A B false x0 info nx ws::QG nx::QG ws::(L++[Qbd []])) s') (by simp[Mc.hp,Mc.M,QV,Qbd]) (key ws s' L _ hk hkg hws hw hL ?_ ?_ ?_ ?_ ?_ ?_ ?_ ?_ ?_ ?_ _ _ (λenv H hX=>by simp only[We]; exact hX) ?_);all_goals try (simp[h0,h1,h2,h7,h8,h9,h11,h12]; done)
   intro e H g12 hLI;simp -implicitDefEqProofs[g12,w1];exact hLI
end
def phN:Nd:=⟨0,0,0,[],[],[]⟩
structure Qee (c:Mc) (s s2:Ms) (level:Nat) (x0:Int) (info many:Nat):Prop where
 ns:s2.ns=s.ns++[phN]
 pend:s2.pend=s.pend-1
 a0:0<=s2.at'
 m3:1<=many/\many<=3
 set:(x0<0/\info=0/\s2.is=s.is/\s2.vs=s.vs) \/
  (0<=x0/\s2.is[info]? = some (x0,(many:Int))/\((s2.is=s.is/\s2.vs=s.vs/\∃ h:info<s.vs.length,s.vs[info].lv=level) \/
   (x0<c.pl/\info=s.is.length/\s2.is=s.is++[(x0,(many:Int))]/\∃ sn:List Int,sn.length<=100/\s2.vs=s.vs++[⟨x0,level,sn,info⟩])))
section
variable {c:Mc} {s s2 s3:Ms} {level info many:Nat} {x0:Int}
theorem Qmm {α:Type} (l:List α) (p x:α) (r:List α):(l++p::r).set l.length x=l++x::r:=by
 rw[YG _ _ (Vc _)]; simp
theorem QnE {ps:List Int} {a:Int} {h:Nat} (hc:c.Good) (hi:Qcq c s level) (hp1:1<=s.pend) (hns:s3.ns=s.ns++[phN]) (hpe:s3.pend=s.pend-1) (his:s3.is=s.is) (hvs:s3.vs=s.vs) (hps:(ps.length:Int)=c.pl) (hw:∀ w∈ps,-3<=w/\w<=3) (ha:0<=a) :
 Qfo c s (s3.endN s.ns.length ps a) level h [⟨3,0,0,[],[],ps⟩] [] []:=by
 have e:(s3.endN s.ns.length ps a).ns=s.ns++[⟨3,0,0,[],[],ps⟩]:=by simp only[Ms.endN,hns]; exact Qmm _ _ _ _
 have ei:(s3.endN s.ns.length ps a).is=s.is:=his;have ev:(s3.endN s.ns.length ps a).vs=s.vs:=hvs;refine⟨e,by rw[ei]; simp,by rw[ev]; simp,hpe,by simp,Wlk.leaf _ _ rfl,by simp[rg,ei],?_,⟨ha,?_,?_,?_,?_,?_,?_,?_,?_⟩⟩
 . intro x hx;simp at hx; subst hx;exact .inr (.inr ⟨rfl,rfl,rfl,rfl,rfl,hps,λw h=>by have:=hw w h; omega⟩)
 . rw[ei,ev]; exact hi.vl
 . intro j hj;have hj':j<s.vs.length:=by rw[<-ev]; exact hj
   have:=hi.vi j hj';simp only[ei,ev]; exact this
 . rw[ev]; exact hi.vsn
 . intro j hj hl;have hj':j<s.vs.length:=by rw[<-ev]; exact hj
   simp only[ev]at hl;obtain⟨x,h1,h2⟩:=hi.used j hj' hl;exact⟨x,by rw[e]; exact VZ _ h1,h2⟩
 . rw[ei]; exact hi.isr
 . intro x hx hk;rw[e]at hx;rcases Vj.1 hx with h|h
   . rw[ei]; exact hi.nsr x h hk
   . simp at h; subst h; simp at hk
 . rw[ei,e]; have:=hi.il; simp; omega
 . rw[e]; have:=hi.ml; have:(s3.endN s.ns.length ps a).pend=s.pend-1:=hpe; simp; omega
theorem Qee.set' (hm:Qee c s s2 level x0 info many) (hi:Qcq c s level):∃ i1 v1,s2.is=s.is++i1/\s2.vs=s.vs++v1/\(∀ v∈v1,v.lv=level/\v.sn.length<=100/\i1=[(v.pl,(many:Int))]/\v.inf=s.is.length/\0<=v.pl/\v.pl<c.pl)/\i1.length=v1.length/\i1.length<=1:=by
 rcases hm.set with ⟨_,_,h1,h2⟩|⟨h0,_,⟨h1,h2,_⟩|⟨h3,h4,h1,sn,h5,h2⟩⟩
 . exact⟨[],[],by simp[h1],by simp[h2],by simp,rfl,by simp⟩
 . exact⟨[],[],by simp[h1],by simp[h2],by simp,rfl,by simp⟩
 . exact⟨_,_,h1,h2,by simp[h5,h0,h3,h4],rfl,by simp⟩
theorem Qee.inv (hm:Qee c s s2 level x0 info many) (hc:c.Good) (hi:Qcq c s level) (hp1:1<=s.pend) (hle:(s.ns.length:Int)+1+s2.pend+many<=c.most):Qcq c { s2 with pend:=s2.pend+many } (level+1):=by
 obtain⟨i1,v1,e1,e2,h1,h2,h3⟩:=hm.set' hi;have hvl:=hi.vl;refine⟨hm.a0,?_,?_,?_,?_,?_,?_,?_,?_⟩
 . simp only[e1,e2,Vt]; omega
 . intro j hj;simp only[e2,Vt]at hj;simp only[e1,e2];by_cases hj':j<s.vs.length
   . rw[Zr hj',Zr (by omega)];exact hi.vi j hj'
   . have hj2:j-s.vs.length<v1.length:=by omega
     rw[Zg (by omega),Zg (by omega)];obtain⟨k1,k2,k3,k4,k5,k6⟩:=h1 _ (Vf hj2);have:j=s.vs.length:=by omega
     refine⟨by rw[k4]; omega,?_⟩;simp only[k3]; simp
 . intro v hv;simp only[e2]at hv;rcases Vj.1 hv with h|h
   . exact hi.vsn v h
   . exact(h1 v h).2.1
 . intro j hj hl;simp only[e2,Vt]at hj hl;by_cases hj':j<s.vs.length
   . rw[Zr hj']at hl;obtain⟨x,k1,k2⟩:=hi.used j hj' (by omega);exact⟨x,by simp only[hm.ns]; exact VZ _ k1,k2⟩
   . rw[Zg (by omega)]at hl;have:=(h1 _ (Vf (show j-s.vs.length<v1.length by omega))).1;omega
 . intro q hq;simp only[e1]at hq;rcases Vj.1 hq with h|h
   . exact hi.isr q h
   . cases hv:v1 with
     |nil=>rw[hv]at h2; simp at h2; rw[h2]at h; simp at h
     |cons v r =>
      obtain⟨k1,k2,k3,k4,k5,k6⟩:=h1 v (by rw[hv]; simp);rw[k3]at h; simp at h; subst h;have:=hm.m3;exact⟨k5,k6,by omega,by omega⟩
 . intro x hx hk;simp only[hm.ns]at hx;rcases Vj.1 hx with h|h
   . have:=hi.nsr x h hk;simp only[e1,Vt]; omega
   . simp[phN]at h; subst h; simp at hk
 . have:=hi.il;simp only[e1,hm.ns,Vt,YX]; omega
 . simp only[hm.ns,Vt,YX]; have:=hm.pend; omega
def Qae (ch:Bool) (x0:Int) (info:Nat) (nx ws:List Int):Nd:=if ch=true then⟨1,0,0,nx,ws,[]⟩else⟨2,x0,info,nx,[],[]⟩
theorem Qtt {s4:Ms} {ch:Bool} {nx ws:List Int} {subs:List Nd} {isN:List (Int×Int)} {vsN:List Vw} {h':Nat} (hc:c.Good) (hi:Qcq c s level) (hp1:1<=s.pend) (hm:Qee c s s2 level x0 info many) (hch:ch=decide (x0<0))
 (hk:Qcw c { s2 with pend:=s2.pend+many } s4 (level+1) h' nx subs isN vsN) (hnx:nx.length=many) (hws:ws.length=if ch=true then many else 0) (hw:∀ w∈ws,1<=w/\w<=3) :
 ∃ isM vsM,Qfo c s { s4 with ns:=s4.ns.set s.ns.length (Qae ch x0 info nx ws) } level (h'+1) (Qae ch x0 info nx ws::subs) isM vsM:=by
 obtain⟨i1,v1,e1,e2,h1,h2,h3⟩:=hm.set' hi;have hvl:=hi.vl;have m3:=hm.m3;have hns4:s4.ns=s.ns++phN::subs:=by rw[hk.ns]; simp[hm.ns]
 have his4:s4.is=s.is++(i1++isN):=by rw[hk.is]; simp[e1]
 have hvs4:s4.vs=s.vs++(v1++vsN):=by rw[hk.vs]; simp[e2]
 have e:s4.ns.set s.ns.length (Qae ch x0 info nx ws)=s.ns++Qae ch x0 info nx ws::subs:=by rw[hns4]; exact Qmm _ _ _ _
 have hkn:(Qae ch x0 info nx ws).nx=nx:=by unfold Qae; split<;>rfl
 have hkd:Kds (s.ns.length+1) h' nx subs:=by have:=hk.kds; simp only[hm.ns,Vt,YX]at this; exact this
 have hinfo:ch=false->s4.is[info]? = some (x0,(many:Int))/\0<=x0/\x0<c.pl:=by
  intro hf;have hx:¬ x0<0:=by rw[hf]at hch; simpa using hch.symm
  have key:s2.is[info]? = some (x0,(many:Int)):=by
   rcases hm.set with ⟨h,_⟩|⟨_,h,_⟩
   . exact absurd h hx
   . exact h
  refine⟨by rw[hk.is,Vd (Qd key)]; exact key,by omega,?_⟩;have:=hk.inv.isr (x0,(many:Int)) (by rw[hk.is]; exact VZ _ (Vp key));exact this.2.1
 refine⟨i1++isN,v1++vsN,e,his4,hvs4,?_,?_,Wlk.node (by rw[hkn]; exact hkd),?_,?_,?_⟩
 . show s4.pend=_;rw[hk.pend]; simp only[hm.pend,hnx]; omega
 . intro v hv;rcases Vj.1 hv with h|h
   . rw[(h1 v h).1]; exact V8 _
   . have:=hk.lv v h; omega
 . have hr:=hk.rg;simp only[e1]at hr
   cases ch with
   |true =>
    have hx:x0<0:=by simpa using hch.symm
    have hi1:i1=[]:=by
     rcases hm.set with ⟨_,_,h,_⟩|⟨h,_⟩
     . rw[e1]at h; simpa using h
     . omega
    rw[hi1]at hr; simp at hr;simp[rg,Qae]; exact hr
   |false =>
    have hx:¬ x0<0:=by simpa using hch.symm
    rcases hm.set with ⟨h,_⟩|⟨_,_,⟨h4,_,hlt,_⟩|⟨_,h4,h5,_⟩⟩
    . omega
    . have hi1:i1=[]:=by rw[e1]at h4; simpa using h4
      rw[hi1]at hr; simp at hr;rw[show Qae false x0 info nx ws=⟨2,x0,info,nx,[],[]⟩from rfl];simp only[rg];rw[Wb trivial,Wa (by omega),Wb (by omega)]; exact hr
    . have hi1:i1=[(x0,(many:Int))]:=by rw[e1]at h5; simpa using h5
      rw[hi1]at hr; simp at hr;rw[show Qae false x0 info nx ws=⟨2,x0,info,nx,[],[]⟩from rfl];simp only[rg];rw[Wb trivial,Wb (by omega)]; exact hr
 . intro x hx;rcases Vi.1 hx with rfl|hx
   . cases ch with
     |true=>exact .inl ⟨rfl,rfl,rfl,rfl,by simp[Qae]; omega,by simp[Qae]; omega,by simp at hws; simp[Qae]; omega,λw h=>by have:=hw w h; omega⟩
     |false =>
      obtain⟨k1,k2,k3⟩:=hinfo rfl;exact .inr (.inl ⟨rfl,rfl,rfl,by simp[Qae]; omega,by simp[Qae]; omega,k2,k3,by simp[Qae],by simp[Qae,hnx]; exact k1⟩)
   . exact hk.good x hx
 . have hin:∀ y∈s4.ns,y.k=2->y∈s4.ns.set s.ns.length (Qae ch x0 info nx ws):=by
    intro y hy hy2;rw[hns4]at hy; rw[e];rcases Vj.1 hy with h|h
    . exact VZ _ h
    . rcases Vi.1 h with rfl|h
      . simp[phN]at hy2
      . exact Ya _ (VI _ h)
   refine⟨hk.inv.a0,hk.inv.vl,hk.inv.vi,hk.inv.vsn,?_,hk.inv.isr,?_,?_,?_⟩
   . intro j hj hl;by_cases hj2:((level+1:Nat):Int)<=s4.vs[j].lv
     . obtain⟨x,k1,k2,k3⟩:=hk.inv.used j hj hj2;exact⟨x,hin x k1 k2,k2,k3⟩
     . have hlv:s4.vs[j].lv=level:=by show s4.vs[j].lv=_; have:(level:Int)<=s4.vs[j].lv:=hl; omega
       by_cases hj3:j<s.vs.length
       . have ej:s4.vs[j]=s.vs[j]:=by simp only[hvs4]; rw[Zr hj3]
         obtain⟨x,k1,k2,k3⟩:=hi.used j hj3 (by rw[<-ej,hlv]; exact V8 _);exact⟨x,by show x∈s4.ns.set _ _; rw[e]; exact VZ _ k1,k2,k3⟩
       . by_cases hj4:j-s.vs.length<v1.length
         . have hv1:v1.length=1:=by omega
           rcases hm.set with ⟨_,_,_,h⟩|⟨hx0,_,⟨_,h,_⟩|⟨_,h4,_,sn,_,h⟩⟩
           . rw[e2]at h; simp at h; rw[h]at hv1; simp at hv1
           . rw[e2]at h; simp at h; rw[h]at hv1; simp at hv1
           . have hcf:ch=false:=by rw[hch]; simpa using hx0
             refine⟨Qae ch x0 info nx ws,by show _∈s4.ns.set _ _; rw[e]; simp,by rw[hcf]; rfl,?_⟩;rw[hcf]; show(info:Int)=j; omega
         . exfalso;have hj5:j-s.vs.length-v1.length<vsN.length:=by
            have:j<s4.vs.length:=hj;rw[hvs4]at this; simp at this; omega
           have ej:s4.vs[j]=vsN[j-s.vs.length-v1.length]:=by
            simp only[hvs4]; rw[Zg (by omega),Zg (by omega)]
           have:=hk.lv _ (Vf hj5);rw[<-ej]at this; omega
   . intro x hx hx2;have hx':x∈s.ns++Qae ch x0 info nx ws::subs:=by rw[<-e]; exact hx
     rcases Vj.1 hx' with h|h
     . exact hk.inv.nsr x (by rw[hns4]; exact VZ _ h) hx2
     . rcases Vi.1 h with rfl|h
       . cases hcc:ch with
         |true=>rw[hcc]at hx2; simp[Qae]at hx2
         |false =>
          have:=Qd (hinfo hcc).1;show 0<=(info:Int)/\(info:Int)<s4.is.length;omega
       . exact hk.inv.nsr x (by rw[hns4]; exact Ya _ (VI _ h)) hx2
   . show s4.is.length<=(s4.ns.set _ _).length;rw[VO]; exact hk.inv.il
   . show((s4.ns.set _ _).length:Int)+s4.pend<=_;rw[VO]; exact hk.inv.ml
end
structure QjH (c:Mc) (s2:Ms) (level:Nat) (x0:Int) (info:Nat) (seen:List (List Int)):Prop where
 un:Unq s2.vs
 lv:lvF c level=x0
 vw:0<=x0->∃ s v,seen[x0.toNat]? = some s/\s2.vs[info]? = some v/\v.pl=x0/\v.lv=level/\v.sn=s
theorem QnX {c:Mc} {b level:Nat} {seen:List (List Int)} {x:Nd} {vs:List Vw} (hk:x.k=3) (hx:x.nx=[]) (h:Unq vs):GhP c b level seen [x] vs:=by
 have hj:∀ (j:Nat) (y:Nd),[x][j]? = some y->y=x:=λj y h=>by
  have:=Vp h;simpa using this
 refine⟨h,[⟨level,seen⟩],rfl,rfl,λj y z hy hz k d hd => ?_,λj y z hy hz => ?_⟩
 . rw[hj j y hy,hx]at hd; simp at hd
 . rw[hj j y hy];exact⟨λh=>by omega,λh=>by omega⟩
theorem Qs9 {c:Mc} {s2:Ms} {b level info:Nat} {x0:Int} {seen:List (List Int)} {ch:Bool} {nx ws:List Int} {subs:List Nd} {vsN:List Vw} (hg:QjH c s2 level x0 info seen) (hch:ch=decide (x0<0)) (hk:KGh c (b+1) (level+1) seen x0 nx subs (s2.vs++vsN)) :
 GhP c b level seen (Qae ch x0 info nx ws::subs) (s2.vs++vsN):=by
 obtain⟨u,gs,l,k1,n1,f1⟩:=hk;refine⟨u,⟨level,seen⟩::gs,by simp[l],rfl,λj x y hx hy k d hd => ?_,λj x y hx hy => ?_⟩
 . cases j with
   |zero =>
    simp only[Yp,Option.some.injEq]at hx hy;subst hx; subst hy;have e:(Qae ch x0 info nx ws).nx=nx:=by unfold Qae; split<;>rfl
    rw[e]at hd;obtain⟨m,z,e1,e2,e3,e4⟩:=k1 k d hd;refine⟨m+1,z,by rw[e1]; congr 1; omega,by simpa using e2,?_,e4⟩;refine⟨e3.1,λq hq => ?_⟩;obtain⟨e',a1,a2⟩:=e3.2 q hq;refine⟨e',a1,λhm=>a2 ?_⟩
    cases ch with
    |true =>
     have:(Qae true x0 info nx ws).mvr = -1:=rfl;rw[this]at hm; omega
    |false =>
     have:(Qae false x0 info nx ws).mvr=x0:=rfl;rw[this]at hm; exact hm
   |succ j =>
    simp only[VW]at hx hy;obtain⟨m,z,e1,e2,e3⟩:=n1 j x y hx hy k d hd;exact⟨m+1,z,by rw[e1]; congr 1; omega,by simpa using e2,e3⟩
 . cases j with
   |zero =>
    simp only[Yp,Option.some.injEq]at hx hy;subst hx; subst hy
    cases ch with
    |true =>
     have hn:x0<0:=by simpa using hch.symm
     exact⟨λh=>by simp[Qae]at h,λ_=>by rw[hg.lv]; exact hn⟩
    |false =>
     have hn:¬ x0<0:=by simpa using hch.symm
     obtain⟨s,v,h1,h2,h3⟩:=hg.vw (by omega);refine⟨λ_=>⟨hg.lv,by simp[Qae],by show 0<=x0; omega,s,v,h1,?_,h3⟩,λh=>by simp[Qae]at h⟩;show(s2.vs++vsN)[(info:Int).toNat]? = _;rw[Int.toNat_natCast,Vd (Qd h2)];exact h2
   |succ j =>
    simp only[VW]at hx hy;exact f1 j x y hx hy
def t60:IC:=IC.tl 8 i49
section
variable {A B:Ws} {c:Mc} {s s2:Ms} {level info many:Nat} {x0 x1 x2:Int} {seen:List (List Int)}
set_option maxRecDepth 10000 in
theorem Quo {env:Env} {g:AO} {N:Nat} (hc:c.Good) (hi:Qcq c s level) (hp1:1<=s.pend) (hm:Qee c s s2 level x0 info many) (hus:Unq s.vs) (hgm:QjH c s2 level x0 info seen) (hb:Qea c (level+1)) (hcl:closed (c.hp A B s)) (hg:Cl 0 [g]) (hlv:level<c.lv.length)
 (hs:(seen.length:Int)=c.pl) (hsl:∀ l∈seen,l.length<=level) (h0:env.get 0=.ptr (.own (A.length+1) 0 0 0 0) 0) (h1:env.get 1=i64 level) (h2:env.get 2=Qba seen) (h7:env.get 7=i64 s.ns.length) (h8:env.get 8=.ptr (.own (A.length+(B.length+7)) 0 0 0 0) 0)
 (h9:env.get 9=i64 many) (h10:env.get 10=i64 info) :
 X Tryz.prog N Qb t60 env (c.hp A (B++[g,⟨[i64 x0,i64 x1,i64 x2],97,0,true⟩]) s2) (FinP (A.length+(B.length+6)) r49 (QeP c A B s level seen)):=by
 have hcm:=hc.m;have hml:=hi.ml;have m3:=hm.m3;have hpe:=hm.pend;have hcp:=hc.p2;have w1:IntKind.i64.wrap ((s.ns.length:Int)+1)=s.ns.length+1:=Qj (by omega) (by omega);have w2:IntKind.i64.wrap ((s.ns.length:Int)+1+s2.pend)=s.ns.length+1+s2.pend:=Qj (by omega) (by omega);have w3:IntKind.i64.wrap ((s.ns.length:Int)+1+s2.pend+many)=s.ns.length+1+s2.pend+many:=Qj (by omega) (by omega);have w4:IntKind.i64.wrap (s2.pend+many)=s2.pend+many:=Qj (by omega) (by omega);by_cases hgt:c.most<(s.ns.length:Int)+1+s2.pend+many
 . simp -implicitDefEqProofs[t60,IC.tl,i49,r49,h0,h1,h2,h7,h8,h9,h10,Mc.hp,Mc.M,w1,w2,w3,w4,hgt];obtain⟨i1,v1,e1,e2,hv1,hv2,hv3⟩:=hm.set' hi;have hvl:=hi.vl;have hil:=hi.il;have hn2:s2.ns.length=s.ns.length+1:=by simp[hm.ns]
   have hd:=ok77 (A:=A) (B:=B++[g,⟨[i64 x0,i64 x1,i64 x2],97,0,true⟩]) (c:=c) (s:=s2) (info:=info) (pl:=x0) (by omega) (by rw[e1]; simp; omega) (λh=>by
    rcases hm.set with ⟨h',_⟩|⟨_,h',_⟩
    . omega
    . have:=Qd h'; omega) (by rw[e1,e2]; simp; omega)
   refine Q4 hd ?_;rintro o G' ⟨rfl,hcase⟩;obtain⟨s3,rfl,k1,k2,k3,k4,k5⟩:∃ s3,G'=c.hp A (B++[g,⟨[i64 x0,i64 x1,i64 x2],97,0,true⟩]) s3/\s3.ns=s.ns++[phN]/\s3.pend=s.pend-1/\s3.is=s.is/\s3.vs=s.vs/\0<=s3.at':=by
    rcases hcase with ⟨hcond,rfl⟩|⟨hx,hcond,hno,rfl⟩
    . refine⟨s2,rfl,hm.ns,hm.pend,?_,?_,hm.a0⟩<;>rcases hm.set with ⟨_,_,h,h'⟩|⟨hx,_,⟨h,h',_⟩|⟨_,h4,h,sn,_,h'⟩⟩
      all_goals first
       |exact h
       |exact h'
       |skip
      all_goals
       exfalso;rcases hcond with hh|hh|⟨x,hx1,hx2,hx3⟩
       . omega
       . rw[h]at hh; simp at hh; omega
       . rw[hm.ns]at hx1;rcases Vj.1 hx1 with hx1|hx1
         . have:=hi.nsr x hx1 hx2; omega
         . simp[phN]at hx1; subst hx1; simp at hx2
    . refine⟨s2.cut,rfl,hm.ns,hm.pend,?_,?_,hm.a0⟩<;>rcases hm.set with ⟨hx',_⟩|⟨_,h6,⟨h,h',hlt,hlv'⟩|⟨_,h4,h,sn,_,h'⟩⟩
      . omega
      . exfalso;obtain⟨x,hx1,hx2,hx3⟩:=hi.used info hlt (by rw[hlv']; exact V8 _);exact hno x (by rw[hm.ns]; exact VZ _ hx1) ⟨hx2,hx3⟩
      . simp[Ms.cut,h]
      . omega
      . exfalso;obtain⟨x,hx1,hx2,hx3⟩:=hi.used info hlt (by rw[hlv']; exact V8 _);exact hno x (by rw[hm.ns]; exact VZ _ hx1) ⟨hx2,hx3⟩
      . simp[Ms.cut,h']
   simp -implicitDefEqProofs[h0,h1,h2,h7,h8,h9,h10];refine Q4 (ok75 (k:=s.ns.length) hc.l k5 hc.p1 hc.p2 (by rw[k1]; simp) (by rw[k1]; simp; omega)) ?_;rintro o G' ⟨rfl,ps,a,p1,p2,p3,rfl⟩;simp -implicitDefEqProofs[h0,h1,h2,h7,h8,h9,h10];exact⟨_,_,⟨rfl,_,_,_,_,QnE hc hi hp1 k1 k2 k3 k4 p1 p2 p3,QnX rfl rfl (by show Unq s3.vs; rw[k4]; exact hus),rfl⟩,by rw[<-Qco]; exact Qiw hcl rfl (Qcd _ _ _ _ _)⟩
 . simp -implicitDefEqProofs[t60,IC.tl,i49,r49,h0,h1,h2,h7,h8,h9,h10,Mc.hp,Mc.M,w1,w2,w3,w4,hgt];have hfin:∀ (ch:Bool),ch=decide (x0<0)->∀ (env:Env) (L:Ws) (s':Ms) (nx ws:List Int) (subs:List Nd) (isN:List (Int×Int)) (vsN:List Vw),nx.length=many->Qcw c { s2 with pend:=s2.pend+many } s' (level+1) (c.lv.length-(level+1)) nx subs isN vsN->KGh c (s.ns.length+1) (level+1) seen x0 nx subs s'.vs->(ws.length=if ch=true then many else 0)->(∀ w∈ws,1<=w/\w<=3)->Cl 0 L ->
    env.get 0=.ptr (.own (A.length+1) 0 0 0 0) 0->env.get 7=i64 s.ns.length->env.get 11=.ptr (.own (A.length+(B.length+8)) 0 0 0 0) 0 ->
    X Tryz.prog N Qb (IC.tl 5 t60) env (c.hp A (B++g::⟨[i64 x0,i64 x1,i64 x2],97,0,true⟩::QV A B ch x0 info nx ws::QG nx::QG ws::L) s') (FinP (A.length+(B.length+6)) r49 (QeP c A B s level seen)):=by
    intro ch hch env L s' nx ws subs isN vsN hnx hk hkg hws hw hL g0 g7 g11;obtain⟨isM,vsM,hpo⟩:=Qtt hc hi hp1 hm hch hk hnx hws hw;have hlt:s.ns.length<s'.ns.length:=by rw[hk.ns]; simp[hm.ns]
    have hle:=QhB Nd.lenN hlt;simp -implicitDefEqProofs[t60,IC.tl,i49,r49,g0,g7,g11,Mc.hp,Mc.M,QV];refine⟨hlt,⟨by cases ch<;>rfl,rfl⟩,by simpa[Mc.N]using hle,_,_,⟨rfl,_,_,_,_,(by rw[show c.lv.length-level=c.lv.length-(level+1)+1 by omega]; exact hpo),(by
     have e2:s'.vs=s2.vs++vsN:=hk.vs;rw[e2]at hkg;show GhP c s.ns.length level seen _ s'.vs;rw[e2];exact Qs9 hgm hch hkg),rfl⟩,?_⟩
    have f1:=QdR (n:=A.length+(B.length+6)) (ks:=[]) (L:=g::⟨[i64 x0,i64 x1,i64 x2],97,0,true⟩::QV A B ch x0 info nx ws::QG nx::QG ws::L) (d:=1) 3 0 nx.length 1 nx.length;have f2:=QdR (n:=A.length+(B.length+6)) (ks:=[]) (L:=g::⟨[i64 x0,i64 x1,i64 x2],97,0,true⟩::QV A B ch x0 info nx ws::QG nx::QG ws::L) (d:=1) 4 0 ws.length 1 ws.length;have z1:(Qa nx).length=nx.length:=by simp[Qa]
    have z2:(Qa ws).length=ws.length:=by simp[Qa]
    have hne:nx≠[]:=by intro e; subst e; simp at hnx; omega
    have hcl2:closed (c.hp A B s'):=Qlb hcl;have:=Qpr (A:=A) (B:=B) (c:=c) (s:=s') (n0:=A.length+(B.length+6)) (k:=s.ns.length) (L:=g::⟨[i64 x0,i64 x1,i64 x2],97,0,true⟩::QV A B ch x0 info nx ws::QG nx::QG ws::L) (r:=i64 s.ns.length) (x:=Qae ch x0 info nx ws)
     (cx:=[i64 (if ch=true then 1 else 2),i64 (if ch=true then 0 else x0),i64 (if ch=true then 0 else info),.own (A.length+(B.length+9)) 0 nx.length 1 nx.length,if ch=true then .own (A.length+(B.length+10)) 0 ws.length 1 ws.length else .val (.slice none 0 0),.val (.slice none 0 0)]) hcl2 (Vc _) hlt (by
      rw[show A.length+(B.length+9)=A.length+(B.length+6)+3 by omega,show A.length+(B.length+10)=A.length+(B.length+6)+4 by omega];simp[QX,QG,z1,z2,VB]at f1 f2
      cases ch with
      |true =>
       have hne2:ws≠[]:=by intro e; subst e; simp at hws; omega
       simp[Qae,Nd.cN,slN,hne,hne2,sl,f1,f2,QG,QX,z1,z2,VB]
      |false=>simp[Qae,Nd.cN,slN,hne,sl,f1,f2,QG,QX,z1,z2,VB])
    simp[Mc.hp,Mc.D,Mc.L,Mc.M,Mc.V,Mc.N,Mc.I,QV]at this ⊢;exact this
   have hinv:=hm.inv hc hi hp1 (by omega);have hA:Cl (A.length+(B.length+6)) A:=by have:=Qi8.1 hcl; rw[Qco]at this; exact this.left
   have hB:Cl (A.length+(B.length+6)) B:=by have:=Qi8.1 hcl; rw[Qco]at this; exact this.right.tail.tail.tail.tail.tail.tail
   have hloop:∀ (ch:Bool),ch=decide (x0<0)->∀ (env:Env) (K':Wr),(∀ env H,X Tryz.prog N Qb (IC.tl 5 t60) env H (FinP (A.length+(B.length+6)) r49 (QeP c A B s level seen))->K' (.exit 0) env H) ->
    env.get 0=.ptr (.own (A.length+1) 0 0 0 0) 0->env.get 1=i64 level->env.get 2=Qba seen->env.get 7=i64 s.ns.length->env.get 8=.ptr (.own (A.length+(B.length+7)) 0 0 0 0) 0->env.get 9=i64 many->env.get 11=.ptr (.own (A.length+(B.length+8)) 0 0 0 0) 0->env.get 12=i64 0 ->
    LI Tryz.prog N Qb Qdu env (c.hp A (B++g::⟨[i64 x0,i64 x1,i64 x2],97,0,true⟩::QV A B ch x0 info [] []::QG []::QG []::[]) { s2 with pend:=s2.pend+many }) K':=by
    intro ch hch env K' hK' g0 g1 g2 g7 g8 g9 g11 g12;refine Qr9 (s1:={ s2 with pend:=s2.pend+many }) (level:=level) (many:=many) (seen:=seen) hc hb hA hB hg hs hsl hlv m3.2 hch (by show(many:Int)<=s2.pend+many; omega) (at':=s.ns.length) (λenv L s' nx ws subs isN vsN hnx hk hkg hws hw hL k0 k7 k11=>hK' _ _ (hfin ch hch env L s' nx ws subs isN vsN hnx hk (by simpa[hm.ns]using hkg) hws hw hL k0 k7 k11)) many env [] _ [] [] [] [] [] (by simp) (Qcw.zero hinv) (KGh.zero hgm.un) (by cases ch<;>rfl) (by simp) (Cl.nil _) g0 g1 g2 g7 g8 g9 g11 g12
   refine⟨rfl,?_⟩;by_cases hx:0<=x0
   . rw[Wb hx];refine⟨rfl,LI.tell (Qbg.own0 (j:=A.length+(B.length+8)) (p:=3) (o:=⟨[i64 2,i64 x0,i64 info,.val (.slice none 0 0),.val (.slice none 0 0),.val (.slice none 0 0)],57,0,true⟩) ?_ rfl rfl 3 1) (LI.tell (Qbg.nil 3) (LI.cong (H':=c.hp A (B++g::⟨[i64 x0,i64 x1,i64 x2],97,0,true⟩::QV A B false x0 info [] []::QG []::QG []::[]) { s2 with pend:=s2.pend+many }) ?_ (hloop false (by simpa using hx) _ _ (λenv H h=>h) ?_ ?_ ?_ ?_ ?_ ?_ ?_ ?_)))⟩
     . simp only[QbL,QhQ,VW,QfR,Yp]
     . simp[Mc.hp,Mc.M,QV,QG,Go.Ab.set_app,QgG];exact⟨rfl,rfl,rfl,rfl,rfl⟩
     all_goals simp[h0,h1,h2,h7,h8,h9]
   . rw[Wa hx];refine LI.tell (Qbg.own0 (j:=A.length+(B.length+8)) (p:=3) (o:=⟨[i64 1,i64 0,i64 0,.val (.slice none 0 0),.val (.slice none 0 0),.val (.slice none 0 0)],57,0,true⟩) ?_ rfl rfl 3 1) (LI.tell (Qbg.own0 (j:=A.length+(B.length+8)) (p:=4) (o:=⟨[i64 1,i64 0,i64 0,.own (A.length+(B.length+9)) 0 0 1 0,.val (.slice none 0 0),.val (.slice none 0 0)],57,0,true⟩) ?_ rfl rfl 3 1)
      (LI.cong (H':=c.hp A (B++g::⟨[i64 x0,i64 x1,i64 x2],97,0,true⟩::QV A B true x0 info [] []::QG []::QG []::[]) { s2 with pend:=s2.pend+many }) ?_ (hloop true (by simpa using hx) _ _ (λenv H h=>h) ?_ ?_ ?_ ?_ ?_ ?_ ?_ ?_)))
     . simp only[QbL,QhQ,VW,QfR,Yp]
     . simp only[QbL,Go.Ab.set_app,QgG,QhQ,Y9,VW,Qkk,Z0,VC,VK,QfR,Yp];simp
     . simp[Mc.hp,Mc.M,QV,QG,Go.Ab.set_app,QgG];exact⟨rfl,rfl,rfl,rfl,rfl⟩
     all_goals simp[h0,h1,h2,h7,h8,h9]
end
section
variable {A B:Ws} {c:Mc} {s:Ms} {level:Nat} {seen:List (List Int)}
theorem Unq.snoc {vs:List Vw} {p l:Int} {sn:List Int} {i:Int} (h:Unq vs) (hn:∀ v∈vs,¬ (v.pl=p/\v.lv=l/\v.sn=sn)):Unq (vs++[⟨p,l,sn,i⟩]):=by
 intro a b u v ha hb h1 h2 h3;have hlast:∀ (k:Nat) (w:Vw),¬ k<vs.length->(vs++[(⟨p,l,sn,i⟩:Vw)])[k]? = some w->k=vs.length/\w=⟨p,l,sn,i⟩:=λk w hk hw=>by
  rw[Vg (by omega)]at hw;have hlt:=Qd hw;have e:k-vs.length=0:=by simp at hlt; omega
  rw[e]at hw;exact⟨by omega,by simpa using hw.symm⟩
 by_cases ka:a<vs.length
 . rw[Vd ka]at ha;by_cases kb:b<vs.length
   . rw[Vd kb]at hb;exact h a b u v ha hb h1 h2 h3
   . obtain⟨_,rfl⟩:=hlast b v kb hb;exact absurd ⟨h1,h2,h3⟩ (hn u (Vp ha))
 . obtain⟨ea,rfl⟩:=hlast a u ka ha;by_cases kb:b<vs.length
   . rw[Vd kb]at hb;exact absurd ⟨h1.symm,h2.symm,h3.symm⟩ (hn v (Vp hb))
   . obtain⟨eb,_⟩:=hlast b v kb hb;omega
def gb:AO:=⟨[i64 0,i64 0,i64 0,.val (.slice none 0 0),.val (.slice none 0 0),.val (.slice none 0 0)],57,0,true⟩
def Ms.push (s:Ms):Ms:={ s with ns:=s.ns++[phN],vn:=s.vn+1,pend:=s.pend-1 }
def m60:IC:=.seq (IC.nth 4 i49) (.seq (IC.nth 5 i49) (.seq (IC.nth 6 i49) (.seq (IC.nth 7 i49) t60)))
theorem h60':i49=.seq (IC.nth 0 i49) (.seq (IC.nth 1 i49) (.seq (IC.nth 2 i49) (.seq (IC.nth 3 i49) m60))):=rfl
set_option maxRecDepth 10000 in
theorem Qu2 {env:Env} {N:Nat} (hc:c.Good) (hle:level<=c.lv.length) (hb:level<c.lv.length->Qea c (level+1)) (hi:Qcq c s level) (hus:Unq s.vs) (hp1:1<=s.pend) (hcl:closed (c.hp A B s)) (hs:(seen.length:Int)=c.pl) (hsl:∀ l∈seen,l.length<=level)
 (h0:env.get 0=.ptr (.own (A.length+1) 0 0 0 0) 0) (h1:env.get 1=i64 level) (h2:env.get 2=Qba seen) (h7:env.get 7=i64 s.ns.length) :
 X Tryz.prog N Qb m60 env (c.hp A (B++[gb]) s.push) (FinP (A.length+(B.length+6)) r49 (QeP c A B s level seen)):=by
 have hcm:=hc.m;have hml:=hi.ml;have hcp:=hc.p2;have hil:=hi.il;have hvl:=hi.vl;have hlv:=hc.lv;have hend:∀ a:Int,0<=a->OkP Tryz.prog 75 [.ptr (.own (A.length+1) 0 0 0 0) 0,i64 s.ns.length] (c.hp A (B++[gb]) { s.push with at':=a }) (Qh1 c A (B++[gb]) { s.push with at':=a } s.ns.length):=λa ha =>
  ok75 (A:=A) (B:=B++[gb]) (c:=c) (s:={ s.push with at':=a }) (k:=s.ns.length) hc.l ha hc.p1 hc.p2 (by simp[Ms.push]) (by simp[Ms.push]; omega)
 have hfin:∀ (a:Int),0<=a->∀ o G',Qh1 c A (B++[gb]) { s.push with at':=a } s.ns.length o G'->o=.ret (.tup [])/\Qbu (c.hp A B s).length (QeP c A B s level seen) (i64 s.ns.length) G':=by
  rintro a ha o G' ⟨rfl,ps,a',p1,p2,p3,rfl⟩;exact⟨rfl,_,_,⟨rfl,_,_,_,_,QnE (s3:={ s.push with at':=a }) hc hi hp1 rfl rfl rfl rfl p1 p2 p3,QnX rfl rfl hus,rfl⟩,Qiw hcl rfl (Qcd _ _ _ _ _)⟩
 rw[Qco]at hfin;by_cases hlev:level=c.lv.length
 . simp -implicitDefEqProofs[m60,IC.nth,i49,r49,Mc.hp,Mc.M,h0,h1,h2,h7,hlev];refine Q4 (hend s.at' hi.a0) ?_;intro o G' hq;obtain⟨rfl,hf⟩:=hfin _ hi.a0 _ _ hq;simp -implicitDefEqProofs[h0,h1,h2,h7];rw[hlev]at hf;exact hf
 . have hlt:level<c.lv.length:=by omega
   have hd:=Qgb Qio hlt;have hd1:=Qd7 Qio hlt;have hd2:=QkR Qio hlt;rw[lcN,VK,VK,VK,V3]at hd;have hlr:=hc.lvr _ (Vf hlt);simp -implicitDefEqProofs[m60,IC.nth,i49,r49,Mc.hp,Mc.M,h0,h1,h2,h7,show ¬ ((level:Int)=c.lv.length)by omega];refine Q4 (OkP.strip (by show OkP Tryz.prog 48 [.ptr (.own A.length 0 0 0 0) 0,i64 8] _ _; exact Qej (A:=A) (B:=B++[gb]) (c:=c) (s:=s.push) (n:=8) hc.l hi.a0 (by omega))) ?_;rintro o G' ⟨v,a,rfl,ha,hv1,hv2,rfl⟩;by_cases hv:v=1
   . simp -implicitDefEqProofs[h0,h1,h2,h7,Mc.hp,Mc.M,hv,show ¬ ((level:Int)=c.lv.length)by omega];refine Q4 (hend a ha) ?_;intro o G' hq;obtain⟨rfl,hf⟩:=hfin _ ha _ _ hq;simp -implicitDefEqProofs[h0,h1,h2,h7];exact hf
   . generalize hx:c.lv[level]=x at hd hlr;obtain⟨x0,x1,x2⟩:=x;simp only at hd hlr;have htail:=λ(s2:Ms) (info many:Nat) (env:Env) (hm:Qee c s s2 level x0 info many) (hgm:QjH c s2 level x0 info seen) (k0:env.get 0=_) (k1:env.get 1=_) (k2:env.get 2=_) (k7:env.get 7=_) (k8:env.get 8=_) (k9:env.get 9=_) (k10:env.get 10=_) =>
      Quo (A:=A) (B:=B) (c:=c) (s:=s) (s2:=s2) (seen:=seen) (env:=env) (g:=gb) (N:=N) (x1:=x1) (x2:=x2) hc hi hp1 hm hus hgm (hb hlt) hcl (Cl.cons rfl (Cl.nil _)) hlt hs hsl k0 k1 k2 k7 k8 k9 k10
     have hlvF:lvF c level=x0:=by simp[lvF,hlt,hx]
     by_cases hx0:0<=x0
     . have hxl:x0.toNat<seen.length:=by omega
       simp -implicitDefEqProofs[h0,h1,h2,h7,Mc.hp,Mc.M,Mc.L,hv,hd,hd1,hd2,hx0,hxl,Qba,sl,show x0<(seen.length:Int)by omega,show ¬ ((level:Int)=c.lv.length)by omega,Yd,show 1<=seen.length-x0.toNat by omega];refine⟨hlt,?_⟩;have h74:=ok76 (A:=A) (B:=B++[gb,⟨[i64 x0,i64 x1,i64 x2],97,0,true⟩]) (c:=c) (s:={ s.push with at':=a }) (pl:=x0) (lv:=level) (sn:=seen[x0.toNat]) hc.l ha (by simp[Ms.push]; omega) (by simp[Ms.push]; omega) (λv h=>hi.vsn v h);refine Q4 (by simpa[Mc.hp,Mc.M,Mc.L,sl]using h74) ?_;rintro o G' (⟨i,hil',e1,e2,e3,rfl,rfl⟩|⟨k,a',hno,hk1,hk2,ha',rfl,rfl⟩)
       . have hil2:i<s.vs.length:=hil';have hii:i<s.is.length:=by omega
         obtain⟨v1,v2⟩:=hi.vi i hil2;have q1:=Qij Qew (t:=1) hii (by omega);simp only[icN,Yp,VW]at q1;have q2:=Qd7 Qew hii;have hr:=hi.isr _ (Vf hii);obtain⟨many,hmany⟩:∃ m:Nat,s.is[i].2=m:=⟨s.is[i].2.toNat,by omega⟩;rw[hmany]at q1;simp -implicitDefEqProofs[h0,h1,h2,h7,Mc.hp,Mc.M,Mc.I,Ms.push,v1,hii,q1,q2];refine⟨by omega,?_⟩;have hq:s.is[i]? = some (x0,(many:Int)):=by
          rw[Vb hii,<- hmany];have:s.is[i].1=x0:=by rw[<-v2]; exact e1
          rw[<-this]
         have:=λenv k0 k1 k2 k7 k8 k9 k10=>htail { s.push with at':=a } i many env ⟨rfl,rfl,ha,by omega,.inr ⟨hx0,hq,.inl ⟨rfl,rfl,hil2,e2⟩⟩⟩ ⟨hus,hlvF,λ_=>⟨_,_,Vb hxl,Vb hil2,e1,e2,e3⟩⟩ k0 k1 k2 k7 k8 k9 k10;simp only[Mc.hp,Mc.M,Mc.I,Ms.push,Vt,YX]at this ⊢;refine this _ ?_ ?_ ?_ ?_ ?_ ?_ ?_<;>simp[h0,h1,h2,h7]
       . obtain⟨many,hmany⟩:∃ m:Nat,k=m:=⟨k.toNat,by omega⟩;subst hmany;have hii:s.is.length<(s.is++[(x0,(many:Int))]).length:=by simp
         have q1:=Qij Qew (l:=s.is++[(x0,(many:Int))]) (t:=1) hii (by omega);rw[Zg (by omega)]at q1;simp only[icN,Yp,VW,Ze,List.getElem_cons_zero]at q1;have q2:=Qd7 Qew hii;simp -implicitDefEqProofs[h0,h1,h2,h7,Mc.hp,Mc.M,Mc.I,Ms.push,Ms.addV,q1,q2];refine⟨by omega,by omega,?_⟩;have:=λenv k0 k1 k2 k7 k8 k9 k10=>htail ({ s.push with at':=a }.addV x0 level seen[x0.toNat] many a') s.is.length many env ⟨rfl,rfl,ha',by omega,.inr ⟨hx0,by simp[Ms.addV,Ms.push],.inr ⟨by omega,rfl,rfl,_,(by have:=hsl _ (Vf hxl); omega),rfl⟩⟩⟩ ⟨hus.snoc hno,hlvF,λ_=>⟨_,⟨x0,level,seen[x0.toNat],s.is.length⟩,Vb hxl,by simp[Ms.addV,Ms.push,hvl],rfl,rfl,rfl⟩⟩ k0 k1 k2 k7 k8 k9 k10;simp only[Mc.hp,Mc.M,Mc.I,Ms.push,Ms.addV,Vt,YX]at this ⊢;refine this _ ?_ ?_ ?_ ?_ ?_ ?_ ?_<;>simp[h0,h1,h2,h7]
     . simp -implicitDefEqProofs[h0,h1,h2,h7,Mc.hp,Mc.M,Mc.L,hv,hd,hd1,hd2,hx0,show ¬ ((level:Int)=c.lv.length)by omega];refine⟨hlt,?_⟩;obtain⟨many,hmany⟩:∃ m:Nat,x1=m:=⟨x1.toNat,by omega⟩;refine htail { s.push with at':=a } 0 many _ ⟨rfl,rfl,ha,by omega,.inl ⟨by omega,rfl,rfl,rfl⟩⟩ ⟨hus,hlvF,λh=>absurd h hx0⟩ ?_ ?_ ?_ ?_ ?_ ?_ ?_<;>simp[h0,h1,h2,h7,hmany]
set_option maxRecDepth 10000 in
theorem Qmh (hc:c.Good) (hle:level<=c.lv.length) (hb:level<c.lv.length->Qea c (level+1)):Qea c level:=by
 intro A B s seen hi hus hp1 hs hsl;refine QaY hm' Tryz.func49 c49 (by simp) λhcl => ?_;have hcm:=hc.m;have hml:=hi.ml;have z0:=QbJ Nd.lenN s.ns;have w1:IntKind.i64.wrap (s.pend-1)=s.pend-1:=Qj (by omega) (by omega);have ePh:rws Nd.cN (s.ns++[phN])=rws Nd.cN s.ns++[i64 0,i64 0,i64 0,.val (.slice none 0 0),.val (.slice none 0 0),.val (.slice none 0 0)]:=by rw[Qc9]; rfl
 rw[h60'];simp -implicitDefEqProofs[IC.nth,i49,Mc.hp,Mc.M,Mc.N,w1,z0];refine⟨rfl,by omega,by omega,?_⟩;have:=λenv h0 h1 h2 h7=>Qu2 (env:=env) (N:=Tryz.f49.ntmps) hc hle hb hi hus hp1 hcl hs hsl h0 h1 h2 h7;simp only[Mc.hp,Mc.D,Mc.M,Mc.N,Mc.V,Mc.I,Ms.push,gb,ePh,VC,Vt,YX]at this ⊢;refine this _ ?_ ?_ ?_ ?_<;>simp
end
theorem QnK {c:Mc} (hc:c.Good):∀ (f level:Nat),level+f=c.lv.length->Qea c level
 |0,level,h=>Qmh hc (by omega) λh'=>absurd h' (by omega)
 |f+1,level,h=>Qmh hc (by omega) λ_=>QnK hc f (level+1) (by omega)
theorem Qn6:∀ l:List Nd,nds l=rws Nd.cells l
 |[]=>rfl
 |x::r=>by simp only[nds,rws,Qn6 r]
theorem Qmj:∀ l:List (Int×Int),Qx l=rws icN l
 |[]=>rfl
 |x::r=>by simp only[Qx,rws,Qmj r]; rfl
theorem Wlk.pos {b h:Nat} {sub:List Nd} (hw:Wlk b h sub):1<=sub.length:=by
 rcases sub with _|⟨x,r⟩
 . obtain⟨m,h1,_⟩:=hw (List.replicate b phN) [] 0 0 0 (by simp) (by simp);simp[Qat]at h1
 . simp
structure QeA (pl0 most:Int) (g:Gm):Prop where
 pl:g.pl=pl0
 n1:1<=g.ns.length
 ml:(g.ns.length:Int)<=most
 il:g.is.length<=g.ns.length
 wlk:Wlk 0 10 g.ns
 good:∀ x∈g.ns,x.good pl0 g.is
 rg:rg g.ns 0=some g.is.length
 isr:∀ q∈g.is,0<=q.1/\q.1<pl0/\1<=q.2/\q.2<=3
 rcl:∃ lvs V gs,Rcl g lvs V gs
theorem QeA.form {pl most:Int} {g:Gm} (h:QeA pl most g) (p1:1<=pl) (p4:pl<=4) (hm:most<=200):g.formE=0:=by
 have:=h.ml; have:=h.il; have:=h.pl; have:=h.n1;exact QsF (by omega) (by omega) h.n1 (by omega) (by omega) h.wlk (by omega) (by rw[h.pl]; exact h.good) h.rg
theorem QsW {c:Mc} {s:Ms} {pl:Int} {np:Nat} (hn:pl=np) (h:GhP c 0 0 (List.replicate np []) s.ns s.vs):∃ lvs V gs,Rcl ⟨pl,s.ns,s.is⟩ lvs V gs:=by
 obtain⟨u,gs,h1,h2,h3,h4⟩:=h;refine⟨lvF c,λi=>s.vs[i]?.map λv=>(v.pl,v.lv,v.sn),gs,h1,?_,λj x y hx hy k d hd => ?_,λj x y hx hy => ?_,λi j w hi hj => ?_⟩
 . rw[h2]; simp[hn]
 . obtain⟨m,z,e1,e2,e3⟩:=h3 j x y hx hy k d hd;exact⟨m,z,by rw[e1]; simp,e2,e3⟩
 . obtain⟨f1,f2⟩:=h4 j x y hx hy;refine⟨λhk => ?_,f2⟩;obtain⟨a1,a2,a3,t,v,b1,b2,b3,b4,b5⟩:=f1 hk;exact⟨a1,a2,a3,t,b1,by simp[b2,b3,b4,b5]⟩
 . cases ha:s.vs[i]? with
   |none=>simp[ha]at hi
   |some p =>
    cases hb:s.vs[j]? with
    |none=>simp[hb]at hj
    |some q =>
     simp only[ha,hb,VS,Option.some.injEq]at hi hj;have e:=hi.trans hj.symm;simp only[Prod.mk.injEq]at e;exact u i j p q ha hb e.1 e.2.1 e.2.2
def Qjl (n:Nat) (pl:Int) (s:Ms):SV:=.agg [i64 pl,.own (n+5) 0 s.ns.length 6 s.vn,.own (n+6) 0 s.is.length 2 s.vi]
section
variable {H:Ws}
set_option maxRecDepth 10000 in
theorem Qux {l:List Int} {pl most:Int} {zero:Bool} {m0:Nat} {A:Ws} {N:Nat} {K:Wr} (hl:l.length<4611686018427387904) (p1:1<=pl) (p2:pl<=1000) (hm0:m0<=50)
 (hexit:∀ env B lv a,lv.length<=m0->(∀ q∈lv,-1<=q.1/\q.1<pl/\2<=q.2.1/\q.2.1<=3)->0<=a->env.get 1=i64 pl->env.get 8=.ptr (.own (A.length-1) 0 0 0 0) 0->env.get 9=.ptr (.own (A.length+1) 0 0 0 0) 0 ->
  K (.exit 0) env ((⟨l,lv,lv.length,most,zero,pl⟩:Mc).hp A B ⟨a,1,0,0,0,[],[],[]⟩)) :
 ∀ (n:Nat) (env:Env) (B:Ws) (lv:List (Int×Int×Int)) (a:Int),lv.length+n=m0->(∀ q∈lv,-1<=q.1/\q.1<pl/\2<=q.2.1/\q.2.1<=3)->0<=a->env.get 1=i64 pl->env.get 8=.ptr (.own (A.length-1) 0 0 0 0) 0->env.get 9=.ptr (.own (A.length+1) 0 0 0 0) 0->env.get 10=i64 n ->
  LI Tryz.prog N Qb Qhy env ((⟨l,lv,lv.length,most,zero,pl⟩:Mc).hp A B ⟨a,1,0,0,0,[],[],[]⟩) K:=by
 intro n
 induction n with
 |zero =>
  intro env B lv a hn hlv ha h1 h8 h9 h10;refine Qc hm Qhy.eq_1 ?_;simp -implicitDefEqProofs[h1,h8,h9,h10];refine hexit _ B lv a (by omega) hlv ha ?_ ?_ ?_<;>simp[h1,h8,h9]
 |succ n ih =>
  intro env B lv a hn hlv ha h1 h8 h9 h10;refine Qc hm Qhy.eq_1 ?_;have w0:IntKind.i64.wrap (pl+1)=pl+1:=Qj (by omega) (by omega);have w1:IntKind.i64.wrap (n:Int)=n:=Qck (by omega);have z0:=QbJ Qio lv;simp -implicitDefEqProofs[h1,h8,h9,h10,Mc.hp,Mc.M,w0,show(0:Int)<n+1 by omega];refine Q4 (Qej (A:=A) (B:=B) (c:=⟨l,lv,lv.length,most,zero,pl⟩) (n:=pl+1) (s:=⟨a,1,0,0,0,[],[],[]⟩) hl ha (by omega)) ?_;rintro o G' ⟨v,a1,rfl,ha1,hv1,hv2,rfl⟩;have w2:IntKind.i64.wrap (v-1)=v-1:=Qj (by omega) (by omega);simp -implicitDefEqProofs[h1,h8,h9,h10,Mc.hp,Mc.M,w0,w2];refine Q4 (Qej (A:=A) (B:=B) (c:=⟨l,lv,lv.length,most,zero,pl⟩) (n:=2) (s:=⟨a1,1,0,0,0,[],[],[]⟩) hl ha1 (by omega)) ?_;rintro o G' ⟨u,a2,rfl,ha2,hu1,hu2,rfl⟩;have w3:IntKind.i64.wrap (2+u)=2+u:=Qj (by omega) (by omega);simp -implicitDefEqProofs[h1,h8,h9,h10,Mc.hp,Mc.M,w0,w2,w3];refine Q4 (Qej (A:=A) (B:=B) (c:=⟨l,lv,lv.length,most,zero,pl⟩) (n:=16) (s:=⟨a2,1,0,0,0,[],[],[]⟩) hl ha2 (by omega)) ?_;rintro o G' ⟨t,a3,rfl,ha3,ht1,ht2,rfl⟩;simp -implicitDefEqProofs[h1,h8,h9,h10,Mc.hp,Mc.M,Mc.L,w0,w1,w2,w3,z0];refine⟨by omega,by omega,?_⟩;refine LI.cong (H':=(⟨l,lv++[(v-1,2+u,t)],(lv++[(v-1,2+u,t)]).length,most,zero,pl⟩:Mc).hp A (B++[⟨[i64 (v-1),i64 (2+u),i64 t],97,0,true⟩]) ⟨a3,1,0,0,0,[],[],[]⟩) (by simp[Mc.hp,Mc.D,Mc.L,Mc.M,Mc.V,Mc.N,Mc.I,Qc9,rws,lcN]) ?_;refine ih _ _ _ _ (by simp; omega) ?_ ha3 ?_ ?_ ?_ ?_
  . intro q hq;rcases Vj.1 hq with h|h
    . exact hlv q h
    . simp at h; subst h; simp only; omega
  all_goals simp[h1,h8,h9,w1]
set_option maxRecDepth 10000 in
theorem Qsz {l:List Int} {pl most:Int} {zero:Bool} {Pt:Out->Ws->Prop} (hl:l.length<4611686018427387904) (p1:1<=pl) (p2:pl<=1000) (m1:1<=most) (m2:most<=2000)
 (hfin:closed H->∀ (c:Mc) (s:Ms) (B:Ws) (o:AO),QeA pl most ⟨pl,s.ns,s.is⟩->Qbu H.length Pt (Qjl H.length pl s) (c.hp (H++[o]) B s)) :
 OkP Tryz.prog 24 [.slc (Qa l) l.length,i64 pl,i64 most,bl zero] H Pt:=by
 refine QaY hm Tryz.func24 c24 (by simp) λhcl => ?_;simp -implicitDefEqProofs[i24,r24];have h59:=ok48 (G:=H++[⟨[i64 0,.val (.slice none 0 0),.val (.slice none 0 0)],26,0,true⟩,⟨[.slc (Qa l) l.length,i64 0],90,0,true⟩,⟨[.ptr (.own (H.length+1) 0 0 0 0) 0,.val (.slice none 0 0),.val (.slice none 0 0),i64 most,i64 1,bl zero,bl false,i64 pl,.val (.slice none 0 0),.val (.slice none 0 0)],94,0,true⟩]) (l:=l) (at':=0) (n:=5) (jd:=H.length+1) (by simp[QbL]) hl (by omega) (by omega);refine⟨rfl,?_⟩;refine Q4 h59 ?_;rintro o G' ⟨v,a,rfl,ha,hv1,hv2,rfl⟩;have w1:IntKind.i64.wrap (1+v)=1+v:=Qj (by omega) (by omega);simp -implicitDefEqProofs[w1];obtain⟨m0,hm0⟩:∃ m:Nat,1+v=m:=⟨(1+v).toNat,by omega⟩;rw[hm0];have z1:H.length+1-1=H.length:=by omega
 refine LI.tell (Qbg.own0 (j:=H.length+2) (p:=1) (o:=⟨[.ptr (.own (H.length+1) 0 0 0 0) 0,.val (.slice none 0 0),.val (.slice none 0 0),i64 most,i64 1,bl zero,bl false,i64 pl,.val (.slice none 0 0),.val (.slice none 0 0)],94,0,true⟩) ?_ rfl rfl 97 3)
  (LI.tell (Qbg.own0 (j:=H.length+2) (p:=2) (o:=⟨[.ptr (.own (H.length+1) 0 0 0 0) 0,.own (H.length+3) 0 0 3 0,.val (.slice none 0 0),i64 most,i64 1,bl zero,bl false,i64 pl,.val (.slice none 0 0),.val (.slice none 0 0)],94,0,true⟩) ?_ rfl rfl 160 4)
  (LI.tell (Qbg.own0 (j:=H.length+2) (p:=8) (o:=⟨[.ptr (.own (H.length+1) 0 0 0 0) 0,.own (H.length+3) 0 0 3 0,.own (H.length+4) 0 0 4 0,i64 most,i64 1,bl zero,bl false,i64 pl,.val (.slice none 0 0),.val (.slice none 0 0)],94,0,true⟩) ?_ rfl rfl 57 6)
  (LI.tell (Qbg.own0 (j:=H.length+2) (p:=9) (o:=⟨[.ptr (.own (H.length+1) 0 0 0 0) 0,.own (H.length+3) 0 0 3 0,.own (H.length+4) 0 0 4 0,i64 most,i64 1,bl zero,bl false,i64 pl,.own (H.length+5) 0 0 6 0,.val (.slice none 0 0)],94,0,true⟩) ?_ rfl rfl 55 2)
  (LI.cong (H':=(⟨l,[],0,most,zero,pl⟩:Mc).hp (H++[⟨[i64 0,.val (.slice none 0 0),.val (.slice none 0 0)],26,0,true⟩]) [] ⟨a,1,0,0,0,[],[],[]⟩) ?_
   (Qux (A:=H++[⟨[i64 0,.val (.slice none 0 0),.val (.slice none 0 0)],26,0,true⟩]) (m0:=m0) hl p1 p2 (by omega) (λenv B lv a hlv hq ha k1 k8 k9 => ?_) m0 _ [] [] a (by simp) (by simp) ha ?_ ?_ ?_ ?_)))))
 . simp only[QbL,Go.Ab.set_app,Y9,Z0]; rfl
 . simp only[QbL,Go.Ab.set_app,Y9,Z0]; simp[QbL]
 . simp[QbL,Go.Ab.set_app]
 . simp[QbL,Go.Ab.set_app]
 . simp[Mc.hp,Mc.D,Mc.L,Mc.M,Mc.V,Mc.N,Mc.I,rws,Go.Ab.set_app]
 . simp at k8 k9;have hc:(⟨l,lv,lv.length,most,zero,pl⟩:Mc).Good:=⟨hl,p1,p2,m2,by simp only; omega,hq⟩;have hi:Qcq ⟨l,lv,lv.length,most,zero,pl⟩ ⟨a,1,0,0,0,[],[],[]⟩ 0:=⟨ha,rfl,λj h=>by simp at h,by simp,λj h=>by simp at h,by simp,by simp,by simp,by simp only[Yx]; omega⟩;obtain⟨np,hnp⟩:∃ np:Nat,pl=np:=⟨pl.toNat,by omega⟩;have hb:=QnK hc lv.length 0 (by simp) (H++[⟨[i64 0,.val (.slice none 0 0),.val (.slice none 0 0)],26,0,true⟩]) (B++[⟨[],45,1,false⟩]) ⟨a,1,0,0,0,[],[],[]⟩ (List.replicate np []) hi (λi j u v h=>by simp at h) (by simp) (by simp[hnp]) (by intro x hx; simp[Y4]at hx; simp[hx.2]);simp -implicitDefEqProofs[k1,k8,k9,Mc.hp,Mc.M];refine⟨by omega,by omega,by omega,?_⟩;refine Q4 (OkP.give (H.length+(B.length+7)) 1 (o:=⟨List.replicate np nl,45,0,true⟩) ?_ rfl (OkP.le ?_ (OkP.cast rfl ?_ hb))) ?_
   . rw[QbL];simp[QfR,QbL,hnp]
   . simp[hnp,Qba,Yd];refine leL.cons (SV.le.refl _) (leL.cons (SV.le.refl _) (leL.cons (QjI ⟨by simp,λj x y h1 h2 => ?_⟩ _) leL.nil));simp[ZS]at h1 h2;obtain⟨_,rfl⟩:=h1;obtain⟨_,rfl⟩:=h2;exact QcV
   . simp[Mc.hp,Mc.M,Go.Ab.set_app,Qkk,AO.dead,hnp]
   rintro o G' ⟨rfl,s',sub,isN,vsN,hp,hgh,rfl⟩;simp -implicitDefEqProofs[k1,k8,k9,Mc.hp,Mc.M];have e1:s'.ns=sub:=hp.ns;have hml:=hp.inv.ml;have hpe:=hp.pend;simp only at hml hpe;have:=hfin hcl ⟨l,lv,lv.length,most,zero,pl⟩ s' (B++[⟨[],45,1,false⟩]) ⟨[i64 pl,.own (H.length+1+4) 0 s'.ns.length 6 s'.vn,.own (H.length+1+5) 0 s'.is.length 2 s'.vi],26,0,true⟩
    ⟨rfl,by show 1<=s'.ns.length; rw[e1]; exact hp.wlk.pos,by show(s'.ns.length:Int)<=most; omega,hp.inv.il,by show Wlk 0 10 s'.ns; rw[e1]; exact hp.wlk.mono (by simp only; omega),by show ∀ x∈s'.ns,x.good pl s'.is; rw[e1]; exact hp.good,by show rg s'.ns 0=some s'.is.length; rw[e1]; exact hp.rg,hp.inv.isr,QsW hnp (by rw[e1]; exact hgh)⟩
   simpa[Qjl,Mc.hp,Mc.M]using this
 all_goals simp
theorem Qju (l:List Int):SV.le (slN l) (sl l):=by
 unfold slN;split
 . rename_i h; subst h; exact QcV
 . exact SV.le.refl _
theorem Qtc (x:Nd):leL x.cN x.cells:=leL.cons (SV.le.refl _) (leL.cons (SV.le.refl _) (leL.cons (SV.le.refl _) (leL.cons (Qju _) (leL.cons (Qju _) (leL.cons (Qju _) leL.nil)))))
theorem Qqd (g:Gm):SV.le (.agg [i64 g.pl,.slc (rws Nd.cN g.ns) g.ns.length,.slc (rws icN g.is) g.is.length]) (.agg g.cells):=by
 unfold Gm.cells;rw[Qn6,Qmj];exact Qff (leL.cons (SV.le.refl _) (leL.cons (QjI (leL.rws Qtc _) _) (leL.cons (SV.le.refl _) leL.nil)))
theorem Qr5 (n:Nat) (x:Int×Int):SV.underL n (icN x)=true:=by simp[icN,SV.underL,SV.under]
theorem ok24 {l:List Int} {pl most:Int} {zero:Bool} (hl:l.length<4611686018427387904) (p1:1<=pl) (p2:pl<=1000) (m1:1<=most) (m2:most<=2000) :
 OkP Tryz.prog 24 [.slc (Qa l) l.length,i64 pl,i64 most,bl zero] H λo H'=>∃ g,QeA pl most g/\o=.ret (.agg g.cells)/\H'=H:=by
 refine Qsz hl p1 p2 m1 m2 λhcl c s B o hm=>⟨_,H,⟨_,hm,rfl,rfl⟩,?_⟩;refine Cv.le ?_ (Qqd ⟨pl,s.ns,s.is⟩);have z1:=QbJ Nd.lenN s.ns;have z2:=QbJ Qew s.is;have e:c.hp (H++[o]) B s=H++(o::c.D s::c.M (H++[o]).length s::c.L::Mc.V s::Mc.N s::Mc.I s::B):=by simp[Mc.hp]
 rw[e];refine Qg 4 hcl rfl ?_;simp[Qjl,Mc.N,Mc.I,QX,z1,z2,VB,Qc5,QbX (QjM _),QbX (Qr5 _)]
end
end Go.Proofs.YtogjmpkehjfecaaGreatDoor.Rc
namespace Go.Proofs.YtogjmpkehjfecaaGreatDoor.Rc
open Go.Ab Go.Ab.Shr
structure Sml (g:Gm):Prop where
 w:Wg g
 prp:g.prpE=0
 n:g.ns.length<=60
theorem QeA.sml {pl most:Int} {g:Gm} (h:QeA pl most g) (p1:1<=pl) (p4:pl<=4) (hm:most<=60):Sml g:=by
 have hf:=h.form p1 p4 (by omega);have hW:=Qf7 hf;obtain⟨lvs,V,gs,hr⟩:=h.rcl;have:=h.ml;refine⟨hW,hr.prp hW hf λx hx hk => ?_,by omega⟩;rcases h.good x hx with h1|⟨a1,a2,a3,a4,a5,a6,a7,a8,a9⟩|h1
 . omega
 . exact⟨_,a9⟩
 . omega
def T0 (g:Gm):Tin:=⟨0,0,(List.range g.is.length).map (Qai g),(List.range g.is.length).map (Qai g)⟩
def z0 (g:Gm):TS:=s0T g 0 0 (T0 g).A (T0 g).P
section
variable {g:Gm}
theorem QuN (h:Sml g):Qdx g=(T0 g,0):=by
 unfold Qdx;rw[Wa (by rw[h.prp]; simp)];rfl
theorem Qvu {t:Tin} (hA:t.A.length=g.is.length) (hP:t.P.length=g.is.length):QY g (s0T g t.rnd t.seed t.A t.P)=t:=by
 have e:∀ L:List (List Int),L.length=g.is.length->(List.range g.is.length).map (λi=>L.getD i [])=L:=λL hL=>by
  apply Vz;intro i;by_cases hi:i<g.is.length
  . simp[hi,show i<L.length by omega]
  . simp[hi,show L.length<=i by omega]
 simp only[QY,s0T,e _ hA,e _ hP]
theorem QgS (n a:Nat):(Qu n).getD a 0=0:=by
 by_cases h:a<n<;>simp[Qu,h,Vm]
theorem Qi5 (i:Nat):(z0 g).A i=if i<g.is.length then Qai g i else []:=by
 simp only[z0,s0T,T0];by_cases h:i<g.is.length<;>simp[h]
theorem QgO (i:Nat):(z0 g).P i=if i<g.is.length then Qai g i else []:=Qi5 i
theorem Qoa (h:Sml g):Qak g (T0 g)=0:=by
 unfold Qak;rw[Wa (by rw[h.prp]; simp),<- Qvu (g:=g) (t:=T0 g) (by simp[T0]) (by simp[T0])];refine(QoH h.w (λi hi => ?_) (λi hi => ?_) ?_ ?_ (λi hi a => ?_)).2 λi hi a ha => ?_
 . show((z0 g).A i).length=_;rw[Qi5,Wb hi]; simp[Qai]
 . show((z0 g).P i).length=_;rw[QgO,Wb hi]; simp[Qai]
 . simp[s0T,T0]
 . simp[s0T,T0]
 . show 0<=((z0 g).P i).getD a 0;rw[QgO,Wb hi,Qai,QgS]; exact V8 _
 . show Qbx (z0 g) i a;unfold Qbx;rw[Qi5,QgO,Wb hi,Qai,QgS]; omega
theorem Qp5 (h:Sml g):SOk g (z0 g):=Qkn (Qoa h)
theorem Quy:SBd (z0 g) 0 0:=by
 refine⟨λj a => ?_,λj a => ?_⟩
 . rw[Qi5];split
   . rw[Qai,QgS]; omega
   . simp
 . rw[QgO];split
   . rw[Qai,QgS]; omega
   . simp
theorem Qpu (h:Sml g) {m:Nat} (hm:m<=200):∃ s,Qaz g m (z0 g)=some s/\SOk g s/\SBd s (2048000000*60*m) (1073741824*m)/\s.rnd=m/\s.seed=0/\Qaq g (T0 g) m=(QY g s,0):=by
 have hb:SBd (z0 g) (2048000000*60*(0:Nat)) (1073741824*(0:Nat)):=by simpa using Quy (g:=g)
 obtain⟨s,h1,h2,h3,h4,h5⟩:=QnR h.w h.n m (z0 g) 0 (Qp5 h) hb (by simp[z0,s0T,T0]; omega) (by omega);refine⟨s,h1,h2,by simpa using h3,by rw[h4]; simp[z0,s0T,T0],by rw[h5]; rfl,?_⟩;unfold Qaq;rw[Wa (by rw[Qoa h]; simp),Wa (by simp only[T0]; omega)];have e:Qaz g (m:Int).toNat (s0T g (T0 g).rnd (T0 g).seed (T0 g).A (T0 g).P)=some s:=by rw[Int.toNat_natCast]; exact h1
 rw[e]
theorem QoQ (h:Sml g) {s:TS} (hs:SOk g s):Qak g (QY g s)=0:=by
 unfold Qak;rw[Wa (by rw[h.prp]; simp)];exact(QoH h.w hs.A hs.P ⟨hs.r0,hs.r1⟩ hs.sd hs.pn).2 hs.ok
end
end Go.Proofs.YtogjmpkehjfecaaGreatDoor.Rc
namespace Go.Proofs.YtogjmpkehjfecaaGreatDoor.Rc
open Go.Ab Go.Ab.Lm Go.Ab.Shr
theorem QqW (n:Nat):Qa1 (List.replicate n 1)=n:=by
 induction n with
 |zero=>rfl
 |succ n ih=>rw[YT]; simp only[Qa1,ih]; omega
theorem Qn3:∀ {l:List Int},(∀ x∈l,0<=x/\x<=70368744177664)->((Qa1 (l.map Int.natAbs):Nat):Int)=Qag l/\∀ x∈l,x<=Qag l
 |[],_=>⟨rfl,λx hx=>by simp at hx⟩
 |y::r,h=>by
  have h1:=h y (by simp);have hr:=λz hz=>h z (VI _ hz);obtain⟨h2,h3⟩:=Qn3 hr;have h4:=(QfU hr).1;simp only[Vs,Qa1,Qag];refine⟨by omega,λx hx => ?_⟩;rcases Vi.1 hx with rfl|hx
  . omega
  . have:=h3 x hx; omega
theorem QoF {x y:Int} (hx:0<=x) (hy:0<=y):QdO x y=low false x.natAbs y.natAbs:=by
 unfold QdO;rw[decide_eq_false (by omega),decide_eq_false (by omega)];rfl
theorem QvW {l:List Int} (hl:1<=l.length/\l.length<=10) (hr:∀ x∈l,0<=x/\x<=70368744177664):∃ w S,QD l=QcE w S/\QdN w S/\w.length=l.length:=by
 have hs:=QfU hr;by_cases hz:Qag l=0
 . refine⟨List.replicate l.length 1,l.length,?_,⟨by omega,by omega,QqW _,λx hx => ?_,by simp; omega⟩,by simp⟩
   . have e:QD l=l.map λ_=>QdO 1 l.length:=by
      unfold QD;exact VA λx _=>by rw[Wb hz]
     rw[e,QoF (by omega) (by omega),List.map_const'];simp[QcE]
   . rw[Y4]at hx; omega
 . obtain⟨h1,h2⟩:=Qn3 hr;refine⟨l.map Int.natAbs,(Qag l).natAbs,?_,⟨by omega,by omega,by omega,λx hx => ?_,by simp; omega⟩,by simp⟩
   . unfold QD QcE;rw[YS];refine VA λx hx => ?_;have:=hr x hx;rw[Wa hz,QoF (by omega) (by omega)];rfl
   . obtain⟨y,hy,rfl⟩:=Vl.1 hx;have:=hr y hy;have:=h2 y hy;omega
section
variable {g:Gm}
theorem Qtd (hW:Wg g) {M V V':List Int} {S:Nat->List Int} (h:Qdq g M S V) (h':Qdq g M S V'):∀ (m i q:Nat),g.ns.length-m<=i->i<g.ns.length->(q:Int)<g.pl->V.getD (i*4+q) 0=V'.getD (i*4+q) 0:=by
 intro m
 induction m with
 |zero=>intro i q h1 h2; omega
 |succ m ih =>
  intro i q h1 hi hq;have hx:g.ns[i]? = some g.ns[i]:=Vb hi;rw[h.eq i q hi hq,h'.eq i q hi hq];simp only[QbB,hx];have acc:∀ k,k<=g.ns[i].nx.length->QR g S V g.ns[i].nx i q k=QR g S V' g.ns[i].nx i q k:=by
   intro k
   induction k with
   |zero=>intro _; rfl
   |succ k ihk =>
    intro hk;have hkl:k<g.ns[i].nx.length:=by omega
    have hch:=(hW.wf.nf i hi).ch _ (Vf hkl);have e:g.ns[i].nx.getD k 0=g.ns[i].nx[k]:=by simp[hkl]
    have hv:=ih g.ns[i].nx[k].toNat q (by omega) (by omega) hq;simp only[QR];rw[ihk (by omega),e,hv]
  rw[acc _ (Vc _)]
theorem Ql1 (hW:Wg g) {own:Bool} {M R R':List Int} {S:Nat->List Int} (h:QcI g own M S R) (h':QcI g own M S R'):∀ (n i q:Nat),i<=n->i<g.ns.length->(q:Int)<g.pl->R.getD (i*4+q) 0=R'.getD (i*4+q) 0:=by
 intro n
 induction n with
 |zero =>
  intro i q hi hl hq;have:i=0:=by omega
  subst this;simp only[Yc,VX];rw[h.z q hq,h'.z q hq]
 |succ n ih =>
  intro i q hi hl hq;rcases Yu i with e0|e0
  . exact ih i q (by omega) hl hq
  . obtain⟨a,ha,h1,h2,h3⟩:=hW.wf.pf i e0 hl;obtain⟨k,hk,h4⟩:=VG h3;have he:=h.eq a k q ha hk hq;have he':=h'.eq a k q ha hk hq;have e1:(g.ns[a].nx.getD k 0).toNat=i:=by simp[hk,h4]
    rw[e1]at he he';rw[he,he'];have iha:=ih a q (by omega) ha hq;unfold QN;rw[iha]
theorem Qm6 (hW:Wg g) {V V' R R':List Int} {A:Nat->List Int} (hV:∀ i q:Nat,i<g.ns.length->(q:Int)<g.pl->V.getD (i*4+q) 0=V'.getD (i*4+q) 0) (hR:∀ i q:Nat,i<g.ns.length->(q:Int)<g.pl->R.getD (i*4+q) 0=R'.getD (i*4+q) 0) :
 ∀ i,i<=g.ns.length->Qa9 g V R A i=Qa9 g V' R' A i
 |0,_=>rfl
 |i+1,hi=>by
  have hii:i<g.ns.length:=by omega
  have hx:g.ns[i]? = some g.ns[i]:=Vb hii;have ih:=Qm6 (A:=A) hW hV hR i (by omega);simp only[Qa9,Qdd,hx,ih];by_cases hk:g.ns[i].k=2
  . rw[Wb hk,Wb hk];congr 1;unfold Qh;refine VA λa ha => ?_;rw[VJ]at ha;obtain⟨q0,q1⟩:=Qe9 hW hii hk;have hch:=(hW.wf.nf i hii).ch _ (Vf ha);have e:g.ns[i].nx.getD a 0=g.ns[i].nx[a]:=by simp[ha]
    have ed:Qa2 g V R i a=Qa2 g V' R' i a:=by
     simp only[Qa2,hx];rw[e,hV g.ns[i].nx[a].toNat g.ns[i].p.toNat (by omega) (by omega),hV i g.ns[i].p.toNat hii (by omega),hR i g.ns[i].p.toNat hii (by omega)]
    rw[ed]
  . rw[Wa hk,Wa hk]
structure Qcy (g:Gm) (s s':TS):Prop where
 r:s.rnd=s'.rnd
 e:s.seed=s'.seed
 A:∀ j,j<g.is.length->s.A j=s'.A j
 P:∀ j,j<g.is.length->s.P j=s'.P j
theorem Qcy.out {s s':TS} (h:Qcy g s s'):QY g s=QY g s':=by
 unfold QY;rw[h.r,h.e,VA λj hj=>h.A j (VJ.1 hj),VA λj hj=>h.P j (VJ.1 hj)]
theorem Qcy.rnd (hW:Wg g) {s s':TS} (h:Qcy g s s') (k:SOk g s) (k':SOk g s'):Qcy g (Q7 g (cTC g) s) (Q7 g (cTC g) s'):=by
 obtain⟨r1,r2⟩:=Qe3 (g:=g) (s:=s);obtain⟨t1,t2⟩:=Qe3 (g:=g) (s:=s');have eS:∀ j,j<g.is.length->(shL s g.is.length).S j=(shL s' g.is.length).S j:=λj hj=>by rw[QeN s _ j hj,QeN s' _ j hj,h.A j hj]
 have v1:Qdq g (cTC g).M (shL s g.is.length).S (QfL g s):=Qlt hW k.V (Qd3 hW) λ_ _=>rfl;have v2:Qdq g (cTC g).M (shL s g.is.length).S (QfL g s'):=Qlt hW k'.V (Qd3 hW) λj hj=>(eS j hj).symm;have q1:QcI g false (cTC g).M (shL s g.is.length).S (QaJ g false s s.R):=Qfk hW k.R (Qd3 hW) λ_ _=>rfl;have q2:QcI g false (cTC g).M (shL s g.is.length).S (QaJ g false s' s'.R):=Qfk hW k'.R (Qd3 hW) λj hj=>(eS j hj).symm;have o1:QcI g true (cTC g).M (shL s g.is.length).S (QaJ g true s s.O):=Qfk hW k.O (Qd3 hW) λ_ _=>rfl;have o2:QcI g true (cTC g).M (shL s g.is.length).S (QaJ g true s' s'.O):=Qfk hW k'.O (Qd3 hW) λj hj=>(eS j hj).symm;refine⟨by rw[r1,t1,h.r],by rw[r2,t2,h.e],λj hj => ?_,λj hj => ?_⟩
 . rw[Qg4,Qg4,QnB hW h.A _ (Vc _) j hj];rw[Qm6 hW (λi q hi hq=>Qtd hW v1 v2 g.ns.length i q (by omega) hi hq) (λi q hi hq=>Ql1 hW q1 q2 i i q (Vc _) hi hq) _ (Vc _)]
 . rw[QfQ,QfQ,QeH,QeH,Wb hj,Wb hj,h.P j hj,eS j hj];have ho:=QjU hW hj;obtain⟨hf,hF,_⟩:=Qiv hW hj;have e:=Ql1 hW o1 o2 (frs g j) (frs g j) (Qds g j).toNat (Vc _) hf (by omega);have eo:Qbe g (cTC g).F (QaJ g true s s.O) j=Qbe g (cTC g).F (QaJ g true s' s'.O) j:=e;rw[eo]
theorem Qcy.okB {s s':TS} (h:Qcy g s s'):okB g s=okB g s':=by
 have key:∀ {s s':TS},Qcy g s s'->QaA g s->QaA g s':=λ{s s'} h ho i hi a ha=>by
  have:=ho i hi a ha;unfold Qbx at *;rw[<-h.A i hi,<- h.P i hi]; exact this
 have h':Qcy g s' s:=⟨h.r.symm,h.e.symm,λj hj=>(h.A j hj).symm,λj hj=>(h.P j hj).symm⟩;by_cases ho:QaA g s
 . rw[Qde.2 ho,Qde.2 (key h ho)]
 . have h1:¬ Rc.okB g s=true:=λe=>ho (Qde.1 e);have h2:¬ Rc.okB g s'=true:=λe=>ho (key h' (Qde.1 e));simp only[Bool.not_eq_true]at h1 h2;rw[h1,h2]
theorem Qou (hW:Wg g):∀ (n:Nat) {s s' r:TS},Qcy g s s'->SOk g s->SOk g s'->s.rnd+n<=1000000->Qaz g n s=some r->∃ r',Qaz g n s'=some r'/\Qcy g r r'
 |0,s,s',r,h,_,_,_,hr=>by
  simp only[Qaz,Option.some.injEq]at hr;subst hr;exact⟨s',rfl,h⟩
 |n+1,s,s',r,h,k,k',hb,hr=>by
  have h1:=h.rnd hW k k';have hr0:=k.r0;obtain⟨r1,r2⟩:=Qe3 (g:=g) (s:=s);have w1:IntKind.i64.wrap (s.rnd+1)=s.rnd+1:=Qj (by omega) (by omega);simp only[Qaz]at hr ⊢;rw[<-h1.okB];by_cases ho:Rc.okB g (Q7 g (cTC g) s)=true
  . have ho':QaA g (Q7 g (cTC g) s'):=Qde.1 (by rw[<-h1.okB]; exact ho);rw[Wb ho]at hr ⊢;exact Qou hW n h1 (QiT hW k (by omega) (Qde.1 ho)) (QiT hW k' (by rw[<-h.r]; omega) ho') (by rw[r1,w1]; omega) hr
  . rw[Wa ho]at hr; cases hr
theorem Qn8:∀ (m n:Nat) (s:TS),Qaz g (m+n) s=(Qaz g m s).bind (Qaz g n)
 |0,n,s=>by rw[VX]; rfl
 |m+1,n,s=>by
  rw[show m+1+n=(m+n)+1 by omega];simp only[Qaz];by_cases ho:Rc.okB g (Q7 g (cTC g) s)=true
  . rw[Wb ho,Wb ho]; exact Qn8 m n _
  . rw[Wa ho,Wa ho]; rfl
theorem Qvy (h:Sml g) {m n:Nat} (hm:m<=60) (hn:n<=60):∃ a c:Tin,Qaq g (T0 g) m=(a,0)/\Qaq g a n=(c,0)/\Qaq g (T0 g) ((m:Int)+n)=(c,0)/\c.rnd=(m:Int)+n/\Qak g c=0:=by
 obtain⟨s,s1,s2,s3,s4,s5,s6⟩:=Qpu h (m:=m) (by omega);obtain⟨r,r1,r2,r3,r4,r5,r6⟩:=Qpu h (m:=m+n) (by omega);have hc:=QoQ h s2;have hs':=Qkn hc;have hsame:Qcy g s (s0T g (QY g s).rnd (QY g s).seed (QY g s).A (QY g s).P):=by
  refine⟨rfl,rfl,λj hj => ?_,λj hj => ?_⟩
  . simp[s0T,QY,hj]
  . simp[s0T,QY,hj]
 have hadd:=Qn8 (g:=g) m n (z0 g);rw[s1,r1]at hadd;obtain⟨r',e1,e2⟩:=Qou h.w n hsame s2 hs' (by omega) hadd.symm;refine⟨QY g s,QY g r,s6,?_,by rw[show(m:Int)+n=((m+n:Nat):Int)by omega]; exact r6,by show r.rnd=_; rw[r4]; omega,QoQ h r2⟩;unfold Qaq;have hrr:(QY g s).rnd=m:=s4;rw[Wa (by rw[hc]; simp),Wa (by rw[hrr]; omega),Int.toNat_natCast,e1,e2.out]
end
section
variable {H:Ws} {l:List Int}
theorem Qvl {g:Gm} {t:Tin} (h:Qak g t=0):(t.P.map QD).length=g.is.length/\(t.P.map QD).length<=100000/\∀ i (hi:i<(t.P.map QD).length) (hi':i<g.is.length),∃ w S,(t.P.map QD)[i]=QcE w S/\QdN w S/\(w.length:Int)=g.is[i].2:=by
 obtain⟨hW,r0,r1,hA,hP⟩:=QdP h;obtain⟨p1,p2⟩:=Qcg hW hP;obtain⟨_,q1,q2⟩:=Qof h;refine⟨by simp[p1],by simp; omega,λi hi hi' => ?_⟩;have hiP:i<t.P.length:=by omega
 obtain⟨l1,l2⟩:=q2 _ (Vf hiP);obtain⟨w,S,e1,e2,e3⟩:=QvW l1 l2;refine⟨w,S,by simp[e1],e2,?_⟩;obtain⟨a1,a2⟩:=p2 i hi';have e:t.P.getD i []=t.P[i]:=by simp[Vm,hiP]
 unfold Qac at a1;rw[e]at a1;have hgi:g.is.getD i (0,0)=g.is[i]:=by simp[hi']
 have hac:=Qa5 hW hi';have ha:(g.acts i:Int)=g.is[i].2:=by unfold Gm.acts at hac ⊢; rw[hgi]at hac ⊢; omega
 rw[e3,a1];exact ha
set_option maxRecDepth 10000 in
set_option maxHeartbeats 1000000 in
theorem ok5 (hl:l.length<=9223372036854775807) (pl m n:Int):Ok Tryz.prog 5 [.slc (Qa l) l.length,i64 pl,i64 m,i64 n] H (.ret (bl true)) H:=by
 refine Ql hm' Tryz.func5 c5 (by simp) λhcl => ?_;simp -implicitDefEqProofs[i5,r5];refine Qf ok6 ?_;by_cases hb:80<l.length
 . simp -implicitDefEqProofs[hb,show(80:Int)<l.length by omega];exact Qn
 . have h25p:=λH=>Qhj (H:=H) pl 3 (by omega) (by omega);have h25m:=λH=>Qhj (H:=H) m 61 (by omega) (by omega);have h25n:=λH=>Qhj (H:=H) n 61 (by omega) (by omega);obtain⟨p,hp⟩:∃ p,p=pl % 3:=⟨_,rfl⟩;obtain⟨a,ha⟩:∃ a:Nat,m % 61=a:=⟨(m % 61).toNat,by omega⟩;obtain⟨b,hbn⟩:∃ b:Nat,n % 61=b:=⟨(n % 61).toNat,by omega⟩;have wp:IntKind.i64.wrap (1+p)=1+p:=Qj (by omega) (by omega);rw[<-hp]at h25p;rw[ha]at h25m;rw[hbn]at h25n;simp -implicitDefEqProofs[hb,show ¬ (80:Int)<l.length by omega];refine Qf (h25p _) ?_;simp -implicitDefEqProofs[wp];refine Q4 (ok24 (l:=l) (pl:=1+p) (most:=25) (zero:=false) (by omega) (by omega) (by omega) (by omega) (by omega)) ?_;rintro o G' ⟨g,hg,rfl,rfl⟩;have hs:=hg.sml (by omega) (by omega) (by omega);obtain⟨ta,tc,e1,e2,e3,e4,e5⟩:=Qvy hs (m:=a) (n:=b) (by omega) (by omega);have h8:=λH=>ok8 (H:=H) (g:=g);rw[QuN hs]at h8;have h11a:=λH=>Qh8 (H:=H) (g:=g) (T0 g) (a:Int) (by omega);have h11b:=λH=>Qh8 (H:=H) (g:=g) ta (b:Int) (by omega);have h11c:=λH=>Qh8 (H:=H) (g:=g) (T0 g) ((a:Int)+b) (by omega);rw[e1]at h11a;rw[e2]at h11b;rw[e3]at h11c;have h12:=λH=>ok12 (H:=H) (g:=g) (t:=tc);have ea:QdV g tc=(Qaf (tc.P.map QD),0):=by unfold QdV; rw[Wa (by simpa using e5)]
   rw[ea]at h12;have hsm:=Qvo (g:=g) (T0 g) ((a:Int)+b);rw[e3]at hsm;have h16:=λH=>ok16 (H:=H) (T:=tc) hsm;obtain⟨v1,v2,v3⟩:=Qvl e5;have h26:=λH=>ok26 (H:=H) (g:=g) (L:=tc.P.map QD) (by rw[Qqg]; exact hg.form (by omega) (by omega) (by omega)) v1 v2 (λi h=>v3 i h (by omega));have wab:IntKind.i64.wrap ((a:Int)+b)=(a:Int)+b:=Qj (by omega) (by omega);generalize tc.P.map QD=L at *;generalize T0 g=T at *;clear e1 e2 e3 ea v3;simp only[Gm.cells,Tin.cells,e4,Qaf]at h8 h11a h11b h11c h12 h16 h26;simp -implicitDefEqProofs[Gm.cells];refine Qf (h25m _) ?_;simp -implicitDefEqProofs;refine Qf (h25n _) ?_;simp -implicitDefEqProofs;refine Qf (h8 _) ?_;simp -implicitDefEqProofs;refine Qf (h11a _) ?_;simp -implicitDefEqProofs;refine Qf (h11b _) ?_;simp -implicitDefEqProofs[wab];refine Qf (h11c _) ?_;simp -implicitDefEqProofs;refine Qf (h12 _) ?_;simp -implicitDefEqProofs;refine Qdc (r:=bl true) (λ_=>by simp only[Vs,V4,SV.strip]; exact h16 _) ?_;simp -implicitDefEqProofs[wab];refine Qdc (r:=i64 0) (λ_=>by simp only[Vs,V4,SV.strip]; exact h26 _) ?_;simp -implicitDefEqProofs;exact Qg 1 hcl rfl (by simp)
end
end Go.Proofs.YtogjmpkehjfecaaGreatDoor.Rc
namespace Go.Proofs.YtogjmpkehjfecaaGreatDoor
open Go.Ab Go.ChangeShapes Go.WideShapes Go.ChangeAt Go.RowKit
def laid3 : List (String × DataW Unit) := [("math/bits.deBruijn64tab", Rows.laid_math_bits_deBruijn64tab)]
theorem own:ownKnob Tryz.prog.godebug=none:=by kernel_rfl
theorem laidOut:laidOutB Tryz.prog=true:=by kernel_rfl
theorem gB : Tryz.prog.globalNamed "math/bits.deBruijn64tab" = some 0 := by kernel_rfl
theorem tB:(Tryz.prog.globals[0]?).map (·.type)=some 203:=by kernel_rfl
theorem uB:Tryz.prog.underlying 203=some (.array 64 5):=by kernel_rfl
theorem u5:Tryz.prog.underlying 5=some (.int .u8):=by kernel_rfl
theorem door_met (os:Os) (args:Array Value):laidMetH Tryz.prog laid3 ((World.doorLaid Tryz.prog 400 os).forCall (λ_ _=>0) ⟨#[],args,[]⟩).memory :=
 laidMet_of_run' 8 (by kernel_rfl) (by kernel_rfl)
theorem QtC {P:Wx} {W:Wy} {base:Nat} {sp:Nat->Bool} {held:Bool} {fuel n:Nat} {t e:Ww} {cs:Wu} {bs:List Int} {p:List MemPlace} {enc:Ww×Value->Unit} (ht:P.underlying t=some (.array n e)) (he:P.underlying e=some (.int .u8)) (hc:P.cellsOf e=1) (hct:P.cellsOf t=n)
 (h:DataW.trod enc P W base sp held fuel t cs=some (.agg (bs.map λb=>.lit (.int .u8 b)),p)):cs=bs.map (Value.int .u8):=by
 obtain⟨xs,m,rfl,hx,hlen,hn,hel⟩:=DataW.trod_array ht h;simp only[Prod.mk.injEq,DataW.agg.injEq]at hx;have hbl:bs.length=n:=by have:=Wj List.length hx.1; simp at this; omega
 rw[hct]at hlen;refine List.ext_getElem (by simp; omega) λi h1 h2 => ?_;have hi:i<n:=by omega
 have h3:=hel i hi;have hxi:i<xs.length:=by omega
 rw[Vb hxi,hc,Ye]at h3;obtain⟨b,e1,e2,_⟩:=DataW.trod_int he h3;have e3:cs[i]=.int .u8 b:=by
  rw[Vu h1,List.take_succ_cons,Yl]at e1;exact(List.cons.inj e1).1
 have hbi:i<bs.length:=by omega
 have e4:(bs.map λb=>(DataW.lit (.int .u8 b):DataW Unit))[i]'(by simpa using hbi)=(xs.map (·.1))[i]'(by simpa using hxi):=by
  simp only[hx.1]
 simp only[List.getElem_map,e2]at e4;have:bs[i]=b:=by simpa using e4
 rw[e3,List.getElem_map,this]
theorem gl_of {W:Wy} (h:laidMetH Tryz.prog laid3 W):(st0 W).GL:=by
 have h' : laidMet Tryz.prog [("math/bits.deBruijn64tab", Rows.laid_math_bits_deBruijn64tab)] W := h
 obtain⟨ps,⟨g0,t0,cs0,f0,p0,q0,hg0,ht0,hv0,hd0,_,_⟩,_⟩:=h';obtain rfl:=Option.some.inj (gB.symm.trans hg0);obtain rfl:=Option.some.inj (tB.symm.trans ht0);have b0:cs0.toList=QfK.map (Value.int .u8):=QtC (bs:=QfK) uB u5 (by kernel_rfl) (by kernel_rfl) hd0;have shp:∀ (g:Nat) (nm:String) (cs:Array Value) (us:Wu),Tryz.prog.globalNamed nm=some g->W.var? Tryz.prog nm=some cs->cs.toList=us->∃ T,(st0 W).w.shape? g=some (T,us.length):=by
  intro g nm cs us h1 h2 h3;simp only[World.var?,h1,Option.bind_some]at h2;split at h2
  . rename_i cs' T f hh
    cases h2
    refine⟨T,?_⟩;show W.shape? g=_;unfold World.shape?;rw[hh,<- h3];simp
  . cases h2
 have key:∀ (g:Nat) (nm:String) (cs:Array Value) (us:Wu),Tryz.prog.globalNamed nm=some g->W.var? Tryz.prog nm=some cs->cs.toList=us->us.all Qgx=true->(st0 W).Imm ⟨g,0,none⟩ us:=by
  intro g nm cs us h1 h2 h3 h4;refine⟨λj u hj => ?_,λ_=>rw0 W _,λ_ _=>.inr h4⟩;have:=World.var?_cell h1 h2 j;have e:((⟨g,0,none⟩:Addr).add j)=⟨g,j,none⟩:=by unfold Addr.add; split<;>simp_all
  rw[e];show W.cell? _=_;rw[this,<- ZI,h3]; exact hj
 intro g us hg
 match g,hg with
 |0,hg=>cases hg; exact⟨key 0 _ _ _ gB hv0 b0 (by decide),shp 0 _ _ _ gB hv0 b0⟩
end Go.Proofs.YtogjmpkehjfecaaGreatDoor
