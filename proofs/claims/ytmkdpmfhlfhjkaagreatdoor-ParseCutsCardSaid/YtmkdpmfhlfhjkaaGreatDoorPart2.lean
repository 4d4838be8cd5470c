/- Steps of the proof. -/
import Derived.Test.YtmkdpmfhlfhjkaaGreatDoorPNKT20
import Derived.Test.YtmkdpmfhlfhjkaaGreatDoorCore4
set_option linter.all false
namespace Go.Proofs.YtmkdpmfhlfhjkaaGreatDoor
open Go.Ab
structure Cx where
 ts:List Tok
 en:Nat
structure Rd where
 a:Nat
 v:Int
 e:Int
 p:Int
def rp (j:Nat):SV:=.ptr (.own j 0 0 0 0) 0
def Qk (c:Cx) (r:Rd):Int:=if h:r.a<c.ts.length then(c.ts[r.a].p:Int)else(c.en:Int)
def Qg (c:Cx) (e:Int) (r:Rd):Rd:=if r.e=0 then { r with e:=e,p:=Qk c r } else r
def Qal (c:Cx) (r:Rd) (f:Tok->Bool):Bool:=decide (r.e=0)&&(if h:r.a<c.ts.length then f c.ts[r.a]else false)
def Qd (c:Cx) (s:ZE) (r:Rd):Bool:=Qal c r λt => !decide (t.k=2)&&decide (t.tx=s)
def Qa (r:Rd):Rd:={ r with a:=r.a+1 }
def Qh (c:Cx) (s:ZE) (r:Rd):Int×Rd:=(Qk c r,if Qd c s r then Qa r else Qg c 11 r)
theorem Qaj {c:Cx} {s:ZE} {r:Rd} (h:Qd c s r=true):r.a<c.ts.length:=by
 unfold Qd Qal at h;split at h
 . assumption
 . simp at h
theorem Qwj {ts:List Tok} {i k:Nat} (h:i<ts.length) (hk:k<4):(ts.flatMap Tok.c)[i*4+k]? = (ts[i].c)[k]? := by
 induction ts generalizing i with
 |nil=>simp at h
 |cons t r ih =>
  cases i with
  |zero =>
   rw[VO,Vc (by simp[Tok.c]; omega)]; simp
  |succ i =>
   have e:(i+1)*4+k=t.c.length+(i*4+k):=by simp[Tok.c]; omega
   rw[VO,e,Vk (by omega)];simp only[List.getElem_cons_succ,Zi];exact ih (by simpa using h)
theorem QBk {H:ZG} {j:Nat} (hj:j<H.length) (cs:ZH) (t:ZK):Qn (H.set j ⟨cs,t,0,true⟩) j 0=cs:=Qap (o:=⟨cs,t,0,true⟩) (by simp[hj]) rfl
def QaU:ZD:=[[103,97,109,101],[112,108,97,121,101,114,115],[118,97,114],[100,101,97,108],[105,110],[119,101,105,103,104,116],[115,101,101,110],[98,121],[97,108,108],[116,117,114,110],[97,99,116,105,111,110],[119,104,101,110],[104,105,100,100,101,110],[103,111,116,111],[101,110,100],[112,97,121],[111,114],[97,110,100],[110,111,116],[109,105,110],[109,97,120],[105,102]]
def QP (c:Cx) (r:Rd):Bool:=Qal c r λt=>decide (t.k=1) && !decide (t.tx∈QaU)
def QO (c:Cx) (r:Rd):ZE×Rd:=if QP c r then((c.ts.getD r.a ⟨0,[],0,0⟩).tx,Qa r)else([],Qg c 11 r)
def QaW (c:Cx) (r:Rd):Bool:=Qal c r λt=>decide (t.k=2)
def nmR (c:Cx) (r:Rd):Int×Rd:=if QaW c r then((c.ts.getD r.a ⟨0,[],0,0⟩).n,Qa r)else(0,Qg c 11 r)
def upR (r:Rd):Rd:={ r with v:=IntKind.i64.wrap (r.v+1) }
def dnR (r:Rd):Rd:={ r with v:=IntKind.i64.wrap (r.v-1) }
def QB (c:Cx) (s:ZE) (r:Rd):Int×Rd:=Qh c s (upR (if Qd c s r=true/\r.v=40 then Qg c 5 r else r))
def Qbw (c:Cx) (r:Rd):Bool:=QaW c r||QP c r||Qd c [110,111,116] r||Qd c [45] r||Qd c [40] r||Qd c [109,105,110] r||Qd c [109,97,120] r||Qd c [105,102] r
theorem Qb4 {c:Cx} {r:Rd} {f:Tok->Bool} (h:Qal c r f=true):r.e=0/\∃ h:r.a<c.ts.length,f c.ts[r.a]=true:=by
 unfold Qal at h;split at h
 . rename_i h2; simp at h; exact⟨h.1,h2,h.2⟩
 . simp at h
inductive Ex where
 |mk (op n:Int) (nm:ZE) (l:List Ex) (p:Int)
mutual
def Ex.c:Ex->ZH
 |.mk op n nm l p=>[i64 op,i64 n,st (B nm),.slc (Ex.cL l) l.length,i64 p]
def Ex.cL:List Ex->ZH
 |[]=>[]
 |e::r=>e.c++Ex.cL r
end
def Ex.v (e:Ex):SV:=.agg e.c
def zE:Ex:=.mk 0 0 [] [] 0
@[simp] theorem Ex.c_len (e:Ex):e.c.length=5:=by cases e; rfl
theorem Qrj:∀ l:List Ex,Ex.cL l=rws Ex.c l
 |[]=>by simp[Ex.cL,rws]
 |e::r=>by rw[Ex.cL,Qrj r,rws]
mutual
theorem Ex.und (n:Nat):∀ e:Ex,SV.underL n e.c=true
 |.mk op k nm l p=>by simp[Ex.c,SV.underL,SV.under,Ex.undL n l]
theorem Ex.undL (n:Nat):∀ l:List Ex,SV.underL n (Ex.cL l)=true
 |[]=>by simp[Ex.cL,SV.underL]
 |e::r=>by rw[Ex.cL,SV.underL_append,Ex.und n e,Ex.undL n r]; rfl
end
@[simp] theorem Ex.c_take (e:Ex):List.take 5 e.c=e.c:=VD (by simp)
@[simp] theorem Ex.c_drop10 (e:Ex) (l:ZH):List.drop 10 (e.c++l)=List.drop 5 l:=by
 rw[show 10=e.c.length+5 by simp,YT]; simp
@[simp] theorem Ex.c_drop5' (e:Ex):List.drop 5 e.c=[]:=V1 (by simp)
theorem Ex.ok (e:Ex):QC e.c:=by
 cases e
 intro s hs;simp[Ex.c]at hs;rcases hs with rfl|rfl|rfl|rfl|rfl<;>rfl
@[simp] theorem Ex.okT (e:Ex):QC e.c=True:=Zw e.ok
@[simp] theorem Ex.fzm (n:Nat) (ks:List Nat) (L:ZG) (d:Nat) (e:Ex):e.c.map (SV.fz n ks L (d+1))=e.c:=QcM _ _ _ _ (Ex.und _ e)
structure Gd (c:Cx) (d:Nat) (r:Rd):Prop where
 a:r.a<=c.ts.length
 v:r.e≠0\/r.v+d=40
def Kp {α:Type} (c:Cx) (d:Nat) (F:Rd->α×Rd):Prop:=∀ r,Gd c d r->Gd c d (F r).2/\r.a<=(F r).2.a
def Qam (c:Cx) (ops:List (ZE×Int)) (r:Rd):Option Int:=(ops.find? λo=>Qd c o.1 r).map (·.2)
def QaX (c:Cx) (ops:List (ZE×Int)) (f:Rd->Ex×Rd):Nat->Ex->Rd->Ex×Rd
 |0,e,r=>(e,r)
 |n+1,e,r=>match Qam c ops r with
  |some op=>QaX c ops f n (.mk op 0 [] [e,(f (Qa r)).1] (Qk c r)) (f (Qa r)).2
  |none=>(e,r)
def Q7 (c:Cx) (ops:List (ZE×Int)) (f:Rd->Ex×Rd) (r:Rd):Ex×Rd:=QaX c ops f c.ts.length (f r).1 (f r).2
def orO:List (ZE×Int):=[([111,114],17)]
def QbM:List (ZE×Int):=[([97,110,100],16)]
def QaV:List (ZE×Int):=[([61,61],10),([33,61],11),([60],12),([60,61],13),([62],14),([62,61],15)]
def Qbe:List (ZE×Int):=[([43],8),([45],9)]
def Qa6:List (ZE×Int):=[([42],5),([47],6),([37],7)]
def QaP (c:Cx) (f:Rd->Ex×Rd) (r:Rd):Ex×Rd:=match Qam c QaV (f r).2 with
 |some op=>(.mk op 0 [] [(f r).1,(f (Qa (f r).2)).1] (Qk c (f r).2),(f (Qa (f r).2)).2)
 |none=>f r
theorem Qf9 {c:Cx} {s:ZE} {r:Rd} (h:Qd c s r=true):r.e=0/\∃ h:r.a<c.ts.length,c.ts[r.a].k≠2/\c.ts[r.a].tx=s:=by
 obtain⟨h1,h2,h3⟩:=Qb4 h;simp at h3;exact⟨h1,h2,h3.1,h3.2⟩
theorem QdV {c:Cx} {ops:List (ZE×Int)} {r:Rd} {op:Int} (h:Qam c ops r=some op):r.e=0/\r.a<c.ts.length:=by
 unfold Qam at h;rw[VZ]at h;obtain⟨o,h1,_⟩:=h;have:=List.find?_some h1;obtain⟨h2,h3,_⟩:=Qf9 this;exact⟨h2,h3⟩
theorem Gd.next {c:Cx} {d:Nat} {r:Rd} (h:Gd c d r) (hl:r.a<c.ts.length):Gd c d (Qa r):=⟨hl,h.v⟩
theorem Qqn {c:Cx} {ops:List (ZE×Int)} {f:Rd->Ex×Rd} {d:Nat} (hf:Kp c d f):∀ (n:Nat) (e:Ex) (r:Rd),Gd c d r->Gd c d (QaX c ops f n e r).2/\r.a<=(QaX c ops f n e r).2.a
 |0,e,r,h=>⟨h,Vb _⟩
 |n+1,e,r,h=>by
  rw[QaX];split
  . rename_i op ho;obtain⟨_,hl⟩:=QdV ho;obtain⟨h1,h2⟩:=hf _ (h.next hl)
    obtain⟨h3,h4⟩:=Qqn hf n (.mk op 0 [] [e,(f (Qa r)).1] (Qk c r)) _ h1;exact⟨h3,by have:r.a+1<=_:=h2; omega⟩
  . exact⟨h,Vb _⟩
theorem Qd0 {c:Cx} {ops:List (ZE×Int)} {f:Rd->Ex×Rd} {d:Nat} (hf:Kp c d f):Kp c d (Q7 c ops f):=by
 intro r h;obtain⟨h1,h2⟩:=hf r h;obtain⟨h3,h4⟩:=Qqn (ops:=ops) hf c.ts.length (f r).1 _ h1;exact⟨h3,Vg h2 h4⟩
theorem Qmm {c:Cx} {f:Rd->Ex×Rd} {d:Nat} (hf:Kp c d f):Kp c d (QaP c f):=by
 intro r h;obtain⟨h1,h2⟩:=hf r h;unfold QaP;split
 . rename_i op ho;obtain⟨_,hl⟩:=QdV ho;obtain⟨h3,h4⟩:=hf _ (h1.next hl)
   exact⟨h3,by have:(f r).2.a+1<=_:=h4; simp only; omega⟩
 . exact⟨h1,h2⟩
section
variable {H:ZG} {c:Cx} {r:Rd} {j:Nat}
def zO:AO:=⟨[i64 0,i64 0,st (B []),.val (.slice none 0 0),i64 0],25,0,true⟩
def eO (e:Ex):AO:=⟨e.c,25,0,true⟩
end
section
variable {H:ZG} {c:Cx} {r:Rd} {j:Nat}
theorem ocL (hj:j<H.length) (cs:ZH) (t:ZK) (L:ZG):Qn (H.set j ⟨cs,t,0,true⟩++L) j 0=cs:=by
 have:(H.set j ⟨cs,t,0,true⟩++L)[j]? = some ⟨cs,t,0,true⟩:=by rw[Vc (by simpa using hj)]; simp[hj]
 exact Qap this rfl
theorem soL (hj:j<H.length) (o:AO) (L:ZG) (f:AO->AO):Ab.setObj (H.set j o++L) j f=H.set j (f o)++L:=by
 rw[QbX (o:=o) (by rw[Vc (by simpa using hj)]; simp[hj]),Vl _ _ (by simpa using hj),VA]
end
def QaS (c:Cx) (cmp ntP:Rd->Ex×Rd) (r:Rd):Ex×Rd :=
 if Qd c [110,111,116] r=true then
  if(QB c [110,111,116] r).2.e≠0 then(zE,(QB c [110,111,116] r).2)
  else(.mk 4 0 [] [(ntP (QB c [110,111,116] r).2).1] (QB c [110,111,116] r).1,dnR (ntP (QB c [110,111,116] r).2).2)
 else cmp r
def QU (c:Cx) (orP:Rd->Ex×Rd):Nat->List Ex->Rd->Option (List Ex)×Rd
 |0,l,r=>(some l,r)
 |n+1,l,r=>if(Qh c [44] r).2.e≠0 then(none,(Qh c [44] r).2)else QU c orP n (l++[(orP (Qh c [44] r).2).1]) (orP (Qh c [44] r).2).2
def QdC (c:Cx) (orP:Rd->Ex×Rd) (s:ZE) (op:Int) (m:Nat) (p:Int) (r:Rd):Ex×Rd :=
 let r2:=(QB c [40] (Qh c s r).2).2
 if r2.e≠0 then(zE,r2)else
 match QU c orP m [(orP r2).1] (orP r2).2 with
 | (none,r3)=>(zE,r3)
 | (some l,r3)=>(.mk op 0 [] l p,dnR (Qh c [41] r3).2)
def QaT:List (ZE×Int×Nat):=[([109,105,110],18,1),([109,97,120],19,1),([105,102],20,2)]
def QL (c:Cx) (orP facP:Rd->Ex×Rd) (r:Rd):Ex×Rd :=
 if r.e≠0 then(zE,r)
 else if QP c r=true then(.mk 2 0 (QO c r).1 [] (Qk c r),(QO c r).2)
 else if Qd c [45] r=true then
  if(QB c [45] r).2.e≠0 then(zE,(QB c [45] r).2)
  else(.mk 3 0 [] [(facP (QB c [45] r).2).1] (Qk c r),dnR (facP (QB c [45] r).2).2)
 else if Qd c [40] r=true then
  if(QB c [40] r).2.e≠0 then(zE,(QB c [40] r).2)
  else((orP (QB c [40] r).2).1,dnR (Qh c [41] (orP (QB c [40] r).2).2).2)
 else match QaT.find? (λw=>Qd c w.1 r)with
  |some w=>QdC c orP w.1 w.2.1 w.2.2 (Qk c r) r
  |none=>(.mk 1 (nmR c r).1 [] [] (Qk c r),(nmR c r).2)
structure Lv where
 fac:Rd->Ex×Rd
 nt:Rd->Ex×Rd
def Qcd (c:Cx) (L:Lv):Rd->Ex×Rd:=Q7 c orO (Q7 c QbM L.nt)
def Qh3 (c:Cx) (fac:Rd->Ex×Rd):Rd->Ex×Rd:=QaP c (Q7 c Qbe (Q7 c Qa6 fac))
def lvS (c:Cx) (orP facP ntP:Rd->Ex×Rd):Lv:=⟨QL c orP facP,QaS c (Qh3 c (QL c orP facP)) ntP⟩
def lv (c:Cx):Nat->Lv
 |0=>lvS c (λr=>(zE,r)) (λr=>(zE,r)) (λr=>(zE,r))
 |d+1=>lvS c (Qcd c (lv c d)) (lv c d).fac (lv c d).nt
theorem Qfb {c:Cx} {d:Nat} {r:Rd} {e:Int} (he:e≠0) (h:Gd c d r):Gd c d (Qg c e r)/\(Qg c e r).a=r.a/\(Qg c e r).e≠0:=by
 unfold Qg;split
 . exact⟨⟨h.a,.inl he⟩,rfl,he⟩
 . rename_i h2; exact⟨h,rfl,h2⟩
theorem Qdi {c:Cx} {d:Nat} (s:ZE):Kp c d (Qh c s):=by
 intro r h;unfold Qh;split
 . rename_i hp;exact⟨h.next (Qaj hp),Nat.le_succ _⟩
 . obtain⟨h1,h2,_⟩:=Qfb (e:=11) (by decide) h;exact⟨h1,V2 h2.symm⟩
theorem Qcf {c:Cx} {d:Nat}:Kp c d (QO c):=by
 intro r h;unfold QO;split
 . rename_i hp;exact⟨h.next (Qb4 hp).2.1,Nat.le_succ _⟩
 . obtain⟨h1,h2,_⟩:=Qfb (e:=11) (by decide) h;exact⟨h1,V2 h2.symm⟩
theorem Qcc {c:Cx} {d:Nat}:Kp c d (nmR c):=by
 intro r h;unfold nmR;split
 . rename_i hp;exact⟨h.next (Qb4 hp).2.1,Nat.le_succ _⟩
 . obtain⟨h1,h2,_⟩:=Qfb (e:=11) (by decide) h;exact⟨h1,V2 h2.symm⟩
theorem Qkp {c:Cx} {d:Nat} (hd:d<=40) {s:ZE} {r:Rd} (h:Gd c d r) :
 (QB c s r).2.a<=c.ts.length/\r.a<=(QB c s r).2.a/\((QB c s r).2.e=0->∃ d',d=d'+1/\Gd c d' (QB c s r).2):=by
 unfold QB;by_cases hp:Qd c s r=true/\r.v=40
 . rw[Zn hp];obtain⟨h1,h2,h3⟩:=Qfb (e:=5) (by decide) h;have hb:Gd c d (upR (Qg c 5 r)):=⟨h1.a,.inl h3⟩;obtain⟨k1,k2⟩:=Qdi s _ hb;refine⟨k1.a,by rw[<-h2]; exact k2,λhe => ?_⟩;exfalso;have:Qd c s (upR (Qg c 5 r))=false:=by
    rw[<-Vi]; intro h4;exact h3 (Qf9 h4).1
   unfold Qh at he;rw[this]at he;simp only[Vt,Zt]at he;unfold Qg at he;rw[Zm (by exact h3)]at he;exact h3 he
 . rw[Zm hp];have hb:Gd c d (upR r)\/True:=.inr Zo;by_cases hpk:Qd c s r=true
   . have hv:r.v≠40:=λh=>hp ⟨hpk,h⟩;obtain⟨he0,hlt,_⟩:=Qf9 hpk;have hpu:Qd c s (upR r)=true:=hpk;have ht:Qh c s (upR r)=(Qk c (upR r),Qa (upR r)):=by unfold Qh; rw[Zn hpu]
     rw[ht];have hv2:=h.v.resolve_left (λh=>h he0);refine⟨hlt,Nat.le_succ _,λ_=>⟨d-1,by omega,hlt,.inr ?_⟩⟩;have:IntKind.i64.wrap (r.v+1)=r.v+1:=Qae (by omega) (by omega);simp only[Qa,upR,this];omega
   . have hpu:Qd c s (upR r)=false:=by rw[<-Vi]; exact hpk
     have ht:Qh c s (upR r)=(Qk c (upR r),Qg c 11 (upR r)):=by unfold Qh; rw[hpu]; rfl
     rw[ht];have hf:(Qg c 11 (upR r)).a=r.a/\(Qg c 11 (upR r)).e≠0:=by
      unfold Qg;split
      . exact⟨rfl,show(11:Int)≠0 by decide⟩
      . rename_i h2; exact⟨rfl,h2⟩
     exact⟨by rw[hf.1]; exact h.a,by rw[hf.1]; exact Vb _,λhe=>absurd he hf.2⟩
theorem Gd.dn {c:Cx} {d:Nat} (hd:d+1<=40) {r:Rd} (h:Gd c d r):Gd c (d+1) (dnR r):=by
 refine⟨h.a,?_⟩;rcases h.v with h1|h1
 . exact .inl h1
 . right;have:IntKind.i64.wrap (r.v-1)=r.v-1:=Qae (by omega) (by omega);simp only[dnR,this]; omega
theorem QlT {c:Cx} {d:Nat} (hd:d<=40) {cmp ntP:Rd->Ex×Rd} (h1:Kp c d cmp) (h2:∀ d',d=d'+1->Kp c d' ntP):Kp c d (QaS c cmp ntP):=by
 intro r h;unfold QaS;split
 . obtain⟨k1,k2,k3⟩:=Qkp hd (s:=[110,111,116]) h;split
   . rename_i he;exact⟨⟨k1,.inl he⟩,k2⟩
   . rename_i he;obtain⟨d',rfl,hg⟩:=k3 (by simpa using he);obtain⟨k4,k5⟩:=h2 d' rfl _ hg;exact⟨k4.dn hd,Vg k2 k5⟩
 . exact h1 r h
theorem QsQ {c:Cx} {d:Nat} {orP:Rd->Ex×Rd} (hk:Kp c d orP):∀ (n:Nat) (l:List Ex) (r:Rd),Gd c d r->Gd c d (QU c orP n l r).2/\r.a<=(QU c orP n l r).2.a/\((QU c orP n l r).1=none->(QU c orP n l r).2.e≠0)
 |0,l,r,h=>⟨h,Vb _,λh=>by cases h⟩
 |n+1,l,r,h=>by
  rw[QU];obtain⟨k1,k2⟩:=Qdi [44] r h;split
  . rename_i he;exact⟨k1,k2,λ_=>he⟩
  . obtain⟨k3,k4⟩:=hk _ k1;obtain⟨k5,k6,k7⟩:=QsQ hk n (l++[(orP (Qh c [44] r).2).1]) _ k3;exact⟨k5,Vg k2 (Vg k4 k6),k7⟩
theorem Qyj {c:Cx} {d:Nat} (hd:d<=40) {orP:Rd->Ex×Rd} (hk:∀ d',d=d'+1->Kp c d' orP) (s:ZE) (op:Int) (m:Nat) (p:Int):Kp c d (QdC c orP s op m p):=by
 intro r h;obtain⟨k1,k2⟩:=Qdi s r h;obtain⟨k3,k4,k5⟩:=Qkp hd (s:=[40]) k1;unfold QdC;dsimp only;split
 . rename_i he;exact⟨⟨k3,.inl he⟩,Vg k2 k4⟩
 . rename_i he;obtain⟨d',rfl,hg⟩:=k5 (by simpa using he);obtain⟨k6,k7⟩:=hk d' rfl _ hg;obtain⟨k8,k9,k10⟩:=QsQ (hk d' rfl) m [(orP (QB c [40] (Qh c s r).2).2).1] _ k6;split
   . rename_i r3 hr;rw[hr]at k8 k9 k10;exact⟨⟨k8.a,.inl (k10 rfl)⟩,Vg k2 (Vg k4 (Vg k7 k9))⟩
   . rename_i l r3 hr;rw[hr]at k8 k9 k10;obtain⟨k11,k12⟩:=Qdi [41] r3 k8;exact⟨k11.dn hd,Vg k2 (Vg k4 (Vg k7 (Vg k9 k12)))⟩
theorem QmZ {c:Cx} {d:Nat} (hd:d<=40) {orP facP:Rd->Ex×Rd} (h1:∀ d',d=d'+1->Kp c d' orP) (h2:∀ d',d=d'+1->Kp c d' facP):Kp c d (QL c orP facP):=by
 intro r h;unfold QL;split
 . exact⟨h,Vb _⟩
 split
 . exact Qcf r h
 split
 . obtain⟨k1,k2,k3⟩:=Qkp hd (s:=[45]) h;split
   . rename_i he;exact⟨⟨k1,.inl he⟩,k2⟩
   . rename_i he;obtain⟨d',rfl,hg⟩:=k3 (by simpa using he);obtain⟨k4,k5⟩:=h2 d' rfl _ hg;exact⟨k4.dn hd,Vg k2 k5⟩
 split
 . obtain⟨k1,k2,k3⟩:=Qkp hd (s:=[40]) h;split
   . rename_i he;exact⟨⟨k1,.inl he⟩,k2⟩
   . rename_i he;obtain⟨d',rfl,hg⟩:=k3 (by simpa using he);obtain⟨k4,k5⟩:=h1 d' rfl _ hg;obtain⟨k6,k7⟩:=Qdi [41] _ k4;exact⟨k6.dn hd,Vg k2 (Vg k5 k7)⟩
 split
 . exact Qyj hd h1 _ _ _ _ r h
 . exact Qcc r h
theorem Qnk (c:Cx):∀ d:Nat,d<=40->Kp c d (lv c d).fac/\Kp c d (lv c d).nt/\Kp c d (Qcd c (lv c d))
 |0,hd=>by
  have h1:Kp c 0 (lv c 0).fac:=QmZ hd (λd' h=>by omega) (λd' h=>by omega);have h2:Kp c 0 (lv c 0).nt:=QlT hd (Qmm (Qd0 (Qd0 h1))) (λd' h=>by omega);exact⟨h1,h2,Qd0 (Qd0 h2)⟩
 |d+1,hd=>by
  obtain⟨p1,p2,p3⟩:=Qnk c d (by omega);have h1:Kp c (d+1) (lv c (d+1)).fac:=QmZ hd (λd' h=>by cases h; exact p3) (λd' h=>by cases h; exact p1);have h2:Kp c (d+1) (lv c (d+1)).nt:=QlT hd (Qmm (Qd0 (Qd0 h1))) (λd' h=>by cases h; exact p2);exact⟨h1,h2,Qd0 (Qd0 h2)⟩
section
variable {H:ZG} {c:Cx} {r:Rd} {j:Nat}
theorem QrV (op n:Int) (nm:ZE) (p:Int):SV.le (.agg [i64 op,i64 n,st (B nm),.val (.slice none 0 0),i64 p]) (Ex.mk op n nm [] p).v:=by
 simp only[Ex.v,Ex.c,Ex.cL,VK];exact QfL (leL.cons (SV.le.refl _) (leL.cons (SV.le.refl _) (leL.cons (SV.le.refl _) (leL.cons Qd4 (leL.cons (SV.le.refl _) leL.nil)))))
theorem QoB {o:AO} (hcl:closed (H.set j o)) (op n:Int) (nm:ZE) (p:Int) (L:ZG):Cv H.length (.agg [i64 op,i64 n,st (B nm),.val (.slice none 0 0),i64 p]) (H.set j o++L) (Ex.mk op n nm [] p).v (H.set j o) :=
 Cv.le (Qp (r1:=.agg [i64 op,i64 n,st (B nm),.val (.slice none 0 0),i64 p]) (r:=.agg [i64 op,i64 n,st (B nm),.val (.slice none 0 0),i64 p]) (n0:=H.length) 3 hcl (by simp) (by simp)) (QrV op n nm p)
end
section
variable {H:ZG} {c:Cx} {r:Rd} {j:Nat}
theorem Qfi:∀ a:List Ex,(Ex.cL a).length=a.length*5
 |[]=>rfl
 |x::a=>by rw[Ex.cL,Vj,Qfi a]; simp; omega
end
section
variable {H:ZG} {c:Cx} {r:Rd} {j:Nat}
@[simp] theorem QGu (n:Nat) (ks:List Nat) (L:ZG) (d:Nat) (l:List Ex):(Ex.cL l).map (SV.fz n ks L (d+1))=Ex.cL l:=QcM _ _ _ _ (Ex.undL _ l)
end
def orT (c:Cx):Rd->Ex×Rd:=Qcd c (lv c 40)
def QiP (c:Cx):Ex×Int×Int :=
 let x:=orT c ⟨0,0,0,0⟩
 let r:=if x.2.a<c.ts.length then Qg c 11 x.2 else x.2
 if r.e≠0 then(zE,r.e,r.p)else(x.1,0,0)
def Qai (l:ZE):Ex×Int×Int :=
 if(Qv l).2.1≠0 then(zE,(Qv l).2)else QiP ⟨(Qv l).1,l.length⟩
theorem QvM (l:List Ev):(Qag l).length<=l.length:=by
 induction l with
 |nil=>simp[Qag]
 |cons x r ih=>cases x<;>simp[Qag]<;>omega
theorem QsM (l:ZE):∀ (n p:Nat),(evs l n p).length<=n
 |0,p=>by simp[evs]
 |n+1,p=>by
  simp only[evs];have:=QsM l n;split
  . split<;>simp<;>first|omega|(have:=this ‹_›; omega)|skip
  . simp
theorem Qsu (l:ZE):(Qv l).1.length<=20000:=by
 unfold Qv;split
 . simp
 . rename_i h;split
   . refine Vg (QvM _) (Vg (QsM l l.length 0) (by omega))
   . simp
def mpK (ops:List (ZE×Int)):ZI:=ops.map λo=>.string (B o.1)
def mpV (ops:List (ZE×Int)):ZH:=ops.map λo=>i64 o.2
def mpS (ops:List (ZE×Int)):SV:=.mpf (mpK ops) (mpV ops)
def QkI:ZH:=[mpS orO,mpS QbM,mpS QaV,mpS Qbe,mpS Qa6]
def pdC (c:Cx) (a:Nat) (v:Int):ZH:=[Qbc c.ts,i64 a,i64 c.en,mpS orO,mpS QbM,mpS QaV,mpS Qbe,mpS Qa6,i64 v]
def pdO (c:Cx) (r:Rd):AO:=⟨pdC c r.a r.v,127,0,true⟩
def QV (e p:Int):SV:=.ifc 28 (QK e p)
def zTk:Tok:=⟨0,[],0,0⟩
def tkR (c:Cx) (r:Rd):Tok:=if h:r.a<c.ts.length then c.ts[r.a]else zTk
theorem QvO {ts:List Tok} {i:Nat} (h:i<ts.length):List.take 4 (List.drop (i*4) (ts.flatMap Tok.c))=(ts[i]'h).c:=by
 induction ts generalizing i with
 |nil=>simp at h
 |cons t r ih =>
  rw[VO]
  cases i with
  |zero=>rw[Yi,Yt,YE (by simp[Tok.c])]; rfl
  |succ i =>
   have e:(i+1)*4=t.c.length+i*4:=by simp[Tok.c]; omega
   rw[e,YT,List.drop_eq_nil_of_le (by omega),Vx,Zi];exact ih (by simpa using h)
theorem Tok.c_len (t:Tok):t.c.length=4:=rfl
theorem Tok.cOk (t:Tok):QC t.c:=by
 intro s hs;simp[Tok.c]at hs;rcases hs with rfl|rfl|rfl|rfl<;>rfl
structure Qt (H:ZG) (js:List Nat) (H':ZG):Prop where
 len:H.length<=H'.length
 at_:∀ i,i<H.length->i∉js->H'[i]? = H[i]?
theorem Qt.refl (H:ZG) (js:List Nat):Qt H js H:=⟨Vb _,λ_ _ _=>rfl⟩
theorem Qt.set {H:ZG} {js:List Nat} {j:Nat} (hj:j∈js) (o:AO):Qt H js (H.set j o):=by
 refine⟨by simp,λi _ hi => ?_⟩;rw[Vf];rintro rfl; exact hi hj
theorem Qt.trans {H H' H'':ZG} {js:List Nat} (h:Qt H js H') (h':Qt H' js H''):Qt H js H'' :=
 ⟨Vg h.len h'.len,λi hi hj=>(h'.at_ i (YL hi h.len) hj).trans (h.at_ i hi hj)⟩
section
variable {H:ZG} {c:Cx} {r:Rd} {j:Nat}
theorem QfX (ho:H[j]? = some (pdO c r)):Ok Tryz.prog 91 [rp j] H (.ret (i64 (Qk c r))) H:=by
 have hj:=Qj ho;have e1:Qn H j 0=(pdO c r).cells:=Qap (o:=pdO c r) ho rfl;refine Qz hm Tryz.func91 c91 (by simp[rp]) λhcl => ?_;unfold Qk;by_cases h:r.a<c.ts.length
 . have k3:=Qwj (k:=3) h (by omega);simp -implicitDefEqProofs[i91,r91,rp,e1,pdO,pdC,h,Qbc,k3,Tok.c];exact⟨by simp[QhZ]; omega,Qi⟩
 . simp -implicitDefEqProofs[i91,r91,rp,e1,pdO,pdC,h,Qbc];exact Qi
theorem Qdg (ho:H[j]? = some (pdO c r)) (e:Int):Ok Tryz.prog 79 [rp j,i64 e] H (.pan (QV e (Qk c r))) H:=by
 have hj:=Qj ho;have h91:=QfX ho;refine Qz hm Tryz.func79 c79 (by simp[rp]) λhcl => ?_;simp -implicitDefEqProofs[i79,r79];refine Qc h91 ?_;simp -implicitDefEqProofs[QV,QK];exact Qi
theorem Qes (ho:H[j]? = some (pdO c r)):Ok Tryz.prog 139 [rp j] H (.ret (tkR c r).v) H:=by
 have hj:=Qj ho;have e1:Qn H j 0=(pdO c r).cells:=Qap (o:=pdO c r) ho rfl;have e1L:∀ L,Qn (H++L) j 0=(pdO c r).cells:=λL=>by rw[Qjb L hj]; exact e1
 refine Qz hm Tryz.func139 c139 (by simp[rp]) λhcl => ?_;unfold tkR;by_cases h:r.a<c.ts.length
 . have kt:=QvO h;have hm4:min 4 (c.ts.length*4-r.a*4)=4:=by omega
   have ht:List.take 4 (c.ts[r.a]'h).c=(c.ts[r.a]'h).c:=rfl;simp -implicitDefEqProofs[QlN,QlB,rp,e1L,pdO,pdC,h,Qbc,kt,Tok.c_len,QhZ,ht];refine⟨by omega,Tok.cOk _,?_⟩;exact Qp 2 hcl rfl rfl
 . simp -implicitDefEqProofs[QlN,QlB,rp,e1L,pdO,pdC,h,Qbc];exact Qp 2 hcl rfl rfl
end
end Go.Proofs.YtmkdpmfhlfhjkaaGreatDoor
namespace Go.Proofs.YtmkdpmfhlfhjkaaGreatDoor
open Go.Ab
def wds (l:ZD):ZH:=l.map λs=>st (B s)
@[simp] theorem QpR (l:ZD):(wds l).length=l.length:=by simp[wds]
structure IsS (H:ZG) (x:SV) (l:ZD):Prop where
 vd:x.vd=true
 ug:x.ug=x
 sl:x.isSl=true
 cell:x.isCell=true
 sz:x.szIs 1=true
 len:x.slen=l.length
 und:x.under H.length=true
 row:(x.row H).take l.length=wds l
 flat:x.flat=[x]
namespace IsS
variable {H:ZG} {x:SV} {l:ZD}
theorem app (h:IsS H x l) (L:ZG):IsS (H++L) x l :=
 ⟨h.vd,h.ug,h.sl,h.cell,h.sz,h.len,SV.under_mono (by simp) x h.und,by rw[Qy7 L h.und]; exact h.row,h.flat⟩
theorem slc (H:ZG) (l:ZD):IsS H (.slc (wds l) l.length) l :=
 ⟨rfl,rfl,rfl,rfl,rfl,rfl,by simp[SV.under,wds,SV.underL_iff],by simp[SV.row,<- QpR],rfl⟩
theorem rowlen (h:IsS H x l):l.length<=(x.row H).length:=by
 have:=Zp List.length h.row;simp at this; omega
theorem ld (h:IsS H x l) {k:Nat} (hk:k<l.length):((x.row H).drop k).headD .any=st (B (l[k]'hk)):=by
 have h2:((x.row H).take l.length)[k]? = (wds l)[k]? := by rw[h.row]
 rw[YM hk]at h2;rw[Y6,List.head?_drop,h2];simp[wds,hk]
theorem okA (h:IsS H x l) (L:ZG) {k:Nat} (hk:k<l.length):Qe4 (H++L) (.ptr x k) 1:=by
 have:=(h.app L).rowlen;simp only[Qe4,Qlh,YC]; omega
theorem vA (h:IsS H x l) (L:ZG) {k:Nat} (hk:k<l.length):ldv (H++L) (.ptr x k)=st (B (l[k]'hk)):=by
 have:=(h.app L).ld hk;simp only[ldv,Qlh,this]
theorem own1 {H L:ZG} {T:ZK} {l:ZD} {k n ver:Nat} (h:L[k]? = some ⟨wds l,T,ver,true⟩) (hn:n=l.length):IsS (H++L) (.own (H.length+k) 0 n 1 ver) l:=by
 subst hn;refine⟨rfl,rfl,rfl,rfl,rfl,rfl,?_,?_,rfl⟩
 . have:k<L.length:=Qj h;simp; omega
 . simp only[SV.row,QfN,Yt];unfold Qn;rw[h];simp[<-QpR]
end IsS
end Go.Proofs.YtmkdpmfhlfhjkaaGreatDoor
namespace Go.Proofs.YtmkdpmfhlfhjkaaGreatDoor
open Go.Ab
section
variable {H:ZG} {c:Cx} {r:Rd} {j:Nat}
theorem Qwf (n:Nat) (ops:List (ZE×Int)):(mpS ops).under n=true:=by
 simp[mpS,SV.under,SV.underL_iff,mpV];rintro _ _ _ _ rfl;rfl
theorem Qqw (n:Nat) (c:Cx) (a:Nat) (v:Int):SV.underL n (pdC c a v)=true:=by
 simp[pdC,SV.underL,SV.under,Qbc,Qmf,Qwf]
theorem QbN {a:Nat} {v:Int} (h:closed H):closed (H.set j ⟨pdC c a v,127,0,true⟩):=by
 have:=QfH h j (o:=⟨pdC c a v,127,0,true⟩) (Qqw _ _ _ _);simpa using this
theorem Qq2 {G:ZG} {q:Nat} {t:Tok} (hq:G[q]? = some ⟨t.c,52,0,true⟩) {x:SV} {l:ZD} (hx:IsS G x l) (hl:l.length<4611686018427387904) {N:Nat} {K:ZF}
 (hyes:t.tx∈l->∀ env,env.get 4=bl true->K .ret env G) (hno:t.tx∉l->∀ env,K (.exit 0) env G) :
 ∀ (m i:Nat) (env:Env),i+m=l.length->t.tx∉l.take i->env.get 5=rp q->env.get 10=x->env.get 11=i64 l.length->env.get 12=i64 i->LI Tryz.prog N Qf Qi4 env G K:=by
 have e1:Qn G q 0=t.c:=Qap (o:=⟨t.c,52,0,true⟩) hq rfl;intro m
 induction m with
 |zero =>
  intro i env hi hn h5 h10 h11 h12;refine Qu hm Qi4.eq_1 ?_;have e:i=l.length:=by omega
  subst e;rw[VN]at hn;simp[h5,h10,h11,h12];exact hno hn _
 |succ m ih =>
  intro i env hi hn h5 h10 h11 h12;refine Qu hm Qi4.eq_1 ?_;have hlt:i<l.length:=by omega
  have hlt':(i:Int)<l.length:=by omega
  have hv:=hx.vA [] hlt;have ho:=hx.okA [] hlt;simp only[VE]at hv ho;by_cases hs:t.tx=l[i]
  . simp[h5,h10,h11,h12,hlt',hx.vd,hx.ug,hx.sl,hx.len,hv,ho,rp,e1,Tok.c,hs];exact hyes (hs ▸ Vu hlt) _ (by simp)
  . simp[h5,h10,h11,h12,hlt',hx.vd,hx.ug,hx.sl,hx.len,hv,ho,rp,e1,Tok.c,hs];refine ih (i+1) _ (by omega) ?_ ?_ ?_ ?_ ?_
    . rw[YH hlt,Vq];rintro(h|h)
      . exact hn h
      . exact hs (VV.1 h)
    all_goals simp[QaH (show i<9223372036854775807 by omega),rp]
theorem Qfs (ho:H[j]? = some (pdO c r)) {x:SV} {l:ZD} (hx:IsS H x l) (hl:l.length<4611686018427387904):Ok Tryz.prog 93 [rp j,x] H (.ret (bl (decide ((tkR c r).tx∈l)))) H:=by
 have hj:=Qj ho;have h139:=Qes ho;generalize tkR c r=t at h139 ⊢;refine Qz hm Tryz.func93 c93 (by simp[rp]) λhcl => ?_;simp[i93,r93];refine Qc h139 ?_;simp[Tok.v,Tok.c,hx.vd,hx.ug,hx.sl,hx.len];by_cases ht:t.tx∈l
 . refine Qq2 (G:=H++[⟨t.c,52,0,true⟩]) (q:=H.length) (t:=t) (by simp) (hx.app _) hl (λ_ env h4 => ?_) (λh=>absurd ht h) l.length 0 _ (by omega) (by simp) ?_ ?_ ?_ ?_
   . simp[h4,ht];exact Qp 2 hcl rfl rfl
   all_goals simp[rp]
 . refine Qq2 (G:=H++[⟨t.c,52,0,true⟩]) (q:=H.length) (t:=t) (by simp) (hx.app _) hl (λh=>absurd h ht) (λ_ env => ?_) l.length 0 _ (by omega) (by simp) ?_ ?_ ?_ ?_
   . simp[ht];exact Qp 2 hcl rfl rfl
   all_goals simp[rp]
theorem QfV (ho:H[j]? = some (pdO c r)) (hl:r.a<4611686018427387904):Ok Tryz.prog 140 [rp j] H (.ret (tkR c r).v) (H.set j (pdO c (Qa r))):=by
 have hj:=Qj ho;have e1:Qn H j 0=(pdO c r).cells:=Qap (o:=pdO c r) ho rfl;have e1L:∀ L,Qn (H++L) j 0=(pdO c r).cells:=λL=>by rw[Qjb L hj]; exact e1
 have e2:∀ (L:ZG) (f:AO->AO),Ab.setObj (H++L) j f=H.set j (f (pdO c r))++L:=λL f=>by
  rw[QbX (o:=pdO c r) (by rw[Vc hj]; exact ho),Vl _ _ hj]
 have h139:=λL=>Qes (H:=H++L) (c:=c) (r:=r) (j:=j) (by rw[Vc hj]; exact ho);have w1:=Qns (show r.a<9223372036854775807 by omega);generalize tkR c r=t at h139 ⊢;refine Qz hm Tryz.func140 c140 (by simp[rp]) λhcl => ?_;simp[i140,r140];refine Qc (h139 _) ?_;simp[Tok.v,Tok.c,rp,e1L,e2,pdO,pdC,w1];exact Qp 2 (QbN (c:=c) (a:=r.a+1) (v:=r.v) hcl) (by simp) rfl
end
def Qiy:ZE->Bool
 |[]=>false
 |b::_=>decide (48<=b.toNat/\b.toNat<=57)
def QY (c:Cx):Prop:=∀ t∈c.ts,t.k=2->Qiy t.tx=true
def QcH (s:ZE):Bool := !s.isEmpty && !Qiy s
theorem QcS {c:Cx} (hn:QY c) {s:ZE} (hs:QcH s=true) {r:Rd} (he:r.e=0):Qd c s r=decide ((tkR c r).tx=s):=by
 unfold QcH at hs;rw[Va,VI,VI]at hs;unfold Qd Qal tkR;by_cases h:r.a<c.ts.length
 . simp only[he,h,dite_true,decide_true,Bool.true_and];by_cases h2:c.ts[r.a].k=2
   . have:=hn _ (Vu h) h2;have hne:c.ts[r.a].tx≠s:=λe=>by rw[e,hs.2]at this; cases this
     simp[h2,hne]
   . simp[h2]
 . have hne:([]:ZE)≠s:=λe=>by rw[<-e]at hs; simp at hs
   simp[he,h,zTk,hne]
theorem Qhh {c:Cx} (hn:QY c) {s:ZE} (hs:QcH s=true) {r:Rd} (he:r.e=0):decide ((tkR c r).tx∈[s])=Qd c s r:=by
 rw[QcS hn hs he]; simp
theorem QnU {c:Cx} {r:Rd} (he:r.e=0):QP c r=(decide ((tkR c r).k=1) && !decide ((tkR c r).tx∈QaU)):=by
 unfold QP Qal tkR;by_cases h:r.a<c.ts.length
 . simp[he,h]
 . simp[he,h,zTk]
theorem QkL {c:Cx} {r:Rd} (he:r.e=0):QaW c r=decide ((tkR c r).k=2):=by
 unfold QaW Qal tkR;by_cases h:r.a<c.ts.length
 . simp[he,h]
 . simp[he,h,zTk]
theorem Qj1 (s:ZE):∀ ops:List (ZE×Int),lkm (.string (B s)) (mpK ops) (mpV ops)=(ops.find? λo=>decide (s=o.1)).map λo=>i64 o.2
 |[]=>rfl
 |o::r=>by
  have h:=Qj1 s r;simp only[mpK,mpV]at h;simp only[mpK,mpV,Vn,lkm,Yv,QaF];by_cases hs:s=o.1
  . simp[hs]
  . simp[hs,h]
theorem Qjq {c:Cx} (hn:QY c) {r:Rd} (he:r.e=0):∀ {ops:List (ZE×Int)},(ops.all λo=>QcH o.1)=true->Qam c ops r=(ops.find? λo=>decide ((tkR c r).tx=o.1)).map (·.2)
 |[],_=>rfl
 |o::l,h=>by
  rw[YO,Va]at h;have:=Qjq hn he h.2;unfold Qam at this ⊢;rw[Yv,Yv,QcS hn h.1 he];by_cases ht:(tkR c r).tx=o.1
  . simp[ht]
  . simp[ht,this]
section
variable {H:ZG} {c:Cx} {r:Rd} {j:Nat}
theorem QjG {G L:ZG} {j k ver T:Nat} {l:ZD} {n:Nat} (hj:j<G.length) (h:L[k]? = some ⟨wds l,T,ver,true⟩) (hn:n=l.length) (o:AO):IsS ((G++L).set j o) (.own (G.length+k) 0 n 1 ver) l:=by
 rw[Vl _ _ hj];have:=IsS.own1 (H:=G.set j o) (L:=L) (k:=k) h hn;simpa using this
def Q9 (c:Cx) (s:ZE) (r:Rd):Rd:=if Qd c s r=true then Qa r else r
theorem QcW (hn:QY c) (ho:H[j]? = some (pdO c r)) (hl:r.a<4611686018427387904) (he:r.e=0) {s:ZE} (hs:QcH s=true) :
 Ok Tryz.prog 90 [rp j,st (B s)] H (.ret (bl (Qd c s r))) (H.set j (pdO c (Q9 c s r))):=by
 have hj:=Qj ho;have e1:Qn H j 0=(pdO c r).cells:=Qap (o:=pdO c r) ho rfl;have e1L:∀ L,Qn (H++L) j 0=(pdO c r).cells:=λL=>by rw[Qjb L hj]; exact e1
 have e2:∀ (L:ZG) (f:AO->AO),Ab.setObj (H++L) j f=H.set j (f (pdO c r))++L:=λL f=>by
  rw[QbX (o:=pdO c r) (by rw[Vc hj]; exact ho),Vl _ _ hj]
 have h93:=Qfs (H:=H++[⟨[st (B s)],9,0,true⟩]) (c:=c) (r:=r) (j:=j) (by rw[Vc hj]; exact ho) (x:=.own H.length 0 1 1 0) (l:=[s]) (IsS.own1 (k:=0) rfl rfl) (by simp);rw[Qhh hn hs he]at h93;have w1:=Qns (show r.a<9223372036854775807 by omega);refine Qz hm Tryz.func90 c90 (by simp[rp]) λhcl => ?_;simp[i90,r90];refine Qc h93 ?_;unfold Q9;by_cases hp:Qd c s r=true
 . simp[hp,rp,e1L,e2,pdO,pdC,w1];exact Qp 2 (QbN (c:=c) (a:=r.a+1) (v:=r.v) hcl) (by simp) rfl
 . rw[Vi]at hp;simp[hp];rw[QcI ho];exact Qp 2 hcl rfl rfl
def QcC (c:Cx):ZD->Rd->Rd
 |[],r=>r
 |s::l,r=>QcC c l (Qh c s r).2
def PdV {α:Type} (c:Cx) (G:ZG) (j:Nat) (f:α->SV) (q:α×Rd) (o:Out) (H':ZG):Prop :=
 if q.2.e=0 then o=.ret (f q.1)/\H'=G.set j (pdO c q.2)else o=.pan (QV q.2.e q.2.p)/\Qt G [j] H'
theorem Qtb (c:Cx):∀ (l:ZD) (r:Rd),r.e≠0->QcC c l r=r
 |[],r,_=>rfl
 |s::l,r,h=>by
  have hp:Qd c s r=false:=by simp[Qd,Qal,h]
  rw[QcC];have:(Qh c s r).2=r:=by simp[Qh,hp,Qg,h]
  rw[this]; exact Qtb c l r h
theorem Quz (hn:QY c) (hj:j<H.length) {x:SV} {l:ZD} (hx:∀ o,IsS (H.set j o) x l) (hl:l.length<4611686018427387904) (hct:c.ts.length<4611686018427387904) (hw:∀ s∈l,QcH s=true) {N:Nat} {K:ZF} {res:Rd}
 (hexit:res.e=0->∀ env,K (.exit 0) env (H.set j (pdO c res))) (hpan:res.e≠0->∀ env r,K (.panic (QV res.e res.p)) env (H.set j (pdO c r))) :
 ∀ (m i:Nat) (r:Rd) (env:Env),i+m=l.length->QcC c (l.drop i) r=res->r.e=0->r.a<=c.ts.length->env.get 0=rp j->env.get 6=x->env.get 7=i64 l.length->env.get 8=i64 i->LI Tryz.prog N Qf Qi1 env (H.set j (pdO c r)) K:=by
 intro m
 induction m with
 |zero =>
  intro i r env hi hr he ha h0 h6 h7 h8;refine Qu hm Qi1.eq_1 ?_;have e:i=l.length:=by omega
  subst e;rw[Yu,QcC]at hr;subst hr;simp[h0,h6,h7,h8];exact hexit he _
 |succ m ih =>
  intro i r env hi hr he ha h0 h6 h7 h8;refine Qu hm Qi1.eq_1 ?_;have hlt:i<l.length:=by omega
  have hlt':(i:Int)<l.length:=by omega
  have hxo:=hx (pdO c r);have hv:=hxo.vA [] hlt;have ho:=hxo.okA [] hlt;simp only[VE]at hv ho;rw[VS hlt,QcC]at hr;have hws:=hw _ (Vu hlt);generalize l[i]=s at hv hr hws;have hoj:(H.set j (pdO c r))[j]? = some (pdO c r):=by simp[hj]
  have h90:=QcW hn hoj (by omega) he hws;simp[h0,h6,h7,h8,hlt',hxo.vd,hxo.ug,hxo.sl,hxo.len,hv,ho];refine Qc h90 ?_;by_cases hp:Qd c s r=true
  . have ht:(Qh c s r).2=Qa r:=by simp[Qh,hp]
    rw[ht]at hr;have hlt2:=Qaj hp;simp[hp,h0,h6,h7,h8,Q9];exact ih (i+1) (Qa r) _ (by omega) hr he (by simp[Qa]; omega) (by simp) (by simp) (by simp) (by simp[QaH (show i<9223372036854775807 by omega)])
  . rw[Vi]at hp;have ht:(Qh c s r).2=Qg c 11 r:=by simp[Qh,hp]
    have hfe:(Qg c 11 r).e=11:=by simp[Qg,he]
    rw[ht,Qtb c _ _ (by rw[hfe]; decide)]at hr;have h79:=Qdg hoj 11;have hfp:(Qg c 11 r).p=Qk c r:=by simp[Qg,he]
    simp[hp,h0,h6,h7,h8,Q9];refine Qc h79 ?_;rw[<-hr,hfe,hfp]at hpan;simp[hp];exact hpan (by decide) _ r
theorem Qkd (hn:QY c) (ho:H[j]? = some (pdO c r)) {x:SV} {l:ZD} (hx:∀ o,IsS (H.set j o) x l) (hl:l.length<4611686018427387904) (hct:c.ts.length<4611686018427387904) (hw:∀ s∈l,QcH s=true) (he:r.e=0) (ha:r.a<=c.ts.length) :
 OkP Tryz.prog 87 [rp j,x] H (PdV c H j (λ_:Unit=>.tup []) ((),QcC c l r)):=by
 have hj:=Qj ho;have hxo:=hx (pdO c r);refine Qa8 hm Tryz.func87 c87 (by have:=hxo.und; simp at this; simp[rp]) λhcl => ?_;simp[i87,r87,hxo.vd,hxo.ug,hxo.sl,hxo.len];refine LI.cong (H':=H.set j (pdO c r)) (QcI ho) ?_;refine Quz hn hj hx hl hct hw (res:=QcC c l r) (λhe env => ?_) (λhe env r' => ?_) l.length 0 r _ (by omega) rfl he ha (by simp) (by simp) (by simp) (by simp)
 . simp;exact⟨_,_,by unfold PdV; rw[Zn he]; exact⟨rfl,rfl⟩,Qi⟩
 . exact⟨_,_,by unfold PdV; rw[Zm he]; exact⟨rfl,Qt.set (by simp) _⟩,Qi⟩
end
section
variable {H:ZG} {c:Cx} {r:Rd} {j:Nat}
set_option maxRecDepth 10000 in
theorem Qo9 (s:ZE):Ok Tryz.prog 146 [st (B s)] H (.ret (bl (decide (s∈QaU)))) H:=by
 refine Qz hm Tryz.func146 c146 (by simp) λhcl => ?_;by_cases h:s∈QaU
 . have h':=h;simp only[QaU,Ve,VC,Zu]at h';rcases h' with rfl | rfl | rfl | rfl | rfl | rfl | rfl | rfl | rfl | rfl | rfl | rfl | rfl | rfl | rfl | rfl | rfl | rfl | rfl | rfl | rfl | rfl <;>
    (simp -implicitDefEqProofs[QmC,QlW,h]; exact Qi)
 . have h':=h;simp only[QaU,Ve,VC,Zu,not_or]at h';simp -implicitDefEqProofs[QmC,QlW,h,h'];exact Qi
theorem Qgp (ho:H[j]? = some (pdO c r)) (he:r.e=0):Ok Tryz.prog 92 [rp j] H (.ret (bl (QP c r))) H:=by
 have hj:=Qj ho;have h139:=Qes ho;rw[QnU he];generalize tkR c r=t at h139 ⊢;refine Qz hm Tryz.func92 c92 (by simp[rp]) λhcl => ?_;simp -implicitDefEqProofs[i92,r92];refine Qc h139 ?_;simp -implicitDefEqProofs[Tok.v,Tok.c];by_cases hk:t.k=1
 . simp -implicitDefEqProofs[hk];refine QZ (r:=bl (decide (t.tx∈QaU))) (λ_=>Qo9 t.tx) ?_;simp -implicitDefEqProofs[hk];exact Qp 2 hcl rfl rfl
 . simp -implicitDefEqProofs[hk];refine Qcg _ _ _ _ ?_;simp -implicitDefEqProofs[hk];exact Qp 2 hcl rfl rfl
def dpR (c:Cx) (r:Rd):Rd:=if r.v=40 then Qg c 5 (upR r)else Qa (upR r)
theorem Qoe (ho:H[j]? = some (pdO c r)) (hv:0<=r.v/\r.v<=40) (ha:r.a<4611686018427387904) (he:r.e=0):OkP Tryz.prog 178 [rp j] H (PdV c H j (λ_:Unit=>.tup []) ((),dpR c r)):=by
 have hj:=Qj ho;have e1:Qn H j 0=(pdO c r).cells:=Qap (o:=pdO c r) ho rfl;have e2:∀ (f:AO->AO),Ab.setObj H j f=H.set j (f (pdO c r)):=λf=>QbX ho f;have w1:IntKind.i64.wrap (r.v+1)=r.v+1:=Qae (by omega) (by omega);have ho2:(H.set j (pdO c (upR r)))[j]? = some (pdO c (upR r)):=by simp[hj]
 have h79:=Qdg ho2 5;have h140:=QfV ho2 (by simpa[upR]using ha);have e3:=QBk hj (pdO c (upR r)).cells 127;have hu:pdO c (upR r)=⟨[Qbc c.ts,i64 r.a,i64 c.en,mpS orO,mpS QbM,mpS QaV,mpS Qbe,mpS Qa6,i64 (r.v+1)],127,0,true⟩:=by simp[pdO,pdC,upR,w1]
 simp only[hu]at h79 h140 e3;refine Qa8 hm Tryz.func178 c178 (by simp[rp]) λhcl => ?_;by_cases hv2:r.v=40
 . have hb:dpR c r=Qg c 5 (upR r):=by rw[dpR,Zn hv2]
   have hb2:(Qg c 5 (upR r)).e=5/\(Qg c 5 (upR r)).p=Qk c (upR r):=by simp[Qg,upR,he]
   have hgt:40<r.v+1:=by omega
   simp -implicitDefEqProofs[Qnc,QlU,rp,e1,e2,pdO,pdC,w1,e3,hgt];refine Qc h79 ?_;simp -implicitDefEqProofs;refine⟨_,_,?_,Qi⟩;unfold PdV;rw[hb,Zm (by rw[hb2.1]; decide),hb2.1,hb2.2];exact⟨rfl,Qt.set (by simp) _⟩
 . have hb:dpR c r=Qa (upR r):=by rw[dpR,Zm hv2]
   have hgt:¬ 40<r.v+1:=by omega
   simp -implicitDefEqProofs[Qnc,QlU,rp,e1,e2,pdO,pdC,w1,e3,hgt];refine Qc h140 ?_;simp -implicitDefEqProofs;refine⟨_,_,?_,Qi⟩;unfold PdV;rw[hb,Zn (by exact he)];exact⟨rfl,by simp⟩
def PdP (c:Cx) (G:ZG) (j:Nat) (q:Ex×Rd) (o:Out) (H':ZG):Prop:=PdV c G j (λe:Ex=>e.v) q o H'
def PdC (c:Cx) (k:ZN) (ar:ZH) (F:Rd->Ex×Rd) (d:Nat):Prop :=
 ∀ {G:ZG} {j:Nat} {r:Rd},G[j]? = some (pdO c r)->Gd c d r->r.e=0->OkP Tryz.prog k (rp j::ar) G (PdP c G j (F r))
def OpC (c:Cx) (j:Nat) (f:SV) (Iv:ZG->Prop) (F:Rd->Ex×Rd) (d:Nat):Prop :=
 ∀ {G:ZG} {r:Rd},Iv G->G[j]? = some (pdO c r)->Gd c d r->r.e=0->Qfj Tryz.prog f [] G (PdP c G j (F r))
def QdL (c:Cx) (op:Int) (F:Rd->Ex×Rd) (r:Rd):Ex×Rd :=
 if r.v=40 then(zE,Qg c 5 (upR r))else(.mk op 0 [] [(F (Qa (upR r))).1] (Qk c r),dnR (F (Qa (upR r))).2)
theorem Qt.of_app {H L H':ZG} {js:List Nat} (h:Qt (H++L) js H'):Qt H js H':=by
 refine⟨Vg (by simp) h.len,λi hi hj => ?_⟩;rw[h.at_ i (by simp; omega) hj,Vc hi]
theorem Qt.of_set {H L H':ZG} {o:AO} (h:Qt (H.set j o++L) [j] H'):Qt H [j] H' :=
 (Qt.set (by simp) o).trans h.of_app
theorem PdP.pan {G H':ZG} {q:Ex×Rd} (he:q.2.e≠0) (h:Qt G [j] H'):PdP c G j q (.pan (QV q.2.e q.2.p)) H':=by
 unfold PdP PdV; rw[Zm he]; exact⟨rfl,h⟩
theorem PdP.ret {G H':ZG} {q:Ex×Rd} (he:q.2.e=0) (h:H'=G.set j (pdO c q.2)):PdP c G j q (.ret q.1.v) H':=by
 unfold PdP PdV; rw[Zn he]; exact⟨rfl,h⟩
theorem QqX (hct:c.ts.length<4611686018427387904) {Iv:ZG->Prop} (hI:∀ G o L,Iv G->j<G.length->Iv (G.set j o++L)) {d:Nat} (hd:d<=40) {F:Rd->Ex×Rd} {f:SV} (hvd:f.vd=true) (hug:f.ug=f) (hfu:f.under H.length=true)
 (hF:∀ d',d=d'+1->OpC c j f Iv F d') (hi:Iv H) (ho:H[j]? = some (pdO c r)) (hg:Gd c d r) (he:r.e=0) (hlt:r.a<c.ts.length) (op:Int):OkP Tryz.prog 137 [rp j,i64 op,f] H (PdP c H j (QdL c op F r)):=by
 have hj:=Qj ho;have hv:r.v+d=40:=hg.v.resolve_left (by simp[he]);have e1:Qn H j 0=(pdO c r).cells:=Qap (o:=pdO c r) ho rfl;have hoL:∀ L,(H++L)[j]? = some (pdO c r):=λL=>by rw[Vc hj]; exact ho
 have h91:=λL=>QfX (hoL L);have h178:=λL=>Qoe (hoL L) (by omega) (by omega) he;refine Qa8 hm Tryz.func137 c137 (by simp[rp]) λhcl => ?_;simp -implicitDefEqProofs[i137,r137,rp];refine Qc (by simpa[rp]using h91 _) ?_;simp -implicitDefEqProofs;refine Q4 (by simpa[rp]using h178 _) ?_;intro o H' hp;unfold PdV at hp;by_cases hv2:r.v=40
 . have hb:dpR c r=Qg c 5 (upR r):=by rw[dpR,Zn hv2]
   have hb2:(Qg c 5 (upR r)).e≠0:=by simp[Qg,upR,he]
   have hpf:QdL c op F r=(zE,Qg c 5 (upR r)):=by rw[QdL,Zn hv2]
   rw[hb,Zm hb2]at hp;obtain⟨rfl,hk⟩:=hp;simp -implicitDefEqProofs;refine⟨_,_,?_,Qi⟩;rw[hpf];exact PdP.pan hb2 hk.of_app
 . obtain⟨d',rfl⟩:∃ d',d=d'+1:=⟨d-1,by omega⟩;have hb:dpR c r=Qa (upR r):=by rw[dpR,Zm hv2]
   have w1:IntKind.i64.wrap (r.v+1)=r.v+1:=Qae (by omega) (by omega);have hg2:Gd c d' (Qa (upR r)):=⟨hlt,.inr (by simp[Qa,upR,w1]; omega)⟩;rw[hb,Zn (by exact he)]at hp;obtain⟨rfl,rfl⟩:=hp;rw[Vl _ _ hj];have hc:=λL=>hF d' rfl (G:=H.set j (pdO c (Qa (upR r)))++L) (r:=Qa (upR r)) (hI _ _ _ hi hj) (by rw[Vc (by simpa using hj)]; simp[hj]) hg2 he;simp -implicitDefEqProofs;refine Qpp (hc _) ?_;intro o H' hp;unfold PdP PdV at hp;have hpf:QdL c op F r=(.mk op 0 [] [(F (Qa (upR r))).1] (Qk c r),dnR (F (Qa (upR r))).2):=by rw[QdL,Zm hv2]
   rw[hpf];generalize F (Qa (upR r))=q at hp ⊢;obtain⟨x,r2⟩:=q;simp only at hp ⊢;by_cases he2:r2.e=0
   . rw[Zn he2]at hp;obtain⟨rfl,rfl⟩:=hp;rw[Vl _ _ (by simpa using hj),VA];have e3:=λcs L=>ocL (H:=H) hj cs 127 L;have e4:=λcs L g=>soL (H:=H) hj ⟨cs,127,0,true⟩ L g;simp -implicitDefEqProofs[Ex.v,e3,e4,pdC,pdO];refine⟨_,_,PdP.ret (q:=(.mk op 0 [] [x] (Qk c r),dnR r2)) he2 rfl,?_⟩;refine Qp 3 (QbN (c:=c) (a:=r2.a) (v:=IntKind.i64.wrap (r2.v-1)) hcl) (by simp) ?_;simp[Ex.v,Ex.c,Ex.cL]
   . rw[Zm he2]at hp;obtain⟨rfl,hk⟩:=hp;simp -implicitDefEqProofs;refine⟨_,_,?_,Qi⟩;exact PdP.pan (q:=(.mk op 0 [] [x] (Qk c r),dnR r2)) he2 hk.of_set
end
theorem QnG {c:Cx} {s:ZE} {r:Rd} (h:r.e≠0):(Qh c s r).2=r:=by
 have hp:Qd c s r=false:=by simp[Qd,Qal,h]
 simp[Qh,hp,Qg,h]
theorem Qol {c:Cx} {orP:Rd->Ex×Rd} {m:Nat} {l:List Ex} {r:Rd} (h:r.e≠0):(QU c orP m l r).2=r:=by
 cases m with
 |zero=>rfl
 |succ m=>rw[QU,QnG h,Zn h]
def Qd6 (c:Cx):Option (List Ex)×Rd->List Ex×Rd
 | (none,r3)=>([],r3)
 | (some l,r3)=>(l,dnR (Qh c [41] r3).2)
def Qco (c:Cx) (orP:Rd->Ex×Rd) (m:Nat) (r:Rd):List Ex×Rd :=
 if Qd c [40] r=true then
  if r.v=40 then([],Qg c 5 (upR r))else
  Qd6 c (QU c orP m [(orP (Qa (upR r))).1] (orP (Qa (upR r))).2)
 else([],Qg c 11 r)
theorem Qr1 {c:Cx} {q:Option (List Ex)×Rd} (h:q.2.e≠0):(Qd6 c q).2.e=q.2.e/\(Qd6 c q).2.p=q.2.p:=by
 obtain⟨o,r3⟩:=q
 cases o with
 |none=>exact⟨rfl,rfl⟩
 |some l =>
  simp only[Qd6];rw[QnG h];exact⟨rfl,rfl⟩
section
variable {H:ZG} {c:Cx} {r:Rd} {j:Nat}
theorem Qop (l:List Ex) (x:Ex):Ex.cL (l++[x])=Ex.cL l++x.c:=by
 induction l with
 |nil=>simp[Ex.cL]
 |cons y l ih=>simp[Ex.cL,ih]
theorem Qia (l:List Ex):(Ex.cL l).length=l.length*5:=by
 induction l with
 |nil=>rfl
 |cons y l ih=>simp[Ex.cL,ih]; omega
theorem Quh (hn:QY c) (hct:c.ts.length<4611686018427387904) (hj:j<H.length) {d:Nat} {F:Rd->Ex×Rd} (hF:PdC c 32 [] F d) (hk:Kp c d F) {n:Nat} (hn3:n<=3) {o0:AO} {N:Nat} {K:ZF} {res:Option (List Ex)×Rd}
 (hexit:∀ l,res.2.e=0->res.1=some l->∀ env M,l.length=n->Gd c d res.2->env.get 0=rp j->env.get 5=.own (H.length+1) 0 l.length 5 (l.length-1)->K (.exit 0) env (H.set j (pdO c res.2)++o0::⟨Ex.cL l,25,l.length-1,true⟩::M))
 (hpan:res.2.e≠0->∀ env H',Qt H [j] H'->K (.panic (QV res.2.e res.2.p)) env H') :
 ∀ (m k:Nat) (l:List Ex) (r:Rd) (M:ZG) (env:Env),l.length=k+1->k+1+m=n->QU c F m l r=res->Gd c d r->r.e=0->env.get 0=rp j->env.get 1=i64 n->env.get 5=.own (H.length+1) 0 (k+1) 5 k ->
  LI Tryz.prog N Qf Qkb env (H.set j (pdO c r)++o0::⟨Ex.cL l,25,k,true⟩::M) K:=by
 intro m
 induction m with
 |zero =>
  intro k l r M env hl hm hr hg he h0 h1 h5;refine Qu Go.Proofs.YtmkdpmfhlfhjkaaGreatDoor.hm Qkb.eq_1 ?_;subst hr;have hkn:((k:Int)+1)=n:=by omega
  simp[h0,h1,h5,hkn];have hx2:=λenv=>hexit l he rfl env M (by omega) hg;rw[hl]at hx2;exact hx2 _ (by simp) (by simp)
 |succ m ih =>
  intro k l r M env hl hm hr hg he h0 h1 h5;refine Qu Go.Proofs.YtmkdpmfhlfhjkaaGreatDoor.hm Qkb.eq_1 ?_;have hkn:((k:Int)+1)<n:=by omega
  rw[QU]at hr;simp[h0,h1,h5,hkn,rp];have hG:∀ L,(H.set j (pdO c r)++L)[j]? = some (pdO c r):=λL=>by rw[Vc (by simpa using hj)]; simp[hj]
  have hx:∀ o,IsS ((H.set j (pdO c r)++(o0::⟨Ex.cL l,25,k,true⟩::(M++[⟨[st (B [44])],9,0,true⟩]))).set j o) (.own (H.length+(M.length+2)) 0 1 1 0) [[44]]:=by
   intro o;have:=QjG (G:=H.set j (pdO c r)) (L:=o0::⟨Ex.cL l,25,k,true⟩::(M++[⟨[st (B [44])],9,0,true⟩])) (j:=j) (k:=M.length+2) (ver:=0) (T:=9) (l:=[[44]]) (by simpa using hj) (by simp[wds]) rfl o;simpa using this
  have h87:=Qkd hn (hG _) hx (by decide) hct (by intro s hs; simp at hs; subst hs; rfl) he hg.a;have hwr:QcC c [[44]] r=(Qh c [44] r).2:=rfl;rw[hwr]at h87;refine Q4 (by simpa[rp]using h87) ?_;intro o H' hp;unfold PdV at hp;by_cases hb:(Qh c [44] r).2.e=0
  . rw[Zm (by simp[hb])]at hr;have hpk:Qd c [44] r=true:=by
     rw[<-Bool.not_eq_false];intro hpk;simp[Qh,hpk,Qg,he]at hb
    have ht:(Qh c [44] r).2=Qa r:=by simp[Qh,hpk]
    rw[ht]at hr hp;rw[Zn (by exact he)]at hp;obtain⟨rfl,rfl⟩:=hp;rw[Vl _ _ (by simpa using hj),VA];have hg2:=hg.next (Qaj hpk)
    have hG2:∀ L,(H.set j (pdO c (Qa r))++L)[j]? = some (pdO c (Qa r)):=λL=>by rw[Vc (by simpa using hj)]; simp[hj]
    have hc:=λL=>hF (hG2 L) hg2 he;obtain⟨k1,k2⟩:=hk _ hg2;simp[h0,h1,h5];refine Q4 (hc _) ?_;intro o H' hp;unfold PdP PdV at hp;generalize F (Qa r)=q at hr hp k1;obtain⟨x,r2⟩:=q;simp only at hr hp k1;by_cases he2:r2.e=0
    . rw[Zn he2]at hp;obtain⟨rfl,rfl⟩:=hp;rw[Vl _ _ (by simpa using hj),VA];simp[h0,h1,h5,Ex.v,rp];refine⟨by omega,by omega,by rw[Qia,hl],?_⟩;refine LI.cong (H':=H.set j (pdO c r2)++o0::⟨Ex.cL (l++[x]),25,k+1,true⟩::(M++[⟨[st (B [44])],9,0,true⟩,⟨x.c,25,0,true⟩])) (by rw[Qop]) ?_;exact ih (k+1) (l++[x]) r2 _ _ (by simp[hl]) (by omega) hr k1 he2 (by simp[rp]) (by simp) (by simp)
    . rw[Zm he2]at hp;obtain⟨rfl,hk⟩:=hp;simp;have hb2:=Qol (c:=c) (orP:=F) (m:=m) (l:=l++[x]) he2;rw[hr]at hb2;rw[hb2]at hpan;exact hpan he2 _ _ hk.of_set
  . rw[Zn hb]at hr;subst hr;rw[Zm hb]at hp;obtain⟨rfl,hk⟩:=hp;simp;exact hpan hb _ _ hk.of_set
theorem Qi0 (hn:QY c) (hct:c.ts.length<4611686018427387904) {d:Nat} (hd:d<=40) {F:Rd->Ex×Rd} (hF:∀ d',d=d'+1->PdC c 32 [] F d') (hk:∀ d',d=d'+1->Kp c d' F) {m:Nat} (hm3:m<=2)
 (ho:H[j]? = some (pdO c r)) (hg:Gd c d r) (he:r.e=0):OkP Tryz.prog 177 [rp j,i64 ((m:Int)+1)] H (PdV c H j (λl:List Ex=>.slc (Ex.cL l) l.length) (Qco c F m r)):=by
 have hj:=Qj ho;have hv:r.v+d=40:=hg.v.resolve_left (by simp[he]);have hoL:∀ L,(H++L)[j]? = some (pdO c r):=λL=>by rw[Vc hj]; exact ho
 have h93:=Qfs (H:=H++[⟨[st (B [40])],9,0,true⟩]) (c:=c) (r:=r) (j:=j) (hoL _) (x:=.own H.length 0 1 1 0) (l:=[[40]]) (IsS.own1 (k:=0) rfl rfl) (by simp);rw[Qhh hn rfl he]at h93;have h79:=Qdg (hoL [⟨[st (B [40])],9,0,true⟩]) 11;have h178:=λL=>Qoe (hoL L) (by omega) (by have:=hg.a; omega) he;refine Qa8 Go.Proofs.YtmkdpmfhlfhjkaaGreatDoor.hm Tryz.func177 c177 (by simp[rp]) λhcl => ?_;simp[i177,r177,rp];refine Qc (by simpa[rp]using h93) ?_;unfold Qco;by_cases hp:Qd c [40] r=true
 . rw[Zn hp];simp[hp];refine Q4 (by simpa[rp]using h178 _) ?_;intro o H' hp2;unfold PdV at hp2;by_cases hv2:r.v=40
   . have hb:dpR c r=Qg c 5 (upR r):=by rw[dpR,Zn hv2]
     have hb2:(Qg c 5 (upR r)).e≠0:=by simp[Qg,upR,he]
     rw[hb,Zm hb2]at hp2;obtain⟨rfl,hk⟩:=hp2;rw[Zn hv2];simp;refine⟨_,_,?_,Qi⟩;unfold PdV;rw[Zm hb2];exact⟨rfl,hk.of_app⟩
   . obtain⟨d',rfl⟩:∃ d',d=d'+1:=⟨d-1,by omega⟩;have hlt:=Qaj hp;have hb:dpR c r=Qa (upR r):=by rw[dpR,Zm hv2]
     have w1:IntKind.i64.wrap (r.v+1)=r.v+1:=Qae (by omega) (by omega);have hg2:Gd c d' (Qa (upR r)):=⟨hlt,.inr (by simp[Qa,upR,w1]; omega)⟩;rw[hb,Zn (by exact he)]at hp2;obtain⟨rfl,rfl⟩:=hp2;rw[Vl _ _ hj,Zm hv2];have hG2:∀ L,(H.set j (pdO c (Qa (upR r)))++L)[j]? = some (pdO c (Qa (upR r))):=λL=>by rw[Vc (by simpa using hj)]; simp[hj]
     have hc:=λL=>hF d' rfl (hG2 L) hg2 he;obtain⟨k1,k2⟩:=hk d' rfl _ hg2;simp;refine Q4 (by simpa[rp]using hc _) ?_;intro o H' hp2;unfold PdP PdV at hp2;generalize F (Qa (upR r))=q at hp2 k1 ⊢;obtain⟨x,r2⟩:=q;simp only at hp2 k1 ⊢;by_cases he2:r2.e=0
     . rw[Zn he2]at hp2;obtain⟨rfl,rfl⟩:=hp2;rw[Vl _ _ (by simpa using hj),VA];simp[Ex.v];refine LI.cong (H':=H.set j (pdO c r2)++⟨[st (B [40])],9,0,true⟩::⟨Ex.cL [x],25,0,true⟩::[]) (by simp[Ex.cL]) ?_;have hen:∀ q:Option (List Ex)×Rd,q.2.e≠0->∀ H',Qt H [j] H'->PdV c H j (λl:List Ex=>.slc (Ex.cL l) l.length) (Qd6 c q) (.pan (QV q.2.e q.2.p)) H':=λq hq H' hk=>by
        obtain⟨h1,h2⟩:=Qr1 (c:=c) hq;unfold PdV;rw[Zm (by rw[h1]; exact hq),h1,h2];exact⟨rfl,hk⟩
       generalize hres:QU c F m [x] r2=res;refine Quh hn hct hj (hF d' rfl) (hk d' rfl) (n:=m+1) (by omega) (res:=res) (λl he3 hl env M hln hg3 h0 h5 => ?_) (λhe3 env H' hk => ?_) m 0 [x] r2 [] _ rfl (by omega) hres k1 he2 ?_ ?_ ?_
       . obtain⟨o,r3⟩:=res;subst hl;simp only at he3 hg3 hen ⊢;have hG:∀ L,(H.set j (pdO c r3)++L)[j]? = some (pdO c r3):=λL=>by rw[Vc (by simpa using hj)]; simp[hj]
         have hx:∀ o,IsS ((H.set j (pdO c r3)++((⟨[st (B [40])],9,0,true⟩:AO)::⟨Ex.cL l,25,l.length-1,true⟩::(M++[⟨[st (B [41])],9,0,true⟩]))).set j o) (.own (H.length+(M.length+2)) 0 1 1 0) [[41]]:=by
          intro o;have:=QjG (G:=H.set j (pdO c r3)) (L:=(⟨[st (B [40])],9,0,true⟩:AO)::⟨Ex.cL l,25,l.length-1,true⟩::(M++[⟨[st (B [41])],9,0,true⟩])) (j:=j) (k:=M.length+2) (ver:=0) (T:=9) (l:=[[41]]) (by simpa using hj) (by simp[wds]) rfl o;simpa using this
         have h87:=Qkd hn (hG _) hx (by decide) hct (by intro s hs; simp at hs; subst hs; rfl) he3 hg3.a;have hwr:QcC c [[41]] r3=(Qh c [41] r3).2:=rfl;rw[hwr]at h87;simp[h0,rp];refine Q4 (by simpa[rp]using h87) ?_;intro o H' hp;unfold PdV at hp;by_cases hb:(Qh c [41] r3).2.e=0
         . rw[Zn hb]at hp;obtain⟨rfl,rfl⟩:=hp;rw[Vl _ _ (by simpa using hj),VA];have e3:=λcs L=>ocL (H:=H) hj cs 127 L;have e4:=λcs L g=>soL (H:=H) hj ⟨cs,127,0,true⟩ L g;generalize hr4:(Qh c [41] r3).2=r4 at hb ⊢;simp[h0,h5,rp,e3,e4,pdC,pdO];have hen2:Qd6 c (some l,r3)=(l,dnR r4):=by rw[Qd6,hr4]
           refine⟨_,_,by unfold PdV; rw[hen2,Zn (show(dnR r4).e=0 from hb)]; exact⟨rfl,rfl⟩,?_⟩;refine Qp 3 (QbN (c:=c) (a:=r4.a) (v:=IntKind.i64.wrap (r4.v-1)) hcl) (by simp) ?_;have ht:List.take (l.length*5) (Ex.cL l)=Ex.cL l:=VD (by rw[Qia]; omega);simp[Qia,ht,QcM _ _ _ _ (Ex.undL _ l)]
         . rw[Zm hb]at hp;obtain⟨rfl,hk⟩:=hp;simp;refine⟨_,_,?_,Qi⟩;unfold PdV;rw[Zm (by exact hb)];exact⟨rfl,hk.of_set⟩
       . simp;exact⟨_,_,hen res he3 _ hk,Qi⟩
       all_goals simp[rp]
     . rw[Zm he2]at hp2;obtain⟨rfl,hk⟩:=hp2;simp;refine⟨_,_,?_,Qi⟩;have hb2:=Qol (c:=c) (orP:=F) (m:=m) (l:=[x]) he2;obtain⟨h1,h2⟩:=Qr1 (c:=c) (q:=QU c F m [x] r2) (by rw[hb2]; exact he2);unfold PdV;rw[Zm (by rw[h1,hb2]; exact he2),h1,h2,hb2];exact⟨rfl,hk.of_set⟩
 . rw[Zm hp];rw[Vi]at hp;simp[hp];refine Qc (by simpa[rp]using h79) ?_;simp;refine⟨_,_,?_,Qi⟩;have hfe:(Qg c 11 r).e=11/\(Qg c 11 r).p=Qk c r:=by simp[Qg,he]
   unfold PdV;rw[Zm (by simp[hfe])];refine⟨by simp[hfe],?_⟩;exact Qt.of_app (Qt.refl _ _)
end
structure QeK (c:Cx):Prop where
 num:QY c
 wrd:∀ t∈c.ts,t.k=1->t.tx≠[45]/\t.tx≠[40]
def Qe {α:Type} (q q':α×Rd):Prop:=(q.2.e=0/\q'=q)\/(q.2.e≠0/\q'.2.e=q.2.e/\q'.2.p=q.2.p)
theorem PdV.eqv {α:Type} {c:Cx} {G:ZG} {j:Nat} {f:α->SV} {q q':α×Rd} {o:Out} {H':ZG} (h:Qe q q') (hp:PdV c G j f q o H'):PdV c G j f q' o H':=by
 rcases h with ⟨h1,rfl⟩|⟨h1,h2,h3⟩
 . exact hp
 . unfold PdV at hp ⊢;rw[Zm h1]at hp;rw[Zm (by rw[h2]; exact h1),h2,h3];exact hp
theorem QqF {c:Cx} {s:ZE} {r:Rd}:Qd c s (upR r)=Qd c s r:=rfl
theorem Qjm {c:Cx} {s:ZE} {r:Rd} (hp:Qd c s r=true) (hv:r.v≠40):QB c s r=(Qk c r,Qa (upR r)):=by
 unfold QB;rw[Zm (by simp[hv])];unfold Qh;rw[QqF,Zn hp];rfl
theorem QkF {c:Cx} {s:ZE} {r:Rd} (he:r.e=0) (hp:Qd c s r=true) (hv:r.v=40):(QB c s r).2.e=5/\(QB c s r).2.p=Qk c r:=by
 unfold QB;rw[Zn ⟨hp,hv⟩,QnG (by simp[upR,Qg,he])];simp[upR,Qg,he]
theorem Qty {c:Cx} {s:ZE} {r:Rd} (he:r.e=0) (hp:Qd c s r=false):(QB c s r).2.e=11/\(QB c s r).2.p=Qk c r:=by
 unfold QB;rw[Zm (by simp[hp])];unfold Qh;rw[QqF,hp];simp[Qg,upR,he,Qk]
theorem QpJ {c:Cx} {op:Int} {F:Rd->Ex×Rd} {s:ZE} {r:Rd} (he:r.e=0) (hp:Qd c s r=true) :
 Qe (QdL c op F r) (if(QB c s r).2.e≠0 then(zE,(QB c s r).2)else(.mk op 0 [] [(F (QB c s r).2).1] (QB c s r).1,dnR (F (QB c s r).2).2)):=by
 unfold QdL;by_cases hv:r.v=40
 . obtain⟨h1,h2⟩:=QkF he hp hv;rw[Zn hv,Zn (by rw[h1]; decide)];right;simp[Qg,upR,he,h1,h2,Qk]
 . rw[Zm hv,Qjm hp hv,Zm (by simp[Qa,upR,he])];by_cases h:(F (Qa (upR r))).2.e=0
   . exact .inl ⟨h,rfl⟩
   . exact .inr ⟨h,rfl,rfl⟩
theorem Qwa {c:Cx} {orP:Rd->Ex×Rd} {r:Rd} (he:r.e=0) (hp:Qd c [40] r=true) :
 Qe ((((Qco c orP 0 r).1.headD zE),(Qco c orP 0 r).2):Ex×Rd) (if(QB c [40] r).2.e≠0 then(zE,(QB c [40] r).2)else((orP (QB c [40] r).2).1,dnR (Qh c [41] (orP (QB c [40] r).2).2).2)):=by
 unfold Qco;rw[Zn hp];by_cases hv:r.v=40
 . obtain⟨h1,h2⟩:=QkF he hp hv;rw[Zn hv,Zn (by rw[h1]; decide)];right;simp[Qg,upR,he,h1,h2,Qk]
 . rw[Zm hv,Qjm hp hv,Zm (by simp[Qa,upR,he])];simp only[QU,Qd6,List.headD_cons];generalize dnR (Qh c [41] (orP (Qa (upR r))).2).2=z;by_cases h:z.e=0
   . exact .inl ⟨h,rfl⟩
   . exact .inr ⟨h,rfl,rfl⟩
theorem Qok {c:Cx} {orP:Rd->Ex×Rd}:∀ (m:Nat) (l:List Ex) (r:Rd),(QU c orP m l r).1=none->(QU c orP m l r).2.e≠0
 |0,l,r,h=>by simp[QU]at h
 |m+1,l,r,h=>by
  rw[QU]at h ⊢;by_cases hb:(Qh c [44] r).2.e≠0
  . rw[Zn hb]; exact hb
  . rw[Zm hb]at h ⊢;exact Qok m _ _ h
theorem Qmc {c:Cx} {orP:Rd->Ex×Rd} {s:ZE} {op p:Int} {m:Nat} {r:Rd} (he:(Qh c s r).2.e=0) :
 Qe ((.mk op 0 [] (Qco c orP m (Qh c s r).2).1 p,(Qco c orP m (Qh c s r).2).2):Ex×Rd) (QdC c orP s op m p r):=by
 unfold Qco QdC;generalize (Qh c s r).2=r1 at he ⊢;by_cases hp:Qd c [40] r1=true
 . rw[Zn hp];by_cases hv:r1.v=40
   . obtain⟨h1,h2⟩:=QkF he hp hv;rw[Zn hv];simp only[];rw[Zn (by rw[h1]; decide)];right;simp[Qg,upR,he,h1,h2,Qk]
   . rw[Zm hv,Qjm hp hv];simp only[];rw[Zm (by simp[Qa,upR,he])];have hno:=Qok (c:=c) (orP:=orP) m [(orP (Qa (upR r1))).1] (orP (Qa (upR r1))).2;generalize QU c orP m [(orP (Qa (upR r1))).1] (orP (Qa (upR r1))).2=q at hno ⊢;obtain⟨o,r3⟩:=q
     cases o with
     |none =>
      simp only[Qd6];by_cases h:r3.e=0
      . exact absurd h (hno rfl)
      . exact .inr ⟨h,rfl,rfl⟩
     |some l =>
      simp only[Qd6];generalize dnR (Qh c [41] r3).2=z;by_cases h:z.e=0
      . exact .inl ⟨h,rfl⟩
      . exact .inr ⟨h,rfl,rfl⟩
 . rw[Vi]at hp;obtain⟨h1,h2⟩:=Qty he hp;rw[Zm (by simp[hp])];simp only[];rw[Zn (by rw[h1]; decide)];right;simp[Qg,he,h1,h2]
section
variable {H:ZG} {c:Cx} {r:Rd} {j:Nat}
theorem Qh2 (hT:QeK c) {s:ZE} (hp:Qd c s r=true) (hs:s=[45]\/s=[40]\/s∈QaU):QP c r=false:=by
 obtain⟨he,h,h2,h3⟩:=Qf9 hp;rw[QnU he];have ht:tkR c r=c.ts[r.a]:=by simp[tkR,h]
 rw[ht,h3];rcases hs with rfl|rfl|hs
 . have:c.ts[r.a].k≠1:=λhk=>(hT.wrd _ (Vu h) hk).1 h3;simp[this]
 . have:c.ts[r.a].k≠1:=λhk=>(hT.wrd _ (Vu h) hk).2 h3;simp[this]
 . simp[hs]
theorem Qe1 {q q':Ex×Rd} (hcl:closed H) (hj:j<H.length) (he:q.2.e=0) (hq:Qe q q') (L:ZG):Qc4 H.length (PdP c H j q') (.agg q.1.c) (H.set j (pdO c q.2)++L) :=
 ⟨_,_,PdV.eqv hq (PdP.ret he rfl),Qp 3 (QbN (c:=c) (a:=q.2.a) (v:=q.2.v) hcl) (by simp) (by simp[Ex.v])⟩
theorem QcR {q q':Ex×Rd} {n0:Nat} {H':ZG} (he:q.2.e≠0) (hq:Qe q q') (hk:Qt H [j] H'):∃ y H'',PdP c H j q' (.pan y) H''/\Cv n0 (QV q.2.e q.2.p) H' y H'' :=
 ⟨_,_,PdV.eqv hq (PdP.pan he hk),Qi⟩
theorem Ql9 {s:ZE} {L:ZG} (ho:H[j]? = some (pdO c r)) (hj:j<H.length) (hp:Qd c s r=false):(H++L).set j (pdO c (Q9 c s r))=H++L:=by
 rw[Q9,Zm (by simp[hp])];exact QcI (by rw[Vc hj]; exact ho)
theorem Qvm (hT:QeK c) (hct:c.ts.length<4611686018427387904) {d:Nat} (hd:d<=40) {orP facP:Rd->Ex×Rd} (hF:∀ d',d=d'+1->PdC c 32 [] orP d') (hk:∀ d',d=d'+1->Kp c d' orP) (hP:∀ d',d=d'+1->PdC c 136 [] facP d') :
 PdC c 136 [] (QL c orP facP) d:=by
 intro H j r ho hg he;have hn:=hT.num;have hj:=Qj ho;have hoL:∀ L,(H++L)[j]? = some (pdO c r):=λL=>by rw[Vc hj]; exact ho
 have h91:=λL=>QfX (hoL L);have hlen:=hg.a;refine Qa8 Go.Proofs.YtmkdpmfhlfhjkaaGreatDoor.hm Tryz.func136 c136 (by simp[rp]) λhcl => ?_;simp -implicitDefEqProofs[i136,r136,rp];refine Qc (by simpa[rp]using h91 _) ?_;simp -implicitDefEqProofs;have h93:=Qfs (H:=H++[zO,⟨[st (B [45])],9,0,true⟩]) (c:=c) (r:=r) (j:=j) (hoL _) (x:=.own (H.length+1) 0 1 1 0) (l:=[[45]]) (IsS.own1 (k:=1) rfl rfl) (by decide);rw[Qhh hn rfl he]at h93;refine Qc (by simpa[rp,zO]using h93) ?_;by_cases hp:Qd c [45] r=true
 . have hfac:Qe (QdL c 3 facP r) (QL c orP facP r):=by
    unfold QL;rw[Zm (by simp[he]),Zm (by simp[Qh2 hT hp (.inl rfl)]),Zn hp];have:=QpJ (c:=c) (op:=3) (F:=facP) he hp;by_cases hv:r.v=40
    . have ho:=QkF he hp hv;rw[Zn (by rw[ho.1]; decide)]at this ⊢;exact this
    . rw[Qjm hp hv]at this ⊢;exact this
   have hc:=λL=>QqX (H:=H++L) hct (Iv:=λ_=>True) (λ_ _ _ _ _=>Zo) hd (F:=facP) (f:=.fn (.func 136) [rp j] []) rfl rfl (by simp[rp,SV.under,SV.underL]; omega)
    (λd' hd' G r _ hG hg he=>Qmr (a:=[rp j]) (b:=[]) (by simpa using hP d' hd' hG hg he)) Zo (hoL L) hg he (Qaj hp) 3
   generalize QdL c 3 facP r=q at hfac hc;simp -implicitDefEqProofs[hp];refine Q4 (by simpa[rp]using hc _) ?_;intro o H' hp2;unfold PdP PdV at hp2;by_cases he2:q.2.e=0
   . rw[Zn he2]at hp2;obtain⟨rfl,rfl⟩:=hp2;rw[Vl _ _ hj];simp -implicitDefEqProofs[Ex.v];exact Qe1 hcl hj he2 hfac _
   . rw[Zm he2]at hp2;obtain⟨rfl,hk⟩:=hp2;simp -implicitDefEqProofs;exact QcR he2 hfac hk.of_app
 rw[Vi]at hp;simp -implicitDefEqProofs[hp];have h93:=Qfs (H:=H++[zO,⟨[st (B [45])],9,0,true⟩,⟨[st (B [40])],9,0,true⟩]) (c:=c) (r:=r) (j:=j) (hoL _) (x:=.own (H.length+2) 0 1 1 0) (l:=[[40]]) (IsS.own1 (k:=2) rfl rfl) (by decide);rw[Qhh hn rfl he]at h93;refine Qc (by simpa[rp,zO]using h93) ?_;by_cases hp2:Qd c [40] r=true
 . have hfac:=Qwa (c:=c) (orP:=orP) he hp2;have hfe:QL c orP facP r=(if(QB c [40] r).2.e≠0 then(zE,(QB c [40] r).2)else((orP (QB c [40] r).2).1,dnR (Qh c [41] (orP (QB c [40] r).2).2).2)):=by
    unfold QL;rw[Zm (by simp[he]),Zm (by simp[Qh2 hT hp2 (.inr (.inl rfl))]),Zm (by simp[hp]),Zn hp2]
   rw[<-hfe]at hfac;have hc:=λL=>Qi0 hn hct hd (m:=0) hF hk (by decide) (hoL L) hg he;have h1x:(Qco c orP 0 r).2.e=0->∃ x,(Qco c orP 0 r).1=[x]:=by
    unfold Qco;rw[Zn hp2];by_cases hv:r.v=40
    . rw[Zn hv]; intro h; simp[Qg,upR,he]at h
    . rw[Zm hv]; intro _; exact⟨_,rfl⟩
   simp -implicitDefEqProofs[hp2];generalize Qco c orP 0 r=q at hfac hc h1x;refine Q4 (by simpa[rp,zO]using hc _) ?_;intro o H' hq;unfold PdV at hq;obtain⟨l,r2⟩:=q;simp only at hq hfac;by_cases he2:r2.e=0
   . rw[Zn he2]at hq;obtain⟨rfl,rfl⟩:=hq;rw[Vl _ _ hj];obtain⟨x,hx⟩:=h1x he2;simp only at hx;subst hx;simp -implicitDefEqProofs[Ex.cL];exact Qe1 (q:=(x,r2)) hcl hj he2 hfac _
   . rw[Zm he2]at hq;obtain⟨rfl,hk⟩:=hq;simp -implicitDefEqProofs;exact QcR (q:=(l.headD zE,r2)) he2 hfac hk.of_app
 rw[Vi]at hp2;simp -implicitDefEqProofs[hp2];have h90:=QcW hn (hoL [zO,⟨[st (B [45])],9,0,true⟩,⟨[st (B [40])],9,0,true⟩]) (by omega) he (s:=[109,105,110]) rfl;refine Qc (by simpa[rp,zO]using h90) ?_;by_cases hp3:Qd c [109,105,110] r=true
 . have ha:Q9 c [109,105,110] r=Qa r:=by rw[Q9,Zn hp3]
   have ht:(Qh c [109,105,110] r).2=Qa r:=by simp[Qh,hp3]
   have hfac:=Qmc (c:=c) (orP:=orP) (s:=[109,105,110]) (op:=18) (p:=Qk c r) (m:=1) (r:=r) (by rw[ht]; exact he);have hfe:QL c orP facP r=QdC c orP [109,105,110] 18 1 (Qk c r) r:=by
    unfold QL;rw[Zm (by simp[he]),Zm (by simp[Qh2 hT hp3 (.inr (.inr (by decide)))]),Zm (by simp[hp]),Zm (by simp[hp2])];simp[QaT,hp3]
   rw[ht,<- hfe]at hfac;rw[ha,Vl _ _ hj];have hG2:∀ L,(H.set j (pdO c (Qa r))++L)[j]? = some (pdO c (Qa r)):=λL=>by rw[Vc (by simpa using hj)]; simp[hj]
   have hc:=λL=>Qi0 hn hct hd (m:=1) hF hk (by decide) (hG2 L) (hg.next (Qaj hp3)) he
   simp -implicitDefEqProofs[hp3];generalize Qco c orP 1 (Qa r)=q at hfac hc;refine Q4 (by simpa[rp,zO]using hc _) ?_;intro o H' hq;unfold PdV at hq;obtain⟨l,r2⟩:=q;simp only at hq hfac;by_cases he2:r2.e=0
   . rw[Zn he2]at hq;obtain⟨rfl,rfl⟩:=hq;rw[Vl _ _ (by simpa using hj),VA];simp -implicitDefEqProofs;refine⟨_,_,PdV.eqv hfac (PdP.ret (q:=(.mk 18 0 [] l (Qk c r),r2)) he2 rfl),Qp 3 (QbN (c:=c) (a:=r2.a) (v:=r2.v) hcl) (by simp) (by simp[Ex.v,Ex.c])⟩
   . rw[Zm he2]at hq;obtain⟨rfl,hk⟩:=hq;simp -implicitDefEqProofs;exact QcR (q:=(.mk 18 0 [] l (Qk c r),r2)) he2 hfac hk.of_set
 rw[Vi]at hp3;rw[Ql9 ho hj hp3];simp -implicitDefEqProofs[hp3];have h90:=QcW hn (hoL [zO,⟨[st (B [45])],9,0,true⟩,⟨[st (B [40])],9,0,true⟩]) (by omega) he (s:=[109,97,120]) rfl;refine Qc (by simpa[rp,zO]using h90) ?_;by_cases hp4:Qd c [109,97,120] r=true
 . have ha:Q9 c [109,97,120] r=Qa r:=by rw[Q9,Zn hp4]
   have ht:(Qh c [109,97,120] r).2=Qa r:=by simp[Qh,hp4]
   have hfac:=Qmc (c:=c) (orP:=orP) (s:=[109,97,120]) (op:=19) (p:=Qk c r) (m:=1) (r:=r) (by rw[ht]; exact he);have hfe:QL c orP facP r=QdC c orP [109,97,120] 19 1 (Qk c r) r:=by
    unfold QL;rw[Zm (by simp[he]),Zm (by simp[Qh2 hT hp4 (.inr (.inr (by decide)))]),Zm (by simp[hp]),Zm (by simp[hp2])];simp[QaT,hp4,hp3]
   rw[ht,<- hfe]at hfac;rw[ha,Vl _ _ hj];have hG2:∀ L,(H.set j (pdO c (Qa r))++L)[j]? = some (pdO c (Qa r)):=λL=>by rw[Vc (by simpa using hj)]; simp[hj]
   have hc:=λL=>Qi0 hn hct hd (m:=1) hF hk (by decide) (hG2 L) (hg.next (Qaj hp4)) he
   simp -implicitDefEqProofs[hp4];generalize Qco c orP 1 (Qa r)=q at hfac hc;refine Q4 (by simpa[rp,zO]using hc _) ?_;intro o H' hq;unfold PdV at hq;obtain⟨l,r2⟩:=q;simp only at hq hfac;by_cases he2:r2.e=0
   . rw[Zn he2]at hq;obtain⟨rfl,rfl⟩:=hq;rw[Vl _ _ (by simpa using hj),VA];simp -implicitDefEqProofs;refine⟨_,_,PdV.eqv hfac (PdP.ret (q:=(.mk 19 0 [] l (Qk c r),r2)) he2 rfl),Qp 3 (QbN (c:=c) (a:=r2.a) (v:=r2.v) hcl) (by simp) (by simp[Ex.v,Ex.c])⟩
   . rw[Zm he2]at hq;obtain⟨rfl,hk⟩:=hq;simp -implicitDefEqProofs;exact QcR (q:=(.mk 19 0 [] l (Qk c r),r2)) he2 hfac hk.of_set
 rw[Vi]at hp4;rw[Ql9 ho hj hp4];simp -implicitDefEqProofs[hp4];have h90:=QcW hn (hoL [zO,⟨[st (B [45])],9,0,true⟩,⟨[st (B [40])],9,0,true⟩]) (by omega) he (s:=[105,102]) rfl;refine Qc (by simpa[rp,zO]using h90) ?_;by_cases hp5:Qd c [105,102] r=true
 . have ha:Q9 c [105,102] r=Qa r:=by rw[Q9,Zn hp5]
   have ht:(Qh c [105,102] r).2=Qa r:=by simp[Qh,hp5]
   have hfac:=Qmc (c:=c) (orP:=orP) (s:=[105,102]) (op:=20) (p:=Qk c r) (m:=2) (r:=r) (by rw[ht]; exact he);have hfe:QL c orP facP r=QdC c orP [105,102] 20 2 (Qk c r) r:=by
    unfold QL;rw[Zm (by simp[he]),Zm (by simp[Qh2 hT hp5 (.inr (.inr (by decide)))]),Zm (by simp[hp]),Zm (by simp[hp2])];simp[QaT,hp5,hp3,hp4]
   rw[ht,<- hfe]at hfac;rw[ha,Vl _ _ hj];have hG2:∀ L,(H.set j (pdO c (Qa r))++L)[j]? = some (pdO c (Qa r)):=λL=>by rw[Vc (by simpa using hj)]; simp[hj]
   have hc:=λL=>Qi0 hn hct hd (m:=2) hF hk (by decide) (hG2 L) (hg.next (Qaj hp5)) he
   simp -implicitDefEqProofs[hp5];generalize Qco c orP 2 (Qa r)=q at hfac hc;refine Q4 (by simpa[rp,zO]using hc _) ?_;intro o H' hq;unfold PdV at hq;obtain⟨l,r2⟩:=q;simp only at hq hfac;by_cases he2:r2.e=0
   . rw[Zn he2]at hq;obtain⟨rfl,rfl⟩:=hq;rw[Vl _ _ (by simpa using hj),VA];simp -implicitDefEqProofs;refine⟨_,_,PdV.eqv hfac (PdP.ret (q:=(.mk 20 0 [] l (Qk c r),r2)) he2 rfl),Qp 3 (QbN (c:=c) (a:=r2.a) (v:=r2.v) hcl) (by simp) (by simp[Ex.v,Ex.c])⟩
   . rw[Zm he2]at hq;obtain⟨rfl,hk⟩:=hq;simp -implicitDefEqProofs;exact QcR (q:=(.mk 20 0 [] l (Qk c r),r2)) he2 hfac hk.of_set
 rw[Vi]at hp5;rw[Ql9 ho hj hp5];simp -implicitDefEqProofs[hp5];have h139:=λL=>Qes (hoL L);have h140:=λL=>QfV (hoL L) (by omega);have h92:=λL=>Qgp (hoL L) he;have h79:=λL=>Qdg (hoL L) 11;have hfw:QaT.find? (λw=>Qd c w.1 r)=none:=by simp[QaT,hp3,hp4,hp5]
 refine Qc (by simpa[rp,zO]using h139 _) ?_;by_cases hk2:(tkR c r).k=2
 . have hfr:QP c r=false:=by rw[QnU he,hk2]; rfl
   have hnm:QaW c r=true:=by rw[QkL he,hk2]; rfl
   obtain⟨_,hlt,_⟩:=Qb4 hnm;have hfe:QL c orP facP r=(.mk 1 (tkR c r).n [] [] (Qk c r),Qa r):=by
    unfold QL;rw[Zm (by simp[he]),Zm (by simp[hfr]),Zm (by simp[hp]),Zm (by simp[hp2]),hfw];simp only[nmR,hnm,Zs];simp[tkR,hlt]
   simp -implicitDefEqProofs[Tok.v,Tok.c,hk2];refine Qc (by simpa[rp,zO]using h140 _) ?_;rw[Vl _ _ hj];simp -implicitDefEqProofs[Tok.v,Tok.c];rw[hfe];exact⟨rfl,_,_,PdP.ret (q:=(.mk 1 (tkR c r).n [] [] (Qk c r),Qa r)) he rfl,QoB (QbN (c:=c) (a:=r.a+1) (v:=r.v) hcl) _ _ _ _ _⟩
 . have hnm:QaW c r=false:=by rw[QkL he]; simp[hk2]
   simp -implicitDefEqProofs[Tok.v,Tok.c,hk2];refine Qc (by simpa[rp,zO]using h92 _) ?_;by_cases hfr:QP c r=true
   . have hlt:r.a<c.ts.length:=(Qb4 hfr).2.1;have hfe:QL c orP facP r=(.mk 2 0 (tkR c r).tx [] (Qk c r),Qa r):=by
      unfold QL;rw[Zm (by simp[he]),Zn hfr];simp only[QO,hfr,Zs];simp[tkR,hlt]
     simp -implicitDefEqProofs[hfr];refine Qc (by simpa[rp,zO]using h140 _) ?_;rw[Vl _ _ hj];simp -implicitDefEqProofs[Tok.v,Tok.c];rw[hfe];exact⟨rfl,_,_,PdP.ret (q:=(.mk 2 0 (tkR c r).tx [] (Qk c r),Qa r)) he rfl,QoB (QbN (c:=c) (a:=r.a+1) (v:=r.v) hcl) _ _ _ _ _⟩
   . rw[Vi]at hfr;have hfe:(QL c orP facP r).2=Qg c 11 r:=by
      unfold QL;rw[Zm (by simp[he]),Zm (by simp[hfr]),Zm (by simp[hp]),Zm (by simp[hp2]),hfw];simp[nmR,hnm]
     have hf2:(Qg c 11 r).e=11/\(Qg c 11 r).p=Qk c r:=by simp[Qg,he]
     simp -implicitDefEqProofs[hfr];refine Qc (by simpa[rp,zO]using h79 _) ?_;simp -implicitDefEqProofs;refine⟨_,_,?_,Qi⟩;unfold PdP PdV;rw[hfe,Zm (by rw[hf2.1]; decide),hf2.1,hf2.2];exact⟨rfl,Qt.of_app (Qt.refl _ _)⟩
end
def Qb6:Nat->List (ZE×Int)
 |0=>orO
 |1=>QbM
 |2=>QaV
 |3=>Qbe
 |_=>Qa6
def bxO (j:Nat):AO:=⟨[rp j],62,0,true⟩
theorem Qs1:∀ k,(Qb6 k).all (λo=>QcH o.1)=true
 |0=>rfl
 |1=>rfl
 |2=>rfl
 |3=>rfl
 |_+4=>rfl
theorem QqA {c:Cx} {a:Nat} {v:Int} {k:Nat} (hk:k<5):(pdC c a v)[3+k]? = some (mpS (Qb6 k)):=by
 match k,hk with
 |0,_=>rfl
 |1,_=>rfl
 |2,_=>rfl
 |3,_=>rfl
 |4,_=>rfl
theorem QgO {c:Cx} {a:Nat} {v:Int}:(pdC c a v).length=9:=rfl
theorem QjK (ops:List (ZE×Int)):(mpS ops).ug=mpS ops:=rfl
theorem Qi9 (ops:List (ZE×Int)):(mpS ops).vd=true:=rfl
theorem Qko (G:ZG) (ops:List (ZE×Int)):(mpS ops).mapOf G=some (mpK ops,mpV ops):=rfl
theorem Qk7 (ops:List (ZE×Int)):(mpK ops).all KK.s.is=true:=by
 rw[Vm];intro v hv;simp only[mpK,Vy]at hv;obtain⟨o,_,rfl⟩:=hv;rfl
theorem QfK (b:ByteArray):SV.key KK.s (st b)=.string b:=rfl
theorem QhL (b:ByteArray):SV.isK KK.s (st b)=true:=rfl
theorem Qlw {c:Cx} {ops:List (ZE×Int)} {F:Rd->Ex×Rd} {n:Nat} {e:Ex} {r:Rd} (h:r.e≠0):QaX c ops F n e r=(e,r):=by
 cases n with
 |zero=>rfl
 |succ n =>
  have:Qam c ops r=none:=by
   cases ho:Qam c ops r with
   |none=>rfl
   |some op=>exact absurd (QdV ho).1 h
  rw[QaX,this]
section
variable {H:ZG} {c:Cx} {r:Rd} {j:Nat}
theorem Qt6 (hT:QeK c) (hct:c.ts.length<4611686018427387904) (hj:j<H.length) (hcl:closed H) {k:Nat} (hk5:k<5) (hk2:k≠2) {d:Nat} {F:Rd->Ex×Rd} (hF:PdC c 80 [i64 ((k:Int)+1)] F d) (hk:Kp c d F) {N:Nat} {K:ZF} {res:Ex×Rd}
 (hret:res.2.e=0->∀ env M,env.get 4=rp (H.length+1)->K .ret env (H.set j (pdO c res.2)++bxO j::eO res.1::eO res.1::M))
 (hpan:res.2.e≠0->∀ env H',Qt H [j] H'->K (.panic (QV res.2.e res.2.p)) env H') :
 ∀ (n:Nat) (e:Ex) (r:Rd) (M:ZG) (env:Env),c.ts.length<=r.a+n->QaX c (Qb6 k) F n e r=res->Gd c d r->r.e=0->env.get 1=i64 k->env.get 2=rp H.length->env.get 4=rp (H.length+1)->env.get 5=rp (H.length+2) ->
  LI Tryz.prog N Qf QgS env (H.set j (pdO c r)++bxO j::zO::eO e::M) K:=by
 have hkk:(k:Int)<5:=by omega
 have hk2':¬ (k:Int)=2:=by omega
 have wk:IntKind.i64.wrap ((k:Int)+1)=(k:Int)+1:=Qae (by omega) (by omega);have none_:∀ (e:Ex) (r:Rd) (M:ZG) (env:Env),Qam c (Qb6 k) r=none->(e,r)=res->Gd c d r->r.e=0->env.get 1=i64 k->env.get 2=rp H.length->env.get 4=rp (H.length+1)->env.get 5=rp (H.length+2) ->
  LI Tryz.prog N Qf QgS env (H.set j (pdO c r)++bxO j::zO::eO e::M) K:=by
  intro e r M env ho hr hg he h1 h2 h4 h5;refine Qu hm QgS.eq_1 ?_;have e3:∀ L,Qn (H.set j (pdO c r)++L) j 0=pdC c r.a r.v:=λL=>ocL (H:=H) hj _ 127 L;have hpa:=QqA (c:=c) (a:=r.a) (v:=r.v) hk5;have hG:∀ L,(H.set j (pdO c r)++L)[j]? = some (pdO c r):=λL=>by rw[Vc (by simpa using hj)]; simp[hj]
  have h139:=λL=>Qes (hG L);simp -implicitDefEqProofs[h1,h2,h4,h5,rp,bxO,zO,eO,e3,hpa,QgO,QjK,Qi9,Qko,Qk7];refine⟨by omega,by omega,?_⟩;refine QeW (λ_=>by simpa[rp]using h139 _) ?_;have hlk:lkm (.string (B (tkR c r).tx)) (mpK (Qb6 k)) (mpV (Qb6 k))=(Qam c (Qb6 k) r).map i64:=by
   rw[Qj1,Qjq hT.num he (Qs1 k),Y1]; rfl
  rw[ho]at hlk;subst hr;simp -implicitDefEqProofs[Tok.v,Tok.c,QfK,QhL,hlk];exact hret he _ M (by simp[rp])
 intro n
 induction n with
 |zero =>
  intro e r M env hn hr hg he h1 h2 h4 h5;have ho:Qam c (Qb6 k) r=none:=by
   cases ho:Qam c (Qb6 k) r with
   |none=>rfl
   |some op=>have:=(QdV ho).2; omega
  exact none_ e r M env ho hr hg he h1 h2 h4 h5
 |succ n ih =>
  intro e r M env hn hr hg he h1 h2 h4 h5;rw[QaX]at hr
  cases ho:Qam c (Qb6 k) r with
  |none =>
   rw[ho]at hr;exact none_ e r M env ho hr hg he h1 h2 h4 h5
  |some op =>
   refine Qu hm QgS.eq_1 ?_;have e3:∀ L,Qn (H.set j (pdO c r)++L) j 0=pdC c r.a r.v:=λL=>ocL (H:=H) hj _ 127 L;have hpa:=QqA (c:=c) (a:=r.a) (v:=r.v) hk5;have hG:∀ L,(H.set j (pdO c r)++L)[j]? = some (pdO c r):=λL=>by rw[Vc (by simpa using hj)]; simp[hj]
   have h139:=λL=>Qes (hG L);simp -implicitDefEqProofs[h1,h2,h4,h5,rp,bxO,zO,eO,e3,hpa,QgO,QjK,Qi9,Qko,Qk7];refine⟨by omega,by omega,?_⟩;refine QeW (λ_=>by simpa[rp]using h139 _) ?_;have hlk:lkm (.string (B (tkR c r).tx)) (mpK (Qb6 k)) (mpV (Qb6 k))=(Qam c (Qb6 k) r).map i64:=by
    rw[Qj1,Qjq hT.num he (Qs1 k),Y1]; rfl
   rw[ho]at hlk hr;obtain⟨_,hlt⟩:=QdV ho;have h91:=λL=>QfX (hG L);have h140:=λL=>QfV (hG L) (by omega);have hg2:=hg.next hlt
   have hG2:∀ L,(H.set j (pdO c (Qa r))++L)[j]? = some (pdO c (Qa r)):=λL=>by rw[Vc (by simpa using hj)]; simp[hj]
   have hc:=λL=>hF (hG2 L) hg2 he;obtain⟨k1,k2⟩:=hk _ hg2;simp -implicitDefEqProofs[Tok.v,Tok.c,QfK,QhL,hlk];refine Qc (by simpa[rp]using h91 _) ?_;simp -implicitDefEqProofs[Tok.v,Tok.c,QfK,hlk];refine Qc (by simpa[rp]using h140 _) ?_;rw[Vl _ _ (by simpa using hj),VA];simp -implicitDefEqProofs[wk,Tok.v,Tok.c,QfK,hlk];refine Q4 (by simpa[rp]using hc _) ?_;intro o H' hp;unfold PdP PdV at hp;generalize F (Qa r)=q at hr hp k1 k2;obtain⟨x,r2⟩:=q;simp only at hr hp k1 k2;by_cases he2:r2.e=0
   . rw[Zn he2]at hp;obtain⟨rfl,rfl⟩:=hp;rw[Vl _ _ (by simpa using hj),VA];simp -implicitDefEqProofs[Ex.v,hk2',Tok.v,Tok.c,QfK,hlk];have hcl2:closed (H.set j (pdO c r2)):=QbN (c:=c) (a:=r2.a) (v:=r2.v) hcl;have hlen:(H.set j (pdO c r2)).length=H.length:=by simp
     refine LI.tell (Qaw.give (H0:=H.set j (pdO c r2)) (L:=bxO j::zO::⟨[i64 op,i64 0,st ⟨#[]⟩,.own (H.length+(M.length+3)) 0 2 5 0,i64 (Qk c r)],25,0,true⟩::(M++[⟨e.c++x.c,25,0,true⟩])) hcl2 (M.length+3) 1 (o:=⟨e.c++x.c,25,0,true⟩) (by simp) rfl) ?_;rw[hlen];refine LI.cong (H':=H.set j (pdO c r2)++bxO j::zO::eO (.mk op 0 [] [e,x] (Qk c r))::(M++[AO.dead ⟨e.c++x.c,25,0,true⟩]).map (AO.gv (H.length+(M.length+3)) 0 (e.c++x.c) 1)) ?_ (ih _ _ _ _ (by have:(Qa r).a=r.a+1:=rfl; omega) hr k1 he2 ?_ ?_ ?_ ?_)
     . simp[bxO,zO,eO,AO.gv,rp,Ex.c,Ex.cL,AO.dead,show List.take 10 (e.c++x.c)=e.c++x.c from VD (by simp)]
     all_goals rw[Qos _ (SV.gv _ _ _ _) (Qo3 _ _ _ _)]; simp[rp]
   . rw[Zm he2]at hp;obtain⟨rfl,hk⟩:=hp;simp -implicitDefEqProofs;rw[Qlw he2]at hr;subst hr;exact hpan he2 _ _ hk.of_set
theorem QkW (hT:QeK c) (hct:c.ts.length<4611686018427387904) {k:Nat} (hk5:k<5) (hk2:k≠2) {d:Nat} {F:Rd->Ex×Rd} (hF:PdC c 80 [i64 ((k:Int)+1)] F d) (hk:Kp c d F):PdC c 80 [i64 k] (Q7 c (Qb6 k) F) d:=by
 intro H j r ho hg he;have hj:=Qj ho;have hkk:¬ (k:Int)=5:=by omega
 have hk2':¬ (k:Int)=2:=by omega
 have wk:IntKind.i64.wrap ((k:Int)+1)=(k:Int)+1:=Qae (by omega) (by omega);have hoL:∀ L,(H++L)[j]? = some (pdO c r):=λL=>by rw[Vc hj]; exact ho
 have hc:=λL=>hF (hoL L) hg he;obtain⟨k1,k2⟩:=hk _ hg;refine Qa8 hm Tryz.func80 c80 (by simp[rp]) λhcl => ?_;simp -implicitDefEqProofs[i80,r80,rp,hkk,hk2'];refine Qcg _ _ _ _ ?_;simp -implicitDefEqProofs[wk];refine Q4 (by simpa[rp]using hc _) ?_;intro o H' hp;unfold PdP PdV at hp;have hbd:Q7 c (Qb6 k) F r=QaX c (Qb6 k) F c.ts.length (F r).1 (F r).2:=rfl;rw[hbd];generalize F r=q at hp k1 k2 ⊢;obtain⟨x,r2⟩:=q;simp only at hp k1 k2 ⊢;by_cases he2:r2.e=0
 . rw[Zn he2]at hp;obtain⟨rfl,rfl⟩:=hp;rw[Vl _ _ hj];simp -implicitDefEqProofs[Ex.v];generalize hres:QaX c (Qb6 k) F c.ts.length x r2=res;refine LI.cong (H':=H.set j (pdO c r2)++bxO j::zO::eO x::[]) (by simp[bxO,zO,eO,rp]) ?_;refine Qt6 hT hct hj hcl hk5 hk2 hF hk (res:=res) (λhe3 env M h4 => ?_) (λhe3 env H' hk => ?_) c.ts.length x r2 [] _ (by omega) hres k1 he2 ?_ ?_ ?_ ?_
   . simp -implicitDefEqProofs[h4,rp,eO];exact Qe1 hcl hj he3 (.inl ⟨he3,rfl⟩) _
   . simp -implicitDefEqProofs;exact QcR he3 (.inr ⟨he3,rfl,rfl⟩) hk
   all_goals simp[rp]
 . rw[Zm he2]at hp;obtain⟨rfl,hk⟩:=hp;simp -implicitDefEqProofs;rw[Qlw he2];exact QcR (q:=(x,r2)) he2 (.inr ⟨he2,rfl,rfl⟩) hk.of_app
theorem Qw7 {d:Nat} {F:Rd->Ex×Rd} (hF:PdC c 136 [] F d):PdC c 80 [i64 5] F d:=by
 intro H j r ho hg he;have hj:=Qj ho;have hoL:∀ L,(H++L)[j]? = some (pdO c r):=λL=>by rw[Vc hj]; exact ho
 have hc:=λL=>hF (hoL L) hg he;refine Qa8 hm Tryz.func80 c80 (by simp[rp]) λhcl => ?_;simp -implicitDefEqProofs[i80,r80,rp];refine Q4 (by simpa[rp]using hc _) ?_;intro o H' hp;unfold PdP PdV at hp;generalize F r=q at hp ⊢;obtain⟨x,r2⟩:=q;simp only at hp ⊢;by_cases he2:r2.e=0
 . rw[Zn he2]at hp;obtain⟨rfl,rfl⟩:=hp;rw[Vl _ _ hj];simp -implicitDefEqProofs[Ex.v];exact Qe1 (q:=(x,r2)) hcl hj he2 (.inl ⟨he2,rfl⟩) _
 . rw[Zm he2]at hp;obtain⟨rfl,hk⟩:=hp;simp -implicitDefEqProofs;exact QcR (q:=(x,r2)) he2 (.inr ⟨he2,rfl,rfl⟩) hk.of_app
theorem ok32 {d:Nat} {F:Rd->Ex×Rd} (hF:PdC c 80 [i64 0] F d):PdC c 32 [] F d:=by
 intro H j r ho hg he;have hj:=Qj ho;have hoL:∀ L,(H++L)[j]? = some (pdO c r):=λL=>by rw[Vc hj]; exact ho
 have hc:=λL=>hF (hoL L) hg he;refine Qa8 hm Tryz.func32 c32 (by simp[rp]) λhcl => ?_;simp -implicitDefEqProofs[i32,r32,rp];refine Q4 (by simpa[rp]using hc _) ?_;intro o H' hp;unfold PdP PdV at hp;generalize F r=q at hp ⊢;obtain⟨x,r2⟩:=q;simp only at hp ⊢;by_cases he2:r2.e=0
 . rw[Zn he2]at hp;obtain⟨rfl,rfl⟩:=hp;rw[Vl _ _ hj];simp -implicitDefEqProofs[Ex.v];exact Qe1 (q:=(x,r2)) hcl hj he2 (.inl ⟨he2,rfl⟩) _
 . rw[Zm he2]at hp;obtain⟨rfl,hk⟩:=hp;simp -implicitDefEqProofs;exact QcR (q:=(x,r2)) he2 (.inr ⟨he2,rfl,rfl⟩) hk.of_app
theorem Qz4 {d:Nat} {F:Rd->Ex×Rd} (hF:PdC c 80 [i64 2] F d) {q:Nat} (hq:H[q]? = some (bxO j)) (ho:H[j]? = some (pdO c r)) (hg:Gd c d r) (he:r.e=0):OkP Tryz.prog 138 [rp q] H (PdP c H j (F r)):=by
 have hj:=Qj ho;have hqj:=Qj hq;have hoL:∀ L,(H++L)[j]? = some (pdO c r):=λL=>by rw[Vc hj]; exact ho
 have hc:=λL=>hF (hoL L) hg he;have e1:∀ L,Qn (H++L) q 0=[rp j]:=λL=>Qap (o:=bxO j) (by rw[Vc hqj]; exact hq) rfl;refine Qa8 hm Tryz.func138 c138 (by simp[rp]) λhcl => ?_;simp -implicitDefEqProofs[i138,r138,rp,e1];refine Q4 (by simpa[rp]using hc _) ?_;intro o H' hp;unfold PdP PdV at hp;generalize F r=q at hp ⊢;obtain⟨x,r2⟩:=q;simp only at hp ⊢;by_cases he2:r2.e=0
 . rw[Zn he2]at hp;obtain⟨rfl,rfl⟩:=hp;rw[Vl _ _ hj];simp -implicitDefEqProofs[Ex.v];exact Qe1 (q:=(x,r2)) hcl hj he2 (.inl ⟨he2,rfl⟩) _
 . rw[Zm he2]at hp;obtain⟨rfl,hk⟩:=hp;simp -implicitDefEqProofs;exact QcR (q:=(x,r2)) he2 (.inr ⟨he2,rfl,rfl⟩) hk.of_app
end
section
variable {H:ZG} {c:Cx} {r:Rd} {j:Nat}
theorem Qyr (hT:QeK c) (hct:c.ts.length<4611686018427387904) {d:Nat} (hd:d<=40) {G ntP:Rd->Ex×Rd} (hG:PdC c 80 [i64 3] G d) (hk:Kp c d G) (hnt:∀ d',d=d'+1->PdC c 80 [i64 2] ntP d') :
 PdC c 80 [i64 2] (QaS c (QaP c G) ntP) d:=by
 intro H j r ho hg he;have hn:=hT.num;have w3:IntKind.i64.wrap 3=3:=by decide
 have hj:=Qj ho;have hoL:∀ L,(H++L)[j]? = some (pdO c r):=λL=>by rw[Vc hj]; exact ho
 have h93:=Qfs (H:=H++[bxO j,zO,⟨[st (B [110,111,116])],9,0,true⟩]) (c:=c) (r:=r) (j:=j) (hoL _) (x:=.own (H.length+2) 0 1 1 0) (l:=[[110,111,116]]) (IsS.own1 (k:=2) rfl rfl) (by decide);rw[Qhh hn rfl he]at h93;refine Qa8 hm Tryz.func80 c80 (by simp[rp]) λhcl => ?_;simp -implicitDefEqProofs[i80,r80,rp];refine QZ (r:=bl (Qd c [110,111,116] r)) (λ_=>by simpa[rp,zO,bxO,SV.strip]using h93) ?_;by_cases hp:Qd c [110,111,116] r=true
 . have hnot:Qe (QdL c 4 ntP r) (QaS c (QaP c G) ntP r):=by
    unfold QaS;rw[Zn hp];exact QpJ he hp
   have hc:=λL=>QqX (H:=H++(bxO j::L)) hct (Iv:=λA=>A[H.length]? = some (bxO j)) (λA o L h hl=>by
    have h2:=Qj h;rw[Vc (by simpa using h2),Vf (by omega)]; exact h) hd (F:=ntP) (f:=.fn (.func 138) [] [rp H.length]) rfl rfl (by simp[rp,SV.under,SV.underL])
    (λd' hd' A r hA hG hg he=>Qmr (a:=[]) (b:=[rp H.length]) (by simpa using Qz4 (hnt d' hd') hA hG hg he)) (by simp) (hoL (bxO j::L)) hg he (Qaj hp) 4
   generalize QdL c 4 ntP r=q at hnot hc;simp -implicitDefEqProofs[hp];refine Q4 (by simpa[rp,zO,bxO]using hc _) ?_;intro o H' hp2;unfold PdP PdV at hp2;by_cases he2:q.2.e=0
   . rw[Zn he2]at hp2;obtain⟨rfl,rfl⟩:=hp2;rw[Vl _ _ hj];simp -implicitDefEqProofs[Ex.v];exact Qe1 hcl hj he2 hnot _
   . rw[Zm he2]at hp2;obtain⟨rfl,hk⟩:=hp2;simp -implicitDefEqProofs;exact QcR he2 hnot hk.of_app
 . have hnot:QaS c (QaP c G) ntP r=QaP c G r:=by unfold QaS; rw[Zm hp]
   rw[Vi]at hp;rw[hnot];have hc:=λL=>hG (hoL L) hg he;obtain⟨k1,k2⟩:=hk _ hg;simp -implicitDefEqProofs[hp,w3];refine Q4 (by simpa[rp]using hc _) ?_;intro o H' hp2;unfold PdP PdV at hp2;have hcm:QaP c G r=match Qam c QaV (G r).2 with
    |some op=>(.mk op 0 [] [(G r).1,(G (Qa (G r).2)).1] (Qk c (G r).2),(G (Qa (G r).2)).2)
    |none=>G r:=rfl
   rw[hcm];generalize G r=q at hp2 k1 k2 ⊢;obtain⟨x,r2⟩:=q;simp only at hp2 k1 k2 ⊢;by_cases he2:r2.e=0
   . rw[Zn he2]at hp2;obtain⟨rfl,rfl⟩:=hp2;rw[Vl _ _ hj];simp -implicitDefEqProofs[Ex.v];refine Qu hm QgS.eq_1 ?_;have e3:∀ L,Qn (H.set j (pdO c r2)++L) j 0=pdC c r2.a r2.v:=λL=>ocL (H:=H) hj _ 127 L;have hpa:∀ h,(pdC c r2.a r2.v)[5]'(h)=mpS QaV:=λ_=>rfl;have hG2:∀ L,(H.set j (pdO c r2)++L)[j]? = some (pdO c r2):=λL=>by rw[Vc (by simpa using hj)]; simp[hj]
     have h139:=λL=>Qes (hG2 L);have hlk:lkm (.string (B (tkR c r2).tx)) (mpK QaV) (mpV QaV)=(Qam c QaV r2).map i64:=by
      rw[Qj1,Qjq (ops:=QaV) hT.num he2 rfl,Y1]; rfl
     simp -implicitDefEqProofs[e3,hpa,QgO];refine QeW (λ_=>by simpa[rp]using h139 _) ?_
     cases hop:Qam c QaV r2 with
     |none =>
      rw[hop]at hlk;simp -implicitDefEqProofs[Tok.v,Tok.c,QfK,QhL,hlk,QjK,Qi9,Qko,Qk7];exact Qe1 (q:=(x,r2)) hcl hj he2 (.inl ⟨he2,rfl⟩) _
     |some op =>
      rw[hop]at hlk;obtain⟨_,hlt⟩:=QdV hop;have h91:=λL=>QfX (hG2 L);have h140:=λL=>QfV (hG2 L) (by omega);have hg2:=k1.next hlt
      have hG3:∀ L,(H.set j (pdO c (Qa r2))++L)[j]? = some (pdO c (Qa r2)):=λL=>by rw[Vc (by simpa using hj)]; simp[hj]
      have hc:=λL=>hG (hG3 L) hg2 he2;simp -implicitDefEqProofs[Tok.v,Tok.c,QfK,QhL,hlk,QjK,Qi9,Qko,Qk7];refine Qc (by simpa[rp]using h91 _) ?_;simp -implicitDefEqProofs[Tok.v,Tok.c];refine Qc (by simpa[rp]using h140 _) ?_;rw[Vl _ _ (by simpa using hj),VA];simp -implicitDefEqProofs[Tok.v,Tok.c,w3];refine Q4 (by simpa[rp]using hc _) ?_;intro o H' hp3;unfold PdP PdV at hp3;generalize G (Qa r2)=q at hp3 ⊢;obtain⟨y,r3⟩:=q;simp only at hp3 ⊢;by_cases he3:r3.e=0
      . rw[Zn he3]at hp3;obtain⟨rfl,rfl⟩:=hp3;rw[Vl _ _ (by simpa using hj),VA];simp -implicitDefEqProofs[Ex.v,Tok.v,Tok.c];refine⟨_,_,PdP.ret (q:=(.mk op 0 [] [x,y] (Qk c r2),r3)) he3 rfl,Qp 3 (QbN (c:=c) (a:=r3.a) (v:=r3.v) hcl) (by simp) ?_⟩;simp[Ex.v,Ex.c,Ex.cL,show List.take 10 (x.c++y.c)=x.c++y.c from VD (by simp)]
      . rw[Zm he3]at hp3;obtain⟨rfl,hk⟩:=hp3;simp -implicitDefEqProofs;exact QcR (q:=(.mk op 0 [] [x,y] (Qk c r2),r3)) he3 (.inr ⟨he3,rfl,rfl⟩) hk.of_set
   . rw[Zm he2]at hp2;obtain⟨rfl,hk⟩:=hp2;have ho:Qam c QaV r2=none:=by
      cases ho:Qam c QaV r2 with
      |none=>rfl
      |some op=>exact absurd (QdV ho).1 he2
     rw[ho];simp -implicitDefEqProofs;exact QcR (q:=(x,r2)) he2 (.inr ⟨he2,rfl,rfl⟩) hk.of_app
theorem QnW (hT:QeK c) (hct:c.ts.length<4611686018427387904):∀ d:Nat,d<=40->PdC c 136 [] (lv c d).fac d/\PdC c 80 [i64 2] (lv c d).nt d/\PdC c 32 [] (Qcd c (lv c d)) d:=by
 have step:∀ (d:Nat) (orP facP ntP:Rd->Ex×Rd),d<=40->(∀ d',d=d'+1->PdC c 32 [] orP d')->(∀ d',d=d'+1->Kp c d' orP)->(∀ d',d=d'+1->PdC c 136 [] facP d')->(∀ d',d=d'+1->Kp c d' facP)->(∀ d',d=d'+1->PdC c 80 [i64 2] ntP d') ->
  (∀ d',d=d'+1->Kp c d' ntP)->PdC c 136 [] (lvS c orP facP ntP).fac d/\PdC c 80 [i64 2] (lvS c orP facP ntP).nt d/\PdC c 32 [] (Qcd c (lvS c orP facP ntP)) d:=by
  intro d orP facP ntP hd h1 h2 h3 h4 h5 h6;have hf:PdC c 136 [] (QL c orP facP) d:=Qvm hT hct hd h1 h2 h3;have kf:Kp c d (QL c orP facP):=QmZ hd h2 h4;have hm:PdC c 80 [i64 ((4:Nat):Int)] (Q7 c Qa6 (QL c orP facP)) d:=QkW hT hct (k:=4) (by decide) (by decide) (Qw7 hf) kf;have km:=Qd0 (ops:=Qa6) kf;have hs:PdC c 80 [i64 ((3:Nat):Int)] (Q7 c Qbe (Q7 c Qa6 (QL c orP facP))) d:=QkW hT hct (k:=3) (by decide) (by decide) hm km;have ks:=Qd0 (ops:=Qbe) km;have hn:PdC c 80 [i64 2] (QaS c (QaP c (Q7 c Qbe (Q7 c Qa6 (QL c orP facP)))) ntP) d:=Qyr hT hct hd hs ks h5;have kn:=QlT hd (Qmm ks) h6;have ha:PdC c 80 [i64 ((1:Nat):Int)] (Q7 c QbM (QaS c (QaP c (Q7 c Qbe (Q7 c Qa6 (QL c orP facP)))) ntP)) d:=QkW hT hct (k:=1) (by decide) (by decide) hn kn;have ka:=Qd0 (ops:=QbM) kn;have ho:PdC c 80 [i64 ((0:Nat):Int)] (Q7 c orO (Q7 c QbM (QaS c (QaP c (Q7 c Qbe (Q7 c Qa6 (QL c orP facP)))) ntP))) d:=QkW hT hct (k:=0) (by decide) (by decide) ha ka;exact⟨hf,hn,ok32 ho⟩
 intro d
 induction d with
 |zero=>exact λhd=>step 0 _ _ _ hd (λd' h=>by omega) (λd' h=>by omega) (λd' h=>by omega) (λd' h=>by omega) (λd' h=>by omega) (λd' h=>by omega)
 |succ d ih =>
  intro hd;obtain⟨i1,i2,i3⟩:=ih (by omega);obtain⟨k1,k2,k3⟩:=Qnk c d (by omega);exact step (d+1) _ _ _ hd (λd' h=>by cases h; exact i3) (λd' h=>by cases h; exact k3) (λd' h=>by cases h; exact i1) (λd' h=>by cases h; exact k1) (λd' h=>by cases h; exact i2) (λd' h=>by cases h; exact k2)
end
section
variable {H:ZG}
theorem ok78:Ok Tryz.prog 78 [] H (.ret (.agg QkI)) H:=by
 have m1:∀ i,(SV.mp i 0).ug=.mp i 0:=λ_=>rfl;have m2:∀ i,(SV.mp i 0).flat=[.mp i 0]:=λ_=>rfl;have m3:∀ i,QaY 1 (.mp i 0):=λi=>⟨rfl,rfl,rfl⟩;have m4:∀ i,(SV.mp i 0).isCell=true:=λ_=>rfl;have m5:∀ i,(SV.mp i 0).vd=true:=λ_=>rfl;refine Qz hm Tryz.func78 c78 (by simp) λhcl => ?_;simp -implicitDefEqProofs[i78,r78];refine QbT (x:=([],[])) (by simp[SV.mapOf]) rfl rfl rfl ?_;simp -implicitDefEqProofs[Q8,Q5,SV.key];refine QbT (x:=([],[])) (by simp[SV.mapOf]) rfl rfl rfl ?_;simp -implicitDefEqProofs[Q8,Q5,SV.key];refine QbT (x:=([],[])) (by simp[SV.mapOf]) rfl rfl rfl ?_;simp -implicitDefEqProofs[Q8,Q5,SV.key];refine QbT (x:=([.string (B [61,61])],[i64 10])) (by simp[SV.mapOf]) rfl rfl rfl ?_;simp -implicitDefEqProofs[Q8,Q5,QaF,SV.key];refine QbT (x:=([.string (B [61,61]),.string (B [33,61])],[i64 10,i64 11])) (by simp[SV.mapOf]) rfl rfl rfl ?_;simp -implicitDefEqProofs[Q8,Q5,QaF,SV.key];refine QbT (x:=([.string (B [61,61]),.string (B [33,61]),.string (B [60])],[i64 10,i64 11,i64 12])) (by simp[SV.mapOf]) rfl rfl rfl ?_;simp -implicitDefEqProofs[Q8,Q5,QaF,SV.key];refine QbT (x:=([.string (B [61,61]),.string (B [33,61]),.string (B [60]),.string (B [60,61])],[i64 10,i64 11,i64 12,i64 13])) (by simp[SV.mapOf]) rfl rfl rfl ?_;simp -implicitDefEqProofs[Q8,Q5,QaF,SV.key]
 refine QbT (x:=([.string (B [61,61]),.string (B [33,61]),.string (B [60]),.string (B [60,61]),.string (B [62])],[i64 10,i64 11,i64 12,i64 13,i64 14])) (by simp[SV.mapOf]) rfl rfl rfl ?_;simp -implicitDefEqProofs[Q8,Q5,QaF,SV.key];refine QbT (x:=([],[])) (by simp[SV.mapOf]) rfl rfl rfl ?_;simp -implicitDefEqProofs[Q8,Q5,SV.key];refine QbT (x:=([.string (B [43])],[i64 8])) (by simp[SV.mapOf]) rfl rfl rfl ?_;simp -implicitDefEqProofs[Q8,Q5,QaF,SV.key];refine QbT (x:=([],[])) (by simp[SV.mapOf]) rfl rfl rfl ?_;simp -implicitDefEqProofs[Q8,Q5,SV.key];refine QbT (x:=([.string (B [42])],[i64 5])) (by simp[SV.mapOf]) rfl rfl rfl ?_;simp -implicitDefEqProofs[Q8,Q5,QaF,SV.key];refine QbT (x:=([.string (B [42]),.string (B [47])],[i64 5,i64 6])) (by simp[SV.mapOf]) rfl rfl rfl ?_;simp -implicitDefEqProofs[Q8,Q5,QaF,SV.key,m1,m2,m3,m4];refine Qp 3 hcl rfl ?_;simp[QkI,mpS,mpK,mpV,orO,QbM,QaV,Qbe,Qa6,SV.fz]
theorem Qk2 (e p:Int):Ok Tryz.prog 77 [QV e p] H (.ret (QK e p)) H:=by
 refine Qz hm Tryz.func77 c77 (by simp[QV,QK]) λhcl => ?_;simp -implicitDefEqProofs[i77,r77,QV,QK,SV.isIf,SV.ifIs,SV.ifVal];exact Qp 2 hcl rfl rfl
theorem Qzn {f g:Nat} (hf:f<H.length) (hg:g<H.length):OkD Tryz.prog 76 [rp f,rp g] H none (λH'=>H'=H):=by
 refine QjF hm Tryz.func76 c76 (by rfl) λhcl => ?_;simp -implicitDefEqProofs[QlZ,i76,rp,rvD,SV.isIf,SV.ifNil];exact Qi
theorem Qzp {f g:Nat} {c1 c2:ZH} (hf:H[f]? = some ⟨c1,25,0,true⟩) (hc1:c1.length=5) (hg:H[g]? = some ⟨c2,28,0,true⟩) (hc2:c2.length=2) (hne:f≠g) (e p:Int) :
 OkD Tryz.prog 76 [rp f,rp g] H (some (QV e p)) (λH'=>H'=(H.set f zO).set g ⟨[i64 e,i64 p],28,0,true⟩):=by
 have hj:=Qj hf;have hjg:=Qj hg;have e2:∀ (L:ZG) (h:AO->AO),Ab.setObj (H++L) f h=H.set f (h ⟨c1,25,0,true⟩)++L:=λL h=>by
  rw[QbX (o:=⟨c1,25,0,true⟩) (by rw[Vc hj]; exact hf),Vl _ _ hj]
 have hg':(H.set f zO)[g]? = some ⟨c2,28,0,true⟩:=by rw[Vf hne]; exact hg
 have e4:∀ (L:ZG) (h:AO->AO),Ab.setObj (H.set f zO++L) g h=(H.set f zO).set g (h ⟨c2,28,0,true⟩)++L:=λL h=>by
  rw[QbX (o:=⟨c2,28,0,true⟩) (by rw[Vc (by simpa using hjg)]; exact hg'),Vl _ _ (by simpa using hjg)]
 have e1:∀ L,Qn (H++L) f 0=c1:=λL=>Qap (o:=⟨c1,25,0,true⟩) (by rw[Vc hj]; exact hf) rfl;have e3:∀ L,Qn (H.set f zO++L) g 0=c2:=λL=>Qap (o:=⟨c2,28,0,true⟩) (by rw[Vc (by simpa using hjg)]; exact hg') rfl;have d1:List.drop 5 c1=[]:=V1 (by omega);have d2:List.drop 2 c2=[]:=V1 (by omega);simp only[zO]at e3 e4;refine QjF hm Tryz.func76 c76 (by rfl) λhcl => ?_;simp -implicitDefEqProofs[QlZ,i76,rp,rvD,SV.isIf,SV.ifNil,QV];refine QeW (λ_=>Qk2 e p) ?_;simp -implicitDefEqProofs[QK,e1,e2,e3,e4,hc1,hc2,d1,d2];have hc1':closed (H.set f zO):=by
  have:=QfH hcl f (o:=zO) (by simp[zO,SV.underL,SV.under]);simpa using this
 have hc2':closed ((H.set f zO).set g ⟨[i64 e,i64 p],28,0,true⟩):=by
  have:=QfH hc1' g (o:=⟨[i64 e,i64 p],28,0,true⟩) (by simp[SV.underL]);simpa using this
 refine⟨rfl,Qnm (by simpa[QV,QK]using Qk2 e p),?_⟩;exact Qp 2 hc2' (by simp) rfl
theorem QrT (hcl:closed H) (e p:Int) (L:ZG):Cv H.length (.tup [.agg zO.cells,QK e p]) (H++L) (.tup [zE.v,QK e p]) H:=by
 refine Cv.le (Qp (n0:=H.length) (r1:=.tup [.agg [i64 0,i64 0,st (B []),.val (.slice none 0 0),i64 0],.agg [i64 e,i64 p]]) (r:=.tup [.agg [i64 0,i64 0,st (B []),.val (.slice none 0 0),i64 0],.agg [i64 e,i64 p]]) 3 hcl rfl (by simp)) ?_;exact Qi2 (leL.cons (QrV 0 0 [] 0) (leL.cons (SV.le.refl _) leL.nil))
theorem QnY {q:Ex×Int×Int} (hcl:closed H) (hq:q.1=zE) {env:Env} {H1:ZG} {c1 c2:ZH} (hf:H1[H.length]? = some ⟨c1,25,0,true⟩) (hc1:c1.length=5) (hg:H1[H.length+1]? = some ⟨c2,28,0,true⟩) (hc2:c2.length=2)
 (hp:∀ i,i<H.length->H1[i]? = H[i]?) (h4:env.get 4=rp H.length) (h5:env.get 5=rp (H.length+1)) :
 Qg6 Tryz.prog H.length r31 (λo h=>o=.ret (.tup [q.1.v,QK q.2.1 q.2.2])/\h=H) 76 [rp H.length,rp (H.length+1)] (.panic (QV q.2.1 q.2.2)) env H1:=by
 refine⟨_,Qzp hf hc1 hg hc2 (by omega) _ _,?_⟩;rintro H4 rfl;have hlen:H.length+2<=H1.length:=by have:=Qj hg; omega
 obtain⟨L,hL⟩:∃ L,(H1.set H.length zO).set (H.length+1) ⟨[i64 q.2.1,i64 q.2.2],28,0,true⟩=H++zO::⟨[i64 q.2.1,i64 q.2.2],28,0,true⟩::L:=by
  refine⟨H1.drop (H.length+2),?_⟩;apply V4;intro i;rcases Ys i H.length with h|h|h
  . rw[Vf (by omega),Vf (by omega),hp i h,Vc h]
  . subst h;rw[Vf (by omega),Vo (by omega),Vk (by omega)];simp
  . by_cases h2:i=H.length+1
    . subst h2;rw[Vo (by simp; omega),Vk (by omega)];simp
    . rw[Vf (by omega),Vf (by omega),Vk (by omega)];obtain⟨k,rfl⟩:∃ k,i=H.length+2+k:=⟨i-(H.length+2),by omega⟩;have e:H.length+2+k-H.length=k+1+1:=by omega
      rw[e,YG,YG,VP]
 rw[hL];have e1:Qn (H++zO::⟨[i64 q.2.1,i64 q.2.2],28,0,true⟩::L) H.length 0=zO.cells:=Qap (o:=zO) (by simp) rfl;have e2:Qn (H++zO::⟨[i64 q.2.1,i64 q.2.2],28,0,true⟩::L) (H.length+1) 0=[i64 q.2.1,i64 q.2.2]:=Qap (o:=⟨[i64 q.2.1,i64 q.2.2],28,0,true⟩) (by simp) rfl;refine⟨?_,_,H,⟨rfl,rfl⟩,?_⟩
 . intro s hs;simp only[r31,Ve,VC,Zu]at hs;rcases hs with rfl|rfl
   . simp[RS.side,h4,rp,zO]
   . simp[RS.side,h5,rp,e2]
 . have hr:Qa2 env (H++zO::⟨[i64 q.2.1,i64 q.2.2],28,0,true⟩::L) r31=.tup [.agg zO.cells,QK q.2.1 q.2.2]:=by
    simp[Qa2,r31,RS.ev,h4,h5,rp,zO,QK]
   rw[hr,hq];exact QrT hcl _ _ _
theorem QwH {x:Ex} (hcl:closed H) {env:Env} {L:ZG} (h4:env.get 4=rp H.length) (h5:env.get 5=rp (H.length+1)) :
 Qg6 Tryz.prog H.length r31 (λo h=>o=.ret (.tup [.agg x.c,.agg [i64 0,i64 0]])/\h=H) 76 [rp H.length,rp (H.length+1)] .ret env (H++eO x::⟨[i64 0,i64 0],28,0,true⟩::L):=by
 refine⟨_,Qzn (by simp) (by simp),?_⟩;rintro H4 rfl;have e1:Qn (H++eO x::⟨[i64 0,i64 0],28,0,true⟩::L) H.length 0=x.c:=Qap (o:=eO x) (by simp) rfl;have e2:Qn (H++eO x::⟨[i64 0,i64 0],28,0,true⟩::L) (H.length+1) 0=[i64 0,i64 0]:=Qap (o:=⟨[i64 0,i64 0],28,0,true⟩) (by simp) rfl;refine⟨?_,_,H,⟨rfl,rfl⟩,?_⟩
 . intro s hs;simp only[r31,Ve,VC,Zu]at hs;rcases hs with rfl|rfl
   . simp[RS.side,h4,rp,e1]
   . simp[RS.side,h5,rp,e2]
 . have hr:Qa2 env (H++eO x::⟨[i64 0,i64 0],28,0,true⟩::L) r31=.tup [.agg x.c,.agg [i64 0,i64 0]]:=by
    simp[Qa2,r31,RS.ev,h4,h5,rp,e1,e2]
   rw[hr];exact Qp 3 hcl rfl (by simp)
theorem ok31 {l:ZE} (hl:l.length<4611686018427387904) (hT:QeK ⟨(Qv l).1,l.length⟩):Ok Tryz.prog 31 [st (B l),.fn (.func 32) [] []] H (.ret (.tup [(Qai l).1.v,QK (Qai l).2.1 (Qai l).2.2])) H:=by
 refine OkP.toOk (Qsh hm Tryz.func31 c31 (by rfl) λhcl => ?_);have hlen:=Qsu l;have h26:=λH=>Qmw (H:=H) hl;have hex:Qai l=if(Qv l).2.1≠0 then(zE,(Qv l).2)else QiP ⟨(Qv l).1,l.length⟩:=rfl;rw[hex];generalize Qv l=s at hlen h26 hT ⊢;obtain⟨ts,fe,fp⟩:=s;simp only at hlen h26 hT ⊢;simp -implicitDefEqProofs[XL,i31p,QrP,QpC,QqW];refine Qc (h26 _) ?_;simp -implicitDefEqProofs[QK,Qbc];by_cases hs:fe=0
 . subst hs;simp -implicitDefEqProofs[i31s,i31f,XL,QgY,i31];have hlc:ts.length<4611686018427387904:=by omega
   have hg:Gd ⟨ts,l.length⟩ 40 ⟨0,0,0,0⟩:=⟨Yc _,.inr rfl⟩;have hor:PdC ⟨ts,l.length⟩ 32 [] (orT ⟨ts,l.length⟩) 40:=(QnW hT hlc 40 (by omega)).2.2;refine⟨76,_,⟨rfl,rfl⟩,Qc ok78 ?_⟩;simp -implicitDefEqProofs[QkI];have hG:∀ L,(H++(zO::⟨[i64 0,i64 fp],28,0,true⟩::pdO ⟨ts,l.length⟩ ⟨0,0,0,0⟩::L))[H.length+2]? = some (pdO ⟨ts,l.length⟩ ⟨0,0,0,0⟩):=λL=>by simp
   have hc:=hor (hG []) hg rfl;refine⟨⟨rfl,rfl,rfl,rfl,rfl⟩,Q4 (Pt:=PdP ⟨ts,l.length⟩ (H++[zO,⟨[i64 0,i64 fp],28,0,true⟩,pdO ⟨ts,l.length⟩ ⟨0,0,0,0⟩]) (H.length+2) (orT ⟨ts,l.length⟩ ⟨0,0,0,0⟩)) (by simpa[rp,zO,pdO,pdC,Qbc]using hc) ?_⟩;intro o H' hp;unfold PdP PdV at hp;generalize hw:QiP ⟨ts,l.length⟩=w;unfold QiP at hw;generalize orT ⟨ts,l.length⟩ ⟨0,0,0,0⟩=x at hw hp;obtain⟨ex,r⟩:=x;dsimp only at hw hp;by_cases he:r.e=0
   . rw[Zn he]at hp;obtain⟨rfl,rfl⟩:=hp;have hset:(H++[zO,⟨[i64 0,i64 fp],28,0,true⟩,pdO ⟨ts,l.length⟩ ⟨0,0,0,0⟩]).set (H.length+2) (pdO ⟨ts,l.length⟩ r)=H++[zO,⟨[i64 0,i64 fp],28,0,true⟩,pdO ⟨ts,l.length⟩ r]:=by
      rw[Yg _ _ (by omega)]; simp
     rw[hset];have hG2:∀ z L,(H++(z::⟨[i64 0,i64 fp],28,0,true⟩::pdO ⟨ts,l.length⟩ r::L))[H.length+2]? = some (pdO ⟨ts,l.length⟩ r):=λz L=>by simp
     by_cases hlt:r.a<ts.length
     . have h79:=Qdg (hG2 (eO ex) []) 11;rw[Zn hlt]at hw;have hf2:(Qg ⟨ts,l.length⟩ 11 r).e=11/\(Qg ⟨ts,l.length⟩ 11 r).p=Qk ⟨ts,l.length⟩ r:=by simp[Qg,he]
       rw[Zn (by rw[hf2.1]; decide),hf2.1,hf2.2]at hw;subst hw;simp -implicitDefEqProofs[Ex.v,zO,pdO,pdC,Qbc,hlt];refine Qc (by simpa[rp,eO,pdO,pdC,Qbc]using h79) ?_;simp -implicitDefEqProofs;exact QnY (q:=(zE,11,Qk ⟨ts,l.length⟩ r)) hcl rfl (c1:=ex.c) (c2:=[i64 0,i64 fp]) (by simp) (by simp) (by simp) rfl (λi hi=>by rw[Vc hi]) (by simp[rp]) (by simp[rp])
     . rw[Zm hlt,Zm (by simp[he])]at hw;subst hw;simp -implicitDefEqProofs[Ex.v,zO,pdO,pdC,Qbc,hlt];exact QwH hcl (by simp[rp]) (by simp[rp])
   . rw[Zm he]at hp;obtain⟨rfl,hk⟩:=hp;have hb:(if r.a<ts.length then Qg ⟨ts,l.length⟩ 11 r else r)=r:=by
      by_cases hlt:r.a<ts.length
      . rw[Zn hlt]; simp[Qg,he]
      . rw[Zm hlt]
     rw[hb,Zn he]at hw;subst hw;simp -implicitDefEqProofs;have hk1:∀ i,i<H.length+2->H'[i]? = (H++[zO,⟨[i64 0,i64 fp],28,0,true⟩,pdO ⟨ts,l.length⟩ ⟨0,0,0,0⟩])[i]? := λi hi=>hk.at_ i (by simp; omega) (by simp; omega);exact QnY (q:=(zE,r.e,r.p)) hcl rfl (c1:=zO.cells) (c2:=[i64 0,i64 fp]) (by rw[hk1 _ (by omega)]; simp[zO]) rfl (by rw[hk1 _ (by omega)]; simp) rfl (λi hi=>by rw[hk1 i (by omega),Vc hi]) (by simp[rp]) (by simp[rp])
 . simp -implicitDefEqProofs[hs,XL,QgY,r31];simp only[Zm hs];exact⟨rfl,_,_,⟨rfl,rfl⟩,by simpa[zO,QK]using QrT hcl fe fp _⟩
theorem ok11 {l:ZE} (hl:l.length<4611686018427387904) (hT:QeK ⟨(Qv l).1,l.length⟩):Ok Tryz.prog 11 [st (B l)] H (.ret (.tup [(Qai l).1.v,QK (Qai l).2.1 (Qai l).2.2])) H:=by
 have h31:=λH=>ok31 (H:=H) hl hT;generalize Qai l=q at h31 ⊢;refine Qz hm Tryz.func11 c11 (by simp) λhcl => ?_;simp -implicitDefEqProofs[i11,r11];refine Qc (h31 _) ?_;simp -implicitDefEqProofs[Ex.v,QK];exact Qp 3 hcl rfl (by simp)
end
end Go.Proofs.YtmkdpmfhlfhjkaaGreatDoor
