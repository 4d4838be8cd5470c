/- Steps of the proof. -/
import Derived.Test.YtmkdpmfhlfhjkaaGreatDoorPNKT20
import Derived.Test.YtmkdpmfhlfhjkaaGreatDoorCore4
set_option linter.all false
namespace Go.Proofs.YtmkdpmfhlfhjkaaGreatDoor
open Go.Ab
structure Cx where
 ts:List Tok
 en:Nat
structure Rd where
 a:Nat
 v:Int
 e:Int
 p:Int
def rp (j:Nat):SV:=.ptr (.own j 0 0 0 0) 0
def Qk (c:Cx) (r:Rd):Int:=if h:r.a<c.ts.length then(c.ts[r.a].p:Int)else(c.en:Int)
def Qg (c:Cx) (e:Int) (r:Rd):Rd:=if r.e=0 then { r with e:=e,p:=Qk c r } else r
def Qaj (c:Cx) (r:Rd) (f:Tok->Bool):Bool:=decide (r.e=0)&&(if h:r.a<c.ts.length then f c.ts[r.a]else false)
def Qd (c:Cx) (s:ZE) (r:Rd):Bool:=Qaj c r λt => !decide (t.k=2)&&decide (t.tx=s)
def Qa (r:Rd):Rd:={ r with a:=r.a+1 }
def Qh (c:Cx) (s:ZE) (r:Rd):Int×Rd:=(Qk c r,if Qd c s r then Qa r else Qg c 11 r)
theorem Qam {c:Cx} {s:ZE} {r:Rd} (h:Qd c s r=true):r.a<c.ts.length:=by
 unfold Qd Qaj at h;split at h
 . assumption
 . simp at h
theorem QBn {ts:List Tok} {i k:Nat} (h:i<ts.length) (hk:k<4):(ts.flatMap Tok.c)[i*4+k]? = (ts[i].c)[k]? := by
 induction ts generalizing i with
 |nil=>simp at h
 |cons t r ih =>
  cases i with
  |zero =>
   rw[VV,Vc (by simp[Tok.c]; omega)]; simp
  |succ i =>
   have e:(i+1)*4+k=t.c.length+(i*4+k):=by simp[Tok.c]; omega
   rw[VV,e,Vl (by omega)];simp only[YK,Zl];exact ih (by simpa using h)
theorem QxS {H:ZG} {j:Nat} (hj:j<H.length) (cs:ZH) (t:ZK):Qo (H.set j ⟨cs,t,0,true⟩) j 0=cs:=Qav (o:=⟨cs,t,0,true⟩) (by simp[hj]) rfl
def Qa0:ZD:=[[103,97,109,101],[112,108,97,121,101,114,115],[118,97,114],[100,101,97,108],[105,110],[119,101,105,103,104,116],[115,101,101,110],[98,121],[97,108,108],[116,117,114,110],[97,99,116,105,111,110],[119,104,101,110],[104,105,100,100,101,110],[103,111,116,111],[101,110,100],[112,97,121],[111,114],[97,110,100],[110,111,116],[109,105,110],[109,97,120],[105,102]]
def QU (c:Cx) (r:Rd):Bool:=Qaj c r λt=>decide (t.k=1) && !decide (t.tx∈Qa0)
def QK (c:Cx) (r:Rd):ZE×Rd:=if QU c r then((c.ts.getD r.a ⟨0,[],0,0⟩).tx,Qa r)else([],Qg c 11 r)
def QaX (c:Cx) (r:Rd):Bool:=Qaj c r λt=>decide (t.k=2)
def nmR (c:Cx) (r:Rd):Int×Rd:=if QaX c r then((c.ts.getD r.a ⟨0,[],0,0⟩).n,Qa r)else(0,Qg c 11 r)
def upR (r:Rd):Rd:={ r with v:=IntKind.i64.wrap (r.v+1) }
def dnR (r:Rd):Rd:={ r with v:=IntKind.i64.wrap (r.v-1) }
def Qr (c:Cx) (s:ZE) (r:Rd):Int×Rd:=Qh c s (upR (if Qd c s r=true/\r.v=40 then Qg c 5 r else r))
def QbE (c:Cx) (r:Rd):Bool:=QaX c r||QU c r||Qd c [110,111,116] r||Qd c [45] r||Qd c [40] r||Qd c [109,105,110] r||Qd c [109,97,120] r||Qd c [105,102] r
theorem QbV {c:Cx} {r:Rd} {f:Tok->Bool} (h:Qaj c r f=true):r.e=0/\∃ h:r.a<c.ts.length,f c.ts[r.a]=true:=by
 unfold Qaj at h;split at h
 . rename_i h2; simp at h; exact⟨h.1,h2,h.2⟩
 . simp at h
inductive Ex where
 |mk (op n:Int) (nm:ZE) (l:List Ex) (p:Int)
mutual
def Ex.c:Ex->ZH
 |.mk op n nm l p=>[i64 op,i64 n,st (B nm),.slc (Ex.cL l) l.length,i64 p]
def Ex.cL:List Ex->ZH
 |[]=>[]
 |e::r=>e.c++Ex.cL r
end
def Ex.v (e:Ex):SV:=.agg e.c
def zE:Ex:=.mk 0 0 [] [] 0
@[simp] theorem Ex.c_len (e:Ex):e.c.length=5:=by cases e; rfl
theorem QoA:∀ l:List Ex,Ex.cL l=rws Ex.c l
 |[]=>by simp[Ex.cL,rws]
 |e::r=>by rw[Ex.cL,QoA r,rws]
mutual
theorem Ex.und (n:Nat):∀ e:Ex,SV.underL n e.c=true
 |.mk op k nm l p=>by simp[Ex.c,SV.underL,SV.under,Ex.undL n l]
theorem Ex.undL (n:Nat):∀ l:List Ex,SV.underL n (Ex.cL l)=true
 |[]=>by simp[Ex.cL,SV.underL]
 |e::r=>by rw[Ex.cL,SV.underL_append,Ex.und n e,Ex.undL n r]; rfl
end
@[simp] theorem Ex.c_take (e:Ex):List.take 5 e.c=e.c:=VB (by simp)
@[simp] theorem Ex.c_drop10 (e:Ex) (l:ZH):List.drop 10 (e.c++l)=List.drop 5 l:=by
 rw[show 10=e.c.length+5 by simp,YH]; simp
@[simp] theorem Ex.c_drop5' (e:Ex):List.drop 5 e.c=[]:=VS (by simp)
theorem Ex.ok (e:Ex):QD e.c:=by
 cases e
 intro s hs;simp[Ex.c]at hs;rcases hs with rfl|rfl|rfl|rfl|rfl<;>rfl
@[simp] theorem Ex.okT (e:Ex):QD e.c=True:=Zv e.ok
@[simp] theorem Ex.fzm (n:Nat) (ks:List Nat) (L:ZG) (d:Nat) (e:Ex):e.c.map (SV.fz n ks L (d+1))=e.c:=QcN _ _ _ _ (Ex.und _ e)
structure Gd (c:Cx) (d:Nat) (r:Rd):Prop where
 a:r.a<=c.ts.length
 v:r.e≠0\/r.v+d=40
def Kp {α:Type} (c:Cx) (d:Nat) (F:Rd->α×Rd):Prop:=∀ r,Gd c d r->Gd c d (F r).2/\r.a<=(F r).2.a
def Qal (c:Cx) (ops:List (ZE×Int)) (r:Rd):Option Int:=(ops.find? λo=>Qd c o.1 r).map (·.2)
def QaC (c:Cx) (ops:List (ZE×Int)) (f:Rd->Ex×Rd):Nat->Ex->Rd->Ex×Rd
 |0,e,r=>(e,r)
 |n+1,e,r=>match Qal c ops r with
  |some op=>QaC c ops f n (.mk op 0 [] [e,(f (Qa r)).1] (Qk c r)) (f (Qa r)).2
  |none=>(e,r)
def QS (c:Cx) (ops:List (ZE×Int)) (f:Rd->Ex×Rd) (r:Rd):Ex×Rd:=QaC c ops f c.ts.length (f r).1 (f r).2
def orO:List (ZE×Int):=[([111,114],17)]
def Qbx:List (ZE×Int):=[([97,110,100],16)]
def Qa2:List (ZE×Int):=[([61,61],10),([33,61],11),([60],12),([60,61],13),([62],14),([62,61],15)]
def Qa6:List (ZE×Int):=[([43],8),([45],9)]
def QaV:List (ZE×Int):=[([42],5),([47],6),([37],7)]
def Qar (c:Cx) (f:Rd->Ex×Rd) (r:Rd):Ex×Rd:=match Qal c Qa2 (f r).2 with
 |some op=>(.mk op 0 [] [(f r).1,(f (Qa (f r).2)).1] (Qk c (f r).2),(f (Qa (f r).2)).2)
 |none=>f r
theorem QfR {c:Cx} {s:ZE} {r:Rd} (h:Qd c s r=true):r.e=0/\∃ h:r.a<c.ts.length,c.ts[r.a].k≠2/\c.ts[r.a].tx=s:=by
 obtain⟨h1,h2,h3⟩:=QbV h;simp at h3;exact⟨h1,h2,h3.1,h3.2⟩
theorem Qc0 {c:Cx} {ops:List (ZE×Int)} {r:Rd} {op:Int} (h:Qal c ops r=some op):r.e=0/\r.a<c.ts.length:=by
 unfold Qal at h;rw[VY]at h;obtain⟨o,h1,_⟩:=h;have:=List.find?_some h1;obtain⟨h2,h3,_⟩:=QfR this;exact⟨h2,h3⟩
theorem Gd.next {c:Cx} {d:Nat} {r:Rd} (h:Gd c d r) (hl:r.a<c.ts.length):Gd c d (Qa r):=⟨hl,h.v⟩
theorem QoB {c:Cx} {ops:List (ZE×Int)} {f:Rd->Ex×Rd} {d:Nat} (hf:Kp c d f):∀ (n:Nat) (e:Ex) (r:Rd),Gd c d r->Gd c d (QaC c ops f n e r).2/\r.a<=(QaC c ops f n e r).2.a
 |0,e,r,h=>⟨h,Vb _⟩
 |n+1,e,r,h=>by
  rw[QaC];split
  . rename_i op ho;obtain⟨_,hl⟩:=Qc0 ho;obtain⟨h1,h2⟩:=hf _ (h.next hl)
    obtain⟨h3,h4⟩:=QoB hf n (.mk op 0 [] [e,(f (Qa r)).1] (Qk c r)) _ h1;exact⟨h3,by have:r.a+1<=_:=h2; omega⟩
  . exact⟨h,Vb _⟩
theorem Qd8 {c:Cx} {ops:List (ZE×Int)} {f:Rd->Ex×Rd} {d:Nat} (hf:Kp c d f):Kp c d (QS c ops f):=by
 intro r h;obtain⟨h1,h2⟩:=hf r h;obtain⟨h3,h4⟩:=QoB (ops:=ops) hf c.ts.length (f r).1 _ h1;exact⟨h3,Vi h2 h4⟩
theorem Qmo {c:Cx} {f:Rd->Ex×Rd} {d:Nat} (hf:Kp c d f):Kp c d (Qar c f):=by
 intro r h;obtain⟨h1,h2⟩:=hf r h;unfold Qar;split
 . rename_i op ho;obtain⟨_,hl⟩:=Qc0 ho;obtain⟨h3,h4⟩:=hf _ (h1.next hl)
   exact⟨h3,by have:(f r).2.a+1<=_:=h4; simp only; omega⟩
 . exact⟨h1,h2⟩
section
variable {H:ZG} {c:Cx} {r:Rd} {j:Nat}
def zO:AO:=⟨[i64 0,i64 0,st (B []),.val (.slice none 0 0),i64 0],25,0,true⟩
def eO (e:Ex):AO:=⟨e.c,25,0,true⟩
end
section
variable {H:ZG} {c:Cx} {r:Rd} {j:Nat}
theorem ocL (hj:j<H.length) (cs:ZH) (t:ZK) (L:ZG):Qo (H.set j ⟨cs,t,0,true⟩++L) j 0=cs:=by
 have:(H.set j ⟨cs,t,0,true⟩++L)[j]? = some ⟨cs,t,0,true⟩:=by rw[Vc (by simpa using hj)]; simp[hj]
 exact Qav this rfl
theorem soL (hj:j<H.length) (o:AO) (L:ZG) (f:AO->AO):Ab.setObj (H.set j o++L) j f=H.set j (f o)++L:=by
 rw[Qb5 (o:=o) (by rw[Vc (by simpa using hj)]; simp[hj]),Vm _ _ (by simpa using hj),VD]
end
def Qat (c:Cx) (cmp ntP:Rd->Ex×Rd) (r:Rd):Ex×Rd :=
 if Qd c [110,111,116] r=true then
  if(Qr c [110,111,116] r).2.e≠0 then(zE,(Qr c [110,111,116] r).2)
  else(.mk 4 0 [] [(ntP (Qr c [110,111,116] r).2).1] (Qr c [110,111,116] r).1,dnR (ntP (Qr c [110,111,116] r).2).2)
 else cmp r
def QH (c:Cx) (orP:Rd->Ex×Rd):Nat->List Ex->Rd->Option (List Ex)×Rd
 |0,l,r=>(some l,r)
 |n+1,l,r=>if(Qh c [44] r).2.e≠0 then(none,(Qh c [44] r).2)else QH c orP n (l++[(orP (Qh c [44] r).2).1]) (orP (Qh c [44] r).2).2
def Qcf (c:Cx) (orP:Rd->Ex×Rd) (s:ZE) (op:Int) (m:Nat) (p:Int) (r:Rd):Ex×Rd :=
 let r2:=(Qr c [40] (Qh c s r).2).2
 if r2.e≠0 then(zE,r2)else
 match QH c orP m [(orP r2).1] (orP r2).2 with
 | (none,r3)=>(zE,r3)
 | (some l,r3)=>(.mk op 0 [] l p,dnR (Qh c [41] r3).2)
def QaN:List (ZE×Int×Nat):=[([109,105,110],18,1),([109,97,120],19,1),([105,102],20,2)]
def QF (c:Cx) (orP facP:Rd->Ex×Rd) (r:Rd):Ex×Rd :=
 if r.e≠0 then(zE,r)
 else if QU c r=true then(.mk 2 0 (QK c r).1 [] (Qk c r),(QK c r).2)
 else if Qd c [45] r=true then
  if(Qr c [45] r).2.e≠0 then(zE,(Qr c [45] r).2)
  else(.mk 3 0 [] [(facP (Qr c [45] r).2).1] (Qk c r),dnR (facP (Qr c [45] r).2).2)
 else if Qd c [40] r=true then
  if(Qr c [40] r).2.e≠0 then(zE,(Qr c [40] r).2)
  else((orP (Qr c [40] r).2).1,dnR (Qh c [41] (orP (Qr c [40] r).2).2).2)
 else match QaN.find? (λw=>Qd c w.1 r)with
  |some w=>Qcf c orP w.1 w.2.1 w.2.2 (Qk c r) r
  |none=>(.mk 1 (nmR c r).1 [] [] (Qk c r),(nmR c r).2)
structure Lv where
 fac:Rd->Ex×Rd
 nt:Rd->Ex×Rd
def Q6 (c:Cx) (L:Lv):Rd->Ex×Rd:=QS c orO (QS c Qbx L.nt)
def Qgt (c:Cx) (fac:Rd->Ex×Rd):Rd->Ex×Rd:=Qar c (QS c Qa6 (QS c QaV fac))
def lvS (c:Cx) (orP facP ntP:Rd->Ex×Rd):Lv:=⟨QF c orP facP,Qat c (Qgt c (QF c orP facP)) ntP⟩
def lv (c:Cx):Nat->Lv
 |0=>lvS c (λr=>(zE,r)) (λr=>(zE,r)) (λr=>(zE,r))
 |d+1=>lvS c (Q6 c (lv c d)) (lv c d).fac (lv c d).nt
theorem QfM {c:Cx} {d:Nat} {r:Rd} {e:Int} (he:e≠0) (h:Gd c d r):Gd c d (Qg c e r)/\(Qg c e r).a=r.a/\(Qg c e r).e≠0:=by
 unfold Qg;split
 . exact⟨⟨h.a,.inl he⟩,rfl,he⟩
 . rename_i h2; exact⟨h,rfl,h2⟩
theorem Qda {c:Cx} {d:Nat} (s:ZE):Kp c d (Qh c s):=by
 intro r h;unfold Qh;split
 . rename_i hp;exact⟨h.next (Qam hp),Nat.le_succ _⟩
 . obtain⟨h1,h2,_⟩:=QfM (e:=11) (by decide) h;exact⟨h1,V0 h2.symm⟩
theorem Qcq {c:Cx} {d:Nat}:Kp c d (QK c):=by
 intro r h;unfold QK;split
 . rename_i hp;exact⟨h.next (QbV hp).2.1,Nat.le_succ _⟩
 . obtain⟨h1,h2,_⟩:=QfM (e:=11) (by decide) h;exact⟨h1,V0 h2.symm⟩
theorem Qch {c:Cx} {d:Nat}:Kp c d (nmR c):=by
 intro r h;unfold nmR;split
 . rename_i hp;exact⟨h.next (QbV hp).2.1,Nat.le_succ _⟩
 . obtain⟨h1,h2,_⟩:=QfM (e:=11) (by decide) h;exact⟨h1,V0 h2.symm⟩
theorem QkA {c:Cx} {d:Nat} (hd:d<=40) {s:ZE} {r:Rd} (h:Gd c d r) :
 (Qr c s r).2.a<=c.ts.length/\r.a<=(Qr c s r).2.a/\((Qr c s r).2.e=0->∃ d',d=d'+1/\Gd c d' (Qr c s r).2):=by
 unfold Qr;by_cases hp:Qd c s r=true/\r.v=40
 . rw[Zo hp];obtain⟨h1,h2,h3⟩:=QfM (e:=5) (by decide) h;have hb:Gd c d (upR (Qg c 5 r)):=⟨h1.a,.inl h3⟩;obtain⟨k1,k2⟩:=Qda s _ hb;refine⟨k1.a,by rw[<-h2]; exact k2,λhe => ?_⟩;exfalso;have:Qd c s (upR (Qg c 5 r))=false:=by
    rw[<-Vk]; intro h4;exact h3 (QfR h4).1
   unfold Qh at he;rw[this]at he;simp only[Vw,Zu]at he;unfold Qg at he;rw[Zn (by exact h3)]at he;exact h3 he
 . rw[Zn hp];have hb:Gd c d (upR r)\/True:=.inr trivial;by_cases hpk:Qd c s r=true
   . have hv:r.v≠40:=λh=>hp ⟨hpk,h⟩;obtain⟨he0,hlt,_⟩:=QfR hpk;have hpu:Qd c s (upR r)=true:=hpk;have ht:Qh c s (upR r)=(Qk c (upR r),Qa (upR r)):=by unfold Qh; rw[Zo hpu]
     rw[ht];have hv2:=h.v.resolve_left (λh=>h he0);refine⟨hlt,Nat.le_succ _,λ_=>⟨d-1,by omega,hlt,.inr ?_⟩⟩;have:IntKind.i64.wrap (r.v+1)=r.v+1:=Qah (by omega) (by omega);simp only[Qa,upR,this];omega
   . have hpu:Qd c s (upR r)=false:=by rw[<-Vk]; exact hpk
     have ht:Qh c s (upR r)=(Qk c (upR r),Qg c 11 (upR r)):=by unfold Qh; rw[hpu]; rfl
     rw[ht];have hf:(Qg c 11 (upR r)).a=r.a/\(Qg c 11 (upR r)).e≠0:=by
      unfold Qg;split
      . exact⟨rfl,show(11:Int)≠0 by decide⟩
      . rename_i h2; exact⟨rfl,h2⟩
     exact⟨by rw[hf.1]; exact h.a,by rw[hf.1]; exact Vb _,λhe=>absurd he hf.2⟩
theorem Gd.dn {c:Cx} {d:Nat} (hd:d+1<=40) {r:Rd} (h:Gd c d r):Gd c (d+1) (dnR r):=by
 refine⟨h.a,?_⟩;rcases h.v with h1|h1
 . exact .inl h1
 . right;have:IntKind.i64.wrap (r.v-1)=r.v-1:=Qah (by omega) (by omega);simp only[dnR,this]; omega
theorem Qmk {c:Cx} {d:Nat} (hd:d<=40) {cmp ntP:Rd->Ex×Rd} (h1:Kp c d cmp) (h2:∀ d',d=d'+1->Kp c d' ntP):Kp c d (Qat c cmp ntP):=by
 intro r h;unfold Qat;split
 . obtain⟨k1,k2,k3⟩:=QkA hd (s:=[110,111,116]) h;split
   . rename_i he;exact⟨⟨k1,.inl he⟩,k2⟩
   . rename_i he;obtain⟨d',rfl,hg⟩:=k3 (by simpa using he);obtain⟨k4,k5⟩:=h2 d' rfl _ hg;exact⟨k4.dn hd,Vi k2 k5⟩
 . exact h1 r h
theorem QqX {c:Cx} {d:Nat} {orP:Rd->Ex×Rd} (hk:Kp c d orP):∀ (n:Nat) (l:List Ex) (r:Rd),Gd c d r->Gd c d (QH c orP n l r).2/\r.a<=(QH c orP n l r).2.a/\((QH c orP n l r).1=none->(QH c orP n l r).2.e≠0)
 |0,l,r,h=>⟨h,Vb _,λh=>by cases h⟩
 |n+1,l,r,h=>by
  rw[QH];obtain⟨k1,k2⟩:=Qda [44] r h;split
  . rename_i he;exact⟨k1,k2,λ_=>he⟩
  . obtain⟨k3,k4⟩:=hk _ k1;obtain⟨k5,k6,k7⟩:=QqX hk n (l++[(orP (Qh c [44] r).2).1]) _ k3;exact⟨k5,Vi k2 (Vi k4 k6),k7⟩
theorem QvN {c:Cx} {d:Nat} (hd:d<=40) {orP:Rd->Ex×Rd} (hk:∀ d',d=d'+1->Kp c d' orP) (s:ZE) (op:Int) (m:Nat) (p:Int):Kp c d (Qcf c orP s op m p):=by
 intro r h;obtain⟨k1,k2⟩:=Qda s r h;obtain⟨k3,k4,k5⟩:=QkA hd (s:=[40]) k1;unfold Qcf;dsimp only;split
 . rename_i he;exact⟨⟨k3,.inl he⟩,Vi k2 k4⟩
 . rename_i he;obtain⟨d',rfl,hg⟩:=k5 (by simpa using he);obtain⟨k6,k7⟩:=hk d' rfl _ hg;obtain⟨k8,k9,k10⟩:=QqX (hk d' rfl) m [(orP (Qr c [40] (Qh c s r).2).2).1] _ k6;split
   . rename_i r3 hr;rw[hr]at k8 k9 k10;exact⟨⟨k8.a,.inl (k10 rfl)⟩,Vi k2 (Vi k4 (Vi k7 k9))⟩
   . rename_i l r3 hr;rw[hr]at k8 k9 k10;obtain⟨k11,k12⟩:=Qda [41] r3 k8;exact⟨k11.dn hd,Vi k2 (Vi k4 (Vi k7 (Vi k9 k12)))⟩
theorem Qng {c:Cx} {d:Nat} (hd:d<=40) {orP facP:Rd->Ex×Rd} (h1:∀ d',d=d'+1->Kp c d' orP) (h2:∀ d',d=d'+1->Kp c d' facP):Kp c d (QF c orP facP):=by
 intro r h;unfold QF;split
 . exact⟨h,Vb _⟩
 split
 . exact Qcq r h
 split
 . obtain⟨k1,k2,k3⟩:=QkA hd (s:=[45]) h;split
   . rename_i he;exact⟨⟨k1,.inl he⟩,k2⟩
   . rename_i he;obtain⟨d',rfl,hg⟩:=k3 (by simpa using he);obtain⟨k4,k5⟩:=h2 d' rfl _ hg;exact⟨k4.dn hd,Vi k2 k5⟩
 split
 . obtain⟨k1,k2,k3⟩:=QkA hd (s:=[40]) h;split
   . rename_i he;exact⟨⟨k1,.inl he⟩,k2⟩
   . rename_i he;obtain⟨d',rfl,hg⟩:=k3 (by simpa using he);obtain⟨k4,k5⟩:=h1 d' rfl _ hg;obtain⟨k6,k7⟩:=Qda [41] _ k4;exact⟨k6.dn hd,Vi k2 (Vi k5 k7)⟩
 split
 . exact QvN hd h1 _ _ _ _ r h
 . exact Qch r h
theorem QlL (c:Cx):∀ d:Nat,d<=40->Kp c d (lv c d).fac/\Kp c d (lv c d).nt/\Kp c d (Q6 c (lv c d))
 |0,hd=>by
  have h1:Kp c 0 (lv c 0).fac:=Qng hd (λd' h=>by omega) (λd' h=>by omega);have h2:Kp c 0 (lv c 0).nt:=Qmk hd (Qmo (Qd8 (Qd8 h1))) (λd' h=>by omega);exact⟨h1,h2,Qd8 (Qd8 h2)⟩
 |d+1,hd=>by
  obtain⟨p1,p2,p3⟩:=QlL c d (by omega);have h1:Kp c (d+1) (lv c (d+1)).fac:=Qng hd (λd' h=>by cases h; exact p3) (λd' h=>by cases h; exact p1);have h2:Kp c (d+1) (lv c (d+1)).nt:=Qmk hd (Qmo (Qd8 (Qd8 h1))) (λd' h=>by cases h; exact p2);exact⟨h1,h2,Qd8 (Qd8 h2)⟩
section
variable {H:ZG} {c:Cx} {r:Rd} {j:Nat}
theorem Qpd (op n:Int) (nm:ZE) (p:Int):SV.le (.agg [i64 op,i64 n,st (B nm),.val (.slice none 0 0),i64 p]) (Ex.mk op n nm [] p).v:=by
 simp only[Ex.v,Ex.c,Ex.cL,VH];exact Qga (leL.cons (SV.le.refl _) (leL.cons (SV.le.refl _) (leL.cons (SV.le.refl _) (leL.cons QdV (leL.cons (SV.le.refl _) leL.nil)))))
theorem Qsm {o:AO} (hcl:closed (H.set j o)) (op n:Int) (nm:ZE) (p:Int) (L:ZG):Cv H.length (.agg [i64 op,i64 n,st (B nm),.val (.slice none 0 0),i64 p]) (H.set j o++L) (Ex.mk op n nm [] p).v (H.set j o) :=
 Cv.le (Qq (r1:=.agg [i64 op,i64 n,st (B nm),.val (.slice none 0 0),i64 p]) (r:=.agg [i64 op,i64 n,st (B nm),.val (.slice none 0 0),i64 p]) (n0:=H.length) 3 hcl (by simp) (by simp)) (Qpd op n nm p)
end
section
variable {H:ZG} {c:Cx} {r:Rd} {j:Nat}
theorem Qfg:∀ a:List Ex,(Ex.cL a).length=a.length*5
 |[]=>rfl
 |x::a=>by rw[Ex.cL,Vj,Qfg a]; simp; omega
end
section
variable {H:ZG} {c:Cx} {r:Rd} {j:Nat}
@[simp] theorem QGd (n:Nat) (ks:List Nat) (L:ZG) (d:Nat) (l:List Ex):(Ex.cL l).map (SV.fz n ks L (d+1))=Ex.cL l:=QcN _ _ _ _ (Ex.undL _ l)
end
def orT (c:Cx):Rd->Ex×Rd:=Q6 c (lv c 40)
def QbL (c:Cx):Ex×Int×Int :=
 let x:=orT c ⟨0,0,0,0⟩
 let r:=if x.2.a<c.ts.length then Qg c 11 x.2 else x.2
 if r.e≠0 then(zE,r.e,r.p)else(x.1,0,0)
def QO (l:ZE):Ex×Int×Int :=
 if(Qi l).2.1≠0 then(zE,(Qi l).2)else QbL ⟨(Qi l).1,l.length⟩
theorem Qrg (l:List Ev):(QY l).length<=l.length:=by
 induction l with
 |nil=>simp[QY]
 |cons x r ih=>cases x<;>simp[QY]<;>omega
theorem Qms (l:ZE):∀ (n p:Nat),(evs l n p).length<=n
 |0,p=>by simp[evs]
 |n+1,p=>by
  simp only[evs];have:=Qms l n;split
  . split<;>simp<;>first|omega|(have:=this ‹_›; omega)|skip
  . simp
theorem Qnw (l:ZE):(Qi l).1.length<=20000:=by
 unfold Qi;split
 . simp
 . rename_i h;split
   . refine Vi (Qrg _) (Vi (Qms l l.length 0) (by omega))
   . simp
def mpK (ops:List (ZE×Int)):ZI:=ops.map λo=>.string (B o.1)
def mpV (ops:List (ZE×Int)):ZH:=ops.map λo=>i64 o.2
def mpS (ops:List (ZE×Int)):SV:=.mpf (mpK ops) (mpV ops)
def Qkb:ZH:=[mpS orO,mpS Qbx,mpS Qa2,mpS Qa6,mpS QaV]
def pdC (c:Cx) (a:Nat) (v:Int):ZH:=[Qbc c.ts,i64 a,i64 c.en,mpS orO,mpS Qbx,mpS Qa2,mpS Qa6,mpS QaV,i64 v]
def pdO (c:Cx) (r:Rd):AO:=⟨pdC c r.a r.v,127,0,true⟩
def Q0 (e p:Int):SV:=.ifc 28 (QE e p)
def zTk:Tok:=⟨0,[],0,0⟩
def tkR (c:Cx) (r:Rd):Tok:=if h:r.a<c.ts.length then c.ts[r.a]else zTk
theorem QBZ {ts:List Tok} {i:Nat} (h:i<ts.length):List.take 4 (List.drop (i*4) (ts.flatMap Tok.c))=(ts[i]'h).c:=by
 induction ts generalizing i with
 |nil=>simp at h
 |cons t r ih =>
  rw[VV]
  cases i with
  |zero=>rw[Yi,Yx,YX (by simp[Tok.c])]; rfl
  |succ i =>
   have e:(i+1)*4=t.c.length+i*4:=by simp[Tok.c]; omega
   rw[e,YH,List.drop_eq_nil_of_le (by omega),VA,Zl];exact ih (by simpa using h)
theorem Tok.c_len (t:Tok):t.c.length=4:=rfl
theorem Tok.cOk (t:Tok):QD t.c:=by
 intro s hs;simp[Tok.c]at hs;rcases hs with rfl|rfl|rfl|rfl<;>rfl
structure Qw (H:ZG) (js:List Nat) (H':ZG):Prop where
 len:H.length<=H'.length
 at_:∀ i,i<H.length->i∉js->H'[i]? = H[i]?
theorem Qw.refl (H:ZG) (js:List Nat):Qw H js H:=⟨Vb _,λ_ _ _=>rfl⟩
theorem Qw.set {H:ZG} {js:List Nat} {j:Nat} (hj:j∈js) (o:AO):Qw H js (H.set j o):=by
 refine⟨by simp,λi _ hi => ?_⟩;rw[Vf];rintro rfl; exact hi hj
theorem Qw.trans {H H' H'':ZG} {js:List Nat} (h:Qw H js H') (h':Qw H' js H''):Qw H js H'' :=
 ⟨Vi h.len h'.len,λi hi hj=>(h'.at_ i (YM hi h.len) hj).trans (h.at_ i hi hj)⟩
section
variable {H:ZG} {c:Cx} {r:Rd} {j:Nat}
theorem Qgb (ho:H[j]? = some (pdO c r)):Ok Tryz.prog 91 [rp j] H (.ret (i64 (Qk c r))) H:=by
 have hj:=Ql ho;have e1:Qo H j 0=(pdO c r).cells:=Qav (o:=pdO c r) ho rfl;refine Qz hm Tryz.func91 c91 (by simp[rp]) λhcl => ?_;unfold Qk;by_cases h:r.a<c.ts.length
 . have k3:=QBn (k:=3) h (by omega);simp -implicitDefEqProofs[i91,r91,rp,e1,pdO,pdC,h,Qbc,k3,Tok.c];exact⟨by simp[Qiw]; omega,Qj⟩
 . simp -implicitDefEqProofs[i91,r91,rp,e1,pdO,pdC,h,Qbc];exact Qj
theorem Qc3 (ho:H[j]? = some (pdO c r)) (e:Int):Ok Tryz.prog 79 [rp j,i64 e] H (.pan (Q0 e (Qk c r))) H:=by
 have hj:=Ql ho;have h91:=Qgb ho;refine Qz hm Tryz.func79 c79 (by simp[rp]) λhcl => ?_;simp -implicitDefEqProofs[i79,r79];refine Qc h91 ?_;simp -implicitDefEqProofs[Q0,QE];exact Qj
theorem Qea (ho:H[j]? = some (pdO c r)):Ok Tryz.prog 139 [rp j] H (.ret (tkR c r).v) H:=by
 have hj:=Ql ho;have e1:Qo H j 0=(pdO c r).cells:=Qav (o:=pdO c r) ho rfl;have e1L:∀ L,Qo (H++L) j 0=(pdO c r).cells:=λL=>by rw[Qlt L hj]; exact e1
 refine Qz hm Tryz.func139 c139 (by simp[rp]) λhcl => ?_;unfold tkR;by_cases h:r.a<c.ts.length
 . have kt:=QBZ h;have hm4:min 4 (c.ts.length*4-r.a*4)=4:=by omega
   have ht:List.take 4 (c.ts[r.a]'h).c=(c.ts[r.a]'h).c:=rfl;simp -implicitDefEqProofs[QmA,Qmc,rp,e1L,pdO,pdC,h,Qbc,kt,Tok.c_len,Qiw,ht];refine⟨by omega,Tok.cOk _,?_⟩;exact Qq 2 hcl rfl rfl
 . simp -implicitDefEqProofs[QmA,Qmc,rp,e1L,pdO,pdC,h,Qbc];exact Qq 2 hcl rfl rfl
end
end Go.Proofs.YtmkdpmfhlfhjkaaGreatDoor
namespace Go.Proofs.YtmkdpmfhlfhjkaaGreatDoor
open Go.Ab
def wds (l:ZD):ZH:=l.map λs=>st (B s)
@[simp] theorem Qpz (l:ZD):(wds l).length=l.length:=by simp[wds]
structure IsS (H:ZG) (x:SV) (l:ZD):Prop where
 vd:x.vd=true
 ug:x.ug=x
 sl:x.isSl=true
 cell:x.isCell=true
 sz:x.szIs 1=true
 len:x.slen=l.length
 und:x.under H.length=true
 row:(x.row H).take l.length=wds l
 flat:x.flat=[x]
namespace IsS
variable {H:ZG} {x:SV} {l:ZD}
theorem app (h:IsS H x l) (L:ZG):IsS (H++L) x l :=
 ⟨h.vd,h.ug,h.sl,h.cell,h.sz,h.len,SV.under_mono (by simp) x h.und,by rw[Qun L h.und]; exact h.row,h.flat⟩
theorem slc (H:ZG) (l:ZD):IsS H (.slc (wds l) l.length) l :=
 ⟨rfl,rfl,rfl,rfl,rfl,rfl,by simp[SV.under,wds,SV.underL_iff],by simp[SV.row,<- Qpz],rfl⟩
theorem rowlen (h:IsS H x l):l.length<=(x.row H).length:=by
 have:=Zp List.length h.row;simp at this; omega
theorem ld (h:IsS H x l) {k:Nat} (hk:k<l.length):((x.row H).drop k).headD .any=st (B (l[k]'hk)):=by
 have h2:((x.row H).take l.length)[k]? = (wds l)[k]? := by rw[h.row]
 rw[YN hk]at h2;rw[Za,List.head?_drop,h2];simp[wds,hk]
theorem okA (h:IsS H x l) (L:ZG) {k:Nat} (hk:k<l.length):Qfm (H++L) (.ptr x k) 1:=by
 have:=(h.app L).rowlen;simp only[Qfm,Qjr,YF]; omega
theorem vA (h:IsS H x l) (L:ZG) {k:Nat} (hk:k<l.length):ldv (H++L) (.ptr x k)=st (B (l[k]'hk)):=by
 have:=(h.app L).ld hk;simp only[ldv,Qjr,this]
theorem own1 {H L:ZG} {T:ZK} {l:ZD} {k n ver:Nat} (h:L[k]? = some ⟨wds l,T,ver,true⟩) (hn:n=l.length):IsS (H++L) (.own (H.length+k) 0 n 1 ver) l:=by
 subst hn;refine⟨rfl,rfl,rfl,rfl,rfl,rfl,?_,?_,rfl⟩
 . have:k<L.length:=Ql h;simp; omega
 . simp only[SV.row,QfX,Yx];unfold Qo;rw[h];simp[<-Qpz]
end IsS
end Go.Proofs.YtmkdpmfhlfhjkaaGreatDoor
namespace Go.Proofs.YtmkdpmfhlfhjkaaGreatDoor
open Go.Ab
section
variable {H:ZG} {c:Cx} {r:Rd} {j:Nat}
theorem QAD (n:Nat) (ops:List (ZE×Int)):(mpS ops).under n=true:=by
 simp[mpS,SV.under,SV.underL_iff,mpV];rintro _ _ _ _ rfl;rfl
theorem QpR (n:Nat) (c:Cx) (a:Nat) (v:Int):SV.underL n (pdC c a v)=true:=by
 simp[pdC,SV.underL,SV.under,Qbc,Qn7,QAD]
theorem QbQ {a:Nat} {v:Int} (h:closed H):closed (H.set j ⟨pdC c a v,127,0,true⟩):=by
 have:=Qfj h j (o:=⟨pdC c a v,127,0,true⟩) (QpR _ _ _ _);simpa using this
theorem Qqd {G:ZG} {q:Nat} {t:Tok} (hq:G[q]? = some ⟨t.c,52,0,true⟩) {x:SV} {l:ZD} (hx:IsS G x l) (hl:l.length<4611686018427387904) {N:Nat} {K:ZF}
 (hyes:t.tx∈l->∀ env,env.get 4=bl true->K .ret env G) (hno:t.tx∉l->∀ env,K (.exit 0) env G) :
 ∀ (m i:Nat) (env:Env),i+m=l.length->t.tx∉l.take i->env.get 5=rp q->env.get 10=x->env.get 11=i64 l.length->env.get 12=i64 i->LI Tryz.prog N Qf QlF env G K:=by
 have e1:Qo G q 0=t.c:=Qav (o:=⟨t.c,52,0,true⟩) hq rfl;intro m
 induction m with
 |zero =>
  intro i env hi hn h5 h10 h11 h12;refine Qu hm QlF.eq_1 ?_;have e:i=l.length:=by omega
  subst e;rw[VI]at hn;simp[h5,h10,h11,h12];exact hno hn _
 |succ m ih =>
  intro i env hi hn h5 h10 h11 h12;refine Qu hm QlF.eq_1 ?_;have hlt:i<l.length:=by omega
  have hlt':(i:Int)<l.length:=by omega
  have hv:=hx.vA [] hlt;have ho:=hx.okA [] hlt;simp only[VE]at hv ho;by_cases hs:t.tx=l[i]
  . simp[h5,h10,h11,h12,hlt',hx.vd,hx.ug,hx.sl,hx.len,hv,ho,rp,e1,Tok.c,hs];exact hyes (hs ▸ Vt hlt) _ (by simp)
  . simp[h5,h10,h11,h12,hlt',hx.vd,hx.ug,hx.sl,hx.len,hv,ho,rp,e1,Tok.c,hs];refine ih (i+1) _ (by omega) ?_ ?_ ?_ ?_ ?_
    . rw[Yy hlt,Vq];rintro(h|h)
      . exact hn h
      . exact hs (VU.1 h)
    all_goals simp[QaJ (show i<9223372036854775807 by omega),rp]
theorem Qfa (ho:H[j]? = some (pdO c r)) {x:SV} {l:ZD} (hx:IsS H x l) (hl:l.length<4611686018427387904):Ok Tryz.prog 93 [rp j,x] H (.ret (bl (decide ((tkR c r).tx∈l)))) H:=by
 have hj:=Ql ho;have h139:=Qea ho;generalize tkR c r=t at h139 ⊢;refine Qz hm Tryz.func93 c93 (by simp[rp]) λhcl => ?_;simp[i93,r93];refine Qc h139 ?_;simp[Tok.v,Tok.c,hx.vd,hx.ug,hx.sl,hx.len];by_cases ht:t.tx∈l
 . refine Qqd (G:=H++[⟨t.c,52,0,true⟩]) (q:=H.length) (t:=t) (by simp) (hx.app _) hl (λ_ env h4 => ?_) (λh=>absurd ht h) l.length 0 _ (by omega) (by simp) ?_ ?_ ?_ ?_
   . simp[h4,ht];exact Qq 2 hcl rfl rfl
   all_goals simp[rp]
 . refine Qqd (G:=H++[⟨t.c,52,0,true⟩]) (q:=H.length) (t:=t) (by simp) (hx.app _) hl (λh=>absurd h ht) (λ_ env => ?_) l.length 0 _ (by omega) (by simp) ?_ ?_ ?_ ?_
   . simp[ht];exact Qq 2 hcl rfl rfl
   all_goals simp[rp]
theorem Qf8 (ho:H[j]? = some (pdO c r)) (hl:r.a<4611686018427387904):Ok Tryz.prog 140 [rp j] H (.ret (tkR c r).v) (H.set j (pdO c (Qa r))):=by
 have hj:=Ql ho;have e1:Qo H j 0=(pdO c r).cells:=Qav (o:=pdO c r) ho rfl;have e1L:∀ L,Qo (H++L) j 0=(pdO c r).cells:=λL=>by rw[Qlt L hj]; exact e1
 have e2:∀ (L:ZG) (f:AO->AO),Ab.setObj (H++L) j f=H.set j (f (pdO c r))++L:=λL f=>by
  rw[Qb5 (o:=pdO c r) (by rw[Vc hj]; exact ho),Vm _ _ hj]
 have h139:=λL=>Qea (H:=H++L) (c:=c) (r:=r) (j:=j) (by rw[Vc hj]; exact ho);have w1:=QlW (show r.a<9223372036854775807 by omega);generalize tkR c r=t at h139 ⊢;refine Qz hm Tryz.func140 c140 (by simp[rp]) λhcl => ?_;simp[i140,r140];refine Qc (h139 _) ?_;simp[Tok.v,Tok.c,rp,e1L,e2,pdO,pdC,w1];exact Qq 2 (QbQ (c:=c) (a:=r.a+1) (v:=r.v) hcl) (by simp) rfl
end
def QiO:ZE->Bool
 |[]=>false
 |b::_=>decide (48<=b.toNat/\b.toNat<=57)
def Q4 (c:Cx):Prop:=∀ t∈c.ts,t.k=2->QiO t.tx=true
def QcW (s:ZE):Bool := !s.isEmpty && !QiO s
theorem QcV {c:Cx} (hn:Q4 c) {s:ZE} (hs:QcW s=true) {r:Rd} (he:r.e=0):Qd c s r=decide ((tkR c r).tx=s):=by
 unfold QcW at hs;rw[Va,VM,VM]at hs;unfold Qd Qaj tkR;by_cases h:r.a<c.ts.length
 . simp only[he,h,dite_true,decide_true,Bool.true_and];by_cases h2:c.ts[r.a].k=2
   . have:=hn _ (Vt h) h2;have hne:c.ts[r.a].tx≠s:=λe=>by rw[e,hs.2]at this; cases this
     simp[h2,hne]
   . simp[h2]
 . have hne:([]:ZE)≠s:=λe=>by rw[<-e]at hs; simp at hs
   simp[he,h,zTk,hne]
theorem QgL {c:Cx} (hn:Q4 c) {s:ZE} (hs:QcW s=true) {r:Rd} (he:r.e=0):decide ((tkR c r).tx∈[s])=Qd c s r:=by
 rw[QcV hn hs he]; simp
theorem QnK {c:Cx} {r:Rd} (he:r.e=0):QU c r=(decide ((tkR c r).k=1) && !decide ((tkR c r).tx∈Qa0)):=by
 unfold QU Qaj tkR;by_cases h:r.a<c.ts.length
 . simp[he,h]
 . simp[he,h,zTk]
theorem Qkv {c:Cx} {r:Rd} (he:r.e=0):QaX c r=decide ((tkR c r).k=2):=by
 unfold QaX Qaj tkR;by_cases h:r.a<c.ts.length
 . simp[he,h]
 . simp[he,h,zTk]
theorem QkX (s:ZE):∀ ops:List (ZE×Int),lkm (.string (B s)) (mpK ops) (mpV ops)=(ops.find? λo=>decide (s=o.1)).map λo=>i64 o.2
 |[]=>rfl
 |o::r=>by
  have h:=QkX s r;simp only[mpK,mpV]at h;simp only[mpK,mpV,Vg,lkm,Yz,QaL];by_cases hs:s=o.1
  . simp[hs]
  . simp[hs,h]
theorem QkB {c:Cx} (hn:Q4 c) {r:Rd} (he:r.e=0):∀ {ops:List (ZE×Int)},(ops.all λo=>QcW o.1)=true->Qal c ops r=(ops.find? λo=>decide ((tkR c r).tx=o.1)).map (·.2)
 |[],_=>rfl
 |o::l,h=>by
  rw[YP,Va]at h;have:=QkB hn he h.2;unfold Qal at this ⊢;rw[Yz,Yz,QcV hn h.1 he];by_cases ht:(tkR c r).tx=o.1
  . simp[ht]
  . simp[ht,this]
section
variable {H:ZG} {c:Cx} {r:Rd} {j:Nat}
theorem Qkn {G L:ZG} {j k ver T:Nat} {l:ZD} {n:Nat} (hj:j<G.length) (h:L[k]? = some ⟨wds l,T,ver,true⟩) (hn:n=l.length) (o:AO):IsS ((G++L).set j o) (.own (G.length+k) 0 n 1 ver) l:=by
 rw[Vm _ _ hj];have:=IsS.own1 (H:=G.set j o) (L:=L) (k:=k) h hn;simpa using this
def Qae (c:Cx) (s:ZE) (r:Rd):Rd:=if Qd c s r=true then Qa r else r
theorem Qde (hn:Q4 c) (ho:H[j]? = some (pdO c r)) (hl:r.a<4611686018427387904) (he:r.e=0) {s:ZE} (hs:QcW s=true) :
 Ok Tryz.prog 90 [rp j,st (B s)] H (.ret (bl (Qd c s r))) (H.set j (pdO c (Qae c s r))):=by
 have hj:=Ql ho;have e1:Qo H j 0=(pdO c r).cells:=Qav (o:=pdO c r) ho rfl;have e1L:∀ L,Qo (H++L) j 0=(pdO c r).cells:=λL=>by rw[Qlt L hj]; exact e1
 have e2:∀ (L:ZG) (f:AO->AO),Ab.setObj (H++L) j f=H.set j (f (pdO c r))++L:=λL f=>by
  rw[Qb5 (o:=pdO c r) (by rw[Vc hj]; exact ho),Vm _ _ hj]
 have h93:=Qfa (H:=H++[⟨[st (B s)],9,0,true⟩]) (c:=c) (r:=r) (j:=j) (by rw[Vc hj]; exact ho) (x:=.own H.length 0 1 1 0) (l:=[s]) (IsS.own1 (k:=0) rfl rfl) (by simp);rw[QgL hn hs he]at h93;have w1:=QlW (show r.a<9223372036854775807 by omega);refine Qz hm Tryz.func90 c90 (by simp[rp]) λhcl => ?_;simp[i90,r90];refine Qc h93 ?_;unfold Qae;by_cases hp:Qd c s r=true
 . simp[hp,rp,e1L,e2,pdO,pdC,w1];exact Qq 2 (QbQ (c:=c) (a:=r.a+1) (v:=r.v) hcl) (by simp) rfl
 . rw[Vk]at hp;simp[hp];rw[QcZ ho];exact Qq 2 hcl rfl rfl
def QcM (c:Cx):ZD->Rd->Rd
 |[],r=>r
 |s::l,r=>QcM c l (Qh c s r).2
def PdV {α:Type} (c:Cx) (G:ZG) (j:Nat) (f:α->SV) (q:α×Rd) (o:Out) (H':ZG):Prop :=
 if q.2.e=0 then o=.ret (f q.1)/\H'=G.set j (pdO c q.2)else o=.pan (Q0 q.2.e q.2.p)/\Qw G [j] H'
theorem Qq8 (c:Cx):∀ (l:ZD) (r:Rd),r.e≠0->QcM c l r=r
 |[],r,_=>rfl
 |s::l,r,h=>by
  have hp:Qd c s r=false:=by simp[Qd,Qaj,h]
  rw[QcM];have:(Qh c s r).2=r:=by simp[Qh,hp,Qg,h]
  rw[this]; exact Qq8 c l r h
theorem Qua (hn:Q4 c) (hj:j<H.length) {x:SV} {l:ZD} (hx:∀ o,IsS (H.set j o) x l) (hl:l.length<4611686018427387904) (hct:c.ts.length<4611686018427387904) (hw:∀ s∈l,QcW s=true) {N:Nat} {K:ZF} {res:Rd}
 (hexit:res.e=0->∀ env,K (.exit 0) env (H.set j (pdO c res))) (hpan:res.e≠0->∀ env r,K (.panic (Q0 res.e res.p)) env (H.set j (pdO c r))) :
 ∀ (m i:Nat) (r:Rd) (env:Env),i+m=l.length->QcM c (l.drop i) r=res->r.e=0->r.a<=c.ts.length->env.get 0=rp j->env.get 6=x->env.get 7=i64 l.length->env.get 8=i64 i->LI Tryz.prog N Qf Qkr env (H.set j (pdO c r)) K:=by
 intro m
 induction m with
 |zero =>
  intro i r env hi hr he ha h0 h6 h7 h8;refine Qu hm Qkr.eq_1 ?_;have e:i=l.length:=by omega
  subst e;rw[Yo,QcM]at hr;subst hr;simp[h0,h6,h7,h8];exact hexit he _
 |succ m ih =>
  intro i r env hi hr he ha h0 h6 h7 h8;refine Qu hm Qkr.eq_1 ?_;have hlt:i<l.length:=by omega
  have hlt':(i:Int)<l.length:=by omega
  have hxo:=hx (pdO c r);have hv:=hxo.vA [] hlt;have ho:=hxo.okA [] hlt;simp only[VE]at hv ho;rw[VT hlt,QcM]at hr;have hws:=hw _ (Vt hlt);generalize l[i]=s at hv hr hws;have hoj:(H.set j (pdO c r))[j]? = some (pdO c r):=by simp[hj]
  have h90:=Qde hn hoj (by omega) he hws;simp[h0,h6,h7,h8,hlt',hxo.vd,hxo.ug,hxo.sl,hxo.len,hv,ho];refine Qc h90 ?_;by_cases hp:Qd c s r=true
  . have ht:(Qh c s r).2=Qa r:=by simp[Qh,hp]
    rw[ht]at hr;have hlt2:=Qam hp;simp[hp,h0,h6,h7,h8,Qae];exact ih (i+1) (Qa r) _ (by omega) hr he (by simp[Qa]; omega) (by simp) (by simp) (by simp) (by simp[QaJ (show i<9223372036854775807 by omega)])
  . rw[Vk]at hp;have ht:(Qh c s r).2=Qg c 11 r:=by simp[Qh,hp]
    have hfe:(Qg c 11 r).e=11:=by simp[Qg,he]
    rw[ht,Qq8 c _ _ (by rw[hfe]; decide)]at hr;have h79:=Qc3 hoj 11;have hfp:(Qg c 11 r).p=Qk c r:=by simp[Qg,he]
    simp[hp,h0,h6,h7,h8,Qae];refine Qc h79 ?_;rw[<-hr,hfe,hfp]at hpan;simp[hp];exact hpan (by decide) _ r
theorem Qlx (hn:Q4 c) (ho:H[j]? = some (pdO c r)) {x:SV} {l:ZD} (hx:∀ o,IsS (H.set j o) x l) (hl:l.length<4611686018427387904) (hct:c.ts.length<4611686018427387904) (hw:∀ s∈l,QcW s=true) (he:r.e=0) (ha:r.a<=c.ts.length) :
 OkP Tryz.prog 87 [rp j,x] H (PdV c H j (λ_:Unit=>.tup []) ((),QcM c l r)):=by
 have hj:=Ql ho;have hxo:=hx (pdO c r);refine Qbd hm Tryz.func87 c87 (by have:=hxo.und; simp at this; simp[rp]) λhcl => ?_;simp[i87,r87,hxo.vd,hxo.ug,hxo.sl,hxo.len];refine LI.cong (H':=H.set j (pdO c r)) (QcZ ho) ?_;refine Qua hn hj hx hl hct hw (res:=QcM c l r) (λhe env => ?_) (λhe env r' => ?_) l.length 0 r _ (by omega) rfl he ha (by simp) (by simp) (by simp) (by simp)
 . simp;exact⟨_,_,by unfold PdV; rw[Zo he]; exact⟨rfl,rfl⟩,Qj⟩
 . exact⟨_,_,by unfold PdV; rw[Zn he]; exact⟨rfl,Qw.set (by simp) _⟩,Qj⟩
end
section
variable {H:ZG} {c:Cx} {r:Rd} {j:Nat}
set_option maxRecDepth 10000 in
theorem Qp1 (s:ZE):Ok Tryz.prog 146 [st (B s)] H (.ret (bl (decide (s∈Qa0)))) H:=by
 refine Qz hm Tryz.func146 c146 (by simp) λhcl => ?_;by_cases h:s∈Qa0
 . have h':=h;simp only[Qa0,Vd,Vu,Zt]at h';rcases h' with rfl | rfl | rfl | rfl | rfl | rfl | rfl | rfl | rfl | rfl | rfl | rfl | rfl | rfl | rfl | rfl | rfl | rfl | rfl | rfl | rfl | rfl <;>
    (simp -implicitDefEqProofs[Qnt,QlY,h]; exact Qj)
 . have h':=h;simp only[Qa0,Vd,Vu,Zt,not_or]at h';simp -implicitDefEqProofs[Qnt,QlY,h,h'];exact Qj
theorem Qhb (ho:H[j]? = some (pdO c r)) (he:r.e=0):Ok Tryz.prog 92 [rp j] H (.ret (bl (QU c r))) H:=by
 have hj:=Ql ho;have h139:=Qea ho;rw[QnK he];generalize tkR c r=t at h139 ⊢;refine Qz hm Tryz.func92 c92 (by simp[rp]) λhcl => ?_;simp -implicitDefEqProofs[i92,r92];refine Qc h139 ?_;simp -implicitDefEqProofs[Tok.v,Tok.c];by_cases hk:t.k=1
 . simp -implicitDefEqProofs[hk];refine QZ (r:=bl (decide (t.tx∈Qa0))) (λ_=>Qp1 t.tx) ?_;simp -implicitDefEqProofs[hk];exact Qq 2 hcl rfl rfl
 . simp -implicitDefEqProofs[hk];refine Qcm _ _ _ _ ?_;simp -implicitDefEqProofs[hk];exact Qq 2 hcl rfl rfl
def dpR (c:Cx) (r:Rd):Rd:=if r.v=40 then Qg c 5 (upR r)else Qa (upR r)
theorem QtB (ho:H[j]? = some (pdO c r)) (hv:0<=r.v/\r.v<=40) (ha:r.a<4611686018427387904) (he:r.e=0):OkP Tryz.prog 178 [rp j] H (PdV c H j (λ_:Unit=>.tup []) ((),dpR c r)):=by
 have hj:=Ql ho;have e1:Qo H j 0=(pdO c r).cells:=Qav (o:=pdO c r) ho rfl;have e2:∀ (f:AO->AO),Ab.setObj H j f=H.set j (f (pdO c r)):=λf=>Qb5 ho f;have w1:IntKind.i64.wrap (r.v+1)=r.v+1:=Qah (by omega) (by omega);have ho2:(H.set j (pdO c (upR r)))[j]? = some (pdO c (upR r)):=by simp[hj]
 have h79:=Qc3 ho2 5;have h140:=Qf8 ho2 (by simpa[upR]using ha);have e3:=QxS hj (pdO c (upR r)).cells 127;have hu:pdO c (upR r)=⟨[Qbc c.ts,i64 r.a,i64 c.en,mpS orO,mpS Qbx,mpS Qa2,mpS Qa6,mpS QaV,i64 (r.v+1)],127,0,true⟩:=by simp[pdO,pdC,upR,w1]
 simp only[hu]at h79 h140 e3;refine Qbd hm Tryz.func178 c178 (by simp[rp]) λhcl => ?_;by_cases hv2:r.v=40
 . have hb:dpR c r=Qg c 5 (upR r):=by rw[dpR,Zo hv2]
   have hb2:(Qg c 5 (upR r)).e=5/\(Qg c 5 (upR r)).p=Qk c (upR r):=by simp[Qg,upR,he]
   have hgt:40<r.v+1:=by omega
   simp -implicitDefEqProofs[QlJ,QnJ,rp,e1,e2,pdO,pdC,w1,e3,hgt];refine Qc h79 ?_;simp -implicitDefEqProofs;refine⟨_,_,?_,Qj⟩;unfold PdV;rw[hb,Zn (by rw[hb2.1]; decide),hb2.1,hb2.2];exact⟨rfl,Qw.set (by simp) _⟩
 . have hb:dpR c r=Qa (upR r):=by rw[dpR,Zn hv2]
   have hgt:¬ 40<r.v+1:=by omega
   simp -implicitDefEqProofs[QlJ,QnJ,rp,e1,e2,pdO,pdC,w1,e3,hgt];refine Qc h140 ?_;simp -implicitDefEqProofs;refine⟨_,_,?_,Qj⟩;unfold PdV;rw[hb,Zo (by exact he)];exact⟨rfl,by simp⟩
def PdP (c:Cx) (G:ZG) (j:Nat) (q:Ex×Rd) (o:Out) (H':ZG):Prop:=PdV c G j (λe:Ex=>e.v) q o H'
def PdC (c:Cx) (k:ZN) (ar:ZH) (F:Rd->Ex×Rd) (d:Nat):Prop :=
 ∀ {G:ZG} {j:Nat} {r:Rd},G[j]? = some (pdO c r)->Gd c d r->r.e=0->OkP Tryz.prog k (rp j::ar) G (PdP c G j (F r))
def OpC (c:Cx) (j:Nat) (f:SV) (Iv:ZG->Prop) (F:Rd->Ex×Rd) (d:Nat):Prop :=
 ∀ {G:ZG} {r:Rd},Iv G->G[j]? = some (pdO c r)->Gd c d r->r.e=0->QfB Tryz.prog f [] G (PdP c G j (F r))
def Qd5 (c:Cx) (op:Int) (F:Rd->Ex×Rd) (r:Rd):Ex×Rd :=
 if r.v=40 then(zE,Qg c 5 (upR r))else(.mk op 0 [] [(F (Qa (upR r))).1] (Qk c r),dnR (F (Qa (upR r))).2)
theorem Qw.of_app {H L H':ZG} {js:List Nat} (h:Qw (H++L) js H'):Qw H js H':=by
 refine⟨Vi (by simp) h.len,λi hi hj => ?_⟩;rw[h.at_ i (by simp; omega) hj,Vc hi]
theorem Qw.of_set {H L H':ZG} {o:AO} (h:Qw (H.set j o++L) [j] H'):Qw H [j] H' :=
 (Qw.set (by simp) o).trans h.of_app
theorem PdP.pan {G H':ZG} {q:Ex×Rd} (he:q.2.e≠0) (h:Qw G [j] H'):PdP c G j q (.pan (Q0 q.2.e q.2.p)) H':=by
 unfold PdP PdV; rw[Zn he]; exact⟨rfl,h⟩
theorem PdP.ret {G H':ZG} {q:Ex×Rd} (he:q.2.e=0) (h:H'=G.set j (pdO c q.2)):PdP c G j q (.ret q.1.v) H':=by
 unfold PdP PdV; rw[Zo he]; exact⟨rfl,h⟩
theorem Qp0 (hct:c.ts.length<4611686018427387904) {Iv:ZG->Prop} (hI:∀ G o L,Iv G->j<G.length->Iv (G.set j o++L)) {d:Nat} (hd:d<=40) {F:Rd->Ex×Rd} {f:SV} (hvd:f.vd=true) (hug:f.ug=f) (hfu:f.under H.length=true)
 (hF:∀ d',d=d'+1->OpC c j f Iv F d') (hi:Iv H) (ho:H[j]? = some (pdO c r)) (hg:Gd c d r) (he:r.e=0) (hlt:r.a<c.ts.length) (op:Int):OkP Tryz.prog 137 [rp j,i64 op,f] H (PdP c H j (Qd5 c op F r)):=by
 have hj:=Ql ho;have hv:r.v+d=40:=hg.v.resolve_left (by simp[he]);have e1:Qo H j 0=(pdO c r).cells:=Qav (o:=pdO c r) ho rfl;have hoL:∀ L,(H++L)[j]? = some (pdO c r):=λL=>by rw[Vc hj]; exact ho
 have h91:=λL=>Qgb (hoL L);have h178:=λL=>QtB (hoL L) (by omega) (by omega) he;refine Qbd hm Tryz.func137 c137 (by simp[rp]) λhcl => ?_;simp -implicitDefEqProofs[i137,r137,rp];refine Qc (by simpa[rp]using h91 _) ?_;simp -implicitDefEqProofs;refine Q5 (by simpa[rp]using h178 _) ?_;intro o H' hp;unfold PdV at hp;by_cases hv2:r.v=40
 . have hb:dpR c r=Qg c 5 (upR r):=by rw[dpR,Zo hv2]
   have hb2:(Qg c 5 (upR r)).e≠0:=by simp[Qg,upR,he]
   have hpf:Qd5 c op F r=(zE,Qg c 5 (upR r)):=by rw[Qd5,Zo hv2]
   rw[hb,Zn hb2]at hp;obtain⟨rfl,hk⟩:=hp;simp -implicitDefEqProofs;refine⟨_,_,?_,Qj⟩;rw[hpf];exact PdP.pan hb2 hk.of_app
 . obtain⟨d',rfl⟩:∃ d',d=d'+1:=⟨d-1,by omega⟩;have hb:dpR c r=Qa (upR r):=by rw[dpR,Zn hv2]
   have w1:IntKind.i64.wrap (r.v+1)=r.v+1:=Qah (by omega) (by omega);have hg2:Gd c d' (Qa (upR r)):=⟨hlt,.inr (by simp[Qa,upR,w1]; omega)⟩;rw[hb,Zo (by exact he)]at hp;obtain⟨rfl,rfl⟩:=hp;rw[Vm _ _ hj];have hc:=λL=>hF d' rfl (G:=H.set j (pdO c (Qa (upR r)))++L) (r:=Qa (upR r)) (hI _ _ _ hi hj) (by rw[Vc (by simpa using hj)]; simp[hj]) hg2 he;simp -implicitDefEqProofs;refine Qtt (hc _) ?_;intro o H' hp;unfold PdP PdV at hp;have hpf:Qd5 c op F r=(.mk op 0 [] [(F (Qa (upR r))).1] (Qk c r),dnR (F (Qa (upR r))).2):=by rw[Qd5,Zn hv2]
   rw[hpf];generalize F (Qa (upR r))=q at hp ⊢;obtain⟨x,r2⟩:=q;simp only at hp ⊢;by_cases he2:r2.e=0
   . rw[Zo he2]at hp;obtain⟨rfl,rfl⟩:=hp;rw[Vm _ _ (by simpa using hj),VD];have e3:=λcs L=>ocL (H:=H) hj cs 127 L;have e4:=λcs L g=>soL (H:=H) hj ⟨cs,127,0,true⟩ L g;simp -implicitDefEqProofs[Ex.v,e3,e4,pdC,pdO];refine⟨_,_,PdP.ret (q:=(.mk op 0 [] [x] (Qk c r),dnR r2)) he2 rfl,?_⟩;refine Qq 3 (QbQ (c:=c) (a:=r2.a) (v:=IntKind.i64.wrap (r2.v-1)) hcl) (by simp) ?_;simp[Ex.v,Ex.c,Ex.cL]
   . rw[Zn he2]at hp;obtain⟨rfl,hk⟩:=hp;simp -implicitDefEqProofs;refine⟨_,_,?_,Qj⟩;exact PdP.pan (q:=(.mk op 0 [] [x] (Qk c r),dnR r2)) he2 hk.of_set
end
theorem QlS {c:Cx} {s:ZE} {r:Rd} (h:r.e≠0):(Qh c s r).2=r:=by
 have hp:Qd c s r=false:=by simp[Qd,Qaj,h]
 simp[Qh,hp,Qg,h]
theorem Qrj {c:Cx} {orP:Rd->Ex×Rd} {m:Nat} {l:List Ex} {r:Rd} (h:r.e≠0):(QH c orP m l r).2=r:=by
 cases m with
 |zero=>rfl
 |succ m=>rw[QH,QlS h,Zo h]
def Qec (c:Cx):Option (List Ex)×Rd->List Ex×Rd
 | (none,r3)=>([],r3)
 | (some l,r3)=>(l,dnR (Qh c [41] r3).2)
def QcJ (c:Cx) (orP:Rd->Ex×Rd) (m:Nat) (r:Rd):List Ex×Rd :=
 if Qd c [40] r=true then
  if r.v=40 then([],Qg c 5 (upR r))else
  Qec c (QH c orP m [(orP (Qa (upR r))).1] (orP (Qa (upR r))).2)
 else([],Qg c 11 r)
theorem Qp7 {c:Cx} {q:Option (List Ex)×Rd} (h:q.2.e≠0):(Qec c q).2.e=q.2.e/\(Qec c q).2.p=q.2.p:=by
 obtain⟨o,r3⟩:=q
 cases o with
 |none=>exact⟨rfl,rfl⟩
 |some l =>
  simp only[Qec];rw[QlS h];exact⟨rfl,rfl⟩
section
variable {H:ZG} {c:Cx} {r:Rd} {j:Nat}
theorem Qs7 (l:List Ex) (x:Ex):Ex.cL (l++[x])=Ex.cL l++x.c:=by
 induction l with
 |nil=>simp[Ex.cL]
 |cons y l ih=>simp[Ex.cL,ih]
theorem QiB (l:List Ex):(Ex.cL l).length=l.length*5:=by
 induction l with
 |nil=>rfl
 |cons y l ih=>simp[Ex.cL,ih]; omega
theorem Qu6 (hn:Q4 c) (hct:c.ts.length<4611686018427387904) (hj:j<H.length) {d:Nat} {F:Rd->Ex×Rd} (hF:PdC c 32 [] F d) (hk:Kp c d F) {n:Nat} (hn3:n<=3) {o0:AO} {N:Nat} {K:ZF} {res:Option (List Ex)×Rd}
 (hexit:∀ l,res.2.e=0->res.1=some l->∀ env M,l.length=n->Gd c d res.2->env.get 0=rp j->env.get 5=.own (H.length+1) 0 l.length 5 (l.length-1)->K (.exit 0) env (H.set j (pdO c res.2)++o0::⟨Ex.cL l,25,l.length-1,true⟩::M))
 (hpan:res.2.e≠0->∀ env H',Qw H [j] H'->K (.panic (Q0 res.2.e res.2.p)) env H') :
 ∀ (m k:Nat) (l:List Ex) (r:Rd) (M:ZG) (env:Env),l.length=k+1->k+1+m=n->QH c F m l r=res->Gd c d r->r.e=0->env.get 0=rp j->env.get 1=i64 n->env.get 5=.own (H.length+1) 0 (k+1) 5 k ->
  LI Tryz.prog N Qf Qi2 env (H.set j (pdO c r)++o0::⟨Ex.cL l,25,k,true⟩::M) K:=by
 intro m
 induction m with
 |zero =>
  intro k l r M env hl hm hr hg he h0 h1 h5;refine Qu Go.Proofs.YtmkdpmfhlfhjkaaGreatDoor.hm Qi2.eq_1 ?_;subst hr;have hkn:((k:Int)+1)=n:=by omega
  simp[h0,h1,h5,hkn];have hx2:=λenv=>hexit l he rfl env M (by omega) hg;rw[hl]at hx2;exact hx2 _ (by simp) (by simp)
 |succ m ih =>
  intro k l r M env hl hm hr hg he h0 h1 h5;refine Qu Go.Proofs.YtmkdpmfhlfhjkaaGreatDoor.hm Qi2.eq_1 ?_;have hkn:((k:Int)+1)<n:=by omega
  rw[QH]at hr;simp[h0,h1,h5,hkn,rp];have hG:∀ L,(H.set j (pdO c r)++L)[j]? = some (pdO c r):=λL=>by rw[Vc (by simpa using hj)]; simp[hj]
  have hx:∀ o,IsS ((H.set j (pdO c r)++(o0::⟨Ex.cL l,25,k,true⟩::(M++[⟨[st (B [44])],9,0,true⟩]))).set j o) (.own (H.length+(M.length+2)) 0 1 1 0) [[44]]:=by
   intro o;have:=Qkn (G:=H.set j (pdO c r)) (L:=o0::⟨Ex.cL l,25,k,true⟩::(M++[⟨[st (B [44])],9,0,true⟩])) (j:=j) (k:=M.length+2) (ver:=0) (T:=9) (l:=[[44]]) (by simpa using hj) (by simp[wds]) rfl o;simpa using this
  have h87:=Qlx hn (hG _) hx (by decide) hct (by intro s hs; simp at hs; subst hs; rfl) he hg.a;have hwr:QcM c [[44]] r=(Qh c [44] r).2:=rfl;rw[hwr]at h87;refine Q5 (by simpa[rp]using h87) ?_;intro o H' hp;unfold PdV at hp;by_cases hb:(Qh c [44] r).2.e=0
  . rw[Zn (by simp[hb])]at hr;have hpk:Qd c [44] r=true:=by
     rw[<-Bool.not_eq_false];intro hpk;simp[Qh,hpk,Qg,he]at hb
    have ht:(Qh c [44] r).2=Qa r:=by simp[Qh,hpk]
    rw[ht]at hr hp;rw[Zo (by exact he)]at hp;obtain⟨rfl,rfl⟩:=hp;rw[Vm _ _ (by simpa using hj),VD];have hg2:=hg.next (Qam hpk)
    have hG2:∀ L,(H.set j (pdO c (Qa r))++L)[j]? = some (pdO c (Qa r)):=λL=>by rw[Vc (by simpa using hj)]; simp[hj]
    have hc:=λL=>hF (hG2 L) hg2 he;obtain⟨k1,k2⟩:=hk _ hg2;simp[h0,h1,h5];refine Q5 (hc _) ?_;intro o H' hp;unfold PdP PdV at hp;generalize F (Qa r)=q at hr hp k1;obtain⟨x,r2⟩:=q;simp only at hr hp k1;by_cases he2:r2.e=0
    . rw[Zo he2]at hp;obtain⟨rfl,rfl⟩:=hp;rw[Vm _ _ (by simpa using hj),VD];simp[h0,h1,h5,Ex.v,rp];refine⟨by omega,by omega,by rw[QiB,hl],?_⟩;refine LI.cong (H':=H.set j (pdO c r2)++o0::⟨Ex.cL (l++[x]),25,k+1,true⟩::(M++[⟨[st (B [44])],9,0,true⟩,⟨x.c,25,0,true⟩])) (by rw[Qs7]) ?_;exact ih (k+1) (l++[x]) r2 _ _ (by simp[hl]) (by omega) hr k1 he2 (by simp[rp]) (by simp) (by simp)
    . rw[Zn he2]at hp;obtain⟨rfl,hk⟩:=hp;simp;have hb2:=Qrj (c:=c) (orP:=F) (m:=m) (l:=l++[x]) he2;rw[hr]at hb2;rw[hb2]at hpan;exact hpan he2 _ _ hk.of_set
  . rw[Zo hb]at hr;subst hr;rw[Zn hb]at hp;obtain⟨rfl,hk⟩:=hp;simp;exact hpan hb _ _ hk.of_set
theorem Qk5 (hn:Q4 c) (hct:c.ts.length<4611686018427387904) {d:Nat} (hd:d<=40) {F:Rd->Ex×Rd} (hF:∀ d',d=d'+1->PdC c 32 [] F d') (hk:∀ d',d=d'+1->Kp c d' F) {m:Nat} (hm3:m<=2)
 (ho:H[j]? = some (pdO c r)) (hg:Gd c d r) (he:r.e=0):OkP Tryz.prog 177 [rp j,i64 ((m:Int)+1)] H (PdV c H j (λl:List Ex=>.slc (Ex.cL l) l.length) (QcJ c F m r)):=by
 have hj:=Ql ho;have hv:r.v+d=40:=hg.v.resolve_left (by simp[he]);have hoL:∀ L,(H++L)[j]? = some (pdO c r):=λL=>by rw[Vc hj]; exact ho
 have h93:=Qfa (H:=H++[⟨[st (B [40])],9,0,true⟩]) (c:=c) (r:=r) (j:=j) (hoL _) (x:=.own H.length 0 1 1 0) (l:=[[40]]) (IsS.own1 (k:=0) rfl rfl) (by simp);rw[QgL hn rfl he]at h93;have h79:=Qc3 (hoL [⟨[st (B [40])],9,0,true⟩]) 11;have h178:=λL=>QtB (hoL L) (by omega) (by have:=hg.a; omega) he;refine Qbd Go.Proofs.YtmkdpmfhlfhjkaaGreatDoor.hm Tryz.func177 c177 (by simp[rp]) λhcl => ?_;simp[i177,r177,rp];refine Qc (by simpa[rp]using h93) ?_;unfold QcJ;by_cases hp:Qd c [40] r=true
 . rw[Zo hp];simp[hp];refine Q5 (by simpa[rp]using h178 _) ?_;intro o H' hp2;unfold PdV at hp2;by_cases hv2:r.v=40
   . have hb:dpR c r=Qg c 5 (upR r):=by rw[dpR,Zo hv2]
     have hb2:(Qg c 5 (upR r)).e≠0:=by simp[Qg,upR,he]
     rw[hb,Zn hb2]at hp2;obtain⟨rfl,hk⟩:=hp2;rw[Zo hv2];simp;refine⟨_,_,?_,Qj⟩;unfold PdV;rw[Zn hb2];exact⟨rfl,hk.of_app⟩
   . obtain⟨d',rfl⟩:∃ d',d=d'+1:=⟨d-1,by omega⟩;have hlt:=Qam hp;have hb:dpR c r=Qa (upR r):=by rw[dpR,Zn hv2]
     have w1:IntKind.i64.wrap (r.v+1)=r.v+1:=Qah (by omega) (by omega);have hg2:Gd c d' (Qa (upR r)):=⟨hlt,.inr (by simp[Qa,upR,w1]; omega)⟩;rw[hb,Zo (by exact he)]at hp2;obtain⟨rfl,rfl⟩:=hp2;rw[Vm _ _ hj,Zn hv2];have hG2:∀ L,(H.set j (pdO c (Qa (upR r)))++L)[j]? = some (pdO c (Qa (upR r))):=λL=>by rw[Vc (by simpa using hj)]; simp[hj]
     have hc:=λL=>hF d' rfl (hG2 L) hg2 he;obtain⟨k1,k2⟩:=hk d' rfl _ hg2;simp;refine Q5 (by simpa[rp]using hc _) ?_;intro o H' hp2;unfold PdP PdV at hp2;generalize F (Qa (upR r))=q at hp2 k1 ⊢;obtain⟨x,r2⟩:=q;simp only at hp2 k1 ⊢;by_cases he2:r2.e=0
     . rw[Zo he2]at hp2;obtain⟨rfl,rfl⟩:=hp2;rw[Vm _ _ (by simpa using hj),VD];simp[Ex.v];refine LI.cong (H':=H.set j (pdO c r2)++⟨[st (B [40])],9,0,true⟩::⟨Ex.cL [x],25,0,true⟩::[]) (by simp[Ex.cL]) ?_;have hen:∀ q:Option (List Ex)×Rd,q.2.e≠0->∀ H',Qw H [j] H'->PdV c H j (λl:List Ex=>.slc (Ex.cL l) l.length) (Qec c q) (.pan (Q0 q.2.e q.2.p)) H':=λq hq H' hk=>by
        obtain⟨h1,h2⟩:=Qp7 (c:=c) hq;unfold PdV;rw[Zn (by rw[h1]; exact hq),h1,h2];exact⟨rfl,hk⟩
       generalize hres:QH c F m [x] r2=res;refine Qu6 hn hct hj (hF d' rfl) (hk d' rfl) (n:=m+1) (by omega) (res:=res) (λl he3 hl env M hln hg3 h0 h5 => ?_) (λhe3 env H' hk => ?_) m 0 [x] r2 [] _ rfl (by omega) hres k1 he2 ?_ ?_ ?_
       . obtain⟨o,r3⟩:=res;subst hl;simp only at he3 hg3 hen ⊢;have hG:∀ L,(H.set j (pdO c r3)++L)[j]? = some (pdO c r3):=λL=>by rw[Vc (by simpa using hj)]; simp[hj]
         have hx:∀ o,IsS ((H.set j (pdO c r3)++((⟨[st (B [40])],9,0,true⟩:AO)::⟨Ex.cL l,25,l.length-1,true⟩::(M++[⟨[st (B [41])],9,0,true⟩]))).set j o) (.own (H.length+(M.length+2)) 0 1 1 0) [[41]]:=by
          intro o;have:=Qkn (G:=H.set j (pdO c r3)) (L:=(⟨[st (B [40])],9,0,true⟩:AO)::⟨Ex.cL l,25,l.length-1,true⟩::(M++[⟨[st (B [41])],9,0,true⟩])) (j:=j) (k:=M.length+2) (ver:=0) (T:=9) (l:=[[41]]) (by simpa using hj) (by simp[wds]) rfl o;simpa using this
         have h87:=Qlx hn (hG _) hx (by decide) hct (by intro s hs; simp at hs; subst hs; rfl) he3 hg3.a;have hwr:QcM c [[41]] r3=(Qh c [41] r3).2:=rfl;rw[hwr]at h87;simp[h0,rp];refine Q5 (by simpa[rp]using h87) ?_;intro o H' hp;unfold PdV at hp;by_cases hb:(Qh c [41] r3).2.e=0
         . rw[Zo hb]at hp;obtain⟨rfl,rfl⟩:=hp;rw[Vm _ _ (by simpa using hj),VD];have e3:=λcs L=>ocL (H:=H) hj cs 127 L;have e4:=λcs L g=>soL (H:=H) hj ⟨cs,127,0,true⟩ L g;generalize hr4:(Qh c [41] r3).2=r4 at hb ⊢;simp[h0,h5,rp,e3,e4,pdC,pdO];have hen2:Qec c (some l,r3)=(l,dnR r4):=by rw[Qec,hr4]
           refine⟨_,_,by unfold PdV; rw[hen2,Zo (show(dnR r4).e=0 from hb)]; exact⟨rfl,rfl⟩,?_⟩;refine Qq 3 (QbQ (c:=c) (a:=r4.a) (v:=IntKind.i64.wrap (r4.v-1)) hcl) (by simp) ?_;have ht:List.take (l.length*5) (Ex.cL l)=Ex.cL l:=VB (by rw[QiB]; omega);simp[QiB,ht,QcN _ _ _ _ (Ex.undL _ l)]
         . rw[Zn hb]at hp;obtain⟨rfl,hk⟩:=hp;simp;refine⟨_,_,?_,Qj⟩;unfold PdV;rw[Zn (by exact hb)];exact⟨rfl,hk.of_set⟩
       . simp;exact⟨_,_,hen res he3 _ hk,Qj⟩
       all_goals simp[rp]
     . rw[Zn he2]at hp2;obtain⟨rfl,hk⟩:=hp2;simp;refine⟨_,_,?_,Qj⟩;have hb2:=Qrj (c:=c) (orP:=F) (m:=m) (l:=[x]) he2;obtain⟨h1,h2⟩:=Qp7 (c:=c) (q:=QH c F m [x] r2) (by rw[hb2]; exact he2);unfold PdV;rw[Zn (by rw[h1,hb2]; exact he2),h1,h2,hb2];exact⟨rfl,hk.of_set⟩
 . rw[Zn hp];rw[Vk]at hp;simp[hp];refine Qc (by simpa[rp]using h79) ?_;simp;refine⟨_,_,?_,Qj⟩;have hfe:(Qg c 11 r).e=11/\(Qg c 11 r).p=Qk c r:=by simp[Qg,he]
   unfold PdV;rw[Zn (by simp[hfe])];refine⟨by simp[hfe],?_⟩;exact Qw.of_app (Qw.refl _ _)
end
structure QeD (c:Cx):Prop where
 num:Q4 c
 wrd:∀ t∈c.ts,t.k=1->t.tx≠[45]/\t.tx≠[40]
def Qe {α:Type} (q q':α×Rd):Prop:=(q.2.e=0/\q'=q)\/(q.2.e≠0/\q'.2.e=q.2.e/\q'.2.p=q.2.p)
theorem PdV.eqv {α:Type} {c:Cx} {G:ZG} {j:Nat} {f:α->SV} {q q':α×Rd} {o:Out} {H':ZG} (h:Qe q q') (hp:PdV c G j f q o H'):PdV c G j f q' o H':=by
 rcases h with ⟨h1,rfl⟩|⟨h1,h2,h3⟩
 . exact hp
 . unfold PdV at hp ⊢;rw[Zn h1]at hp;rw[Zn (by rw[h2]; exact h1),h2,h3];exact hp
theorem QqG {c:Cx} {s:ZE} {r:Rd}:Qd c s (upR r)=Qd c s r:=rfl
theorem Qla {c:Cx} {s:ZE} {r:Rd} (hp:Qd c s r=true) (hv:r.v≠40):Qr c s r=(Qk c r,Qa (upR r)):=by
 unfold Qr;rw[Zn (by simp[hv])];unfold Qh;rw[QqG,Zo hp];rfl
theorem Qi6 {c:Cx} {s:ZE} {r:Rd} (he:r.e=0) (hp:Qd c s r=true) (hv:r.v=40):(Qr c s r).2.e=5/\(Qr c s r).2.p=Qk c r:=by
 unfold Qr;rw[Zo ⟨hp,hv⟩,QlS (by simp[upR,Qg,he])];simp[upR,Qg,he]
theorem QzI {c:Cx} {s:ZE} {r:Rd} (he:r.e=0) (hp:Qd c s r=false):(Qr c s r).2.e=11/\(Qr c s r).2.p=Qk c r:=by
 unfold Qr;rw[Zn (by simp[hp])];unfold Qh;rw[QqG,hp];simp[Qg,upR,he,Qk]
theorem QqD {c:Cx} {op:Int} {F:Rd->Ex×Rd} {s:ZE} {r:Rd} (he:r.e=0) (hp:Qd c s r=true) :
 Qe (Qd5 c op F r) (if(Qr c s r).2.e≠0 then(zE,(Qr c s r).2)else(.mk op 0 [] [(F (Qr c s r).2).1] (Qr c s r).1,dnR (F (Qr c s r).2).2)):=by
 unfold Qd5;by_cases hv:r.v=40
 . obtain⟨h1,h2⟩:=Qi6 he hp hv;rw[Zo hv,Zo (by rw[h1]; decide)];right;simp[Qg,upR,he,h1,h2,Qk]
 . rw[Zn hv,Qla hp hv,Zn (by simp[Qa,upR,he])];by_cases h:(F (Qa (upR r))).2.e=0
   . exact .inl ⟨h,rfl⟩
   . exact .inr ⟨h,rfl,rfl⟩
theorem QvJ {c:Cx} {orP:Rd->Ex×Rd} {r:Rd} (he:r.e=0) (hp:Qd c [40] r=true) :
 Qe ((((QcJ c orP 0 r).1.headD zE),(QcJ c orP 0 r).2):Ex×Rd) (if(Qr c [40] r).2.e≠0 then(zE,(Qr c [40] r).2)else((orP (Qr c [40] r).2).1,dnR (Qh c [41] (orP (Qr c [40] r).2).2).2)):=by
 unfold QcJ;rw[Zo hp];by_cases hv:r.v=40
 . obtain⟨h1,h2⟩:=Qi6 he hp hv;rw[Zo hv,Zo (by rw[h1]; decide)];right;simp[Qg,upR,he,h1,h2,Qk]
 . rw[Zn hv,Qla hp hv,Zn (by simp[Qa,upR,he])];simp only[QH,Qec,List.headD_cons];generalize dnR (Qh c [41] (orP (Qa (upR r))).2).2=z;by_cases h:z.e=0
   . exact .inl ⟨h,rfl⟩
   . exact .inr ⟨h,rfl,rfl⟩
theorem QqY {c:Cx} {orP:Rd->Ex×Rd}:∀ (m:Nat) (l:List Ex) (r:Rd),(QH c orP m l r).1=none->(QH c orP m l r).2.e≠0
 |0,l,r,h=>by simp[QH]at h
 |m+1,l,r,h=>by
  rw[QH]at h ⊢;by_cases hb:(Qh c [44] r).2.e≠0
  . rw[Zo hb]; exact hb
  . rw[Zn hb]at h ⊢;exact QqY m _ _ h
theorem QmE {c:Cx} {orP:Rd->Ex×Rd} {s:ZE} {op p:Int} {m:Nat} {r:Rd} (he:(Qh c s r).2.e=0) :
 Qe ((.mk op 0 [] (QcJ c orP m (Qh c s r).2).1 p,(QcJ c orP m (Qh c s r).2).2):Ex×Rd) (Qcf c orP s op m p r):=by
 unfold QcJ Qcf;generalize (Qh c s r).2=r1 at he ⊢;by_cases hp:Qd c [40] r1=true
 . rw[Zo hp];by_cases hv:r1.v=40
   . obtain⟨h1,h2⟩:=Qi6 he hp hv;rw[Zo hv];simp only[];rw[Zo (by rw[h1]; decide)];right;simp[Qg,upR,he,h1,h2,Qk]
   . rw[Zn hv,Qla hp hv];simp only[];rw[Zn (by simp[Qa,upR,he])];have hno:=QqY (c:=c) (orP:=orP) m [(orP (Qa (upR r1))).1] (orP (Qa (upR r1))).2;generalize QH c orP m [(orP (Qa (upR r1))).1] (orP (Qa (upR r1))).2=q at hno ⊢;obtain⟨o,r3⟩:=q
     cases o with
     |none =>
      simp only[Qec];by_cases h:r3.e=0
      . exact absurd h (hno rfl)
      . exact .inr ⟨h,rfl,rfl⟩
     |some l =>
      simp only[Qec];generalize dnR (Qh c [41] r3).2=z;by_cases h:z.e=0
      . exact .inl ⟨h,rfl⟩
      . exact .inr ⟨h,rfl,rfl⟩
 . rw[Vk]at hp;obtain⟨h1,h2⟩:=QzI he hp;rw[Zn (by simp[hp])];simp only[];rw[Zo (by rw[h1]; decide)];right;simp[Qg,he,h1,h2]
section
variable {H:ZG} {c:Cx} {r:Rd} {j:Nat}
theorem QiP (hT:QeD c) {s:ZE} (hp:Qd c s r=true) (hs:s=[45]\/s=[40]\/s∈Qa0):QU c r=false:=by
 obtain⟨he,h,h2,h3⟩:=QfR hp;rw[QnK he];have ht:tkR c r=c.ts[r.a]:=by simp[tkR,h]
 rw[ht,h3];rcases hs with rfl|rfl|hs
 . have:c.ts[r.a].k≠1:=λhk=>(hT.wrd _ (Vt h) hk).1 h3;simp[this]
 . have:c.ts[r.a].k≠1:=λhk=>(hT.wrd _ (Vt h) hk).2 h3;simp[this]
 . simp[hs]
theorem QeJ {q q':Ex×Rd} (hcl:closed H) (hj:j<H.length) (he:q.2.e=0) (hq:Qe q q') (L:ZG):Qdm H.length (PdP c H j q') (.agg q.1.c) (H.set j (pdO c q.2)++L) :=
 ⟨_,_,PdV.eqv hq (PdP.ret he rfl),Qq 3 (QbQ (c:=c) (a:=q.2.a) (v:=q.2.v) hcl) (by simp) (by simp[Ex.v])⟩
theorem QcT {q q':Ex×Rd} {n0:Nat} {H':ZG} (he:q.2.e≠0) (hq:Qe q q') (hk:Qw H [j] H'):∃ y H'',PdP c H j q' (.pan y) H''/\Cv n0 (Q0 q.2.e q.2.p) H' y H'' :=
 ⟨_,_,PdV.eqv hq (PdP.pan he hk),Qj⟩
theorem Qnc {s:ZE} {L:ZG} (ho:H[j]? = some (pdO c r)) (hj:j<H.length) (hp:Qd c s r=false):(H++L).set j (pdO c (Qae c s r))=H++L:=by
 rw[Qae,Zn (by simp[hp])];exact QcZ (by rw[Vc hj]; exact ho)
theorem QvA (hT:QeD c) (hct:c.ts.length<4611686018427387904) {d:Nat} (hd:d<=40) {orP facP:Rd->Ex×Rd} (hF:∀ d',d=d'+1->PdC c 32 [] orP d') (hk:∀ d',d=d'+1->Kp c d' orP) (hP:∀ d',d=d'+1->PdC c 136 [] facP d') :
 PdC c 136 [] (QF c orP facP) d:=by
 intro H j r ho hg he;have hn:=hT.num;have hj:=Ql ho;have hoL:∀ L,(H++L)[j]? = some (pdO c r):=λL=>by rw[Vc hj]; exact ho
 have h91:=λL=>Qgb (hoL L);have hlen:=hg.a;refine Qbd Go.Proofs.YtmkdpmfhlfhjkaaGreatDoor.hm Tryz.func136 c136 (by simp[rp]) λhcl => ?_;simp -implicitDefEqProofs[i136,r136,rp];refine Qc (by simpa[rp]using h91 _) ?_;simp -implicitDefEqProofs;have h93:=Qfa (H:=H++[zO,⟨[st (B [45])],9,0,true⟩]) (c:=c) (r:=r) (j:=j) (hoL _) (x:=.own (H.length+1) 0 1 1 0) (l:=[[45]]) (IsS.own1 (k:=1) rfl rfl) (by decide);rw[QgL hn rfl he]at h93;refine Qc (by simpa[rp,zO]using h93) ?_;by_cases hp:Qd c [45] r=true
 . have hfac:Qe (Qd5 c 3 facP r) (QF c orP facP r):=by
    unfold QF;rw[Zn (by simp[he]),Zn (by simp[QiP hT hp (.inl rfl)]),Zo hp];have:=QqD (c:=c) (op:=3) (F:=facP) he hp;by_cases hv:r.v=40
    . have ho:=Qi6 he hp hv;rw[Zo (by rw[ho.1]; decide)]at this ⊢;exact this
    . rw[Qla hp hv]at this ⊢;exact this
   have hc:=λL=>Qp0 (H:=H++L) hct (Iv:=λ_=>True) (λ_ _ _ _ _=>trivial) hd (F:=facP) (f:=.fn (.func 136) [rp j] []) rfl rfl (by simp[rp,SV.under,SV.underL]; omega)
    (λd' hd' G r _ hG hg he=>QlM (a:=[rp j]) (b:=[]) (by simpa using hP d' hd' hG hg he)) trivial (hoL L) hg he (Qam hp) 3
   generalize Qd5 c 3 facP r=q at hfac hc;simp -implicitDefEqProofs[hp];refine Q5 (by simpa[rp]using hc _) ?_;intro o H' hp2;unfold PdP PdV at hp2;by_cases he2:q.2.e=0
   . rw[Zo he2]at hp2;obtain⟨rfl,rfl⟩:=hp2;rw[Vm _ _ hj];simp -implicitDefEqProofs[Ex.v];exact QeJ hcl hj he2 hfac _
   . rw[Zn he2]at hp2;obtain⟨rfl,hk⟩:=hp2;simp -implicitDefEqProofs;exact QcT he2 hfac hk.of_app
 rw[Vk]at hp;simp -implicitDefEqProofs[hp];have h93:=Qfa (H:=H++[zO,⟨[st (B [45])],9,0,true⟩,⟨[st (B [40])],9,0,true⟩]) (c:=c) (r:=r) (j:=j) (hoL _) (x:=.own (H.length+2) 0 1 1 0) (l:=[[40]]) (IsS.own1 (k:=2) rfl rfl) (by decide);rw[QgL hn rfl he]at h93;refine Qc (by simpa[rp,zO]using h93) ?_;by_cases hp2:Qd c [40] r=true
 . have hfac:=QvJ (c:=c) (orP:=orP) he hp2;have hfe:QF c orP facP r=(if(Qr c [40] r).2.e≠0 then(zE,(Qr c [40] r).2)else((orP (Qr c [40] r).2).1,dnR (Qh c [41] (orP (Qr c [40] r).2).2).2)):=by
    unfold QF;rw[Zn (by simp[he]),Zn (by simp[QiP hT hp2 (.inr (.inl rfl))]),Zn (by simp[hp]),Zo hp2]
   rw[<-hfe]at hfac;have hc:=λL=>Qk5 hn hct hd (m:=0) hF hk (by decide) (hoL L) hg he;have h1x:(QcJ c orP 0 r).2.e=0->∃ x,(QcJ c orP 0 r).1=[x]:=by
    unfold QcJ;rw[Zo hp2];by_cases hv:r.v=40
    . rw[Zo hv]; intro h; simp[Qg,upR,he]at h
    . rw[Zn hv]; intro _; exact⟨_,rfl⟩
   simp -implicitDefEqProofs[hp2];generalize QcJ c orP 0 r=q at hfac hc h1x;refine Q5 (by simpa[rp,zO]using hc _) ?_;intro o H' hq;unfold PdV at hq;obtain⟨l,r2⟩:=q;simp only at hq hfac;by_cases he2:r2.e=0
   . rw[Zo he2]at hq;obtain⟨rfl,rfl⟩:=hq;rw[Vm _ _ hj];obtain⟨x,hx⟩:=h1x he2;simp only at hx;subst hx;simp -implicitDefEqProofs[Ex.cL];exact QeJ (q:=(x,r2)) hcl hj he2 hfac _
   . rw[Zn he2]at hq;obtain⟨rfl,hk⟩:=hq;simp -implicitDefEqProofs;exact QcT (q:=(l.headD zE,r2)) he2 hfac hk.of_app
 rw[Vk]at hp2;simp -implicitDefEqProofs[hp2];have h90:=Qde hn (hoL [zO,⟨[st (B [45])],9,0,true⟩,⟨[st (B [40])],9,0,true⟩]) (by omega) he (s:=[109,105,110]) rfl;refine Qc (by simpa[rp,zO]using h90) ?_;by_cases hp3:Qd c [109,105,110] r=true
 . have ha:Qae c [109,105,110] r=Qa r:=by rw[Qae,Zo hp3]
   have ht:(Qh c [109,105,110] r).2=Qa r:=by simp[Qh,hp3]
   have hfac:=QmE (c:=c) (orP:=orP) (s:=[109,105,110]) (op:=18) (p:=Qk c r) (m:=1) (r:=r) (by rw[ht]; exact he);have hfe:QF c orP facP r=Qcf c orP [109,105,110] 18 1 (Qk c r) r:=by
    unfold QF;rw[Zn (by simp[he]),Zn (by simp[QiP hT hp3 (.inr (.inr (by decide)))]),Zn (by simp[hp]),Zn (by simp[hp2])];simp[QaN,hp3]
   rw[ht,<- hfe]at hfac;rw[ha,Vm _ _ hj];have hG2:∀ L,(H.set j (pdO c (Qa r))++L)[j]? = some (pdO c (Qa r)):=λL=>by rw[Vc (by simpa using hj)]; simp[hj]
   have hc:=λL=>Qk5 hn hct hd (m:=1) hF hk (by decide) (hG2 L) (hg.next (Qam hp3)) he
   simp -implicitDefEqProofs[hp3];generalize QcJ c orP 1 (Qa r)=q at hfac hc;refine Q5 (by simpa[rp,zO]using hc _) ?_;intro o H' hq;unfold PdV at hq;obtain⟨l,r2⟩:=q;simp only at hq hfac;by_cases he2:r2.e=0
   . rw[Zo he2]at hq;obtain⟨rfl,rfl⟩:=hq;rw[Vm _ _ (by simpa using hj),VD];simp -implicitDefEqProofs;refine⟨_,_,PdV.eqv hfac (PdP.ret (q:=(.mk 18 0 [] l (Qk c r),r2)) he2 rfl),Qq 3 (QbQ (c:=c) (a:=r2.a) (v:=r2.v) hcl) (by simp) (by simp[Ex.v,Ex.c])⟩
   . rw[Zn he2]at hq;obtain⟨rfl,hk⟩:=hq;simp -implicitDefEqProofs;exact QcT (q:=(.mk 18 0 [] l (Qk c r),r2)) he2 hfac hk.of_set
 rw[Vk]at hp3;rw[Qnc ho hj hp3];simp -implicitDefEqProofs[hp3];have h90:=Qde hn (hoL [zO,⟨[st (B [45])],9,0,true⟩,⟨[st (B [40])],9,0,true⟩]) (by omega) he (s:=[109,97,120]) rfl;refine Qc (by simpa[rp,zO]using h90) ?_;by_cases hp4:Qd c [109,97,120] r=true
 . have ha:Qae c [109,97,120] r=Qa r:=by rw[Qae,Zo hp4]
   have ht:(Qh c [109,97,120] r).2=Qa r:=by simp[Qh,hp4]
   have hfac:=QmE (c:=c) (orP:=orP) (s:=[109,97,120]) (op:=19) (p:=Qk c r) (m:=1) (r:=r) (by rw[ht]; exact he);have hfe:QF c orP facP r=Qcf c orP [109,97,120] 19 1 (Qk c r) r:=by
    unfold QF;rw[Zn (by simp[he]),Zn (by simp[QiP hT hp4 (.inr (.inr (by decide)))]),Zn (by simp[hp]),Zn (by simp[hp2])];simp[QaN,hp4,hp3]
   rw[ht,<- hfe]at hfac;rw[ha,Vm _ _ hj];have hG2:∀ L,(H.set j (pdO c (Qa r))++L)[j]? = some (pdO c (Qa r)):=λL=>by rw[Vc (by simpa using hj)]; simp[hj]
   have hc:=λL=>Qk5 hn hct hd (m:=1) hF hk (by decide) (hG2 L) (hg.next (Qam hp4)) he
   simp -implicitDefEqProofs[hp4];generalize QcJ c orP 1 (Qa r)=q at hfac hc;refine Q5 (by simpa[rp,zO]using hc _) ?_;intro o H' hq;unfold PdV at hq;obtain⟨l,r2⟩:=q;simp only at hq hfac;by_cases he2:r2.e=0
   . rw[Zo he2]at hq;obtain⟨rfl,rfl⟩:=hq;rw[Vm _ _ (by simpa using hj),VD];simp -implicitDefEqProofs;refine⟨_,_,PdV.eqv hfac (PdP.ret (q:=(.mk 19 0 [] l (Qk c r),r2)) he2 rfl),Qq 3 (QbQ (c:=c) (a:=r2.a) (v:=r2.v) hcl) (by simp) (by simp[Ex.v,Ex.c])⟩
   . rw[Zn he2]at hq;obtain⟨rfl,hk⟩:=hq;simp -implicitDefEqProofs;exact QcT (q:=(.mk 19 0 [] l (Qk c r),r2)) he2 hfac hk.of_set
 rw[Vk]at hp4;rw[Qnc ho hj hp4];simp -implicitDefEqProofs[hp4];have h90:=Qde hn (hoL [zO,⟨[st (B [45])],9,0,true⟩,⟨[st (B [40])],9,0,true⟩]) (by omega) he (s:=[105,102]) rfl;refine Qc (by simpa[rp,zO]using h90) ?_;by_cases hp5:Qd c [105,102] r=true
 . have ha:Qae c [105,102] r=Qa r:=by rw[Qae,Zo hp5]
   have ht:(Qh c [105,102] r).2=Qa r:=by simp[Qh,hp5]
   have hfac:=QmE (c:=c) (orP:=orP) (s:=[105,102]) (op:=20) (p:=Qk c r) (m:=2) (r:=r) (by rw[ht]; exact he);have hfe:QF c orP facP r=Qcf c orP [105,102] 20 2 (Qk c r) r:=by
    unfold QF;rw[Zn (by simp[he]),Zn (by simp[QiP hT hp5 (.inr (.inr (by decide)))]),Zn (by simp[hp]),Zn (by simp[hp2])];simp[QaN,hp5,hp3,hp4]
   rw[ht,<- hfe]at hfac;rw[ha,Vm _ _ hj];have hG2:∀ L,(H.set j (pdO c (Qa r))++L)[j]? = some (pdO c (Qa r)):=λL=>by rw[Vc (by simpa using hj)]; simp[hj]
   have hc:=λL=>Qk5 hn hct hd (m:=2) hF hk (by decide) (hG2 L) (hg.next (Qam hp5)) he
   simp -implicitDefEqProofs[hp5];generalize QcJ c orP 2 (Qa r)=q at hfac hc;refine Q5 (by simpa[rp,zO]using hc _) ?_;intro o H' hq;unfold PdV at hq;obtain⟨l,r2⟩:=q;simp only at hq hfac;by_cases he2:r2.e=0
   . rw[Zo he2]at hq;obtain⟨rfl,rfl⟩:=hq;rw[Vm _ _ (by simpa using hj),VD];simp -implicitDefEqProofs;refine⟨_,_,PdV.eqv hfac (PdP.ret (q:=(.mk 20 0 [] l (Qk c r),r2)) he2 rfl),Qq 3 (QbQ (c:=c) (a:=r2.a) (v:=r2.v) hcl) (by simp) (by simp[Ex.v,Ex.c])⟩
   . rw[Zn he2]at hq;obtain⟨rfl,hk⟩:=hq;simp -implicitDefEqProofs;exact QcT (q:=(.mk 20 0 [] l (Qk c r),r2)) he2 hfac hk.of_set
 rw[Vk]at hp5;rw[Qnc ho hj hp5];simp -implicitDefEqProofs[hp5];have h139:=λL=>Qea (hoL L);have h140:=λL=>Qf8 (hoL L) (by omega);have h92:=λL=>Qhb (hoL L) he;have h79:=λL=>Qc3 (hoL L) 11;have hfw:QaN.find? (λw=>Qd c w.1 r)=none:=by simp[QaN,hp3,hp4,hp5]
 refine Qc (by simpa[rp,zO]using h139 _) ?_;by_cases hk2:(tkR c r).k=2
 . have hfr:QU c r=false:=by rw[QnK he,hk2]; rfl
   have hnm:QaX c r=true:=by rw[Qkv he,hk2]; rfl
   obtain⟨_,hlt,_⟩:=QbV hnm;have hfe:QF c orP facP r=(.mk 1 (tkR c r).n [] [] (Qk c r),Qa r):=by
    unfold QF;rw[Zn (by simp[he]),Zn (by simp[hfr]),Zn (by simp[hp]),Zn (by simp[hp2]),hfw];simp only[nmR,hnm,Zs];simp[tkR,hlt]
   simp -implicitDefEqProofs[Tok.v,Tok.c,hk2];refine Qc (by simpa[rp,zO]using h140 _) ?_;rw[Vm _ _ hj];simp -implicitDefEqProofs[Tok.v,Tok.c];rw[hfe];exact⟨rfl,_,_,PdP.ret (q:=(.mk 1 (tkR c r).n [] [] (Qk c r),Qa r)) he rfl,Qsm (QbQ (c:=c) (a:=r.a+1) (v:=r.v) hcl) _ _ _ _ _⟩
 . have hnm:QaX c r=false:=by rw[Qkv he]; simp[hk2]
   simp -implicitDefEqProofs[Tok.v,Tok.c,hk2];refine Qc (by simpa[rp,zO]using h92 _) ?_;by_cases hfr:QU c r=true
   . have hlt:r.a<c.ts.length:=(QbV hfr).2.1;have hfe:QF c orP facP r=(.mk 2 0 (tkR c r).tx [] (Qk c r),Qa r):=by
      unfold QF;rw[Zn (by simp[he]),Zo hfr];simp only[QK,hfr,Zs];simp[tkR,hlt]
     simp -implicitDefEqProofs[hfr];refine Qc (by simpa[rp,zO]using h140 _) ?_;rw[Vm _ _ hj];simp -implicitDefEqProofs[Tok.v,Tok.c];rw[hfe];exact⟨rfl,_,_,PdP.ret (q:=(.mk 2 0 (tkR c r).tx [] (Qk c r),Qa r)) he rfl,Qsm (QbQ (c:=c) (a:=r.a+1) (v:=r.v) hcl) _ _ _ _ _⟩
   . rw[Vk]at hfr;have hfe:(QF c orP facP r).2=Qg c 11 r:=by
      unfold QF;rw[Zn (by simp[he]),Zn (by simp[hfr]),Zn (by simp[hp]),Zn (by simp[hp2]),hfw];simp[nmR,hnm]
     have hf2:(Qg c 11 r).e=11/\(Qg c 11 r).p=Qk c r:=by simp[Qg,he]
     simp -implicitDefEqProofs[hfr];refine Qc (by simpa[rp,zO]using h79 _) ?_;simp -implicitDefEqProofs;refine⟨_,_,?_,Qj⟩;unfold PdP PdV;rw[hfe,Zn (by rw[hf2.1]; decide),hf2.1,hf2.2];exact⟨rfl,Qw.of_app (Qw.refl _ _)⟩
end
def Qce:Nat->List (ZE×Int)
 |0=>orO
 |1=>Qbx
 |2=>Qa2
 |3=>Qa6
 |_=>QaV
def bxO (j:Nat):AO:=⟨[rp j],62,0,true⟩
theorem QoU:∀ k,(Qce k).all (λo=>QcW o.1)=true
 |0=>rfl
 |1=>rfl
 |2=>rfl
 |3=>rfl
 |_+4=>rfl
theorem Qst {c:Cx} {a:Nat} {v:Int} {k:Nat} (hk:k<5):(pdC c a v)[3+k]? = some (mpS (Qce k)):=by
 match k,hk with
 |0,_=>rfl
 |1,_=>rfl
 |2,_=>rfl
 |3,_=>rfl
 |4,_=>rfl
theorem Qgw {c:Cx} {a:Nat} {v:Int}:(pdC c a v).length=9:=rfl
theorem Qkt (ops:List (ZE×Int)):(mpS ops).ug=mpS ops:=rfl
theorem Qi3 (ops:List (ZE×Int)):(mpS ops).vd=true:=rfl
theorem Qk7 (G:ZG) (ops:List (ZE×Int)):(mpS ops).mapOf G=some (mpK ops,mpV ops):=rfl
theorem QlD (ops:List (ZE×Int)):(mpK ops).all KK.s.is=true:=by
 rw[Vn];intro v hv;simp only[mpK,Vx]at hv;obtain⟨o,_,rfl⟩:=hv;rfl
theorem Qfh (b:ByteArray):SV.key KK.s (st b)=.string b:=rfl
theorem QiS (b:ByteArray):SV.isK KK.s (st b)=true:=rfl
theorem Qma {c:Cx} {ops:List (ZE×Int)} {F:Rd->Ex×Rd} {n:Nat} {e:Ex} {r:Rd} (h:r.e≠0):QaC c ops F n e r=(e,r):=by
 cases n with
 |zero=>rfl
 |succ n =>
  have:Qal c ops r=none:=by
   cases ho:Qal c ops r with
   |none=>rfl
   |some op=>exact absurd (Qc0 ho).1 h
  rw[QaC,this]
section
variable {H:ZG} {c:Cx} {r:Rd} {j:Nat}
theorem Qyp (hT:QeD c) (hct:c.ts.length<4611686018427387904) (hj:j<H.length) (hcl:closed H) {k:Nat} (hk5:k<5) (hk2:k≠2) {d:Nat} {F:Rd->Ex×Rd} (hF:PdC c 80 [i64 ((k:Int)+1)] F d) (hk:Kp c d F) {N:Nat} {K:ZF} {res:Ex×Rd}
 (hret:res.2.e=0->∀ env M,env.get 4=rp (H.length+1)->K .ret env (H.set j (pdO c res.2)++bxO j::eO res.1::eO res.1::M))
 (hpan:res.2.e≠0->∀ env H',Qw H [j] H'->K (.panic (Q0 res.2.e res.2.p)) env H') :
 ∀ (n:Nat) (e:Ex) (r:Rd) (M:ZG) (env:Env),c.ts.length<=r.a+n->QaC c (Qce k) F n e r=res->Gd c d r->r.e=0->env.get 1=i64 k->env.get 2=rp H.length->env.get 4=rp (H.length+1)->env.get 5=rp (H.length+2) ->
  LI Tryz.prog N Qf Qg8 env (H.set j (pdO c r)++bxO j::zO::eO e::M) K:=by
 have hkk:(k:Int)<5:=by omega
 have hk2':¬ (k:Int)=2:=by omega
 have wk:IntKind.i64.wrap ((k:Int)+1)=(k:Int)+1:=Qah (by omega) (by omega);have none_:∀ (e:Ex) (r:Rd) (M:ZG) (env:Env),Qal c (Qce k) r=none->(e,r)=res->Gd c d r->r.e=0->env.get 1=i64 k->env.get 2=rp H.length->env.get 4=rp (H.length+1)->env.get 5=rp (H.length+2) ->
  LI Tryz.prog N Qf Qg8 env (H.set j (pdO c r)++bxO j::zO::eO e::M) K:=by
  intro e r M env ho hr hg he h1 h2 h4 h5;refine Qu hm Qg8.eq_1 ?_;have e3:∀ L,Qo (H.set j (pdO c r)++L) j 0=pdC c r.a r.v:=λL=>ocL (H:=H) hj _ 127 L;have hpa:=Qst (c:=c) (a:=r.a) (v:=r.v) hk5;have hG:∀ L,(H.set j (pdO c r)++L)[j]? = some (pdO c r):=λL=>by rw[Vc (by simpa using hj)]; simp[hj]
  have h139:=λL=>Qea (hG L);simp -implicitDefEqProofs[h1,h2,h4,h5,rp,bxO,zO,eO,e3,hpa,Qgw,Qkt,Qi3,Qk7,QlD];refine⟨by omega,by omega,?_⟩;refine QeF (λ_=>by simpa[rp]using h139 _) ?_;have hlk:lkm (.string (B (tkR c r).tx)) (mpK (Qce k)) (mpV (Qce k))=(Qal c (Qce k) r).map i64:=by
   rw[QkX,QkB hT.num he (QoU k),Y4]; rfl
  rw[ho]at hlk;subst hr;simp -implicitDefEqProofs[Tok.v,Tok.c,Qfh,QiS,hlk];exact hret he _ M (by simp[rp])
 intro n
 induction n with
 |zero =>
  intro e r M env hn hr hg he h1 h2 h4 h5;have ho:Qal c (Qce k) r=none:=by
   cases ho:Qal c (Qce k) r with
   |none=>rfl
   |some op=>have:=(Qc0 ho).2; omega
  exact none_ e r M env ho hr hg he h1 h2 h4 h5
 |succ n ih =>
  intro e r M env hn hr hg he h1 h2 h4 h5;rw[QaC]at hr
  cases ho:Qal c (Qce k) r with
  |none =>
   rw[ho]at hr;exact none_ e r M env ho hr hg he h1 h2 h4 h5
  |some op =>
   refine Qu hm Qg8.eq_1 ?_;have e3:∀ L,Qo (H.set j (pdO c r)++L) j 0=pdC c r.a r.v:=λL=>ocL (H:=H) hj _ 127 L;have hpa:=Qst (c:=c) (a:=r.a) (v:=r.v) hk5;have hG:∀ L,(H.set j (pdO c r)++L)[j]? = some (pdO c r):=λL=>by rw[Vc (by simpa using hj)]; simp[hj]
   have h139:=λL=>Qea (hG L);simp -implicitDefEqProofs[h1,h2,h4,h5,rp,bxO,zO,eO,e3,hpa,Qgw,Qkt,Qi3,Qk7,QlD];refine⟨by omega,by omega,?_⟩;refine QeF (λ_=>by simpa[rp]using h139 _) ?_;have hlk:lkm (.string (B (tkR c r).tx)) (mpK (Qce k)) (mpV (Qce k))=(Qal c (Qce k) r).map i64:=by
    rw[QkX,QkB hT.num he (QoU k),Y4]; rfl
   rw[ho]at hlk hr;obtain⟨_,hlt⟩:=Qc0 ho;have h91:=λL=>Qgb (hG L);have h140:=λL=>Qf8 (hG L) (by omega);have hg2:=hg.next hlt
   have hG2:∀ L,(H.set j (pdO c (Qa r))++L)[j]? = some (pdO c (Qa r)):=λL=>by rw[Vc (by simpa using hj)]; simp[hj]
   have hc:=λL=>hF (hG2 L) hg2 he;obtain⟨k1,k2⟩:=hk _ hg2;simp -implicitDefEqProofs[Tok.v,Tok.c,Qfh,QiS,hlk];refine Qc (by simpa[rp]using h91 _) ?_;simp -implicitDefEqProofs[Tok.v,Tok.c,Qfh,hlk];refine Qc (by simpa[rp]using h140 _) ?_;rw[Vm _ _ (by simpa using hj),VD];simp -implicitDefEqProofs[wk,Tok.v,Tok.c,Qfh,hlk];refine Q5 (by simpa[rp]using hc _) ?_;intro o H' hp;unfold PdP PdV at hp;generalize F (Qa r)=q at hr hp k1 k2;obtain⟨x,r2⟩:=q;simp only at hr hp k1 k2;by_cases he2:r2.e=0
   . rw[Zo he2]at hp;obtain⟨rfl,rfl⟩:=hp;rw[Vm _ _ (by simpa using hj),VD];simp -implicitDefEqProofs[Ex.v,hk2',Tok.v,Tok.c,Qfh,hlk];have hcl2:closed (H.set j (pdO c r2)):=QbQ (c:=c) (a:=r2.a) (v:=r2.v) hcl;have hlen:(H.set j (pdO c r2)).length=H.length:=by simp
     refine LI.tell (Qaw.give (H0:=H.set j (pdO c r2)) (L:=bxO j::zO::⟨[i64 op,i64 0,st ⟨#[]⟩,.own (H.length+(M.length+3)) 0 2 5 0,i64 (Qk c r)],25,0,true⟩::(M++[⟨e.c++x.c,25,0,true⟩])) hcl2 (M.length+3) 1 (o:=⟨e.c++x.c,25,0,true⟩) (by simp) rfl) ?_;rw[hlen];refine LI.cong (H':=H.set j (pdO c r2)++bxO j::zO::eO (.mk op 0 [] [e,x] (Qk c r))::(M++[AO.dead ⟨e.c++x.c,25,0,true⟩]).map (AO.gv (H.length+(M.length+3)) 0 (e.c++x.c) 1)) ?_ (ih _ _ _ _ (by have:(Qa r).a=r.a+1:=rfl; omega) hr k1 he2 ?_ ?_ ?_ ?_)
     . simp[bxO,zO,eO,AO.gv,rp,Ex.c,Ex.cL,AO.dead,show List.take 10 (e.c++x.c)=e.c++x.c from VB (by simp)]
     all_goals rw[Qto _ (SV.gv _ _ _ _) (Qqg _ _ _ _)]; simp[rp]
   . rw[Zn he2]at hp;obtain⟨rfl,hk⟩:=hp;simp -implicitDefEqProofs;rw[Qma he2]at hr;subst hr;exact hpan he2 _ _ hk.of_set
theorem Qj5 (hT:QeD c) (hct:c.ts.length<4611686018427387904) {k:Nat} (hk5:k<5) (hk2:k≠2) {d:Nat} {F:Rd->Ex×Rd} (hF:PdC c 80 [i64 ((k:Int)+1)] F d) (hk:Kp c d F):PdC c 80 [i64 k] (QS c (Qce k) F) d:=by
 intro H j r ho hg he;have hj:=Ql ho;have hkk:¬ (k:Int)=5:=by omega
 have hk2':¬ (k:Int)=2:=by omega
 have wk:IntKind.i64.wrap ((k:Int)+1)=(k:Int)+1:=Qah (by omega) (by omega);have hoL:∀ L,(H++L)[j]? = some (pdO c r):=λL=>by rw[Vc hj]; exact ho
 have hc:=λL=>hF (hoL L) hg he;obtain⟨k1,k2⟩:=hk _ hg;refine Qbd hm Tryz.func80 c80 (by simp[rp]) λhcl => ?_;simp -implicitDefEqProofs[i80,r80,rp,hkk,hk2'];refine Qcm _ _ _ _ ?_;simp -implicitDefEqProofs[wk];refine Q5 (by simpa[rp]using hc _) ?_;intro o H' hp;unfold PdP PdV at hp;have hbd:QS c (Qce k) F r=QaC c (Qce k) F c.ts.length (F r).1 (F r).2:=rfl;rw[hbd];generalize F r=q at hp k1 k2 ⊢;obtain⟨x,r2⟩:=q;simp only at hp k1 k2 ⊢;by_cases he2:r2.e=0
 . rw[Zo he2]at hp;obtain⟨rfl,rfl⟩:=hp;rw[Vm _ _ hj];simp -implicitDefEqProofs[Ex.v];generalize hres:QaC c (Qce k) F c.ts.length x r2=res;refine LI.cong (H':=H.set j (pdO c r2)++bxO j::zO::eO x::[]) (by simp[bxO,zO,eO,rp]) ?_;refine Qyp hT hct hj hcl hk5 hk2 hF hk (res:=res) (λhe3 env M h4 => ?_) (λhe3 env H' hk => ?_) c.ts.length x r2 [] _ (by omega) hres k1 he2 ?_ ?_ ?_ ?_
   . simp -implicitDefEqProofs[h4,rp,eO];exact QeJ hcl hj he3 (.inl ⟨he3,rfl⟩) _
   . simp -implicitDefEqProofs;exact QcT he3 (.inr ⟨he3,rfl,rfl⟩) hk
   all_goals simp[rp]
 . rw[Zn he2]at hp;obtain⟨rfl,hk⟩:=hp;simp -implicitDefEqProofs;rw[Qma he2];exact QcT (q:=(x,r2)) he2 (.inr ⟨he2,rfl,rfl⟩) hk.of_app
theorem QCd {d:Nat} {F:Rd->Ex×Rd} (hF:PdC c 136 [] F d):PdC c 80 [i64 5] F d:=by
 intro H j r ho hg he;have hj:=Ql ho;have hoL:∀ L,(H++L)[j]? = some (pdO c r):=λL=>by rw[Vc hj]; exact ho
 have hc:=λL=>hF (hoL L) hg he;refine Qbd hm Tryz.func80 c80 (by simp[rp]) λhcl => ?_;simp -implicitDefEqProofs[i80,r80,rp];refine Q5 (by simpa[rp]using hc _) ?_;intro o H' hp;unfold PdP PdV at hp;generalize F r=q at hp ⊢;obtain⟨x,r2⟩:=q;simp only at hp ⊢;by_cases he2:r2.e=0
 . rw[Zo he2]at hp;obtain⟨rfl,rfl⟩:=hp;rw[Vm _ _ hj];simp -implicitDefEqProofs[Ex.v];exact QeJ (q:=(x,r2)) hcl hj he2 (.inl ⟨he2,rfl⟩) _
 . rw[Zn he2]at hp;obtain⟨rfl,hk⟩:=hp;simp -implicitDefEqProofs;exact QcT (q:=(x,r2)) he2 (.inr ⟨he2,rfl,rfl⟩) hk.of_app
theorem ok32 {d:Nat} {F:Rd->Ex×Rd} (hF:PdC c 80 [i64 0] F d):PdC c 32 [] F d:=by
 intro H j r ho hg he;have hj:=Ql ho;have hoL:∀ L,(H++L)[j]? = some (pdO c r):=λL=>by rw[Vc hj]; exact ho
 have hc:=λL=>hF (hoL L) hg he;refine Qbd hm Tryz.func32 c32 (by simp[rp]) λhcl => ?_;simp -implicitDefEqProofs[i32,r32,rp];refine Q5 (by simpa[rp]using hc _) ?_;intro o H' hp;unfold PdP PdV at hp;generalize F r=q at hp ⊢;obtain⟨x,r2⟩:=q;simp only at hp ⊢;by_cases he2:r2.e=0
 . rw[Zo he2]at hp;obtain⟨rfl,rfl⟩:=hp;rw[Vm _ _ hj];simp -implicitDefEqProofs[Ex.v];exact QeJ (q:=(x,r2)) hcl hj he2 (.inl ⟨he2,rfl⟩) _
 . rw[Zn he2]at hp;obtain⟨rfl,hk⟩:=hp;simp -implicitDefEqProofs;exact QcT (q:=(x,r2)) he2 (.inr ⟨he2,rfl,rfl⟩) hk.of_app
theorem Qv1 {d:Nat} {F:Rd->Ex×Rd} (hF:PdC c 80 [i64 2] F d) {q:Nat} (hq:H[q]? = some (bxO j)) (ho:H[j]? = some (pdO c r)) (hg:Gd c d r) (he:r.e=0):OkP Tryz.prog 138 [rp q] H (PdP c H j (F r)):=by
 have hj:=Ql ho;have hqj:=Ql hq;have hoL:∀ L,(H++L)[j]? = some (pdO c r):=λL=>by rw[Vc hj]; exact ho
 have hc:=λL=>hF (hoL L) hg he;have e1:∀ L,Qo (H++L) q 0=[rp j]:=λL=>Qav (o:=bxO j) (by rw[Vc hqj]; exact hq) rfl;refine Qbd hm Tryz.func138 c138 (by simp[rp]) λhcl => ?_;simp -implicitDefEqProofs[i138,r138,rp,e1];refine Q5 (by simpa[rp]using hc _) ?_;intro o H' hp;unfold PdP PdV at hp;generalize F r=q at hp ⊢;obtain⟨x,r2⟩:=q;simp only at hp ⊢;by_cases he2:r2.e=0
 . rw[Zo he2]at hp;obtain⟨rfl,rfl⟩:=hp;rw[Vm _ _ hj];simp -implicitDefEqProofs[Ex.v];exact QeJ (q:=(x,r2)) hcl hj he2 (.inl ⟨he2,rfl⟩) _
 . rw[Zn he2]at hp;obtain⟨rfl,hk⟩:=hp;simp -implicitDefEqProofs;exact QcT (q:=(x,r2)) he2 (.inr ⟨he2,rfl,rfl⟩) hk.of_app
end
section
variable {H:ZG} {c:Cx} {r:Rd} {j:Nat}
theorem QzY (hT:QeD c) (hct:c.ts.length<4611686018427387904) {d:Nat} (hd:d<=40) {G ntP:Rd->Ex×Rd} (hG:PdC c 80 [i64 3] G d) (hk:Kp c d G) (hnt:∀ d',d=d'+1->PdC c 80 [i64 2] ntP d') :
 PdC c 80 [i64 2] (Qat c (Qar c G) ntP) d:=by
 intro H j r ho hg he;have hn:=hT.num;have w3:IntKind.i64.wrap 3=3:=by decide
 have hj:=Ql ho;have hoL:∀ L,(H++L)[j]? = some (pdO c r):=λL=>by rw[Vc hj]; exact ho
 have h93:=Qfa (H:=H++[bxO j,zO,⟨[st (B [110,111,116])],9,0,true⟩]) (c:=c) (r:=r) (j:=j) (hoL _) (x:=.own (H.length+2) 0 1 1 0) (l:=[[110,111,116]]) (IsS.own1 (k:=2) rfl rfl) (by decide);rw[QgL hn rfl he]at h93;refine Qbd hm Tryz.func80 c80 (by simp[rp]) λhcl => ?_;simp -implicitDefEqProofs[i80,r80,rp];refine QZ (r:=bl (Qd c [110,111,116] r)) (λ_=>by simpa[rp,zO,bxO,SV.strip]using h93) ?_;by_cases hp:Qd c [110,111,116] r=true
 . have hnot:Qe (Qd5 c 4 ntP r) (Qat c (Qar c G) ntP r):=by
    unfold Qat;rw[Zo hp];exact QqD he hp
   have hc:=λL=>Qp0 (H:=H++(bxO j::L)) hct (Iv:=λA=>A[H.length]? = some (bxO j)) (λA o L h hl=>by
    have h2:=Ql h;rw[Vc (by simpa using h2),Vf (by omega)]; exact h) hd (F:=ntP) (f:=.fn (.func 138) [] [rp H.length]) rfl rfl (by simp[rp,SV.under,SV.underL])
    (λd' hd' A r hA hG hg he=>QlM (a:=[]) (b:=[rp H.length]) (by simpa using Qv1 (hnt d' hd') hA hG hg he)) (by simp) (hoL (bxO j::L)) hg he (Qam hp) 4
   generalize Qd5 c 4 ntP r=q at hnot hc;simp -implicitDefEqProofs[hp];refine Q5 (by simpa[rp,zO,bxO]using hc _) ?_;intro o H' hp2;unfold PdP PdV at hp2;by_cases he2:q.2.e=0
   . rw[Zo he2]at hp2;obtain⟨rfl,rfl⟩:=hp2;rw[Vm _ _ hj];simp -implicitDefEqProofs[Ex.v];exact QeJ hcl hj he2 hnot _
   . rw[Zn he2]at hp2;obtain⟨rfl,hk⟩:=hp2;simp -implicitDefEqProofs;exact QcT he2 hnot hk.of_app
 . have hnot:Qat c (Qar c G) ntP r=Qar c G r:=by unfold Qat; rw[Zn hp]
   rw[Vk]at hp;rw[hnot];have hc:=λL=>hG (hoL L) hg he;obtain⟨k1,k2⟩:=hk _ hg;simp -implicitDefEqProofs[hp,w3];refine Q5 (by simpa[rp]using hc _) ?_;intro o H' hp2;unfold PdP PdV at hp2;have hcm:Qar c G r=match Qal c Qa2 (G r).2 with
    |some op=>(.mk op 0 [] [(G r).1,(G (Qa (G r).2)).1] (Qk c (G r).2),(G (Qa (G r).2)).2)
    |none=>G r:=rfl
   rw[hcm];generalize G r=q at hp2 k1 k2 ⊢;obtain⟨x,r2⟩:=q;simp only at hp2 k1 k2 ⊢;by_cases he2:r2.e=0
   . rw[Zo he2]at hp2;obtain⟨rfl,rfl⟩:=hp2;rw[Vm _ _ hj];simp -implicitDefEqProofs[Ex.v];refine Qu hm Qg8.eq_1 ?_;have e3:∀ L,Qo (H.set j (pdO c r2)++L) j 0=pdC c r2.a r2.v:=λL=>ocL (H:=H) hj _ 127 L;have hpa:∀ h,(pdC c r2.a r2.v)[5]'(h)=mpS Qa2:=λ_=>rfl;have hG2:∀ L,(H.set j (pdO c r2)++L)[j]? = some (pdO c r2):=λL=>by rw[Vc (by simpa using hj)]; simp[hj]
     have h139:=λL=>Qea (hG2 L);have hlk:lkm (.string (B (tkR c r2).tx)) (mpK Qa2) (mpV Qa2)=(Qal c Qa2 r2).map i64:=by
      rw[QkX,QkB (ops:=Qa2) hT.num he2 rfl,Y4]; rfl
     simp -implicitDefEqProofs[e3,hpa,Qgw];refine QeF (λ_=>by simpa[rp]using h139 _) ?_
     cases hop:Qal c Qa2 r2 with
     |none =>
      rw[hop]at hlk;simp -implicitDefEqProofs[Tok.v,Tok.c,Qfh,QiS,hlk,Qkt,Qi3,Qk7,QlD];exact QeJ (q:=(x,r2)) hcl hj he2 (.inl ⟨he2,rfl⟩) _
     |some op =>
      rw[hop]at hlk;obtain⟨_,hlt⟩:=Qc0 hop;have h91:=λL=>Qgb (hG2 L);have h140:=λL=>Qf8 (hG2 L) (by omega);have hg2:=k1.next hlt
      have hG3:∀ L,(H.set j (pdO c (Qa r2))++L)[j]? = some (pdO c (Qa r2)):=λL=>by rw[Vc (by simpa using hj)]; simp[hj]
      have hc:=λL=>hG (hG3 L) hg2 he2;simp -implicitDefEqProofs[Tok.v,Tok.c,Qfh,QiS,hlk,Qkt,Qi3,Qk7,QlD];refine Qc (by simpa[rp]using h91 _) ?_;simp -implicitDefEqProofs[Tok.v,Tok.c];refine Qc (by simpa[rp]using h140 _) ?_;rw[Vm _ _ (by simpa using hj),VD];simp -implicitDefEqProofs[Tok.v,Tok.c,w3];refine Q5 (by simpa[rp]using hc _) ?_;intro o H' hp3;unfold PdP PdV at hp3;generalize G (Qa r2)=q at hp3 ⊢;obtain⟨y,r3⟩:=q;simp only at hp3 ⊢;by_cases he3:r3.e=0
      . rw[Zo he3]at hp3;obtain⟨rfl,rfl⟩:=hp3;rw[Vm _ _ (by simpa using hj),VD];simp -implicitDefEqProofs[Ex.v,Tok.v,Tok.c];refine⟨_,_,PdP.ret (q:=(.mk op 0 [] [x,y] (Qk c r2),r3)) he3 rfl,Qq 3 (QbQ (c:=c) (a:=r3.a) (v:=r3.v) hcl) (by simp) ?_⟩;simp[Ex.v,Ex.c,Ex.cL,show List.take 10 (x.c++y.c)=x.c++y.c from VB (by simp)]
      . rw[Zn he3]at hp3;obtain⟨rfl,hk⟩:=hp3;simp -implicitDefEqProofs;exact QcT (q:=(.mk op 0 [] [x,y] (Qk c r2),r3)) he3 (.inr ⟨he3,rfl,rfl⟩) hk.of_set
   . rw[Zn he2]at hp2;obtain⟨rfl,hk⟩:=hp2;have ho:Qal c Qa2 r2=none:=by
      cases ho:Qal c Qa2 r2 with
      |none=>rfl
      |some op=>exact absurd (Qc0 ho).1 he2
     rw[ho];simp -implicitDefEqProofs;exact QcT (q:=(x,r2)) he2 (.inr ⟨he2,rfl,rfl⟩) hk.of_app
theorem QpO (hT:QeD c) (hct:c.ts.length<4611686018427387904):∀ d:Nat,d<=40->PdC c 136 [] (lv c d).fac d/\PdC c 80 [i64 2] (lv c d).nt d/\PdC c 32 [] (Q6 c (lv c d)) d:=by
 have step:∀ (d:Nat) (orP facP ntP:Rd->Ex×Rd),d<=40->(∀ d',d=d'+1->PdC c 32 [] orP d')->(∀ d',d=d'+1->Kp c d' orP)->(∀ d',d=d'+1->PdC c 136 [] facP d')->(∀ d',d=d'+1->Kp c d' facP)->(∀ d',d=d'+1->PdC c 80 [i64 2] ntP d') ->
  (∀ d',d=d'+1->Kp c d' ntP)->PdC c 136 [] (lvS c orP facP ntP).fac d/\PdC c 80 [i64 2] (lvS c orP facP ntP).nt d/\PdC c 32 [] (Q6 c (lvS c orP facP ntP)) d:=by
  intro d orP facP ntP hd h1 h2 h3 h4 h5 h6;have hf:PdC c 136 [] (QF c orP facP) d:=QvA hT hct hd h1 h2 h3;have kf:Kp c d (QF c orP facP):=Qng hd h2 h4;have hm:PdC c 80 [i64 ((4:Nat):Int)] (QS c QaV (QF c orP facP)) d:=Qj5 hT hct (k:=4) (by decide) (by decide) (QCd hf) kf;have km:=Qd8 (ops:=QaV) kf;have hs:PdC c 80 [i64 ((3:Nat):Int)] (QS c Qa6 (QS c QaV (QF c orP facP))) d:=Qj5 hT hct (k:=3) (by decide) (by decide) hm km;have ks:=Qd8 (ops:=Qa6) km;have hn:PdC c 80 [i64 2] (Qat c (Qar c (QS c Qa6 (QS c QaV (QF c orP facP)))) ntP) d:=QzY hT hct hd hs ks h5;have kn:=Qmk hd (Qmo ks) h6;have ha:PdC c 80 [i64 ((1:Nat):Int)] (QS c Qbx (Qat c (Qar c (QS c Qa6 (QS c QaV (QF c orP facP)))) ntP)) d:=Qj5 hT hct (k:=1) (by decide) (by decide) hn kn;have ka:=Qd8 (ops:=Qbx) kn;have ho:PdC c 80 [i64 ((0:Nat):Int)] (QS c orO (QS c Qbx (Qat c (Qar c (QS c Qa6 (QS c QaV (QF c orP facP)))) ntP))) d:=Qj5 hT hct (k:=0) (by decide) (by decide) ha ka;exact⟨hf,hn,ok32 ho⟩
 intro d
 induction d with
 |zero=>exact λhd=>step 0 _ _ _ hd (λd' h=>by omega) (λd' h=>by omega) (λd' h=>by omega) (λd' h=>by omega) (λd' h=>by omega) (λd' h=>by omega)
 |succ d ih =>
  intro hd;obtain⟨i1,i2,i3⟩:=ih (by omega);obtain⟨k1,k2,k3⟩:=QlL c d (by omega);exact step (d+1) _ _ _ hd (λd' h=>by cases h; exact i3) (λd' h=>by cases h; exact k3) (λd' h=>by cases h; exact i1) (λd' h=>by cases h; exact k1) (λd' h=>by cases h; exact i2) (λd' h=>by cases h; exact k2)
end
section
variable {H:ZG}
theorem ok78:Ok Tryz.prog 78 [] H (.ret (.agg Qkb)) H:=by
 have m1:∀ i,(SV.mp i 0).ug=.mp i 0:=λ_=>rfl;have m2:∀ i,(SV.mp i 0).flat=[.mp i 0]:=λ_=>rfl;have m3:∀ i,QaY 1 (.mp i 0):=λi=>⟨rfl,rfl,rfl⟩;have m4:∀ i,(SV.mp i 0).isCell=true:=λ_=>rfl;have m5:∀ i,(SV.mp i 0).vd=true:=λ_=>rfl;refine Qz hm Tryz.func78 c78 (by simp) λhcl => ?_;simp -implicitDefEqProofs[i78,r78];refine QbX (x:=([],[])) (by simp[SV.mapOf]) rfl rfl rfl ?_;simp -implicitDefEqProofs[Qac,Qaa,SV.key];refine QbX (x:=([],[])) (by simp[SV.mapOf]) rfl rfl rfl ?_;simp -implicitDefEqProofs[Qac,Qaa,SV.key];refine QbX (x:=([],[])) (by simp[SV.mapOf]) rfl rfl rfl ?_;simp -implicitDefEqProofs[Qac,Qaa,SV.key];refine QbX (x:=([.string (B [61,61])],[i64 10])) (by simp[SV.mapOf]) rfl rfl rfl ?_;simp -implicitDefEqProofs[Qac,Qaa,QaL,SV.key];refine QbX (x:=([.string (B [61,61]),.string (B [33,61])],[i64 10,i64 11])) (by simp[SV.mapOf]) rfl rfl rfl ?_;simp -implicitDefEqProofs[Qac,Qaa,QaL,SV.key];refine QbX (x:=([.string (B [61,61]),.string (B [33,61]),.string (B [60])],[i64 10,i64 11,i64 12])) (by simp[SV.mapOf]) rfl rfl rfl ?_;simp -implicitDefEqProofs[Qac,Qaa,QaL,SV.key];refine QbX (x:=([.string (B [61,61]),.string (B [33,61]),.string (B [60]),.string (B [60,61])],[i64 10,i64 11,i64 12,i64 13])) (by simp[SV.mapOf]) rfl rfl rfl ?_;simp -implicitDefEqProofs[Qac,Qaa,QaL,SV.key]
 refine QbX (x:=([.string (B [61,61]),.string (B [33,61]),.string (B [60]),.string (B [60,61]),.string (B [62])],[i64 10,i64 11,i64 12,i64 13,i64 14])) (by simp[SV.mapOf]) rfl rfl rfl ?_;simp -implicitDefEqProofs[Qac,Qaa,QaL,SV.key];refine QbX (x:=([],[])) (by simp[SV.mapOf]) rfl rfl rfl ?_;simp -implicitDefEqProofs[Qac,Qaa,SV.key];refine QbX (x:=([.string (B [43])],[i64 8])) (by simp[SV.mapOf]) rfl rfl rfl ?_;simp -implicitDefEqProofs[Qac,Qaa,QaL,SV.key];refine QbX (x:=([],[])) (by simp[SV.mapOf]) rfl rfl rfl ?_;simp -implicitDefEqProofs[Qac,Qaa,SV.key];refine QbX (x:=([.string (B [42])],[i64 5])) (by simp[SV.mapOf]) rfl rfl rfl ?_;simp -implicitDefEqProofs[Qac,Qaa,QaL,SV.key];refine QbX (x:=([.string (B [42]),.string (B [47])],[i64 5,i64 6])) (by simp[SV.mapOf]) rfl rfl rfl ?_;simp -implicitDefEqProofs[Qac,Qaa,QaL,SV.key,m1,m2,m3,m4];refine Qq 3 hcl rfl ?_;simp[Qkb,mpS,mpK,mpV,orO,Qbx,Qa2,Qa6,QaV,SV.fz]
theorem Qlp (e p:Int):Ok Tryz.prog 77 [Q0 e p] H (.ret (QE e p)) H:=by
 refine Qz hm Tryz.func77 c77 (by simp[Q0,QE]) λhcl => ?_;simp -implicitDefEqProofs[i77,r77,Q0,QE,SV.isIf,SV.ifIs,SV.ifVal];exact Qq 2 hcl rfl rfl
theorem Qu1 {f g:Nat} (hf:f<H.length) (hg:g<H.length):OkD Tryz.prog 76 [rp f,rp g] H none (λH'=>H'=H):=by
 refine Qkc hm Tryz.func76 c76 (by rfl) λhcl => ?_;simp -implicitDefEqProofs[Qnx,i76,rp,rvD,SV.isIf,SV.ifNil];exact Qj
theorem Quj {f g:Nat} {c1 c2:ZH} (hf:H[f]? = some ⟨c1,25,0,true⟩) (hc1:c1.length=5) (hg:H[g]? = some ⟨c2,28,0,true⟩) (hc2:c2.length=2) (hne:f≠g) (e p:Int) :
 OkD Tryz.prog 76 [rp f,rp g] H (some (Q0 e p)) (λH'=>H'=(H.set f zO).set g ⟨[i64 e,i64 p],28,0,true⟩):=by
 have hj:=Ql hf;have hjg:=Ql hg;have e2:∀ (L:ZG) (h:AO->AO),Ab.setObj (H++L) f h=H.set f (h ⟨c1,25,0,true⟩)++L:=λL h=>by
  rw[Qb5 (o:=⟨c1,25,0,true⟩) (by rw[Vc hj]; exact hf),Vm _ _ hj]
 have hg':(H.set f zO)[g]? = some ⟨c2,28,0,true⟩:=by rw[Vf hne]; exact hg
 have e4:∀ (L:ZG) (h:AO->AO),Ab.setObj (H.set f zO++L) g h=(H.set f zO).set g (h ⟨c2,28,0,true⟩)++L:=λL h=>by
  rw[Qb5 (o:=⟨c2,28,0,true⟩) (by rw[Vc (by simpa using hjg)]; exact hg'),Vm _ _ (by simpa using hjg)]
 have e1:∀ L,Qo (H++L) f 0=c1:=λL=>Qav (o:=⟨c1,25,0,true⟩) (by rw[Vc hj]; exact hf) rfl;have e3:∀ L,Qo (H.set f zO++L) g 0=c2:=λL=>Qav (o:=⟨c2,28,0,true⟩) (by rw[Vc (by simpa using hjg)]; exact hg') rfl;have d1:List.drop 5 c1=[]:=VS (by omega);have d2:List.drop 2 c2=[]:=VS (by omega);simp only[zO]at e3 e4;refine Qkc hm Tryz.func76 c76 (by rfl) λhcl => ?_;simp -implicitDefEqProofs[Qnx,i76,rp,rvD,SV.isIf,SV.ifNil,Q0];refine QeF (λ_=>Qlp e p) ?_;simp -implicitDefEqProofs[QE,e1,e2,e3,e4,hc1,hc2,d1,d2];have hc1':closed (H.set f zO):=by
  have:=Qfj hcl f (o:=zO) (by simp[zO,SV.underL,SV.under]);simpa using this
 have hc2':closed ((H.set f zO).set g ⟨[i64 e,i64 p],28,0,true⟩):=by
  have:=Qfj hc1' g (o:=⟨[i64 e,i64 p],28,0,true⟩) (by simp[SV.underL]);simpa using this
 refine⟨rfl,Qod (by simpa[Q0,QE]using Qlp e p),?_⟩;exact Qq 2 hc2' (by simp) rfl
theorem Qqi (hcl:closed H) (e p:Int) (L:ZG):Cv H.length (.tup [.agg zO.cells,QE e p]) (H++L) (.tup [zE.v,QE e p]) H:=by
 refine Cv.le (Qq (n0:=H.length) (r1:=.tup [.agg [i64 0,i64 0,st (B []),.val (.slice none 0 0),i64 0],.agg [i64 e,i64 p]]) (r:=.tup [.agg [i64 0,i64 0,st (B []),.val (.slice none 0 0),i64 0],.agg [i64 e,i64 p]]) 3 hcl rfl (by simp)) ?_;exact Qj9 (leL.cons (Qpd 0 0 [] 0) (leL.cons (SV.le.refl _) leL.nil))
theorem Qpy {q:Ex×Int×Int} (hcl:closed H) (hq:q.1=zE) {env:Env} {H1:ZG} {c1 c2:ZH} (hf:H1[H.length]? = some ⟨c1,25,0,true⟩) (hc1:c1.length=5) (hg:H1[H.length+1]? = some ⟨c2,28,0,true⟩) (hc2:c2.length=2)
 (hp:∀ i,i<H.length->H1[i]? = H[i]?) (h4:env.get 4=rp H.length) (h5:env.get 5=rp (H.length+1)) :
 Qhi Tryz.prog H.length r31 (λo h=>o=.ret (.tup [q.1.v,QE q.2.1 q.2.2])/\h=H) 76 [rp H.length,rp (H.length+1)] (.panic (Q0 q.2.1 q.2.2)) env H1:=by
 refine⟨_,Quj hf hc1 hg hc2 (by omega) _ _,?_⟩;rintro H4 rfl;have hlen:H.length+2<=H1.length:=by have:=Ql hg; omega
 obtain⟨L,hL⟩:∃ L,(H1.set H.length zO).set (H.length+1) ⟨[i64 q.2.1,i64 q.2.2],28,0,true⟩=H++zO::⟨[i64 q.2.1,i64 q.2.2],28,0,true⟩::L:=by
  refine⟨H1.drop (H.length+2),?_⟩;apply V5;intro i;rcases Yw i H.length with h|h|h
  . rw[Vf (by omega),Vf (by omega),hp i h,Vc h]
  . subst h;rw[Vf (by omega),Vo (by omega),Vl (by omega)];simp
  . by_cases h2:i=H.length+1
    . subst h2;rw[Vo (by simp; omega),Vl (by omega)];simp
    . rw[Vf (by omega),Vf (by omega),Vl (by omega)];obtain⟨k,rfl⟩:∃ k,i=H.length+2+k:=⟨i-(H.length+2),by omega⟩;have e:H.length+2+k-H.length=k+1+1:=by omega
      rw[e,YJ,YJ,VW]
 rw[hL];have e1:Qo (H++zO::⟨[i64 q.2.1,i64 q.2.2],28,0,true⟩::L) H.length 0=zO.cells:=Qav (o:=zO) (by simp) rfl;have e2:Qo (H++zO::⟨[i64 q.2.1,i64 q.2.2],28,0,true⟩::L) (H.length+1) 0=[i64 q.2.1,i64 q.2.2]:=Qav (o:=⟨[i64 q.2.1,i64 q.2.2],28,0,true⟩) (by simp) rfl;refine⟨?_,_,H,⟨rfl,rfl⟩,?_⟩
 . intro s hs;simp only[r31,Vd,Vu,Zt]at hs;rcases hs with rfl|rfl
   . simp[RS.side,h4,rp,zO]
   . simp[RS.side,h5,rp,e2]
 . have hr:Qa7 env (H++zO::⟨[i64 q.2.1,i64 q.2.2],28,0,true⟩::L) r31=.tup [.agg zO.cells,QE q.2.1 q.2.2]:=by
    simp[Qa7,r31,RS.ev,h4,h5,rp,zO,QE]
   rw[hr,hq];exact Qqi hcl _ _ _
theorem QBv {x:Ex} (hcl:closed H) {env:Env} {L:ZG} (h4:env.get 4=rp H.length) (h5:env.get 5=rp (H.length+1)) :
 Qhi Tryz.prog H.length r31 (λo h=>o=.ret (.tup [.agg x.c,.agg [i64 0,i64 0]])/\h=H) 76 [rp H.length,rp (H.length+1)] .ret env (H++eO x::⟨[i64 0,i64 0],28,0,true⟩::L):=by
 refine⟨_,Qu1 (by simp) (by simp),?_⟩;rintro H4 rfl;have e1:Qo (H++eO x::⟨[i64 0,i64 0],28,0,true⟩::L) H.length 0=x.c:=Qav (o:=eO x) (by simp) rfl;have e2:Qo (H++eO x::⟨[i64 0,i64 0],28,0,true⟩::L) (H.length+1) 0=[i64 0,i64 0]:=Qav (o:=⟨[i64 0,i64 0],28,0,true⟩) (by simp) rfl;refine⟨?_,_,H,⟨rfl,rfl⟩,?_⟩
 . intro s hs;simp only[r31,Vd,Vu,Zt]at hs;rcases hs with rfl|rfl
   . simp[RS.side,h4,rp,e1]
   . simp[RS.side,h5,rp,e2]
 . have hr:Qa7 env (H++eO x::⟨[i64 0,i64 0],28,0,true⟩::L) r31=.tup [.agg x.c,.agg [i64 0,i64 0]]:=by
    simp[Qa7,r31,RS.ev,h4,h5,rp,e1,e2]
   rw[hr];exact Qq 3 hcl rfl (by simp)
theorem ok31 {l:ZE} (hl:l.length<4611686018427387904) (hT:QeD ⟨(Qi l).1,l.length⟩):Ok Tryz.prog 31 [st (B l),.fn (.func 32) [] []] H (.ret (.tup [(QO l).1.v,QE (QO l).2.1 (QO l).2.2])) H:=by
 refine OkP.toOk (QsC hm Tryz.func31 c31 (by rfl) λhcl => ?_);have hlen:=Qnw l;have h26:=λH=>Ql9 (H:=H) hl;have hex:QO l=if(Qi l).2.1≠0 then(zE,(Qi l).2)else QbL ⟨(Qi l).1,l.length⟩:=rfl;rw[hex];generalize Qi l=s at hlen h26 hT ⊢;obtain⟨ts,fe,fp⟩:=s;simp only at hlen h26 hT ⊢;simp -implicitDefEqProofs[XL,i31p,QpF,Qsk,Qth];refine Qc (h26 _) ?_;simp -implicitDefEqProofs[QE,Qbc];by_cases hs:fe=0
 . subst hs;simp -implicitDefEqProofs[i31s,i31f,XL,Qhe,i31];have hlc:ts.length<4611686018427387904:=by omega
   have hg:Gd ⟨ts,l.length⟩ 40 ⟨0,0,0,0⟩:=⟨V3 _,.inr rfl⟩;have hor:PdC ⟨ts,l.length⟩ 32 [] (orT ⟨ts,l.length⟩) 40:=(QpO hT hlc 40 (by omega)).2.2;refine⟨76,_,⟨rfl,rfl⟩,Qc ok78 ?_⟩;simp -implicitDefEqProofs[Qkb];have hG:∀ L,(H++(zO::⟨[i64 0,i64 fp],28,0,true⟩::pdO ⟨ts,l.length⟩ ⟨0,0,0,0⟩::L))[H.length+2]? = some (pdO ⟨ts,l.length⟩ ⟨0,0,0,0⟩):=λL=>by simp
   have hc:=hor (hG []) hg rfl;refine⟨⟨rfl,rfl,rfl,rfl,rfl⟩,Q5 (Pt:=PdP ⟨ts,l.length⟩ (H++[zO,⟨[i64 0,i64 fp],28,0,true⟩,pdO ⟨ts,l.length⟩ ⟨0,0,0,0⟩]) (H.length+2) (orT ⟨ts,l.length⟩ ⟨0,0,0,0⟩)) (by simpa[rp,zO,pdO,pdC,Qbc]using hc) ?_⟩;intro o H' hp;unfold PdP PdV at hp;generalize hw:QbL ⟨ts,l.length⟩=w;unfold QbL at hw;generalize orT ⟨ts,l.length⟩ ⟨0,0,0,0⟩=x at hw hp;obtain⟨ex,r⟩:=x;dsimp only at hw hp;by_cases he:r.e=0
   . rw[Zo he]at hp;obtain⟨rfl,rfl⟩:=hp;have hset:(H++[zO,⟨[i64 0,i64 fp],28,0,true⟩,pdO ⟨ts,l.length⟩ ⟨0,0,0,0⟩]).set (H.length+2) (pdO ⟨ts,l.length⟩ r)=H++[zO,⟨[i64 0,i64 fp],28,0,true⟩,pdO ⟨ts,l.length⟩ r]:=by
      rw[Yf _ _ (by omega)]; simp
     rw[hset];have hG2:∀ z L,(H++(z::⟨[i64 0,i64 fp],28,0,true⟩::pdO ⟨ts,l.length⟩ r::L))[H.length+2]? = some (pdO ⟨ts,l.length⟩ r):=λz L=>by simp
     by_cases hlt:r.a<ts.length
     . have h79:=Qc3 (hG2 (eO ex) []) 11;rw[Zo hlt]at hw;have hf2:(Qg ⟨ts,l.length⟩ 11 r).e=11/\(Qg ⟨ts,l.length⟩ 11 r).p=Qk ⟨ts,l.length⟩ r:=by simp[Qg,he]
       rw[Zo (by rw[hf2.1]; decide),hf2.1,hf2.2]at hw;subst hw;simp -implicitDefEqProofs[Ex.v,zO,pdO,pdC,Qbc,hlt];refine Qc (by simpa[rp,eO,pdO,pdC,Qbc]using h79) ?_;simp -implicitDefEqProofs;exact Qpy (q:=(zE,11,Qk ⟨ts,l.length⟩ r)) hcl rfl (c1:=ex.c) (c2:=[i64 0,i64 fp]) (by simp) (by simp) (by simp) rfl (λi hi=>by rw[Vc hi]) (by simp[rp]) (by simp[rp])
     . rw[Zn hlt,Zn (by simp[he])]at hw;subst hw;simp -implicitDefEqProofs[Ex.v,zO,pdO,pdC,Qbc,hlt];exact QBv hcl (by simp[rp]) (by simp[rp])
   . rw[Zn he]at hp;obtain⟨rfl,hk⟩:=hp;have hb:(if r.a<ts.length then Qg ⟨ts,l.length⟩ 11 r else r)=r:=by
      by_cases hlt:r.a<ts.length
      . rw[Zo hlt]; simp[Qg,he]
      . rw[Zn hlt]
     rw[hb,Zo he]at hw;subst hw;simp -implicitDefEqProofs;have hk1:∀ i,i<H.length+2->H'[i]? = (H++[zO,⟨[i64 0,i64 fp],28,0,true⟩,pdO ⟨ts,l.length⟩ ⟨0,0,0,0⟩])[i]? := λi hi=>hk.at_ i (by simp; omega) (by simp; omega);exact Qpy (q:=(zE,r.e,r.p)) hcl rfl (c1:=zO.cells) (c2:=[i64 0,i64 fp]) (by rw[hk1 _ (by omega)]; simp[zO]) rfl (by rw[hk1 _ (by omega)]; simp) rfl (λi hi=>by rw[hk1 i (by omega),Vc hi]) (by simp[rp]) (by simp[rp])
 . simp -implicitDefEqProofs[hs,XL,Qhe,r31];simp only[Zn hs];exact⟨rfl,_,_,⟨rfl,rfl⟩,by simpa[zO,QE]using Qqi hcl fe fp _⟩
theorem ok11 {l:ZE} (hl:l.length<4611686018427387904) (hT:QeD ⟨(Qi l).1,l.length⟩):Ok Tryz.prog 11 [st (B l)] H (.ret (.tup [(QO l).1.v,QE (QO l).2.1 (QO l).2.2])) H:=by
 have h31:=λH=>ok31 (H:=H) hl hT;generalize QO l=q at h31 ⊢;refine Qz hm Tryz.func11 c11 (by simp) λhcl => ?_;simp -implicitDefEqProofs[i11,r11];refine Qc (h31 _) ?_;simp -implicitDefEqProofs[Ex.v,QE];exact Qq 3 hcl rfl (by simp)
end
end Go.Proofs.YtmkdpmfhlfhjkaaGreatDoor
