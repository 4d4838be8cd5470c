/-
  Steps of the proof: contracts of functions and plain facts that the statement rests on.
-/
import Derived.Test.YtmkdpmfhlfhjkaaGreatDoorPNKT20
import Derived.Test.YtmkdpmfhlfhjkaaGreatDoorCore4
set_option linter.all false
namespace Go.Proofs.YtmkdpmfhlfhjkaaGreatDoor
open Go.Ab
structure Cx where
 ts:List Tok
 en:Nat
structure Rd where
 a:Nat
 v:Int
 e:Int
 p:Int
def rdO (c:Cx) (r:Rd):AO:=⟨[tksV c.ts,i64 c.en,i64 r.a,i64 r.v,i64 r.e,i64 r.p],65,0,true⟩
def rp (j:Nat):SV:=.ptr (.own j 0 0 0 0) 0
def hereR (c:Cx) (r:Rd):Int:=if h:r.a<c.ts.length then(c.ts[r.a].p:Int)else(c.en:Int)
def failR (c:Cx) (e:Int) (r:Rd):Rd:=if r.e=0 then { r with e:=e,p:=hereR c r } else r
def tokB (c:Cx) (r:Rd) (f:Tok->Bool):Bool:=decide (r.e=0)&&(if h:r.a<c.ts.length then f c.ts[r.a]else false)
def peekR (c:Cx) (s:List UInt8) (r:Rd):Bool:=tokB c r fun t => !decide (t.k=2)&&decide (t.tx=s)
def nextR (r:Rd):Rd:={ r with a:=r.a+1 }
def takeR (c:Cx) (s:List UInt8) (r:Rd):Int×Rd:=(hereR c r,if peekR c s r then nextR r else failR c 11 r)
theorem peek_lt {c:Cx} {s:List UInt8} {r:Rd} (h:peekR c s r=true):r.a<c.ts.length:=by
 unfold peekR tokB at h
 split at h
 · assumption
 · simp at h
theorem tk_at {ts:List Tok} {i k:Nat} (h:i<ts.length) (hk:k<4):(ts.flatMap Tok.c)[i*4+k]? = (ts[i].c)[k]? := by
 induction ts generalizing i with
 | nil=>simp at h
 | cons t r ih =>
  cases i with
  | zero =>
   rw[List.flatMap_cons,List.getElem?_append_left (by simp[Tok.c]; omega)]; simp
  | succ i =>
   have e:(i+1)*4+k=t.c.length+(i*4+k):=by simp[Tok.c]; omega
   rw[List.flatMap_cons,e,List.getElem?_append_right (by omega)]
   simp only[List.getElem_cons_succ,Nat.add_sub_cancel_left]
   exact ih (by simpa using h)
theorem oc_set {H:List AO} {j:Nat} (hj:j<H.length) (cs:List SV) (t:TypeId):objCells (H.set j ⟨cs,t,0,true⟩) j 0=cs:=objCells_of (o:=⟨cs,t,0,true⟩) (by simp[hj]) rfl
end Go.Proofs.YtmkdpmfhlfhjkaaGreatDoor
namespace Go.Proofs.YtmkdpmfhlfhjkaaGreatDoor
open Go.Ab
def resv:List (List UInt8):=[[103,97,109,101],[112,108,97,121,101,114,115],[118,97,114],[100,101,97,108],[105,110],[119,101,105,103,104,116],[115,101,101,110],[98,121],[97,108,108],[116,117,114,110],[97,99,116,105,111,110],[119,104,101,110],[104,105,100,100,101,110],[103,111,116,111],[101,110,100],[112,97,121],[111,114],[97,110,100],[110,111,116],[109,105,110],[109,97,120],[105,102]]
def freeR (c:Cx) (r:Rd):Bool:=tokB c r fun t=>decide (t.k=1) && !decide (t.tx∈resv)
def wordR (c:Cx) (r:Rd):List UInt8×Rd:=if freeR c r then((c.ts.getD r.a ⟨0,[],0,0⟩).tx,nextR r)else([],failR c 11 r)
def isNum (c:Cx) (r:Rd):Bool:=tokB c r fun t=>decide (t.k=2)
def nmR (c:Cx) (r:Rd):Int×Rd:=if isNum c r then((c.ts.getD r.a ⟨0,[],0,0⟩).n,nextR r)else(0,failR c 11 r)
def upR (r:Rd):Rd:={ r with v:=IntKind.i64.wrap (r.v+1) }
def dnR (r:Rd):Rd:={ r with v:=IntKind.i64.wrap (r.v-1) }
def openR (c:Cx) (s:List UInt8) (r:Rd):Int×Rd:=takeR c s (upR (if peekR c s r=true∧r.v=40 then failR c 5 r else r))
def begR (c:Cx) (r:Rd):Bool:=isNum c r||freeR c r||peekR c [110,111,116] r||peekR c [45] r||peekR c [40] r||peekR c [109,105,110] r||peekR c [109,97,120] r||peekR c [105,102] r
theorem tokB_lt {c:Cx} {r:Rd} {f:Tok->Bool} (h:tokB c r f=true):r.e=0∧∃ h:r.a<c.ts.length,f c.ts[r.a]=true:=by
 unfold tokB at h
 split at h
 · rename_i h2; simp at h; exact⟨h.1,h2,h.2⟩
 · simp at h
end Go.Proofs.YtmkdpmfhlfhjkaaGreatDoor
namespace Go.Proofs.YtmkdpmfhlfhjkaaGreatDoor
open Go.Ab
inductive Ex where
 | mk (op n:Int) (nm:List UInt8) (l:List Ex) (p:Int)
mutual
def Ex.c:Ex->List SV
 | .mk op n nm l p=>[i64 op,i64 n,st (B nm),.slc (Ex.cL l) l.length,i64 p]
def Ex.cL:List Ex->List SV
 | []=>[]
 | e::r=>e.c++Ex.cL r
end
def Ex.v (e:Ex):SV:=.agg e.c
def zE:Ex:=.mk 0 0 [] [] 0
@[simp] theorem Ex.c_len (e:Ex):e.c.length=5:=by cases e; rfl
theorem exL_rws:∀ l:List Ex,Ex.cL l=rws Ex.c l
 | []=>by simp[Ex.cL,rws]
 | e::r=>by rw[Ex.cL,exL_rws r,rws]
mutual
theorem Ex.und (n:Nat):∀ e:Ex,SV.underL n e.c=true
 | .mk op k nm l p=>by simp[Ex.c,SV.underL,SV.under,Ex.undL n l]
theorem Ex.undL (n:Nat):∀ l:List Ex,SV.underL n (Ex.cL l)=true
 | []=>by simp[Ex.cL,SV.underL]
 | e::r=>by rw[Ex.cL,SV.underL_append,Ex.und n e,Ex.undL n r]; rfl
end
theorem Ex.und_v (n:Nat) (e:Ex):e.v.under n=true:=by simp[Ex.v,SV.under,Ex.und]
@[simp] theorem Ex.c_take (e:Ex):List.take 5 e.c=e.c:=List.take_of_length_le (by simp)
@[simp] theorem Ex.c_drop10 (e:Ex) (l:List SV):List.drop 10 (e.c++l)=List.drop 5 l:=by
 rw[show 10=e.c.length+5 by simp,List.drop_append]; simp
@[simp] theorem Ex.c_drop5' (e:Ex):List.drop 5 e.c=[]:=List.drop_of_length_le (by simp)
theorem Ex.ok (e:Ex):cellsOk e.c:=by
 cases e
 intro s hs
 simp[Ex.c]at hs
 rcases hs with rfl | rfl | rfl | rfl | rfl<;>rfl
@[simp] theorem Ex.okT (e:Ex):cellsOk e.c=True:=eq_true e.ok
@[simp] theorem Ex.fzm (n:Nat) (ks:List Nat) (L:List AO) (d:Nat) (e:Ex):e.c.map (SV.fz n ks L (d+1))=e.c:=map_fz_under _ _ _ _ (Ex.und _ e)
end Go.Proofs.YtmkdpmfhlfhjkaaGreatDoor
namespace Go.Proofs.YtmkdpmfhlfhjkaaGreatDoor
open Go.Ab
structure Gd (c:Cx) (d:Nat) (r:Rd):Prop where
 a:r.a≤c.ts.length
 v:r.e≠0∨r.v+d=40
def Kp {α:Type} (c:Cx) (d:Nat) (F:Rd->α×Rd):Prop:=∀ r,Gd c d r->Gd c d (F r).2∧r.a≤(F r).2.a
def opAt (c:Cx) (ops:List (List UInt8×Int)) (r:Rd):Option Int:=(ops.find? fun o=>peekR c o.1 r).map (·.2)
def binL (c:Cx) (ops:List (List UInt8×Int)) (f:Rd->Ex×Rd):Nat->Ex->Rd->Ex×Rd
 | 0,e,r=>(e,r)
 | n+1,e,r=>match opAt c ops r with
  | some op=>binL c ops f n (.mk op 0 [] [e,(f (nextR r)).1] (hereR c r)) (f (nextR r)).2
  | none=>(e,r)
def binF (c:Cx) (ops:List (List UInt8×Int)) (f:Rd->Ex×Rd) (r:Rd):Ex×Rd:=binL c ops f c.ts.length (f r).1 (f r).2
def orO:List (List UInt8×Int):=[([111,114],17)]
def andO:List (List UInt8×Int):=[([97,110,100],16)]
def cmpO:List (List UInt8×Int):=[([61,61],10),([33,61],11),([60],12),([60,61],13),([62],14),([62,61],15)]
def sumO:List (List UInt8×Int):=[([43],8),([45],9)]
def mulO:List (List UInt8×Int):=[([42],5),([47],6),([37],7)]
def cmpF (c:Cx) (f:Rd->Ex×Rd) (r:Rd):Ex×Rd:=match opAt c cmpO (f r).2 with
 | some op=>(.mk op 0 [] [(f r).1,(f (nextR (f r).2)).1] (hereR c (f r).2),(f (nextR (f r).2)).2)
 | none=>f r
theorem peek_tok {c:Cx} {s:List UInt8} {r:Rd} (h:peekR c s r=true):r.e=0∧∃ h:r.a<c.ts.length,c.ts[r.a].k≠2∧c.ts[r.a].tx=s:=by
 obtain⟨h1,h2,h3⟩:=tokB_lt h
 simp at h3
 exact⟨h1,h2,h3.1,h3.2⟩
theorem opAt_lt {c:Cx} {ops:List (List UInt8×Int)} {r:Rd} {op:Int} (h:opAt c ops r=some op):r.e=0∧r.a<c.ts.length:=by
 unfold opAt at h
 rw[Option.map_eq_some_iff]at h
 obtain⟨o,h1,_⟩:=h
 have:=List.find?_some h1
 obtain⟨h2,h3,_⟩:=peek_tok this
 exact⟨h2,h3⟩
theorem Gd.next {c:Cx} {d:Nat} {r:Rd} (h:Gd c d r) (hl:r.a<c.ts.length):Gd c d (nextR r):=⟨hl,h.v⟩
theorem binL_keep {c:Cx} {ops:List (List UInt8×Int)} {f:Rd->Ex×Rd} {d:Nat} (hf:Kp c d f):∀ (n:Nat) (e:Ex) (r:Rd),Gd c d r->Gd c d (binL c ops f n e r).2∧r.a≤(binL c ops f n e r).2.a
 | 0,e,r,h=>⟨h,Nat.le_refl _⟩
 | n+1,e,r,h=>by
  rw[binL]
  split
  · rename_i op ho
    obtain⟨_,hl⟩:=opAt_lt ho
    obtain⟨h1,h2⟩:=hf _ (h.next hl)
    obtain⟨h3,h4⟩:=binL_keep hf n (.mk op 0 [] [e,(f (nextR r)).1] (hereR c r)) _ h1
    exact⟨h3,by have:r.a+1≤_:=h2; omega⟩
  · exact⟨h,Nat.le_refl _⟩
theorem binF_keep {c:Cx} {ops:List (List UInt8×Int)} {f:Rd->Ex×Rd} {d:Nat} (hf:Kp c d f):Kp c d (binF c ops f):=by
 intro r h
 obtain⟨h1,h2⟩:=hf r h
 obtain⟨h3,h4⟩:=binL_keep (ops:=ops) hf c.ts.length (f r).1 _ h1
 exact⟨h3,Nat.le_trans h2 h4⟩
theorem cmpF_keep {c:Cx} {f:Rd->Ex×Rd} {d:Nat} (hf:Kp c d f):Kp c d (cmpF c f):=by
 intro r h
 obtain⟨h1,h2⟩:=hf r h
 unfold cmpF
 split
 · rename_i op ho
   obtain⟨_,hl⟩:=opAt_lt ho
   obtain⟨h3,h4⟩:=hf _ (h1.next hl)
   exact⟨h3,by have:(f r).2.a+1≤_:=h4; simp only; omega⟩
 · exact⟨h1,h2⟩
def RdC (c:Cx) (k:FuncId) (F:Rd->Ex×Rd) (d:Nat):Prop :=
 ∀ {H:List AO} {j:Nat} {r:Rd},j<H.length->Gd c d r->Ok Tryz.prog k [rp j] (H.set j (rdO c r)) (.ret (F r).1.v) (H.set j (rdO c (F r).2))
theorem RdC.app {c:Cx} {k:FuncId} {F:Rd->Ex×Rd} {d:Nat} (h:RdC c k F d) {H:List AO} {j:Nat} {r:Rd} (hj:j<H.length) (hr:Gd c d r) (L:List AO) :
 Ok Tryz.prog k [rp j] (H.set j (rdO c r)++L) (.ret (F r).1.v) (H.set j (rdO c (F r).2)++L):=by
 have:=h (H:=H++L) (j:=j) (r:=r) (by simp; omega) hr
 rwa [List.set_append_left _ _ hj,List.set_append_left _ _ hj]at this
section
variable {H:List AO} {c:Cx} {r:Rd} {j:Nat}
def zO:AO:=⟨[i64 0,i64 0,st (B []),.val (.slice none 0 0),i64 0],25,0,true⟩
def eO (e:Ex):AO:=⟨e.c,25,0,true⟩
end
end Go.Proofs.YtmkdpmfhlfhjkaaGreatDoor
namespace Go.Proofs.YtmkdpmfhlfhjkaaGreatDoor
open Go.Ab
section
variable {H:List AO} {c:Cx} {r:Rd} {j:Nat}
theorem ocL (hj:j<H.length) (cs:List SV) (t:TypeId) (L:List AO):objCells (H.set j ⟨cs,t,0,true⟩++L) j 0=cs:=by
 have:(H.set j ⟨cs,t,0,true⟩++L)[j]? = some ⟨cs,t,0,true⟩:=by rw[List.getElem?_append_left (by simpa using hj)]; simp[hj]
 exact objCells_of this rfl
theorem soL (hj:j<H.length) (o:AO) (L:List AO) (f:AO->AO):Ab.setObj (H.set j o++L) j f=H.set j (f o)++L:=by
 rw[setObj_some (o:=o) (by rw[List.getElem?_append_left (by simpa using hj)]; simp[hj]),List.set_append_left _ _ (by simpa using hj),List.set_set]
end
end Go.Proofs.YtmkdpmfhlfhjkaaGreatDoor
namespace Go.Proofs.YtmkdpmfhlfhjkaaGreatDoor
open Go.Ab
end Go.Proofs.YtmkdpmfhlfhjkaaGreatDoor
namespace Go.Proofs.YtmkdpmfhlfhjkaaGreatDoor
open Go.Ab
end Go.Proofs.YtmkdpmfhlfhjkaaGreatDoor
namespace Go.Proofs.YtmkdpmfhlfhjkaaGreatDoor
open Go.Ab
def notG (c:Cx) (cmp ntP:Rd->Ex×Rd) (r:Rd):Ex×Rd :=
 if peekR c [110,111,116] r=true then
  if(openR c [110,111,116] r).2.e≠0 then(zE,(openR c [110,111,116] r).2)
  else(.mk 4 0 [] [(ntP (openR c [110,111,116] r).2).1] (openR c [110,111,116] r).1,dnR (ntP (openR c [110,111,116] r).2).2)
 else cmp r
def argsG (c:Cx) (orP:Rd->Ex×Rd):Nat->List Ex->Rd->Option (List Ex)×Rd
 | 0,l,r=>(some l,r)
 | n+1,l,r=>if(takeR c [44] r).2.e≠0 then(none,(takeR c [44] r).2)else argsG c orP n (l++[(orP (takeR c [44] r).2).1]) (orP (takeR c [44] r).2).2
def callG (c:Cx) (orP:Rd->Ex×Rd) (s:List UInt8) (op:Int) (m:Nat) (p:Int) (r:Rd):Ex×Rd :=
 let r2:=(openR c [40] (takeR c s r).2).2
 if r2.e≠0 then(zE,r2)else
 match argsG c orP m [(orP r2).1] (orP r2).2 with
 | (none,r3)=>(zE,r3)
 | (some l,r3)=>(.mk op 0 [] l p,dnR (takeR c [41] r3).2)
def wrdO:List (List UInt8×Int×Nat):=[([109,105,110],18,1),([109,97,120],19,1),([105,102],20,2)]
def facG (c:Cx) (orP facP:Rd->Ex×Rd) (r:Rd):Ex×Rd :=
 if r.e≠0 then(zE,r)
 else if freeR c r=true then(.mk 2 0 (wordR c r).1 [] (hereR c r),(wordR c r).2)
 else if peekR c [45] r=true then
  if(openR c [45] r).2.e≠0 then(zE,(openR c [45] r).2)
  else(.mk 3 0 [] [(facP (openR c [45] r).2).1] (hereR c r),dnR (facP (openR c [45] r).2).2)
 else if peekR c [40] r=true then
  if(openR c [40] r).2.e≠0 then(zE,(openR c [40] r).2)
  else((orP (openR c [40] r).2).1,dnR (takeR c [41] (orP (openR c [40] r).2).2).2)
 else match wrdO.find? (fun w=>peekR c w.1 r)with
  | some w=>callG c orP w.1 w.2.1 w.2.2 (hereR c r) r
  | none=>(.mk 1 (nmR c r).1 [] [] (hereR c r),(nmR c r).2)
structure Lv where
 fac:Rd->Ex×Rd
 nt:Rd->Ex×Rd
def orOf (c:Cx) (L:Lv):Rd->Ex×Rd:=binF c orO (binF c andO L.nt)
def cmpOf (c:Cx) (fac:Rd->Ex×Rd):Rd->Ex×Rd:=cmpF c (binF c sumO (binF c mulO fac))
def lvS (c:Cx) (orP facP ntP:Rd->Ex×Rd):Lv:=⟨facG c orP facP,notG c (cmpOf c (facG c orP facP)) ntP⟩
def lv (c:Cx):Nat->Lv
 | 0=>lvS c (fun r=>(zE,r)) (fun r=>(zE,r)) (fun r=>(zE,r))
 | d+1=>lvS c (orOf c (lv c d)) (lv c d).fac (lv c d).nt
theorem fail_keep {c:Cx} {d:Nat} {r:Rd} {e:Int} (he:e≠0) (h:Gd c d r):Gd c d (failR c e r)∧(failR c e r).a=r.a∧(failR c e r).e≠0:=by
 unfold failR
 split
 · exact⟨⟨h.a,.inl he⟩,rfl,he⟩
 · rename_i h2; exact⟨h,rfl,h2⟩
theorem take_keep {c:Cx} {d:Nat} (s:List UInt8):Kp c d (takeR c s):=by
 intro r h
 unfold takeR
 split
 · rename_i hp
   exact⟨h.next (peek_lt hp),Nat.le_succ _⟩
 · obtain⟨h1,h2,_⟩:=fail_keep (e:=11) (by decide) h
   exact⟨h1,Nat.le_of_eq h2.symm⟩
theorem word_keep {c:Cx} {d:Nat}:Kp c d (wordR c):=by
 intro r h
 unfold wordR
 split
 · rename_i hp
   exact⟨h.next (tokB_lt hp).2.1,Nat.le_succ _⟩
 · obtain⟨h1,h2,_⟩:=fail_keep (e:=11) (by decide) h
   exact⟨h1,Nat.le_of_eq h2.symm⟩
theorem num_keep {c:Cx} {d:Nat}:Kp c d (nmR c):=by
 intro r h
 unfold nmR
 split
 · rename_i hp
   exact⟨h.next (tokB_lt hp).2.1,Nat.le_succ _⟩
 · obtain⟨h1,h2,_⟩:=fail_keep (e:=11) (by decide) h
   exact⟨h1,Nat.le_of_eq h2.symm⟩
theorem open_keep {c:Cx} {d:Nat} (hd:d≤40) {s:List UInt8} {r:Rd} (h:Gd c d r) :
 (openR c s r).2.a≤c.ts.length∧r.a≤(openR c s r).2.a∧((openR c s r).2.e=0->∃ d',d=d'+1∧Gd c d' (openR c s r).2):=by
 unfold openR
 by_cases hp:peekR c s r=true∧r.v=40
 · rw[if_pos hp]
   obtain⟨h1,h2,h3⟩:=fail_keep (e:=5) (by decide) h
   have hb:Gd c d (upR (failR c 5 r)):=⟨h1.a,.inl h3⟩
   obtain⟨k1,k2⟩:=take_keep s _ hb
   refine⟨k1.a,by rw[←h2]; exact k2,fun he => ?_⟩
   exfalso
   have:peekR c s (upR (failR c 5 r))=false:=by
    rw[←Bool.not_eq_true]; intro h4
    exact h3 (peek_tok h4).1
   unfold takeR at he
   rw[this]at he
   simp only[Bool.false_eq_true,if_false]at he
   unfold failR at he
   rw[if_neg (by exact h3)]at he
   exact h3 he
 · rw[if_neg hp]
   have hb:Gd c d (upR r)∨True:=.inr trivial
   by_cases hpk:peekR c s r=true
   · have hv:r.v≠40:=fun h=>hp ⟨hpk,h⟩
     obtain⟨he0,hlt,_⟩:=peek_tok hpk
     have hpu:peekR c s (upR r)=true:=hpk
     have ht:takeR c s (upR r)=(hereR c (upR r),nextR (upR r)):=by unfold takeR; rw[if_pos hpu]
     rw[ht]
     have hv2:=h.v.resolve_left (fun h=>h he0)
     refine⟨hlt,Nat.le_succ _,fun _=>⟨d-1,by omega,hlt,.inr ?_⟩⟩
     have:IntKind.i64.wrap (r.v+1)=r.v+1:=wrap_id (by omega) (by omega)
     simp only[nextR,upR,this]
     omega
   · have hpu:peekR c s (upR r)=false:=by rw[←Bool.not_eq_true]; exact hpk
     have ht:takeR c s (upR r)=(hereR c (upR r),failR c 11 (upR r)):=by unfold takeR; rw[hpu]; rfl
     rw[ht]
     have hf:(failR c 11 (upR r)).a=r.a∧(failR c 11 (upR r)).e≠0:=by
      unfold failR
      split
      · exact⟨rfl,show(11:Int)≠0 by decide⟩
      · rename_i h2; exact⟨rfl,h2⟩
     exact⟨by rw[hf.1]; exact h.a,by rw[hf.1]; exact Nat.le_refl _,fun he=>absurd he hf.2⟩
theorem Gd.dn {c:Cx} {d:Nat} (hd:d+1≤40) {r:Rd} (h:Gd c d r):Gd c (d+1) (dnR r):=by
 refine⟨h.a,?_⟩
 rcases h.v with h1 | h1
 · exact .inl h1
 · right
   have:IntKind.i64.wrap (r.v-1)=r.v-1:=wrap_id (by omega) (by omega)
   simp only[dnR,this]; omega
theorem Gd.bad {c:Cx} {d d':Nat} {r:Rd} (h:r.a≤c.ts.length) (he:r.e≠0):Gd c d r:=⟨h,.inl he⟩
theorem notG_keep {c:Cx} {d:Nat} (hd:d≤40) {cmp ntP:Rd->Ex×Rd} (h1:Kp c d cmp) (h2:∀ d',d=d'+1->Kp c d' ntP):Kp c d (notG c cmp ntP):=by
 intro r h
 unfold notG
 split
 · obtain⟨k1,k2,k3⟩:=open_keep hd (s:=[110,111,116]) h
   split
   · rename_i he
     exact⟨⟨k1,.inl he⟩,k2⟩
   · rename_i he
     obtain⟨d',rfl,hg⟩:=k3 (by simpa using he)
     obtain⟨k4,k5⟩:=h2 d' rfl _ hg
     exact⟨k4.dn hd,Nat.le_trans k2 k5⟩
 · exact h1 r h
theorem argsG_keep {c:Cx} {d:Nat} {orP:Rd->Ex×Rd} (hk:Kp c d orP):∀ (n:Nat) (l:List Ex) (r:Rd),Gd c d r->Gd c d (argsG c orP n l r).2∧r.a≤(argsG c orP n l r).2.a∧((argsG c orP n l r).1=none->(argsG c orP n l r).2.e≠0)
 | 0,l,r,h=>⟨h,Nat.le_refl _,fun h=>by cases h⟩
 | n+1,l,r,h=>by
  rw[argsG]
  obtain⟨k1,k2⟩:=take_keep [44] r h
  split
  · rename_i he
    exact⟨k1,k2,fun _=>he⟩
  · obtain⟨k3,k4⟩:=hk _ k1
    obtain⟨k5,k6,k7⟩:=argsG_keep hk n (l++[(orP (takeR c [44] r).2).1]) _ k3
    exact⟨k5,Nat.le_trans k2 (Nat.le_trans k4 k6),k7⟩
theorem callG_keep {c:Cx} {d:Nat} (hd:d≤40) {orP:Rd->Ex×Rd} (hk:∀ d',d=d'+1->Kp c d' orP) (s:List UInt8) (op:Int) (m:Nat) (p:Int):Kp c d (callG c orP s op m p):=by
 intro r h
 obtain⟨k1,k2⟩:=take_keep s r h
 obtain⟨k3,k4,k5⟩:=open_keep hd (s:=[40]) k1
 unfold callG
 dsimp only
 split
 · rename_i he
   exact⟨⟨k3,.inl he⟩,Nat.le_trans k2 k4⟩
 · rename_i he
   obtain⟨d',rfl,hg⟩:=k5 (by simpa using he)
   obtain⟨k6,k7⟩:=hk d' rfl _ hg
   obtain⟨k8,k9,k10⟩:=argsG_keep (hk d' rfl) m [(orP (openR c [40] (takeR c s r).2).2).1] _ k6
   split
   · rename_i r3 hr
     rw[hr]at k8 k9 k10
     exact⟨⟨k8.a,.inl (k10 rfl)⟩,Nat.le_trans k2 (Nat.le_trans k4 (Nat.le_trans k7 k9))⟩
   · rename_i l r3 hr
     rw[hr]at k8 k9 k10
     obtain⟨k11,k12⟩:=take_keep [41] r3 k8
     exact⟨k11.dn hd,Nat.le_trans k2 (Nat.le_trans k4 (Nat.le_trans k7 (Nat.le_trans k9 k12)))⟩
theorem facG_keep {c:Cx} {d:Nat} (hd:d≤40) {orP facP:Rd->Ex×Rd} (h1:∀ d',d=d'+1->Kp c d' orP) (h2:∀ d',d=d'+1->Kp c d' facP):Kp c d (facG c orP facP):=by
 intro r h
 unfold facG
 split
 · exact⟨h,Nat.le_refl _⟩
 split
 · exact word_keep r h
 split
 · obtain⟨k1,k2,k3⟩:=open_keep hd (s:=[45]) h
   split
   · rename_i he
     exact⟨⟨k1,.inl he⟩,k2⟩
   · rename_i he
     obtain⟨d',rfl,hg⟩:=k3 (by simpa using he)
     obtain⟨k4,k5⟩:=h2 d' rfl _ hg
     exact⟨k4.dn hd,Nat.le_trans k2 k5⟩
 split
 · obtain⟨k1,k2,k3⟩:=open_keep hd (s:=[40]) h
   split
   · rename_i he
     exact⟨⟨k1,.inl he⟩,k2⟩
   · rename_i he
     obtain⟨d',rfl,hg⟩:=k3 (by simpa using he)
     obtain⟨k4,k5⟩:=h1 d' rfl _ hg
     obtain⟨k6,k7⟩:=take_keep [41] _ k4
     exact⟨k6.dn hd,Nat.le_trans k2 (Nat.le_trans k5 k7)⟩
 split
 · exact callG_keep hd h1 _ _ _ _ r h
 · exact num_keep r h
theorem lv_keep (c:Cx):∀ d:Nat,d≤40->Kp c d (lv c d).fac∧Kp c d (lv c d).nt∧Kp c d (orOf c (lv c d))
 | 0,hd=>by
  have h1:Kp c 0 (lv c 0).fac:=facG_keep hd (fun d' h=>by omega) (fun d' h=>by omega)
  have h2:Kp c 0 (lv c 0).nt:=notG_keep hd (cmpF_keep (binF_keep (binF_keep h1))) (fun d' h=>by omega)
  exact⟨h1,h2,binF_keep (binF_keep h2)⟩
 | d+1,hd=>by
  obtain⟨p1,p2,p3⟩:=lv_keep c d (by omega)
  have h1:Kp c (d+1) (lv c (d+1)).fac:=facG_keep hd (fun d' h=>by cases h; exact p3) (fun d' h=>by cases h; exact p1)
  have h2:Kp c (d+1) (lv c (d+1)).nt:=notG_keep hd (cmpF_keep (binF_keep (binF_keep h1))) (fun d' h=>by cases h; exact p2)
  exact⟨h1,h2,binF_keep (binF_keep h2)⟩
end Go.Proofs.YtmkdpmfhlfhjkaaGreatDoor
namespace Go.Proofs.YtmkdpmfhlfhjkaaGreatDoor
open Go.Ab
section
variable {H:List AO} {c:Cx} {r:Rd} {j:Nat}
theorem leaf_le (op n:Int) (nm:List UInt8) (p:Int):SV.le (.agg [i64 op,i64 n,st (B nm),.val (.slice none 0 0),i64 p]) (Ex.mk op n nm [] p).v:=by
 simp only[Ex.v,Ex.c,Ex.cL,List.length_nil]
 exact le_agg (leL.cons (SV.le.refl _) (leL.cons (SV.le.refl _) (leL.cons (SV.le.refl _) (leL.cons le_nil (leL.cons (SV.le.refl _) leL.nil)))))
theorem cv_leaf {o:AO} (hcl:closed (H.set j o)) (op n:Int) (nm:List UInt8) (p:Int) (L:List AO):Cv H.length (.agg [i64 op,i64 n,st (B nm),.val (.slice none 0 0),i64 p]) (H.set j o++L) (Ex.mk op n nm [] p).v (H.set j o) :=
 Cv.le (cv_fz (r1:=.agg [i64 op,i64 n,st (B nm),.val (.slice none 0 0),i64 p]) (r:=.agg [i64 op,i64 n,st (B nm),.val (.slice none 0 0),i64 p]) (n0:=H.length) 3 hcl (by simp) (by simp)) (leaf_le op n nm p)
end
end Go.Proofs.YtmkdpmfhlfhjkaaGreatDoor
namespace Go.Proofs.YtmkdpmfhlfhjkaaGreatDoor
open Go.Ab
section
variable {H:List AO} {c:Cx} {r:Rd} {j:Nat}
theorem exL_len:∀ a:List Ex,(Ex.cL a).length=a.length*5
 | []=>rfl
 | x::a=>by rw[Ex.cL,List.length_append,exL_len a]; simp; omega
end
end Go.Proofs.YtmkdpmfhlfhjkaaGreatDoor
namespace Go.Proofs.YtmkdpmfhlfhjkaaGreatDoor
open Go.Ab
section
variable {H:List AO} {c:Cx} {r:Rd} {j:Nat}
@[simp] theorem exL_fzm (n:Nat) (ks:List Nat) (L:List AO) (d:Nat) (l:List Ex):(Ex.cL l).map (SV.fz n ks L (d+1))=Ex.cL l:=map_fz_under _ _ _ _ (Ex.undL _ l)
end
end Go.Proofs.YtmkdpmfhlfhjkaaGreatDoor
namespace Go.Proofs.YtmkdpmfhlfhjkaaGreatDoor
open Go.Ab
def orT (c:Cx):Rd->Ex×Rd:=orOf c (lv c 40)
def exprT (c:Cx):Ex×Int×Int :=
 let x:=orT c ⟨0,0,0,0⟩
 let r:=if x.2.a<c.ts.length then failR c 11 x.2 else x.2
 if r.e≠0 then(zE,r.e,r.p)else(x.1,0,0)
def exprR (l:List UInt8):Ex×Int×Int :=
 if(scanG l).2.1≠0 then(zE,(scanG l).2)else exprT ⟨(scanG l).1,l.length⟩
theorem RdC.at {c:Cx} {k:FuncId} {F:Rd->Ex×Rd} {d:Nat} (h:RdC c k F d) {G:List AO} {j:Nat} {r:Rd} (ho:G[j]? = some (rdO c r)) (hr:Gd c d r) :
 Ok Tryz.prog k [rp j] G (.ret (F r).1.v) (G.set j (rdO c (F r).2)):=by
 have:=h (H:=G) (getElem?_lt ho) hr
 rwa [set_same ho]at this
theorem toks_len (l:List Ev):(toks l).length≤l.length:=by
 induction l with
 | nil=>simp[toks]
 | cons x r ih=>cases x<;>simp[toks]<;>omega
theorem evs_len (l:List UInt8):∀ (n p:Nat),(evs l n p).length≤n
 | 0,p=>by simp[evs]
 | n+1,p=>by
  simp only[evs]
  have:=evs_len l n
  split
  · split<;>simp<;>first | omega | (have:=this ‹_›; omega) | skip
  · simp
theorem scan_len (l:List UInt8):(scanG l).1.length≤20000:=by
 unfold scanG
 split
 · simp
 · rename_i h
   split
   · refine Nat.le_trans (toks_len _) (Nat.le_trans (evs_len l l.length 0) (by omega))
   · simp
end Go.Proofs.YtmkdpmfhlfhjkaaGreatDoor
namespace Go.Proofs.YtmkdpmfhlfhjkaaGreatDoor
open Go.Ab
def mpK (ops:List (List UInt8×Int)):List Value:=ops.map fun o=>.string (B o.1)
def mpV (ops:List (List UInt8×Int)):List SV:=ops.map fun o=>i64 o.2
def mpS (ops:List (List UInt8×Int)):SV:=.mpf (mpK ops) (mpV ops)
def lvlC:List SV:=[mpS orO,mpS andO,mpS cmpO,mpS sumO,mpS mulO]
def pdC (c:Cx) (a:Nat) (v:Int):List SV:=[tksV c.ts,i64 a,i64 c.en,mpS orO,mpS andO,mpS cmpO,mpS sumO,mpS mulO,i64 v]
def pdO (c:Cx) (r:Rd):AO:=⟨pdC c r.a r.v,127,0,true⟩
def fltI (e p:Int):SV:=.ifc 28 (fltV e p)
def zTk:Tok:=⟨0,[],0,0⟩
def tkR (c:Cx) (r:Rd):Tok:=if h:r.a<c.ts.length then c.ts[r.a]else zTk
theorem tk_row {ts:List Tok} {i:Nat} (h:i<ts.length):List.take 4 (List.drop (i*4) (ts.flatMap Tok.c))=(ts[i]'h).c:=by
 induction ts generalizing i with
 | nil=>simp at h
 | cons t r ih =>
  rw[List.flatMap_cons]
  cases i with
  | zero=>rw[Nat.zero_mul,List.drop_zero,List.take_append_of_le_length (by simp[Tok.c])]; rfl
  | succ i =>
   have e:(i+1)*4=t.c.length+i*4:=by simp[Tok.c]; omega
   rw[e,List.drop_append,List.drop_eq_nil_of_le (by omega),List.nil_append,Nat.add_sub_cancel_left]
   exact ih (by simpa using h)
theorem Tok.c_len (t:Tok):t.c.length=4:=rfl
theorem Tok.cOk (t:Tok):cellsOk t.c:=by
 intro s hs
 simp[Tok.c]at hs
 rcases hs with rfl | rfl | rfl | rfl<;>rfl
structure Keep (H:List AO) (js:List Nat) (H':List AO):Prop where
 len:H.length≤H'.length
 at_:∀ i,i<H.length->i∉js->H'[i]? = H[i]?
theorem Keep.refl (H:List AO) (js:List Nat):Keep H js H:=⟨Nat.le_refl _,fun _ _ _=>rfl⟩
theorem Keep.set {H:List AO} {js:List Nat} {j:Nat} (hj:j∈js) (o:AO):Keep H js (H.set j o):=by
 refine⟨by simp,fun i _ hi => ?_⟩
 rw[List.getElem?_set_ne]
 rintro rfl; exact hi hj
theorem Keep.app {H:List AO} {js:List Nat} {j:Nat} (hj:j∈js) (o:AO) (L:List AO):Keep H js (H.set j o++L):=by
 refine⟨by simp,fun i hi hn => ?_⟩
 rw[List.getElem?_append_left (by simpa using hi),List.getElem?_set_ne]
 rintro rfl; exact hn hj
theorem Keep.trans {H H' H'':List AO} {js:List Nat} (h:Keep H js H') (h':Keep H' js H''):Keep H js H'' :=
 ⟨Nat.le_trans h.len h'.len,fun i hi hj=>(h'.at_ i (Nat.lt_of_lt_of_le hi h.len) hj).trans (h.at_ i hi hj)⟩
section
variable {H:List AO} {c:Cx} {r:Rd} {j:Nat}
theorem ok91 (ho:H[j]? = some (pdO c r)):Ok Tryz.prog 91 [rp j] H (.ret (i64 (hereR c r))) H:=by
 have hj:=getElem?_lt ho
 have e1:objCells H j 0=(pdO c r).cells:=objCells_of (o:=pdO c r) ho rfl
 refine ok_fn hm Tryz.func91 c91 (by simp[rp,SV.under,hj]) fun hcl => ?_
 unfold hereR
 by_cases h:r.a<c.ts.length
 · have k3:=tk_at (k:=3) h (by omega)
   simp -implicitDefEqProofs[i91,r91,rp,e1,pdO,pdC,h,tksV,k3,Tok.c]
   exact⟨by simp[sum4]; omega,cv_id⟩
 · simp -implicitDefEqProofs[i91,r91,rp,e1,pdO,pdC,h,tksV]
   exact cv_id
theorem ok79 (ho:H[j]? = some (pdO c r)) (e:Int):Ok Tryz.prog 79 [rp j,i64 e] H (.pan (fltI e (hereR c r))) H:=by
 have hj:=getElem?_lt ho
 have h91:=ok91 ho
 refine ok_fn hm Tryz.func79 c79 (by simp[rp,SV.under,hj]) fun hcl => ?_
 simp -implicitDefEqProofs[i79,r79]
 refine call_go h91 ?_
 simp -implicitDefEqProofs[fltI,fltV]
 exact cv_id
theorem ok139 (ho:H[j]? = some (pdO c r)):Ok Tryz.prog 139 [rp j] H (.ret (tkR c r).v) H:=by
 have hj:=getElem?_lt ho
 have e1:objCells H j 0=(pdO c r).cells:=objCells_of (o:=pdO c r) ho rfl
 have e1L:∀ L,objCells (H++L) j 0=(pdO c r).cells:=fun L=>by rw[objCells_app L hj]; exact e1
 refine ok_fn hm Tryz.func139 c139 (by simp[rp,SV.under,hj]) fun hcl => ?_
 unfold tkR
 by_cases h:r.a<c.ts.length
 · have kt:=tk_row h
   have hm4:min 4 (c.ts.length*4-r.a*4)=4:=by omega
   have ht:List.take 4 (c.ts[r.a]'h).c=(c.ts[r.a]'h).c:=rfl
   simp -implicitDefEqProofs[i139,r139,rp,e1L,pdO,pdC,h,tksV,kt,Tok.c_len,sum4,hm4,ht]
   refine⟨by omega,Tok.cOk _,?_⟩
   exact cv_fz 2 hcl rfl rfl
 · simp -implicitDefEqProofs[i139,r139,rp,e1L,pdO,pdC,h,tksV]
   exact cv_fz 2 hcl rfl rfl
end
end Go.Proofs.YtmkdpmfhlfhjkaaGreatDoor
namespace Go.Proofs.YtmkdpmfhlfhjkaaGreatDoor
open Go.Ab
def wds (l:List (List UInt8)):List SV:=l.map fun s=>st (B s)
@[simp] theorem wds_len (l:List (List UInt8)):(wds l).length=l.length:=by simp[wds]
structure IsS (H:List AO) (x:SV) (l:List (List UInt8)):Prop where
 vd:x.vd=true
 ug:x.ug=x
 sl:x.isSl=true
 cell:x.isCell=true
 sz:x.szIs 1=true
 len:x.slen=l.length
 und:x.under H.length=true
 row:(x.row H).take l.length=wds l
 flat:x.flat=[x]
namespace IsS
variable {H:List AO} {x:SV} {l:List (List UInt8)}
theorem app (h:IsS H x l) (L:List AO):IsS (H++L) x l :=
 ⟨h.vd,h.ug,h.sl,h.cell,h.sz,h.len,SV.under_mono (by simp) x h.und,by rw[row_app L h.und]; exact h.row,h.flat⟩
theorem slc (H:List AO) (l:List (List UInt8)):IsS H (.slc (wds l) l.length) l :=
 ⟨rfl,rfl,rfl,rfl,rfl,rfl,by simp[SV.under,wds,SV.underL_iff],by simp[SV.row,<- wds_len],rfl⟩
theorem rowlen (h:IsS H x l):l.length≤(x.row H).length:=by
 have:=congrArg List.length h.row
 simp at this; omega
theorem ld (h:IsS H x l) {k:Nat} (hk:k<l.length):((x.row H).drop k).headD .any=st (B (l[k]'hk)):=by
 have h2:((x.row H).take l.length)[k]? = (wds l)[k]? := by rw[h.row]
 rw[List.getElem?_take_of_lt hk]at h2
 rw[List.headD_eq_head?_getD,List.head?_drop,h2]
 simp[wds,hk]
theorem okA (h:IsS H x l) (L:List AO) {k:Nat} (hk:k<l.length):ldok (H++L) (.ptr x k) 1:=by
 have:=(h.app L).rowlen
 simp only[ldok,at_ptr,List.length_drop]; omega
theorem vA (h:IsS H x l) (L:List AO) {k:Nat} (hk:k<l.length):ldv (H++L) (.ptr x k)=st (B (l[k]'hk)):=by
 have:=(h.app L).ld hk
 simp only[ldv,at_ptr,this]
theorem own1 {H L:List AO} {T:TypeId} {l:List (List UInt8)} {k n ver:Nat} (h:L[k]? = some ⟨wds l,T,ver,true⟩) (hn:n=l.length):IsS (H++L) (.own (H.length+k) 0 n 1 ver) l:=by
 subst hn
 refine⟨rfl,rfl,rfl,rfl,rfl,rfl,?_,?_,rfl⟩
 · have:k<L.length:=getElem?_lt h
   simp; omega
 · simp only[SV.row,objCells_new,List.drop_zero]
   unfold objCells
   rw[h]
   simp[←wds_len]
end IsS
end Go.Proofs.YtmkdpmfhlfhjkaaGreatDoor
namespace Go.Proofs.YtmkdpmfhlfhjkaaGreatDoor
open Go.Ab
section
variable {H:List AO} {c:Cx} {r:Rd} {j:Nat}
theorem mpS_und (n:Nat) (ops:List (List UInt8×Int)):(mpS ops).under n=true:=by
 simp[mpS,SV.under,SV.underL_iff,mpV]
 rintro _ _ _ _ rfl
 rfl
theorem pd_und (n:Nat) (c:Cx) (a:Nat) (v:Int):SV.underL n (pdC c a v)=true:=by
 simp[pdC,SV.underL,SV.under,tksV,und_toks,mpS_und]
theorem closed_pd {a:Nat} {v:Int} (h:closed H):closed (H.set j ⟨pdC c a v,127,0,true⟩):=by
 have:=closed_set h j (o:=⟨pdC c a v,127,0,true⟩) (pd_und _ _ _ _)
 simpa using this
theorem loop93 {G:List AO} {q:Nat} {t:Tok} (hq:G[q]? = some ⟨t.c,52,0,true⟩) {x:SV} {l:List (List UInt8)} (hx:IsS G x l) (hl:l.length<4611686018427387904) {N:Nat} {K:XE->Env->List AO->Prop}
 (hyes:t.tx∈l->∀ env,env.get 4=bl true->K .ret env G) (hno:t.tx∉l->∀ env,K (.exit 0) env G) :
 ∀ (m i:Nat) (env:Env),i+m=l.length->t.tx∉l.take i->env.get 5=rp q->env.get 10=x->env.get 11=i64 l.length->env.get 12=i64 i->LI Tryz.prog N drawB l93_0 env G K:=by
 have e1:objCells G q 0=t.c:=objCells_of (o:=⟨t.c,52,0,true⟩) hq rfl
 intro m
 induction m with
 | zero =>
  intro i env hi hn h5 h10 h11 h12
  refine li_go hm l93_0.eq_1 ?_
  have e:i=l.length:=by omega
  subst e
  rw[List.take_length]at hn
  simp -implicitDefEqProofs[h5,h10,h11,h12]
  exact hno hn _
 | succ m ih =>
  intro i env hi hn h5 h10 h11 h12
  refine li_go hm l93_0.eq_1 ?_
  have hlt:i<l.length:=by omega
  have hlt':(i:Int)<l.length:=by omega
  have hv:=hx.vA [] hlt
  have ho:=hx.okA [] hlt
  simp only[List.append_nil]at hv ho
  by_cases hs:t.tx=l[i]
  · simp -implicitDefEqProofs[h5,h10,h11,h12,hlt,hlt',hx.vd,hx.ug,hx.sl,hx.cell,hx.sz,hx.len,hv,ho,rp,e1,Tok.c,hs]
    exact hyes (hs ▸ List.getElem_mem hlt) _ (by simp)
  · simp -implicitDefEqProofs[h5,h10,h11,h12,hlt,hlt',hx.vd,hx.ug,hx.sl,hx.cell,hx.sz,hx.len,hv,ho,rp,e1,Tok.c,hs]
    refine ih (i+1) _ (by omega) ?_ ?_ ?_ ?_ ?_
    · rw[List.take_succ_eq_append_getElem hlt,List.mem_append]
      rintro(h | h)
      · exact hn h
      · exact hs (List.mem_singleton.1 h)
    all_goals simp[h5,h10,h11,wrap_suc (show i<9223372036854775807 by omega),rp]
theorem ok93 (ho:H[j]? = some (pdO c r)) {x:SV} {l:List (List UInt8)} (hx:IsS H x l) (hl:l.length<4611686018427387904):Ok Tryz.prog 93 [rp j,x] H (.ret (bl (decide ((tkR c r).tx∈l)))) H:=by
 have hj:=getElem?_lt ho
 have h139:=ok139 ho
 generalize tkR c r=t at h139 ⊢
 refine ok_fn hm Tryz.func93 c93 (by simp[rp,SV.under,hj,hx.und]) fun hcl => ?_
 simp -implicitDefEqProofs[i93,r93]
 refine call_go h139 ?_
 simp -implicitDefEqProofs[Tok.v,Tok.c,hx.vd,hx.ug,hx.sl,hx.len]
 by_cases ht:t.tx∈l
 · refine loop93 (G:=H++[⟨t.c,52,0,true⟩]) (q:=H.length) (t:=t) (by simp) (hx.app _) hl (fun _ env h4 => ?_) (fun h=>absurd ht h) l.length 0 _ (by omega) (by simp) ?_ ?_ ?_ ?_
   · simp -implicitDefEqProofs[h4,ht]
     exact cv_fz 2 hcl rfl rfl
   all_goals simp[rp]
 · refine loop93 (G:=H++[⟨t.c,52,0,true⟩]) (q:=H.length) (t:=t) (by simp) (hx.app _) hl (fun h=>absurd h ht) (fun _ env => ?_) l.length 0 _ (by omega) (by simp) ?_ ?_ ?_ ?_
   · simp -implicitDefEqProofs[ht]
     exact cv_fz 2 hcl rfl rfl
   all_goals simp[rp]
theorem ok140 (ho:H[j]? = some (pdO c r)) (hl:r.a<4611686018427387904):Ok Tryz.prog 140 [rp j] H (.ret (tkR c r).v) (H.set j (pdO c (nextR r))):=by
 have hj:=getElem?_lt ho
 have e1:objCells H j 0=(pdO c r).cells:=objCells_of (o:=pdO c r) ho rfl
 have e1L:∀ L,objCells (H++L) j 0=(pdO c r).cells:=fun L=>by rw[objCells_app L hj]; exact e1
 have e2:∀ (L:List AO) (f:AO->AO),Ab.setObj (H++L) j f=H.set j (f (pdO c r))++L:=fun L f=>by
  rw[setObj_some (o:=pdO c r) (by rw[List.getElem?_append_left hj]; exact ho),List.set_append_left _ _ hj]
 have h139:=fun L=>ok139 (H:=H++L) (c:=c) (r:=r) (j:=j) (by rw[List.getElem?_append_left hj]; exact ho)
 have w1:=wrap_succ (show r.a<9223372036854775807 by omega)
 generalize tkR c r=t at h139 ⊢
 refine ok_fn hm Tryz.func140 c140 (by simp[rp,SV.under,hj]) fun hcl => ?_
 simp -implicitDefEqProofs[i140,r140]
 refine call_go (h139 _) ?_
 simp -implicitDefEqProofs[Tok.v,Tok.c,rp,e1L,e2,pdO,pdC,w1]
 exact cv_fz 2 (closed_pd (c:=c) (a:=r.a+1) (v:=r.v) hcl) (by simp) rfl
end
end Go.Proofs.YtmkdpmfhlfhjkaaGreatDoor
namespace Go.Proofs.YtmkdpmfhlfhjkaaGreatDoor
open Go.Ab
def digB:List UInt8->Bool
 | []=>false
 | b::_=>decide (48≤b.toNat∧b.toNat≤57)
def NumT (c:Cx):Prop:=∀ t∈c.ts,t.k=2->digB t.tx=true
def wrdB (s:List UInt8):Bool := !s.isEmpty && !digB s
theorem peek_tk {c:Cx} (hn:NumT c) {s:List UInt8} (hs:wrdB s=true) {r:Rd} (he:r.e=0):peekR c s r=decide ((tkR c r).tx=s):=by
 unfold wrdB at hs
 rw[Bool.and_eq_true,Bool.not_eq_true',Bool.not_eq_true']at hs
 unfold peekR tokB tkR
 by_cases h:r.a<c.ts.length
 · simp only[he,h,dite_true,decide_true,Bool.true_and]
   by_cases h2:c.ts[r.a].k=2
   · have:=hn _ (List.getElem_mem h) h2
     have hne:c.ts[r.a].tx≠s:=fun e=>by rw[e,hs.2]at this; cases this
     simp[h2,hne]
   · simp[h2]
 · have hne:([]:List UInt8)≠s:=fun e=>by rw[←e]at hs; simp at hs
   simp[he,h,zTk,hne]
theorem mem_peek {c:Cx} (hn:NumT c) {s:List UInt8} (hs:wrdB s=true) {r:Rd} (he:r.e=0):decide ((tkR c r).tx∈[s])=peekR c s r:=by
 rw[peek_tk hn hs he]; simp
theorem free_tk {c:Cx} {r:Rd} (he:r.e=0):freeR c r=(decide ((tkR c r).k=1) && !decide ((tkR c r).tx∈resv)):=by
 unfold freeR tokB tkR
 by_cases h:r.a<c.ts.length
 · simp[he,h]
 · simp[he,h,zTk]
theorem num_tk {c:Cx} {r:Rd} (he:r.e=0):isNum c r=decide ((tkR c r).k=2):=by
 unfold isNum tokB tkR
 by_cases h:r.a<c.ts.length
 · simp[he,h]
 · simp[he,h,zTk]
theorem lk_ops (s:List UInt8):∀ ops:List (List UInt8×Int),lkm (.string (B s)) (mpK ops) (mpV ops)=(ops.find? fun o=>decide (s=o.1)).map fun o=>i64 o.2
 | []=>rfl
 | o::r=>by
  have h:=lk_ops s r
  simp only[mpK,mpV]at h
  simp only[mpK,mpV,List.map_cons,lkm,List.find?_cons,vkeq,B_list]
  by_cases hs:s=o.1
  · simp[hs]
  · simp[hs,h]
theorem opAt_tk {c:Cx} (hn:NumT c) {r:Rd} (he:r.e=0):∀ {ops:List (List UInt8×Int)},(ops.all fun o=>wrdB o.1)=true->opAt c ops r=(ops.find? fun o=>decide ((tkR c r).tx=o.1)).map (·.2)
 | [],_=>rfl
 | o::l,h=>by
  rw[List.all_cons,Bool.and_eq_true]at h
  have:=opAt_tk hn he h.2
  unfold opAt at this ⊢
  rw[List.find?_cons,List.find?_cons,peek_tk hn h.1 he]
  by_cases ht:(tkR c r).tx=o.1
  · simp[ht]
  · simp[ht,this]
section
variable {H:List AO} {c:Cx} {r:Rd} {j:Nat}
theorem own_set {G L:List AO} {j k ver T:Nat} {l:List (List UInt8)} {n:Nat} (hj:j<G.length) (h:L[k]? = some ⟨wds l,T,ver,true⟩) (hn:n=l.length) (o:AO):IsS ((G++L).set j o) (.own (G.length+k) 0 n 1 ver) l:=by
 rw[List.set_append_left _ _ hj]
 have:=IsS.own1 (H:=G.set j o) (L:=L) (k:=k) h hn
 simpa using this
def accR (c:Cx) (s:List UInt8) (r:Rd):Rd:=if peekR c s r=true then nextR r else r
theorem ok90 (hn:NumT c) (ho:H[j]? = some (pdO c r)) (hl:r.a<4611686018427387904) (he:r.e=0) {s:List UInt8} (hs:wrdB s=true) :
 Ok Tryz.prog 90 [rp j,st (B s)] H (.ret (bl (peekR c s r))) (H.set j (pdO c (accR c s r))):=by
 have hj:=getElem?_lt ho
 have e1:objCells H j 0=(pdO c r).cells:=objCells_of (o:=pdO c r) ho rfl
 have e1L:∀ L,objCells (H++L) j 0=(pdO c r).cells:=fun L=>by rw[objCells_app L hj]; exact e1
 have e2:∀ (L:List AO) (f:AO->AO),Ab.setObj (H++L) j f=H.set j (f (pdO c r))++L:=fun L f=>by
  rw[setObj_some (o:=pdO c r) (by rw[List.getElem?_append_left hj]; exact ho),List.set_append_left _ _ hj]
 have h93:=ok93 (H:=H++[⟨[st (B s)],9,0,true⟩]) (c:=c) (r:=r) (j:=j) (by rw[List.getElem?_append_left hj]; exact ho) (x:=.own H.length 0 1 1 0) (l:=[s]) (IsS.own1 (k:=0) rfl rfl) (by simp)
 rw[mem_peek hn hs he]at h93
 have w1:=wrap_succ (show r.a<9223372036854775807 by omega)
 refine ok_fn hm Tryz.func90 c90 (by simp[rp,SV.under,hj]) fun hcl => ?_
 simp -implicitDefEqProofs[i90,r90]
 refine call_go h93 ?_
 unfold accR
 by_cases hp:peekR c s r=true
 · simp -implicitDefEqProofs[hp,rp,e1L,e2,pdO,pdC,w1]
   exact cv_fz 2 (closed_pd (c:=c) (a:=r.a+1) (v:=r.v) hcl) (by simp) rfl
 · rw[Bool.not_eq_true]at hp
   simp -implicitDefEqProofs[hp]
   rw[set_same ho]
   exact cv_fz 2 hcl rfl rfl
def wantR (c:Cx):List (List UInt8)->Rd->Rd
 | [],r=>r
 | s::l,r=>wantR c l (takeR c s r).2
def PdV {α:Type} (c:Cx) (G:List AO) (j:Nat) (f:α->SV) (q:α×Rd) (o:Out) (H':List AO):Prop :=
 if q.2.e=0 then o=.ret (f q.1)∧H'=G.set j (pdO c q.2)else o=.pan (fltI q.2.e q.2.p)∧Keep G [j] H'
theorem want_bad (c:Cx):∀ (l:List (List UInt8)) (r:Rd),r.e≠0->wantR c l r=r
 | [],r,_=>rfl
 | s::l,r,h=>by
  have hp:peekR c s r=false:=by simp[peekR,tokB,h]
  rw[wantR]
  have:(takeR c s r).2=r:=by simp[takeR,hp,failR,h]
  rw[this]; exact want_bad c l r h
theorem loop87 (hn:NumT c) (hj:j<H.length) {x:SV} {l:List (List UInt8)} (hx:∀ o,IsS (H.set j o) x l) (hl:l.length<4611686018427387904) (hct:c.ts.length<4611686018427387904) (hw:∀ s∈l,wrdB s=true) {N:Nat} {K:XE->Env->List AO->Prop} {res:Rd}
 (hexit:res.e=0->∀ env,K (.exit 0) env (H.set j (pdO c res))) (hpan:res.e≠0->∀ env r,K (.panic (fltI res.e res.p)) env (H.set j (pdO c r))) :
 ∀ (m i:Nat) (r:Rd) (env:Env),i+m=l.length->wantR c (l.drop i) r=res->r.e=0->r.a≤c.ts.length->env.get 0=rp j->env.get 6=x->env.get 7=i64 l.length->env.get 8=i64 i->LI Tryz.prog N drawB l87_0 env (H.set j (pdO c r)) K:=by
 intro m
 induction m with
 | zero =>
  intro i r env hi hr he ha h0 h6 h7 h8
  refine li_go hm l87_0.eq_1 ?_
  have e:i=l.length:=by omega
  subst e
  rw[List.drop_length,wantR]at hr
  subst hr
  simp -implicitDefEqProofs[h0,h6,h7,h8]
  exact hexit he _
 | succ m ih =>
  intro i r env hi hr he ha h0 h6 h7 h8
  refine li_go hm l87_0.eq_1 ?_
  have hlt:i<l.length:=by omega
  have hlt':(i:Int)<l.length:=by omega
  have hxo:=hx (pdO c r)
  have hv:=hxo.vA [] hlt
  have ho:=hxo.okA [] hlt
  simp only[List.append_nil]at hv ho
  rw[List.drop_eq_getElem_cons hlt,wantR]at hr
  have hws:=hw _ (List.getElem_mem hlt)
  generalize l[i]=s at hv hr hws
  have hoj:(H.set j (pdO c r))[j]? = some (pdO c r):=by simp[hj]
  have h90:=ok90 hn hoj (by omega) he hws
  simp -implicitDefEqProofs[h0,h6,h7,h8,hlt,hlt',hxo.vd,hxo.ug,hxo.sl,hxo.cell,hxo.sz,hxo.len,hv,ho]
  refine call_go h90 ?_
  by_cases hp:peekR c s r=true
  · have ht:(takeR c s r).2=nextR r:=by simp[takeR,hp]
    rw[ht]at hr
    have hlt2:=peek_lt hp
    simp -implicitDefEqProofs[hp,h0,h6,h7,h8,accR]
    exact ih (i+1) (nextR r) _ (by omega) hr he (by simp[nextR]; omega) (by simp[h0]) (by simp[h6]) (by simp[h7]) (by simp[h8,wrap_suc (show i<9223372036854775807 by omega)])
  · rw[Bool.not_eq_true]at hp
    have ht:(takeR c s r).2=failR c 11 r:=by simp[takeR,hp]
    have hfe:(failR c 11 r).e=11:=by simp[failR,he]
    rw[ht,want_bad c _ _ (by rw[hfe]; decide)]at hr
    have h79:=ok79 hoj 11
    have hfp:(failR c 11 r).p=hereR c r:=by simp[failR,he]
    simp -implicitDefEqProofs[hp,h0,h6,h7,h8,accR]
    refine call_go h79 ?_
    rw[←hr,hfe,hfp]at hpan
    simp -implicitDefEqProofs[hp]
    exact hpan (by decide) _ r
theorem ok87 (hn:NumT c) (ho:H[j]? = some (pdO c r)) {x:SV} {l:List (List UInt8)} (hx:∀ o,IsS (H.set j o) x l) (hl:l.length<4611686018427387904) (hct:c.ts.length<4611686018427387904) (hw:∀ s∈l,wrdB s=true) (he:r.e=0) (ha:r.a≤c.ts.length) :
 OkP Tryz.prog 87 [rp j,x] H (PdV c H j (fun _:Unit=>.tup []) ((),wantR c l r)):=by
 have hj:=getElem?_lt ho
 have hxo:=hx (pdO c r)
 refine okP_fn hm Tryz.func87 c87 (by have:=hxo.und; simp at this; simp[rp,SV.under,hj,this]) fun hcl => ?_
 simp -implicitDefEqProofs[i87,r87,hxo.vd,hxo.ug,hxo.sl,hxo.len]
 refine LI.cong (H':=H.set j (pdO c r)) (set_same ho) ?_
 refine loop87 hn hj hx hl hct hw (res:=wantR c l r) (fun he env => ?_) (fun he env r' => ?_) l.length 0 r _ (by omega) rfl he ha (by simp) (by simp) (by simp) (by simp)
 · simp -implicitDefEqProofs
   exact⟨_,_,by unfold PdV; rw[if_pos he]; exact⟨rfl,rfl⟩,cv_id⟩
 · exact⟨_,_,by unfold PdV; rw[if_neg he]; exact⟨rfl,Keep.set (by simp) _⟩,cv_id⟩
end
end Go.Proofs.YtmkdpmfhlfhjkaaGreatDoor
namespace Go.Proofs.YtmkdpmfhlfhjkaaGreatDoor
open Go.Ab
section
variable {H:List AO} {c:Cx} {r:Rd} {j:Nat}
set_option maxRecDepth 10000 in
theorem ok146 (s:List UInt8):Ok Tryz.prog 146 [st (B s)] H (.ret (bl (decide (s∈resv)))) H:=by
 refine ok_fn hm Tryz.func146 c146 (by simp) fun hcl => ?_
 by_cases h:s∈resv
 · have h':=h
   simp only[resv,List.mem_cons,List.not_mem_nil,or_false]at h'
   rcases h' with rfl | rfl | rfl | rfl | rfl | rfl | rfl | rfl | rfl | rfl | rfl | rfl | rfl | rfl | rfl | rfl | rfl | rfl | rfl | rfl | rfl | rfl <;>
    (simp -implicitDefEqProofs[i146,r146,h]; exact cv_id)
 · have h':=h
   simp only[resv,List.mem_cons,List.not_mem_nil,or_false,not_or]at h'
   simp -implicitDefEqProofs[i146,r146,h,h']
   exact cv_id
theorem ok92 (ho:H[j]? = some (pdO c r)) (he:r.e=0):Ok Tryz.prog 92 [rp j] H (.ret (bl (freeR c r))) H:=by
 have hj:=getElem?_lt ho
 have h139:=ok139 ho
 rw[free_tk he]
 generalize tkR c r=t at h139 ⊢
 refine ok_fn hm Tryz.func92 c92 (by simp[rp,SV.under,hj]) fun hcl => ?_
 simp -implicitDefEqProofs[i92,r92]
 refine call_go h139 ?_
 simp -implicitDefEqProofs[Tok.v,Tok.c]
 by_cases hk:t.k=1
 · simp -implicitDefEqProofs[hk]
   refine callq_st (r:=bl (decide (t.tx∈resv))) (fun _=>ok146 t.tx) ?_
   simp -implicitDefEqProofs[hk]
   exact cv_fz 2 hcl rfl rfl
 · simp -implicitDefEqProofs[hk]
   refine callq_off _ _ _ _ ?_
   simp -implicitDefEqProofs[hk]
   exact cv_fz 2 hcl rfl rfl
def dpR (c:Cx) (r:Rd):Rd:=if r.v=40 then failR c 5 (upR r)else nextR (upR r)
theorem ok178 (ho:H[j]? = some (pdO c r)) (hv:0≤r.v∧r.v≤40) (ha:r.a<4611686018427387904) (he:r.e=0):OkP Tryz.prog 178 [rp j] H (PdV c H j (fun _:Unit=>.tup []) ((),dpR c r)):=by
 have hj:=getElem?_lt ho
 have e1:objCells H j 0=(pdO c r).cells:=objCells_of (o:=pdO c r) ho rfl
 have e2:∀ (f:AO->AO),Ab.setObj H j f=H.set j (f (pdO c r)):=fun f=>setObj_some ho f
 have w1:IntKind.i64.wrap (r.v+1)=r.v+1:=wrap_id (by omega) (by omega)
 have ho2:(H.set j (pdO c (upR r)))[j]? = some (pdO c (upR r)):=by simp[hj]
 have h79:=ok79 ho2 5
 have h140:=ok140 ho2 (by simpa[upR]using ha)
 have e3:=oc_set hj (pdO c (upR r)).cells 127
 have hu:pdO c (upR r)=⟨[tksV c.ts,i64 r.a,i64 c.en,mpS orO,mpS andO,mpS cmpO,mpS sumO,mpS mulO,i64 (r.v+1)],127,0,true⟩:=by simp[pdO,pdC,upR,w1]
 simp only[hu]at h79 h140 e3
 refine okP_fn hm Tryz.func178 c178 (by simp[rp,SV.under,hj]) fun hcl => ?_
 by_cases hv2:r.v=40
 · have hb:dpR c r=failR c 5 (upR r):=by rw[dpR,if_pos hv2]
   have hb2:(failR c 5 (upR r)).e=5∧(failR c 5 (upR r)).p=hereR c (upR r):=by simp[failR,upR,he]
   have hgt:40<r.v+1:=by omega
   simp -implicitDefEqProofs[i178,r178,rp,e1,e2,pdO,pdC,w1,e3,hgt]
   refine call_go h79 ?_
   simp -implicitDefEqProofs
   refine⟨_,_,?_,cv_id⟩
   unfold PdV
   rw[hb,if_neg (by rw[hb2.1]; decide),hb2.1,hb2.2]
   exact⟨rfl,Keep.set (by simp) _⟩
 · have hb:dpR c r=nextR (upR r):=by rw[dpR,if_neg hv2]
   have hgt:¬ 40<r.v+1:=by omega
   simp -implicitDefEqProofs[i178,r178,rp,e1,e2,pdO,pdC,w1,e3,hgt]
   refine call_go h140 ?_
   simp -implicitDefEqProofs
   refine⟨_,_,?_,cv_id⟩
   unfold PdV
   rw[hb,if_pos (by exact he)]
   exact⟨rfl,by simp⟩
def PdP (c:Cx) (G:List AO) (j:Nat) (q:Ex×Rd) (o:Out) (H':List AO):Prop:=PdV c G j (fun e:Ex=>e.v) q o H'
def PdC (c:Cx) (k:FuncId) (ar:List SV) (F:Rd->Ex×Rd) (d:Nat):Prop :=
 ∀ {G:List AO} {j:Nat} {r:Rd},G[j]? = some (pdO c r)->Gd c d r->r.e=0->OkP Tryz.prog k (rp j::ar) G (PdP c G j (F r))
def OpC (c:Cx) (j:Nat) (f:SV) (Iv:List AO->Prop) (F:Rd->Ex×Rd) (d:Nat):Prop :=
 ∀ {G:List AO} {r:Rd},Iv G->G[j]? = some (pdO c r)->Gd c d r->r.e=0->OkCP Tryz.prog f [] G (PdP c G j (F r))
def preF (c:Cx) (op:Int) (F:Rd->Ex×Rd) (r:Rd):Ex×Rd :=
 if r.v=40 then(zE,failR c 5 (upR r))else(.mk op 0 [] [(F (nextR (upR r))).1] (hereR c r),dnR (F (nextR (upR r))).2)
theorem Keep.of_app {H L H':List AO} {js:List Nat} (h:Keep (H++L) js H'):Keep H js H':=by
 refine⟨Nat.le_trans (by simp) h.len,fun i hi hj => ?_⟩
 rw[h.at_ i (by simp; omega) hj,List.getElem?_append_left hi]
theorem Keep.of_set {H L H':List AO} {o:AO} (h:Keep (H.set j o++L) [j] H'):Keep H [j] H' :=
 (Keep.set (by simp) o).trans h.of_app
theorem PdP.pan {G H':List AO} {q:Ex×Rd} (he:q.2.e≠0) (h:Keep G [j] H'):PdP c G j q (.pan (fltI q.2.e q.2.p)) H':=by
 unfold PdP PdV; rw[if_neg he]; exact⟨rfl,h⟩
theorem PdP.ret {G H':List AO} {q:Ex×Rd} (he:q.2.e=0) (h:H'=G.set j (pdO c q.2)):PdP c G j q (.ret q.1.v) H':=by
 unfold PdP PdV; rw[if_pos he]; exact⟨rfl,h⟩
theorem ok137 (hct:c.ts.length<4611686018427387904) {Iv:List AO->Prop} (hI:∀ G o L,Iv G->j<G.length->Iv (G.set j o++L)) {d:Nat} (hd:d≤40) {F:Rd->Ex×Rd} {f:SV} (hvd:f.vd=true) (hug:f.ug=f) (hfu:f.under H.length=true)
 (hF:∀ d',d=d'+1->OpC c j f Iv F d') (hi:Iv H) (ho:H[j]? = some (pdO c r)) (hg:Gd c d r) (he:r.e=0) (hlt:r.a<c.ts.length) (op:Int):OkP Tryz.prog 137 [rp j,i64 op,f] H (PdP c H j (preF c op F r)):=by
 have hj:=getElem?_lt ho
 have hv:r.v+d=40:=hg.v.resolve_left (by simp[he])
 have e1:objCells H j 0=(pdO c r).cells:=objCells_of (o:=pdO c r) ho rfl
 have hoL:∀ L,(H++L)[j]? = some (pdO c r):=fun L=>by rw[List.getElem?_append_left hj]; exact ho
 have h91:=fun L=>ok91 (hoL L)
 have h178:=fun L=>ok178 (hoL L) (by omega) (by omega) he
 refine okP_fn hm Tryz.func137 c137 (by simp[rp,SV.under,hj,hfu]) fun hcl => ?_
 simp -implicitDefEqProofs[i137,r137,rp]
 refine call_go (by simpa[rp]using h91 _) ?_
 simp -implicitDefEqProofs
 refine call_goP (by simpa[rp]using h178 _) ?_
 intro o H' hp
 unfold PdV at hp
 by_cases hv2:r.v=40
 · have hb:dpR c r=failR c 5 (upR r):=by rw[dpR,if_pos hv2]
   have hb2:(failR c 5 (upR r)).e≠0:=by simp[failR,upR,he]
   have hpf:preF c op F r=(zE,failR c 5 (upR r)):=by rw[preF,if_pos hv2]
   rw[hb,if_neg hb2]at hp
   obtain⟨rfl,hk⟩:=hp
   simp -implicitDefEqProofs
   refine⟨_,_,?_,cv_id⟩
   rw[hpf]
   exact PdP.pan hb2 hk.of_app
 · obtain⟨d',rfl⟩:∃ d',d=d'+1:=⟨d-1,by omega⟩
   have hb:dpR c r=nextR (upR r):=by rw[dpR,if_neg hv2]
   have w1:IntKind.i64.wrap (r.v+1)=r.v+1:=wrap_id (by omega) (by omega)
   have hg2:Gd c d' (nextR (upR r)):=⟨hlt,.inr (by simp[nextR,upR,w1]; omega)⟩
   rw[hb,if_pos (by exact he)]at hp
   obtain⟨rfl,rfl⟩:=hp
   rw[List.set_append_left _ _ hj]
   have hc:=fun L=>hF d' rfl (G:=H.set j (pdO c (nextR (upR r)))++L) (r:=nextR (upR r)) (hI _ _ _ hi hj) (by rw[List.getElem?_append_left (by simpa using hj)]; simp[hj]) hg2 he
   simp -implicitDefEqProofs
   refine call_cP (hc _) ?_
   intro o H' hp
   unfold PdP PdV at hp
   have hpf:preF c op F r=(.mk op 0 [] [(F (nextR (upR r))).1] (hereR c r),dnR (F (nextR (upR r))).2):=by rw[preF,if_neg hv2]
   rw[hpf]
   generalize F (nextR (upR r))=q at hp ⊢
   obtain⟨x,r2⟩:=q
   simp only at hp ⊢
   by_cases he2:r2.e=0
   · rw[if_pos he2]at hp
     obtain⟨rfl,rfl⟩:=hp
     rw[List.set_append_left _ _ (by simpa using hj),List.set_set]
     have e3:=fun cs L=>ocL (H:=H) hj cs 127 L
     have e4:=fun cs L g=>soL (H:=H) hj ⟨cs,127,0,true⟩ L g
     simp -implicitDefEqProofs[Ex.v,e3,e4,pdC,pdO]
     refine⟨_,_,PdP.ret (q:=(.mk op 0 [] [x] (hereR c r),dnR r2)) he2 rfl,?_⟩
     refine cv_fz 3 (closed_pd (c:=c) (a:=r2.a) (v:=IntKind.i64.wrap (r2.v-1)) hcl) (by simp) ?_
     simp[Ex.v,Ex.c,Ex.cL]
   · rw[if_neg he2]at hp
     obtain⟨rfl,hk⟩:=hp
     simp -implicitDefEqProofs
     refine⟨_,_,?_,cv_id⟩
     exact PdP.pan (q:=(.mk op 0 [] [x] (hereR c r),dnR r2)) he2 hk.of_set
end
end Go.Proofs.YtmkdpmfhlfhjkaaGreatDoor
namespace Go.Proofs.YtmkdpmfhlfhjkaaGreatDoor
open Go.Ab
theorem take_bad {c:Cx} {s:List UInt8} {r:Rd} (h:r.e≠0):(takeR c s r).2=r:=by
 have hp:peekR c s r=false:=by simp[peekR,tokB,h]
 simp[takeR,hp,failR,h]
theorem args_bad {c:Cx} {orP:Rd->Ex×Rd} {m:Nat} {l:List Ex} {r:Rd} (h:r.e≠0):(argsG c orP m l r).2=r:=by
 cases m with
 | zero=>rfl
 | succ m=>rw[argsG,take_bad h,if_pos h]
def encT (c:Cx):Option (List Ex)×Rd->List Ex×Rd
 | (none,r3)=>([],r3)
 | (some l,r3)=>(l,dnR (takeR c [41] r3).2)
def encR (c:Cx) (orP:Rd->Ex×Rd) (m:Nat) (r:Rd):List Ex×Rd :=
 if peekR c [40] r=true then
  if r.v=40 then([],failR c 5 (upR r))else
  encT c (argsG c orP m [(orP (nextR (upR r))).1] (orP (nextR (upR r))).2)
 else([],failR c 11 r)
theorem encT_bad {c:Cx} {q:Option (List Ex)×Rd} (h:q.2.e≠0):(encT c q).2.e=q.2.e∧(encT c q).2.p=q.2.p:=by
 obtain⟨o,r3⟩:=q
 cases o with
 | none=>exact⟨rfl,rfl⟩
 | some l =>
  simp only[encT]
  rw[take_bad h]
  exact⟨rfl,rfl⟩
section
variable {H:List AO} {c:Cx} {r:Rd} {j:Nat}
theorem cL_snoc (l:List Ex) (x:Ex):Ex.cL (l++[x])=Ex.cL l++x.c:=by
 induction l with
 | nil=>simp[Ex.cL]
 | cons y l ih=>simp[Ex.cL,ih]
theorem cL_len (l:List Ex):(Ex.cL l).length=l.length*5:=by
 induction l with
 | nil=>rfl
 | cons y l ih=>simp[Ex.cL,ih]; omega
theorem loop177 (hn:NumT c) (hct:c.ts.length<4611686018427387904) (hj:j<H.length) {d:Nat} {F:Rd->Ex×Rd} (hF:PdC c 32 [] F d) (hk:Kp c d F) {n:Nat} (hn3:n≤3) {o0:AO} {N:Nat} {K:XE->Env->List AO->Prop} {res:Option (List Ex)×Rd}
 (hexit:∀ l,res.2.e=0->res.1=some l->∀ env M,l.length=n->Gd c d res.2->env.get 0=rp j->env.get 5=.own (H.length+1) 0 l.length 5 (l.length-1)->K (.exit 0) env (H.set j (pdO c res.2)++o0::⟨Ex.cL l,25,l.length-1,true⟩::M))
 (hpan:res.2.e≠0->∀ env H',Keep H [j] H'->K (.panic (fltI res.2.e res.2.p)) env H') :
 ∀ (m k:Nat) (l:List Ex) (r:Rd) (M:List AO) (env:Env),l.length=k+1->k+1+m=n->argsG c F m l r=res->Gd c d r->r.e=0->env.get 0=rp j->env.get 1=i64 n->env.get 5=.own (H.length+1) 0 (k+1) 5 k →
  LI Tryz.prog N drawB l177_0 env (H.set j (pdO c r)++o0::⟨Ex.cL l,25,k,true⟩::M) K:=by
 intro m
 induction m with
 | zero =>
  intro k l r M env hl hm hr hg he h0 h1 h5
  refine li_go Go.Proofs.YtmkdpmfhlfhjkaaGreatDoor.hm l177_0.eq_1 ?_
  subst hr
  have hkn:((k:Int)+1)=n:=by omega
  simp -implicitDefEqProofs[h0,h1,h5,hkn]
  have hx2:=fun env=>hexit l he rfl env M (by omega) hg
  rw[hl]at hx2
  exact hx2 _ (by simp) (by simp)
 | succ m ih =>
  intro k l r M env hl hm hr hg he h0 h1 h5
  refine li_go Go.Proofs.YtmkdpmfhlfhjkaaGreatDoor.hm l177_0.eq_1 ?_
  have hkn:((k:Int)+1)<n:=by omega
  rw[argsG]at hr
  simp -implicitDefEqProofs[h0,h1,h5,hkn,rp]
  have hG:∀ L,(H.set j (pdO c r)++L)[j]? = some (pdO c r):=fun L=>by rw[List.getElem?_append_left (by simpa using hj)]; simp[hj]
  have hx:∀ o,IsS ((H.set j (pdO c r)++(o0::⟨Ex.cL l,25,k,true⟩::(M++[⟨[st (B [44])],9,0,true⟩]))).set j o) (.own (H.length+(M.length+2)) 0 1 1 0) [[44]]:=by
   intro o
   have:=own_set (G:=H.set j (pdO c r)) (L:=o0::⟨Ex.cL l,25,k,true⟩::(M++[⟨[st (B [44])],9,0,true⟩])) (j:=j) (k:=M.length+2) (ver:=0) (T:=9) (l:=[[44]]) (by simpa using hj) (by simp[wds]) rfl o
   simpa using this
  have h87:=ok87 hn (hG _) hx (by decide) hct (by intro s hs; simp at hs; subst hs; rfl) he hg.a
  have hwr:wantR c [[44]] r=(takeR c [44] r).2:=rfl
  rw[hwr]at h87
  refine call_goP (by simpa[rp]using h87) ?_
  intro o H' hp
  unfold PdV at hp
  by_cases hb:(takeR c [44] r).2.e=0
  · rw[if_neg (by simp[hb])]at hr
    have hpk:peekR c [44] r=true:=by
     rw[←Bool.not_eq_false]
     intro hpk
     simp[takeR,hpk,failR,he]at hb
    have ht:(takeR c [44] r).2=nextR r:=by simp[takeR,hpk]
    rw[ht]at hr hp
    rw[if_pos (by exact he)]at hp
    obtain⟨rfl,rfl⟩:=hp
    rw[List.set_append_left _ _ (by simpa using hj),List.set_set]
    have hg2:=hg.next (peek_lt hpk)
    have hG2:∀ L,(H.set j (pdO c (nextR r))++L)[j]? = some (pdO c (nextR r)):=fun L=>by rw[List.getElem?_append_left (by simpa using hj)]; simp[hj]
    have hc:=fun L=>hF (hG2 L) hg2 he
    obtain⟨k1,k2⟩:=hk _ hg2
    simp -implicitDefEqProofs[h0,h1,h5]
    refine call_goP (hc _) ?_
    intro o H' hp
    unfold PdP PdV at hp
    generalize F (nextR r)=q at hr hp k1
    obtain⟨x,r2⟩:=q
    simp only at hr hp k1
    by_cases he2:r2.e=0
    · rw[if_pos he2]at hp
      obtain⟨rfl,rfl⟩:=hp
      rw[List.set_append_left _ _ (by simpa using hj),List.set_set]
      simp -implicitDefEqProofs[h0,h1,h5,Ex.v,rp]
      refine⟨by omega,by omega,by rw[cL_len,hl],?_⟩
      refine LI.cong (H':=H.set j (pdO c r2)++o0::⟨Ex.cL (l++[x]),25,k+1,true⟩::(M++[⟨[st (B [44])],9,0,true⟩,⟨x.c,25,0,true⟩])) (by rw[cL_snoc]) ?_
      exact ih (k+1) (l++[x]) r2 _ _ (by simp[hl]) (by omega) hr k1 he2 (by simp[rp]) (by simp) (by simp)
    · rw[if_neg he2]at hp
      obtain⟨rfl,hk⟩:=hp
      simp -implicitDefEqProofs
      have hb2:=args_bad (c:=c) (orP:=F) (m:=m) (l:=l++[x]) he2
      rw[hr]at hb2
      rw[hb2]at hpan
      exact hpan he2 _ _ hk.of_set
  · rw[if_pos hb]at hr
    subst hr
    rw[if_neg hb]at hp
    obtain⟨rfl,hk⟩:=hp
    simp -implicitDefEqProofs
    exact hpan hb _ _ hk.of_set
theorem ok177 (hn:NumT c) (hct:c.ts.length<4611686018427387904) {d:Nat} (hd:d≤40) {F:Rd->Ex×Rd} (hF:∀ d',d=d'+1->PdC c 32 [] F d') (hk:∀ d',d=d'+1->Kp c d' F) {m:Nat} (hm3:m≤2)
 (ho:H[j]? = some (pdO c r)) (hg:Gd c d r) (he:r.e=0):OkP Tryz.prog 177 [rp j,i64 ((m:Int)+1)] H (PdV c H j (fun l:List Ex=>.slc (Ex.cL l) l.length) (encR c F m r)):=by
 have hj:=getElem?_lt ho
 have hv:r.v+d=40:=hg.v.resolve_left (by simp[he])
 have hoL:∀ L,(H++L)[j]? = some (pdO c r):=fun L=>by rw[List.getElem?_append_left hj]; exact ho
 have h93:=ok93 (H:=H++[⟨[st (B [40])],9,0,true⟩]) (c:=c) (r:=r) (j:=j) (hoL _) (x:=.own H.length 0 1 1 0) (l:=[[40]]) (IsS.own1 (k:=0) rfl rfl) (by simp)
 rw[mem_peek hn rfl he]at h93
 have h79:=ok79 (hoL [⟨[st (B [40])],9,0,true⟩]) 11
 have h178:=fun L=>ok178 (hoL L) (by omega) (by have:=hg.a; omega) he
 refine okP_fn Go.Proofs.YtmkdpmfhlfhjkaaGreatDoor.hm Tryz.func177 c177 (by simp[rp,SV.under,hj]) fun hcl => ?_
 simp -implicitDefEqProofs[i177,r177,rp]
 refine call_go (by simpa[rp]using h93) ?_
 unfold encR
 by_cases hp:peekR c [40] r=true
 · rw[if_pos hp]
   simp -implicitDefEqProofs[hp]
   refine call_goP (by simpa[rp]using h178 _) ?_
   intro o H' hp2
   unfold PdV at hp2
   by_cases hv2:r.v=40
   · have hb:dpR c r=failR c 5 (upR r):=by rw[dpR,if_pos hv2]
     have hb2:(failR c 5 (upR r)).e≠0:=by simp[failR,upR,he]
     rw[hb,if_neg hb2]at hp2
     obtain⟨rfl,hk⟩:=hp2
     rw[if_pos hv2]
     simp -implicitDefEqProofs
     refine⟨_,_,?_,cv_id⟩
     unfold PdV
     rw[if_neg hb2]
     exact⟨rfl,hk.of_app⟩
   · obtain⟨d',rfl⟩:∃ d',d=d'+1:=⟨d-1,by omega⟩
     have hlt:=peek_lt hp
     have hb:dpR c r=nextR (upR r):=by rw[dpR,if_neg hv2]
     have w1:IntKind.i64.wrap (r.v+1)=r.v+1:=wrap_id (by omega) (by omega)
     have hg2:Gd c d' (nextR (upR r)):=⟨hlt,.inr (by simp[nextR,upR,w1]; omega)⟩
     rw[hb,if_pos (by exact he)]at hp2
     obtain⟨rfl,rfl⟩:=hp2
     rw[List.set_append_left _ _ hj,if_neg hv2]
     have hG2:∀ L,(H.set j (pdO c (nextR (upR r)))++L)[j]? = some (pdO c (nextR (upR r))):=fun L=>by rw[List.getElem?_append_left (by simpa using hj)]; simp[hj]
     have hc:=fun L=>hF d' rfl (hG2 L) hg2 he
     obtain⟨k1,k2⟩:=hk d' rfl _ hg2
     simp -implicitDefEqProofs
     refine call_goP (by simpa[rp]using hc _) ?_
     intro o H' hp2
     unfold PdP PdV at hp2
     generalize F (nextR (upR r))=q at hp2 k1 ⊢
     obtain⟨x,r2⟩:=q
     simp only at hp2 k1 ⊢
     by_cases he2:r2.e=0
     · rw[if_pos he2]at hp2
       obtain⟨rfl,rfl⟩:=hp2
       rw[List.set_append_left _ _ (by simpa using hj),List.set_set]
       simp -implicitDefEqProofs[Ex.v,rp]
       refine LI.cong (H':=H.set j (pdO c r2)++⟨[st (B [40])],9,0,true⟩::⟨Ex.cL [x],25,0,true⟩::[]) (by simp[Ex.cL]) ?_
       have hen:∀ q:Option (List Ex)×Rd,q.2.e≠0->∀ H',Keep H [j] H'->PdV c H j (fun l:List Ex=>.slc (Ex.cL l) l.length) (encT c q) (.pan (fltI q.2.e q.2.p)) H':=fun q hq H' hk=>by
        obtain⟨h1,h2⟩:=encT_bad (c:=c) hq
        unfold PdV
        rw[if_neg (by rw[h1]; exact hq),h1,h2]
        exact⟨rfl,hk⟩
       generalize hres:argsG c F m [x] r2=res
       refine loop177 hn hct hj (hF d' rfl) (hk d' rfl) (n:=m+1) (by omega) (res:=res) (fun l he3 hl env M hln hg3 h0 h5 => ?_) (fun he3 env H' hk => ?_) m 0 [x] r2 [] _ rfl (by omega) hres k1 he2 ?_ ?_ ?_
       · obtain⟨o,r3⟩:=res
         subst hl
         simp only at he3 hg3 hen ⊢
         have hG:∀ L,(H.set j (pdO c r3)++L)[j]? = some (pdO c r3):=fun L=>by rw[List.getElem?_append_left (by simpa using hj)]; simp[hj]
         have hx:∀ o,IsS ((H.set j (pdO c r3)++((⟨[st (B [40])],9,0,true⟩:AO)::⟨Ex.cL l,25,l.length-1,true⟩::(M++[⟨[st (B [41])],9,0,true⟩]))).set j o) (.own (H.length+(M.length+2)) 0 1 1 0) [[41]]:=by
          intro o
          have:=own_set (G:=H.set j (pdO c r3)) (L:=(⟨[st (B [40])],9,0,true⟩:AO)::⟨Ex.cL l,25,l.length-1,true⟩::(M++[⟨[st (B [41])],9,0,true⟩])) (j:=j) (k:=M.length+2) (ver:=0) (T:=9) (l:=[[41]]) (by simpa using hj) (by simp[wds]) rfl o
          simpa using this
         have h87:=ok87 hn (hG _) hx (by decide) hct (by intro s hs; simp at hs; subst hs; rfl) he3 hg3.a
         have hwr:wantR c [[41]] r3=(takeR c [41] r3).2:=rfl
         rw[hwr]at h87
         simp -implicitDefEqProofs[h0,h5,rp]
         refine call_goP (by simpa[rp]using h87) ?_
         intro o H' hp
         unfold PdV at hp
         by_cases hb:(takeR c [41] r3).2.e=0
         · rw[if_pos hb]at hp
           obtain⟨rfl,rfl⟩:=hp
           rw[List.set_append_left _ _ (by simpa using hj),List.set_set]
           have e3:=fun cs L=>ocL (H:=H) hj cs 127 L
           have e4:=fun cs L g=>soL (H:=H) hj ⟨cs,127,0,true⟩ L g
           generalize hr4:(takeR c [41] r3).2=r4 at hb ⊢
           simp -implicitDefEqProofs[h0,h5,rp,e3,e4,pdC,pdO]
           have hen2:encT c (some l,r3)=(l,dnR r4):=by rw[encT,hr4]
           refine⟨_,_,by unfold PdV; rw[hen2,if_pos (show(dnR r4).e=0 from hb)]; exact⟨rfl,rfl⟩,?_⟩
           refine cv_fz 3 (closed_pd (c:=c) (a:=r4.a) (v:=IntKind.i64.wrap (r4.v-1)) hcl) (by simp) ?_
           have ht:List.take (l.length*5) (Ex.cL l)=Ex.cL l:=List.take_of_length_le (by rw[cL_len]; omega)
           simp[cL_len,ht,map_fz_under _ _ _ _ (Ex.undL _ l)]
         · rw[if_neg hb]at hp
           obtain⟨rfl,hk⟩:=hp
           simp -implicitDefEqProofs
           refine⟨_,_,?_,cv_id⟩
           unfold PdV
           rw[if_neg (by exact hb)]
           exact⟨rfl,hk.of_set⟩
       · simp -implicitDefEqProofs
         exact⟨_,_,hen res he3 _ hk,cv_id⟩
       all_goals simp[rp]
     · rw[if_neg he2]at hp2
       obtain⟨rfl,hk⟩:=hp2
       simp -implicitDefEqProofs
       refine⟨_,_,?_,cv_id⟩
       have hb2:=args_bad (c:=c) (orP:=F) (m:=m) (l:=[x]) he2
       obtain⟨h1,h2⟩:=encT_bad (c:=c) (q:=argsG c F m [x] r2) (by rw[hb2]; exact he2)
       unfold PdV
       rw[if_neg (by rw[h1,hb2]; exact he2),h1,h2,hb2]
       exact⟨rfl,hk.of_set⟩
 · rw[if_neg hp]
   rw[Bool.not_eq_true]at hp
   simp -implicitDefEqProofs[hp]
   refine call_go (by simpa[rp]using h79) ?_
   simp -implicitDefEqProofs
   refine⟨_,_,?_,cv_id⟩
   have hfe:(failR c 11 r).e=11∧(failR c 11 r).p=hereR c r:=by simp[failR,he]
   unfold PdV
   rw[if_neg (by simp[hfe])]
   refine⟨by simp[hfe],?_⟩
   exact Keep.of_app (Keep.refl _ _)
end
end Go.Proofs.YtmkdpmfhlfhjkaaGreatDoor
namespace Go.Proofs.YtmkdpmfhlfhjkaaGreatDoor
open Go.Ab
structure TokT (c:Cx):Prop where
 num:NumT c
 wrd:∀ t∈c.ts,t.k=1->t.tx≠[45]∧t.tx≠[40]
def Qe {α:Type} (q q':α×Rd):Prop:=(q.2.e=0∧q'=q)∨(q.2.e≠0∧q'.2.e=q.2.e∧q'.2.p=q.2.p)
theorem PdV.eqv {α:Type} {c:Cx} {G:List AO} {j:Nat} {f:α->SV} {q q':α×Rd} {o:Out} {H':List AO} (h:Qe q q') (hp:PdV c G j f q o H'):PdV c G j f q' o H':=by
 rcases h with ⟨h1,rfl⟩ | ⟨h1,h2,h3⟩
 · exact hp
 · unfold PdV at hp ⊢
   rw[if_neg h1]at hp
   rw[if_neg (by rw[h2]; exact h1),h2,h3]
   exact hp
theorem peek_up {c:Cx} {s:List UInt8} {r:Rd}:peekR c s (upR r)=peekR c s r:=rfl
theorem open_ok {c:Cx} {s:List UInt8} {r:Rd} (hp:peekR c s r=true) (hv:r.v≠40):openR c s r=(hereR c r,nextR (upR r)):=by
 unfold openR
 rw[if_neg (by simp[hv])]
 unfold takeR
 rw[peek_up,if_pos hp]
 rfl
theorem open_full {c:Cx} {s:List UInt8} {r:Rd} (he:r.e=0) (hp:peekR c s r=true) (hv:r.v=40):(openR c s r).2.e=5∧(openR c s r).2.p=hereR c r:=by
 unfold openR
 rw[if_pos ⟨hp,hv⟩,take_bad (by simp[upR,failR,he])]
 simp[upR,failR,he]
theorem open_no {c:Cx} {s:List UInt8} {r:Rd} (he:r.e=0) (hp:peekR c s r=false):(openR c s r).2.e=11∧(openR c s r).2.p=hereR c r:=by
 unfold openR
 rw[if_neg (by simp[hp])]
 unfold takeR
 rw[peek_up,hp]
 simp[failR,upR,he,hereR]
theorem pre_eq {c:Cx} {op:Int} {F:Rd->Ex×Rd} {s:List UInt8} {r:Rd} (he:r.e=0) (hp:peekR c s r=true) :
 Qe (preF c op F r) (if(openR c s r).2.e≠0 then(zE,(openR c s r).2)else(.mk op 0 [] [(F (openR c s r).2).1] (openR c s r).1,dnR (F (openR c s r).2).2)):=by
 unfold preF
 by_cases hv:r.v=40
 · obtain⟨h1,h2⟩:=open_full he hp hv
   rw[if_pos hv,if_pos (by rw[h1]; decide)]
   right
   simp[failR,upR,he,h1,h2,hereR]
 · rw[if_neg hv,open_ok hp hv,if_neg (by simp[nextR,upR,he])]
   by_cases h:(F (nextR (upR r))).2.e=0
   · exact .inl ⟨h,rfl⟩
   · exact .inr ⟨h,rfl,rfl⟩
theorem enc_one {c:Cx} {orP:Rd->Ex×Rd} {r:Rd} (he:r.e=0) (hp:peekR c [40] r=true) :
 Qe ((((encR c orP 0 r).1.headD zE),(encR c orP 0 r).2):Ex×Rd) (if(openR c [40] r).2.e≠0 then(zE,(openR c [40] r).2)else((orP (openR c [40] r).2).1,dnR (takeR c [41] (orP (openR c [40] r).2).2).2)):=by
 unfold encR
 rw[if_pos hp]
 by_cases hv:r.v=40
 · obtain⟨h1,h2⟩:=open_full he hp hv
   rw[if_pos hv,if_pos (by rw[h1]; decide)]
   right
   simp[failR,upR,he,h1,h2,hereR]
 · rw[if_neg hv,open_ok hp hv,if_neg (by simp[nextR,upR,he])]
   simp only[argsG,encT,List.headD_cons]
   generalize dnR (takeR c [41] (orP (nextR (upR r))).2).2=z
   by_cases h:z.e=0
   · exact .inl ⟨h,rfl⟩
   · exact .inr ⟨h,rfl,rfl⟩
theorem args_none {c:Cx} {orP:Rd->Ex×Rd}:∀ (m:Nat) (l:List Ex) (r:Rd),(argsG c orP m l r).1=none->(argsG c orP m l r).2.e≠0
 | 0,l,r,h=>by simp[argsG]at h
 | m+1,l,r,h=>by
  rw[argsG]at h ⊢
  by_cases hb:(takeR c [44] r).2.e≠0
  · rw[if_pos hb]; exact hb
  · rw[if_neg hb]at h ⊢
    exact args_none m _ _ h
theorem enc_call {c:Cx} {orP:Rd->Ex×Rd} {s:List UInt8} {op p:Int} {m:Nat} {r:Rd} (he:(takeR c s r).2.e=0) :
 Qe ((.mk op 0 [] (encR c orP m (takeR c s r).2).1 p,(encR c orP m (takeR c s r).2).2):Ex×Rd) (callG c orP s op m p r):=by
 unfold encR callG
 generalize (takeR c s r).2=r1 at he ⊢
 by_cases hp:peekR c [40] r1=true
 · rw[if_pos hp]
   by_cases hv:r1.v=40
   · obtain⟨h1,h2⟩:=open_full he hp hv
     rw[if_pos hv]
     simp only[]
     rw[if_pos (by rw[h1]; decide)]
     right
     simp[failR,upR,he,h1,h2,hereR]
   · rw[if_neg hv,open_ok hp hv]
     simp only[]
     rw[if_neg (by simp[nextR,upR,he])]
     have hno:=args_none (c:=c) (orP:=orP) m [(orP (nextR (upR r1))).1] (orP (nextR (upR r1))).2
     generalize argsG c orP m [(orP (nextR (upR r1))).1] (orP (nextR (upR r1))).2=q at hno ⊢
     obtain⟨o,r3⟩:=q
     cases o with
     | none =>
      simp only[encT]
      by_cases h:r3.e=0
      · exact absurd h (hno rfl)
      · exact .inr ⟨h,rfl,rfl⟩
     | some l =>
      simp only[encT]
      generalize dnR (takeR c [41] r3).2=z
      by_cases h:z.e=0
      · exact .inl ⟨h,rfl⟩
      · exact .inr ⟨h,rfl,rfl⟩
 · rw[Bool.not_eq_true]at hp
   obtain⟨h1,h2⟩:=open_no he hp
   rw[if_neg (by simp[hp])]
   simp only[]
   rw[if_pos (by rw[h1]; decide)]
   right
   simp[failR,he,h1,h2]
section
variable {H:List AO} {c:Cx} {r:Rd} {j:Nat}
theorem free_not (hT:TokT c) {s:List UInt8} (hp:peekR c s r=true) (hs:s=[45]∨s=[40]∨s∈resv):freeR c r=false:=by
 obtain⟨he,h,h2,h3⟩:=peek_tok hp
 rw[free_tk he]
 have ht:tkR c r=c.ts[r.a]:=by simp[tkR,h]
 rw[ht,h3]
 rcases hs with rfl | rfl | hs
 · have:c.ts[r.a].k≠1:=fun hk=>(hT.wrd _ (List.getElem_mem h) hk).1 h3
   simp[this]
 · have:c.ts[r.a].k≠1:=fun hk=>(hT.wrd _ (List.getElem_mem h) hk).2 h3
   simp[this]
 · simp[hs]
theorem fin_ret {q q':Ex×Rd} (hcl:closed H) (hj:j<H.length) (he:q.2.e=0) (hq:Qe q q') (L:List AO):FinQ H.length (PdP c H j q') (.agg q.1.c) (H.set j (pdO c q.2)++L) :=
 ⟨_,_,PdV.eqv hq (PdP.ret he rfl),cv_fz 3 (closed_pd (c:=c) (a:=q.2.a) (v:=q.2.v) hcl) (by simp) (by simp[Ex.v])⟩
theorem fin_pan {q q':Ex×Rd} {n0:Nat} {H':List AO} (he:q.2.e≠0) (hq:Qe q q') (hk:Keep H [j] H'):∃ y H'',PdP c H j q' (.pan y) H''∧Cv n0 (fltI q.2.e q.2.p) H' y H'' :=
 ⟨_,_,PdV.eqv hq (PdP.pan he hk),cv_id⟩
theorem pd_acc {s:List UInt8} {L:List AO} (ho:H[j]? = some (pdO c r)) (hj:j<H.length) (hp:peekR c s r=false):(H++L).set j (pdO c (accR c s r))=H++L:=by
 rw[accR,if_neg (by simp[hp])]
 exact set_same (by rw[List.getElem?_append_left hj]; exact ho)
theorem ok136 (hT:TokT c) (hct:c.ts.length<4611686018427387904) {d:Nat} (hd:d≤40) {orP facP:Rd->Ex×Rd} (hF:∀ d',d=d'+1->PdC c 32 [] orP d') (hk:∀ d',d=d'+1->Kp c d' orP) (hP:∀ d',d=d'+1->PdC c 136 [] facP d') :
 PdC c 136 [] (facG c orP facP) d:=by
 intro H j r ho hg he
 have hn:=hT.num
 have hj:=getElem?_lt ho
 have hoL:∀ L,(H++L)[j]? = some (pdO c r):=fun L=>by rw[List.getElem?_append_left hj]; exact ho
 have h91:=fun L=>ok91 (hoL L)
 have hlen:=hg.a
 refine okP_fn Go.Proofs.YtmkdpmfhlfhjkaaGreatDoor.hm Tryz.func136 c136 (by simp[rp,SV.under,hj]) fun hcl => ?_
 simp -implicitDefEqProofs[i136,r136,rp]
 refine call_go (by simpa[rp]using h91 _) ?_
 simp -implicitDefEqProofs
 have h93:=ok93 (H:=H++[zO,⟨[st (B [45])],9,0,true⟩]) (c:=c) (r:=r) (j:=j) (hoL _) (x:=.own (H.length+1) 0 1 1 0) (l:=[[45]]) (IsS.own1 (k:=1) rfl rfl) (by decide)
 rw[mem_peek hn rfl he]at h93
 refine call_go (by simpa[rp,zO]using h93) ?_
 by_cases hp:peekR c [45] r=true
 · have hfac:Qe (preF c 3 facP r) (facG c orP facP r):=by
    unfold facG
    rw[if_neg (by simp[he]),if_neg (by simp[free_not hT hp (.inl rfl)]),if_pos hp]
    have:=pre_eq (c:=c) (op:=3) (F:=facP) he hp
    by_cases hv:r.v=40
    · have ho:=open_full he hp hv
      rw[if_pos (by rw[ho.1]; decide)]at this ⊢
      exact this
    · rw[open_ok hp hv]at this ⊢
      exact this
   have hc:=fun L=>ok137 (H:=H++L) hct (Iv:=fun _=>True) (fun _ _ _ _ _=>trivial) hd (F:=facP) (f:=.fn (.func 136) [rp j] []) rfl rfl (by simp[rp,SV.under,SV.underL]; omega)
    (fun d' hd' G r _ hG hg he=>okCP_of (a:=[rp j]) (b:=[]) (by simpa using hP d' hd' hG hg he)) trivial (hoL L) hg he (peek_lt hp) 3
   generalize preF c 3 facP r=q at hfac hc
   simp -implicitDefEqProofs[hp]
   refine call_goP (by simpa[rp]using hc _) ?_
   intro o H' hp2
   unfold PdP PdV at hp2
   by_cases he2:q.2.e=0
   · rw[if_pos he2]at hp2
     obtain⟨rfl,rfl⟩:=hp2
     rw[List.set_append_left _ _ hj]
     simp -implicitDefEqProofs[Ex.v]
     exact fin_ret hcl hj he2 hfac _
   · rw[if_neg he2]at hp2
     obtain⟨rfl,hk⟩:=hp2
     simp -implicitDefEqProofs
     exact fin_pan he2 hfac hk.of_app
 rw[Bool.not_eq_true]at hp
 simp -implicitDefEqProofs[hp]
 have h93:=ok93 (H:=H++[zO,⟨[st (B [45])],9,0,true⟩,⟨[st (B [40])],9,0,true⟩]) (c:=c) (r:=r) (j:=j) (hoL _) (x:=.own (H.length+2) 0 1 1 0) (l:=[[40]]) (IsS.own1 (k:=2) rfl rfl) (by decide)
 rw[mem_peek hn rfl he]at h93
 refine call_go (by simpa[rp,zO]using h93) ?_
 by_cases hp2:peekR c [40] r=true
 · have hfac:=enc_one (c:=c) (orP:=orP) he hp2
   have hfe:facG c orP facP r=(if(openR c [40] r).2.e≠0 then(zE,(openR c [40] r).2)else((orP (openR c [40] r).2).1,dnR (takeR c [41] (orP (openR c [40] r).2).2).2)):=by
    unfold facG
    rw[if_neg (by simp[he]),if_neg (by simp[free_not hT hp2 (.inr (.inl rfl))]),if_neg (by simp[hp]),if_pos hp2]
   rw[←hfe]at hfac
   have hc:=fun L=>ok177 hn hct hd (m:=0) hF hk (by decide) (hoL L) hg he
   have h1x:(encR c orP 0 r).2.e=0->∃ x,(encR c orP 0 r).1=[x]:=by
    unfold encR
    rw[if_pos hp2]
    by_cases hv:r.v=40
    · rw[if_pos hv]; intro h; simp[failR,upR,he]at h
    · rw[if_neg hv]; intro _; exact⟨_,rfl⟩
   simp -implicitDefEqProofs[hp2]
   generalize encR c orP 0 r=q at hfac hc h1x
   refine call_goP (by simpa[rp,zO]using hc _) ?_
   intro o H' hq
   unfold PdV at hq
   obtain⟨l,r2⟩:=q
   simp only at hq hfac
   by_cases he2:r2.e=0
   · rw[if_pos he2]at hq
     obtain⟨rfl,rfl⟩:=hq
     rw[List.set_append_left _ _ hj]
     obtain⟨x,hx⟩:=h1x he2
     simp only at hx
     subst hx
     simp -implicitDefEqProofs[Ex.cL]
     exact fin_ret (q:=(x,r2)) hcl hj he2 hfac _
   · rw[if_neg he2]at hq
     obtain⟨rfl,hk⟩:=hq
     simp -implicitDefEqProofs
     exact fin_pan (q:=(l.headD zE,r2)) he2 hfac hk.of_app
 rw[Bool.not_eq_true]at hp2
 simp -implicitDefEqProofs[hp2]
 have h90:=ok90 hn (hoL [zO,⟨[st (B [45])],9,0,true⟩,⟨[st (B [40])],9,0,true⟩]) (by omega) he (s:=[109,105,110]) rfl
 refine call_go (by simpa[rp,zO]using h90) ?_
 by_cases hp3:peekR c [109,105,110] r=true
 · have ha:accR c [109,105,110] r=nextR r:=by rw[accR,if_pos hp3]
   have ht:(takeR c [109,105,110] r).2=nextR r:=by simp[takeR,hp3]
   have hfac:=enc_call (c:=c) (orP:=orP) (s:=[109,105,110]) (op:=18) (p:=hereR c r) (m:=1) (r:=r) (by rw[ht]; exact he)
   have hfe:facG c orP facP r=callG c orP [109,105,110] 18 1 (hereR c r) r:=by
    unfold facG
    rw[if_neg (by simp[he]),if_neg (by simp[free_not hT hp3 (.inr (.inr (by decide)))]),if_neg (by simp[hp]),if_neg (by simp[hp2])]
    simp[wrdO,hp3]
   rw[ht,<- hfe]at hfac
   rw[ha,List.set_append_left _ _ hj]
   have hG2:∀ L,(H.set j (pdO c (nextR r))++L)[j]? = some (pdO c (nextR r)):=fun L=>by rw[List.getElem?_append_left (by simpa using hj)]; simp[hj]
   have hc:=fun L=>ok177 hn hct hd (m:=1) hF hk (by decide) (hG2 L) (hg.next (peek_lt hp3)) he
   simp -implicitDefEqProofs[hp3]
   generalize encR c orP 1 (nextR r)=q at hfac hc
   refine call_goP (by simpa[rp,zO]using hc _) ?_
   intro o H' hq
   unfold PdV at hq
   obtain⟨l,r2⟩:=q
   simp only at hq hfac
   by_cases he2:r2.e=0
   · rw[if_pos he2]at hq
     obtain⟨rfl,rfl⟩:=hq
     rw[List.set_append_left _ _ (by simpa using hj),List.set_set]
     simp -implicitDefEqProofs
     refine⟨_,_,PdV.eqv hfac (PdP.ret (q:=(.mk 18 0 [] l (hereR c r),r2)) he2 rfl),cv_fz 3 (closed_pd (c:=c) (a:=r2.a) (v:=r2.v) hcl) (by simp) (by simp[Ex.v,Ex.c])⟩
   · rw[if_neg he2]at hq
     obtain⟨rfl,hk⟩:=hq
     simp -implicitDefEqProofs
     exact fin_pan (q:=(.mk 18 0 [] l (hereR c r),r2)) he2 hfac hk.of_set
 rw[Bool.not_eq_true]at hp3
 rw[pd_acc ho hj hp3]
 simp -implicitDefEqProofs[hp3]
 have h90:=ok90 hn (hoL [zO,⟨[st (B [45])],9,0,true⟩,⟨[st (B [40])],9,0,true⟩]) (by omega) he (s:=[109,97,120]) rfl
 refine call_go (by simpa[rp,zO]using h90) ?_
 by_cases hp4:peekR c [109,97,120] r=true
 · have ha:accR c [109,97,120] r=nextR r:=by rw[accR,if_pos hp4]
   have ht:(takeR c [109,97,120] r).2=nextR r:=by simp[takeR,hp4]
   have hfac:=enc_call (c:=c) (orP:=orP) (s:=[109,97,120]) (op:=19) (p:=hereR c r) (m:=1) (r:=r) (by rw[ht]; exact he)
   have hfe:facG c orP facP r=callG c orP [109,97,120] 19 1 (hereR c r) r:=by
    unfold facG
    rw[if_neg (by simp[he]),if_neg (by simp[free_not hT hp4 (.inr (.inr (by decide)))]),if_neg (by simp[hp]),if_neg (by simp[hp2])]
    simp[wrdO,hp4,hp3]
   rw[ht,<- hfe]at hfac
   rw[ha,List.set_append_left _ _ hj]
   have hG2:∀ L,(H.set j (pdO c (nextR r))++L)[j]? = some (pdO c (nextR r)):=fun L=>by rw[List.getElem?_append_left (by simpa using hj)]; simp[hj]
   have hc:=fun L=>ok177 hn hct hd (m:=1) hF hk (by decide) (hG2 L) (hg.next (peek_lt hp4)) he
   simp -implicitDefEqProofs[hp4]
   generalize encR c orP 1 (nextR r)=q at hfac hc
   refine call_goP (by simpa[rp,zO]using hc _) ?_
   intro o H' hq
   unfold PdV at hq
   obtain⟨l,r2⟩:=q
   simp only at hq hfac
   by_cases he2:r2.e=0
   · rw[if_pos he2]at hq
     obtain⟨rfl,rfl⟩:=hq
     rw[List.set_append_left _ _ (by simpa using hj),List.set_set]
     simp -implicitDefEqProofs
     refine⟨_,_,PdV.eqv hfac (PdP.ret (q:=(.mk 19 0 [] l (hereR c r),r2)) he2 rfl),cv_fz 3 (closed_pd (c:=c) (a:=r2.a) (v:=r2.v) hcl) (by simp) (by simp[Ex.v,Ex.c])⟩
   · rw[if_neg he2]at hq
     obtain⟨rfl,hk⟩:=hq
     simp -implicitDefEqProofs
     exact fin_pan (q:=(.mk 19 0 [] l (hereR c r),r2)) he2 hfac hk.of_set
 rw[Bool.not_eq_true]at hp4
 rw[pd_acc ho hj hp4]
 simp -implicitDefEqProofs[hp4]
 have h90:=ok90 hn (hoL [zO,⟨[st (B [45])],9,0,true⟩,⟨[st (B [40])],9,0,true⟩]) (by omega) he (s:=[105,102]) rfl
 refine call_go (by simpa[rp,zO]using h90) ?_
 by_cases hp5:peekR c [105,102] r=true
 · have ha:accR c [105,102] r=nextR r:=by rw[accR,if_pos hp5]
   have ht:(takeR c [105,102] r).2=nextR r:=by simp[takeR,hp5]
   have hfac:=enc_call (c:=c) (orP:=orP) (s:=[105,102]) (op:=20) (p:=hereR c r) (m:=2) (r:=r) (by rw[ht]; exact he)
   have hfe:facG c orP facP r=callG c orP [105,102] 20 2 (hereR c r) r:=by
    unfold facG
    rw[if_neg (by simp[he]),if_neg (by simp[free_not hT hp5 (.inr (.inr (by decide)))]),if_neg (by simp[hp]),if_neg (by simp[hp2])]
    simp[wrdO,hp5,hp3,hp4]
   rw[ht,<- hfe]at hfac
   rw[ha,List.set_append_left _ _ hj]
   have hG2:∀ L,(H.set j (pdO c (nextR r))++L)[j]? = some (pdO c (nextR r)):=fun L=>by rw[List.getElem?_append_left (by simpa using hj)]; simp[hj]
   have hc:=fun L=>ok177 hn hct hd (m:=2) hF hk (by decide) (hG2 L) (hg.next (peek_lt hp5)) he
   simp -implicitDefEqProofs[hp5]
   generalize encR c orP 2 (nextR r)=q at hfac hc
   refine call_goP (by simpa[rp,zO]using hc _) ?_
   intro o H' hq
   unfold PdV at hq
   obtain⟨l,r2⟩:=q
   simp only at hq hfac
   by_cases he2:r2.e=0
   · rw[if_pos he2]at hq
     obtain⟨rfl,rfl⟩:=hq
     rw[List.set_append_left _ _ (by simpa using hj),List.set_set]
     simp -implicitDefEqProofs
     refine⟨_,_,PdV.eqv hfac (PdP.ret (q:=(.mk 20 0 [] l (hereR c r),r2)) he2 rfl),cv_fz 3 (closed_pd (c:=c) (a:=r2.a) (v:=r2.v) hcl) (by simp) (by simp[Ex.v,Ex.c])⟩
   · rw[if_neg he2]at hq
     obtain⟨rfl,hk⟩:=hq
     simp -implicitDefEqProofs
     exact fin_pan (q:=(.mk 20 0 [] l (hereR c r),r2)) he2 hfac hk.of_set
 rw[Bool.not_eq_true]at hp5
 rw[pd_acc ho hj hp5]
 simp -implicitDefEqProofs[hp5]
 have h139:=fun L=>ok139 (hoL L)
 have h140:=fun L=>ok140 (hoL L) (by omega)
 have h92:=fun L=>ok92 (hoL L) he
 have h79:=fun L=>ok79 (hoL L) 11
 have hfw:wrdO.find? (fun w=>peekR c w.1 r)=none:=by simp[wrdO,hp3,hp4,hp5]
 refine call_go (by simpa[rp,zO]using h139 _) ?_
 by_cases hk2:(tkR c r).k=2
 · have hfr:freeR c r=false:=by rw[free_tk he,hk2]; rfl
   have hnm:isNum c r=true:=by rw[num_tk he,hk2]; rfl
   obtain⟨_,hlt,_⟩:=tokB_lt hnm
   have hfe:facG c orP facP r=(.mk 1 (tkR c r).n [] [] (hereR c r),nextR r):=by
    unfold facG
    rw[if_neg (by simp[he]),if_neg (by simp[hfr]),if_neg (by simp[hp]),if_neg (by simp[hp2]),hfw]
    simp only[nmR,hnm,if_true]
    simp[tkR,hlt]
   simp -implicitDefEqProofs[Tok.v,Tok.c,hk2]
   refine call_go (by simpa[rp,zO]using h140 _) ?_
   rw[List.set_append_left _ _ hj]
   simp -implicitDefEqProofs[Tok.v,Tok.c]
   rw[hfe]
   exact⟨rfl,_,_,PdP.ret (q:=(.mk 1 (tkR c r).n [] [] (hereR c r),nextR r)) he rfl,cv_leaf (closed_pd (c:=c) (a:=r.a+1) (v:=r.v) hcl) _ _ _ _ _⟩
 · have hnm:isNum c r=false:=by rw[num_tk he]; simp[hk2]
   simp -implicitDefEqProofs[Tok.v,Tok.c,hk2]
   refine call_go (by simpa[rp,zO]using h92 _) ?_
   by_cases hfr:freeR c r=true
   · have hlt:r.a<c.ts.length:=(tokB_lt hfr).2.1
     have hfe:facG c orP facP r=(.mk 2 0 (tkR c r).tx [] (hereR c r),nextR r):=by
      unfold facG
      rw[if_neg (by simp[he]),if_pos hfr]
      simp only[wordR,hfr,if_true]
      simp[tkR,hlt]
     simp -implicitDefEqProofs[hfr]
     refine call_go (by simpa[rp,zO]using h140 _) ?_
     rw[List.set_append_left _ _ hj]
     simp -implicitDefEqProofs[Tok.v,Tok.c]
     rw[hfe]
     exact⟨rfl,_,_,PdP.ret (q:=(.mk 2 0 (tkR c r).tx [] (hereR c r),nextR r)) he rfl,cv_leaf (closed_pd (c:=c) (a:=r.a+1) (v:=r.v) hcl) _ _ _ _ _⟩
   · rw[Bool.not_eq_true]at hfr
     have hfe:(facG c orP facP r).2=failR c 11 r:=by
      unfold facG
      rw[if_neg (by simp[he]),if_neg (by simp[hfr]),if_neg (by simp[hp]),if_neg (by simp[hp2]),hfw]
      simp[nmR,hnm]
     have hf2:(failR c 11 r).e=11∧(failR c 11 r).p=hereR c r:=by simp[failR,he]
     simp -implicitDefEqProofs[hfr]
     refine call_go (by simpa[rp,zO]using h79 _) ?_
     simp -implicitDefEqProofs
     refine⟨_,_,?_,cv_id⟩
     unfold PdP PdV
     rw[hfe,if_neg (by rw[hf2.1]; decide),hf2.1,hf2.2]
     exact⟨rfl,Keep.of_app (Keep.refl _ _)⟩
end
end Go.Proofs.YtmkdpmfhlfhjkaaGreatDoor
namespace Go.Proofs.YtmkdpmfhlfhjkaaGreatDoor
open Go.Ab
def opsAt:Nat->List (List UInt8×Int)
 | 0=>orO
 | 1=>andO
 | 2=>cmpO
 | 3=>sumO
 | _=>mulO
def bxO (j:Nat):AO:=⟨[rp j],62,0,true⟩
theorem opsAt_w:∀ k,(opsAt k).all (fun o=>wrdB o.1)=true
 | 0=>rfl
 | 1=>rfl
 | 2=>rfl
 | 3=>rfl
 | _+4=>rfl
theorem pd_at {c:Cx} {a:Nat} {v:Int} {k:Nat} (hk:k<5):(pdC c a v)[3+k]? = some (mpS (opsAt k)):=by
 match k,hk with
 | 0,_=>rfl
 | 1,_=>rfl
 | 2,_=>rfl
 | 3,_=>rfl
 | 4,_=>rfl
theorem pd_len {c:Cx} {a:Nat} {v:Int}:(pdC c a v).length=9:=rfl
theorem mpS_ug (ops:List (List UInt8×Int)):(mpS ops).ug=mpS ops:=rfl
theorem mpS_vd (ops:List (List UInt8×Int)):(mpS ops).vd=true:=rfl
theorem mpS_map (G:List AO) (ops:List (List UInt8×Int)):(mpS ops).mapOf G=some (mpK ops,mpV ops):=rfl
theorem mpK_all (ops:List (List UInt8×Int)):(mpK ops).all KK.s.is=true:=by
 rw[List.all_eq_true]
 intro v hv
 simp only[mpK,List.mem_map]at hv
 obtain⟨o,_,rfl⟩:=hv
 rfl
theorem key_st (b:ByteArray):SV.key KK.s (st b)=.string b:=rfl
theorem isK_st (b:ByteArray):SV.isK KK.s (st b)=true:=rfl
theorem binL_bad {c:Cx} {ops:List (List UInt8×Int)} {F:Rd->Ex×Rd} {n:Nat} {e:Ex} {r:Rd} (h:r.e≠0):binL c ops F n e r=(e,r):=by
 cases n with
 | zero=>rfl
 | succ n =>
  have:opAt c ops r=none:=by
   cases ho:opAt c ops r with
   | none=>rfl
   | some op=>exact absurd (opAt_lt ho).1 h
  rw[binL,this]
section
variable {H:List AO} {c:Cx} {r:Rd} {j:Nat}
theorem loop80 (hT:TokT c) (hct:c.ts.length<4611686018427387904) (hj:j<H.length) (hcl:closed H) {k:Nat} (hk5:k<5) (hk2:k≠2) {d:Nat} {F:Rd->Ex×Rd} (hF:PdC c 80 [i64 ((k:Int)+1)] F d) (hk:Kp c d F) {N:Nat} {K:XE->Env->List AO->Prop} {res:Ex×Rd}
 (hret:res.2.e=0->∀ env M,env.get 4=rp (H.length+1)->K .ret env (H.set j (pdO c res.2)++bxO j::eO res.1::eO res.1::M))
 (hpan:res.2.e≠0->∀ env H',Keep H [j] H'->K (.panic (fltI res.2.e res.2.p)) env H') :
 ∀ (n:Nat) (e:Ex) (r:Rd) (M:List AO) (env:Env),c.ts.length≤r.a+n->binL c (opsAt k) F n e r=res->Gd c d r->r.e=0->env.get 1=i64 k->env.get 2=rp H.length->env.get 4=rp (H.length+1)->env.get 5=rp (H.length+2) →
  LI Tryz.prog N drawB l80_0 env (H.set j (pdO c r)++bxO j::zO::eO e::M) K:=by
 have hkk:(k:Int)<5:=by omega
 have hk2':¬ (k:Int)=2:=by omega
 have wk:IntKind.i64.wrap ((k:Int)+1)=(k:Int)+1:=wrap_id (by omega) (by omega)
 have none_:∀ (e:Ex) (r:Rd) (M:List AO) (env:Env),opAt c (opsAt k) r=none->(e,r)=res->Gd c d r->r.e=0->env.get 1=i64 k->env.get 2=rp H.length->env.get 4=rp (H.length+1)->env.get 5=rp (H.length+2) →
  LI Tryz.prog N drawB l80_0 env (H.set j (pdO c r)++bxO j::zO::eO e::M) K:=by
  intro e r M env ho hr hg he h1 h2 h4 h5
  refine li_go hm l80_0.eq_1 ?_
  have e3:∀ L,objCells (H.set j (pdO c r)++L) j 0=pdC c r.a r.v:=fun L=>ocL (H:=H) hj _ 127 L
  have hpa:=pd_at (c:=c) (a:=r.a) (v:=r.v) hk5
  have hG:∀ L,(H.set j (pdO c r)++L)[j]? = some (pdO c r):=fun L=>by rw[List.getElem?_append_left (by simpa using hj)]; simp[hj]
  have h139:=fun L=>ok139 (hG L)
  simp -implicitDefEqProofs[h1,h2,h4,h5,rp,bxO,zO,eO,e3,hpa,pd_len,mpS_ug,mpS_vd,mpS_map,mpK_all]
  refine⟨by omega,by omega,?_⟩
  refine callq_go (fun _=>by simpa[rp]using h139 _) ?_
  have hlk:lkm (.string (B (tkR c r).tx)) (mpK (opsAt k)) (mpV (opsAt k))=(opAt c (opsAt k) r).map i64:=by
   rw[lk_ops,opAt_tk hT.num he (opsAt_w k),Option.map_map]; rfl
  rw[ho]at hlk
  subst hr
  simp -implicitDefEqProofs[h1,h2,h4,h5,Tok.v,Tok.c,key_st,isK_st,hlk,rp]
  exact hret he _ M (by simp[rp])
 intro n
 induction n with
 | zero =>
  intro e r M env hn hr hg he h1 h2 h4 h5
  have ho:opAt c (opsAt k) r=none:=by
   cases ho:opAt c (opsAt k) r with
   | none=>rfl
   | some op=>have:=(opAt_lt ho).2; omega
  exact none_ e r M env ho hr hg he h1 h2 h4 h5
 | succ n ih =>
  intro e r M env hn hr hg he h1 h2 h4 h5
  rw[binL]at hr
  cases ho:opAt c (opsAt k) r with
  | none =>
   rw[ho]at hr
   exact none_ e r M env ho hr hg he h1 h2 h4 h5
  | some op =>
   refine li_go hm l80_0.eq_1 ?_
   have e3:∀ L,objCells (H.set j (pdO c r)++L) j 0=pdC c r.a r.v:=fun L=>ocL (H:=H) hj _ 127 L
   have hpa:=pd_at (c:=c) (a:=r.a) (v:=r.v) hk5
   have hG:∀ L,(H.set j (pdO c r)++L)[j]? = some (pdO c r):=fun L=>by rw[List.getElem?_append_left (by simpa using hj)]; simp[hj]
   have h139:=fun L=>ok139 (hG L)
   simp -implicitDefEqProofs[h1,h2,h4,h5,rp,bxO,zO,eO,e3,hpa,pd_len,mpS_ug,mpS_vd,mpS_map,mpK_all]
   refine⟨by omega,by omega,?_⟩
   refine callq_go (fun _=>by simpa[rp]using h139 _) ?_
   have hlk:lkm (.string (B (tkR c r).tx)) (mpK (opsAt k)) (mpV (opsAt k))=(opAt c (opsAt k) r).map i64:=by
    rw[lk_ops,opAt_tk hT.num he (opsAt_w k),Option.map_map]; rfl
   rw[ho]at hlk hr
   obtain⟨_,hlt⟩:=opAt_lt ho
   have h91:=fun L=>ok91 (hG L)
   have h140:=fun L=>ok140 (hG L) (by omega)
   have hg2:=hg.next hlt
   have hG2:∀ L,(H.set j (pdO c (nextR r))++L)[j]? = some (pdO c (nextR r)):=fun L=>by rw[List.getElem?_append_left (by simpa using hj)]; simp[hj]
   have hc:=fun L=>hF (hG2 L) hg2 he
   obtain⟨k1,k2⟩:=hk _ hg2
   simp -implicitDefEqProofs[h1,h2,h4,h5,Tok.v,Tok.c,key_st,isK_st,hlk,rp]
   refine call_go (by simpa[rp]using h91 _) ?_
   simp -implicitDefEqProofs[h1,h2,h4,h5,rp,Tok.v,Tok.c,key_st,isK_st,hlk]
   refine call_go (by simpa[rp]using h140 _) ?_
   rw[List.set_append_left _ _ (by simpa using hj),List.set_set]
   simp -implicitDefEqProofs[h1,h2,h4,h5,rp,wk,Tok.v,Tok.c,key_st,isK_st,hlk]
   refine call_goP (by simpa[rp]using hc _) ?_
   intro o H' hp
   unfold PdP PdV at hp
   generalize F (nextR r)=q at hr hp k1 k2
   obtain⟨x,r2⟩:=q
   simp only at hr hp k1 k2
   by_cases he2:r2.e=0
   · rw[if_pos he2]at hp
     obtain⟨rfl,rfl⟩:=hp
     rw[List.set_append_left _ _ (by simpa using hj),List.set_set]
     simp -implicitDefEqProofs[h1,h2,h4,h5,Ex.v,rp,hk2',Tok.v,Tok.c,key_st,isK_st,hlk]
     have hcl2:closed (H.set j (pdO c r2)):=closed_pd (c:=c) (a:=r2.a) (v:=r2.v) hcl
     have hlen:(H.set j (pdO c r2)).length=H.length:=by simp
     refine LI.tell (Tell.give (H0:=H.set j (pdO c r2)) (L:=bxO j::zO::⟨[i64 op,i64 0,st ⟨#[]⟩,.own (H.length+(M.length+3)) 0 2 5 0,i64 (hereR c r)],25,0,true⟩::(M++[⟨e.c++x.c,25,0,true⟩])) hcl2 (M.length+3) 1 (o:=⟨e.c++x.c,25,0,true⟩) (by simp) rfl) ?_
     rw[hlen]
     refine LI.cong (H':=H.set j (pdO c r2)++bxO j::zO::eO (.mk op 0 [] [e,x] (hereR c r))::(M++[AO.dead ⟨e.c++x.c,25,0,true⟩]).map (AO.gv (H.length+(M.length+3)) 0 (e.c++x.c) 1)) ?_ (ih _ _ _ _ (by have:(nextR r).a=r.a+1:=rfl; omega) hr k1 he2 ?_ ?_ ?_ ?_)
     · simp[bxO,zO,eO,AO.gv,rp,Ex.c,Ex.cL,AO.dead,show List.take 10 (e.c++x.c)=e.c++x.c from List.take_of_length_le (by simp)]
     all_goals rw[get_map _ (SV.gv _ _ _ _) (gv_any _ _ _ _)]; simp[rp]
   · rw[if_neg he2]at hp
     obtain⟨rfl,hk⟩:=hp
     simp -implicitDefEqProofs
     rw[binL_bad he2]at hr
     subst hr
     exact hpan he2 _ _ hk.of_set
theorem ok80 (hT:TokT c) (hct:c.ts.length<4611686018427387904) {k:Nat} (hk5:k<5) (hk2:k≠2) {d:Nat} {F:Rd->Ex×Rd} (hF:PdC c 80 [i64 ((k:Int)+1)] F d) (hk:Kp c d F):PdC c 80 [i64 k] (binF c (opsAt k) F) d:=by
 intro H j r ho hg he
 have hj:=getElem?_lt ho
 have hkk:¬ (k:Int)=5:=by omega
 have hk2':¬ (k:Int)=2:=by omega
 have wk:IntKind.i64.wrap ((k:Int)+1)=(k:Int)+1:=wrap_id (by omega) (by omega)
 have hoL:∀ L,(H++L)[j]? = some (pdO c r):=fun L=>by rw[List.getElem?_append_left hj]; exact ho
 have hc:=fun L=>hF (hoL L) hg he
 obtain⟨k1,k2⟩:=hk _ hg
 refine okP_fn hm Tryz.func80 c80 (by simp[rp,SV.under,hj]) fun hcl => ?_
 simp -implicitDefEqProofs[i80,r80,rp,hkk,hk2']
 refine callq_off _ _ _ _ ?_
 simp -implicitDefEqProofs[hk2',wk]
 refine call_goP (by simpa[rp]using hc _) ?_
 intro o H' hp
 unfold PdP PdV at hp
 have hbd:binF c (opsAt k) F r=binL c (opsAt k) F c.ts.length (F r).1 (F r).2:=rfl
 rw[hbd]
 generalize F r=q at hp k1 k2 ⊢
 obtain⟨x,r2⟩:=q
 simp only at hp k1 k2 ⊢
 by_cases he2:r2.e=0
 · rw[if_pos he2]at hp
   obtain⟨rfl,rfl⟩:=hp
   rw[List.set_append_left _ _ hj]
   simp -implicitDefEqProofs[Ex.v,rp]
   generalize hres:binL c (opsAt k) F c.ts.length x r2=res
   refine LI.cong (H':=H.set j (pdO c r2)++bxO j::zO::eO x::[]) (by simp[bxO,zO,eO,rp]) ?_
   refine loop80 hT hct hj hcl hk5 hk2 hF hk (res:=res) (fun he3 env M h4 => ?_) (fun he3 env H' hk => ?_) c.ts.length x r2 [] _ (by omega) hres k1 he2 ?_ ?_ ?_ ?_
   · simp -implicitDefEqProofs[h4,rp,eO]
     exact fin_ret hcl hj he3 (.inl ⟨he3,rfl⟩) _
   · simp -implicitDefEqProofs
     exact fin_pan he3 (.inr ⟨he3,rfl,rfl⟩) hk
   all_goals simp[rp]
 · rw[if_neg he2]at hp
   obtain⟨rfl,hk⟩:=hp
   simp -implicitDefEqProofs
   rw[binL_bad he2]
   exact fin_pan (q:=(x,r2)) he2 (.inr ⟨he2,rfl,rfl⟩) hk.of_app
theorem ok80f {d:Nat} {F:Rd->Ex×Rd} (hF:PdC c 136 [] F d):PdC c 80 [i64 5] F d:=by
 intro H j r ho hg he
 have hj:=getElem?_lt ho
 have hoL:∀ L,(H++L)[j]? = some (pdO c r):=fun L=>by rw[List.getElem?_append_left hj]; exact ho
 have hc:=fun L=>hF (hoL L) hg he
 refine okP_fn hm Tryz.func80 c80 (by simp[rp,SV.under,hj]) fun hcl => ?_
 simp -implicitDefEqProofs[i80,r80,rp]
 refine call_goP (by simpa[rp]using hc _) ?_
 intro o H' hp
 unfold PdP PdV at hp
 generalize F r=q at hp ⊢
 obtain⟨x,r2⟩:=q
 simp only at hp ⊢
 by_cases he2:r2.e=0
 · rw[if_pos he2]at hp
   obtain⟨rfl,rfl⟩:=hp
   rw[List.set_append_left _ _ hj]
   simp -implicitDefEqProofs[Ex.v,rp]
   exact fin_ret (q:=(x,r2)) hcl hj he2 (.inl ⟨he2,rfl⟩) _
 · rw[if_neg he2]at hp
   obtain⟨rfl,hk⟩:=hp
   simp -implicitDefEqProofs
   exact fin_pan (q:=(x,r2)) he2 (.inr ⟨he2,rfl,rfl⟩) hk.of_app
theorem ok32 {d:Nat} {F:Rd->Ex×Rd} (hF:PdC c 80 [i64 0] F d):PdC c 32 [] F d:=by
 intro H j r ho hg he
 have hj:=getElem?_lt ho
 have hoL:∀ L,(H++L)[j]? = some (pdO c r):=fun L=>by rw[List.getElem?_append_left hj]; exact ho
 have hc:=fun L=>hF (hoL L) hg he
 refine okP_fn hm Tryz.func32 c32 (by simp[rp,SV.under,hj]) fun hcl => ?_
 simp -implicitDefEqProofs[i32,r32,rp]
 refine call_goP (by simpa[rp]using hc _) ?_
 intro o H' hp
 unfold PdP PdV at hp
 generalize F r=q at hp ⊢
 obtain⟨x,r2⟩:=q
 simp only at hp ⊢
 by_cases he2:r2.e=0
 · rw[if_pos he2]at hp
   obtain⟨rfl,rfl⟩:=hp
   rw[List.set_append_left _ _ hj]
   simp -implicitDefEqProofs[Ex.v,rp]
   exact fin_ret (q:=(x,r2)) hcl hj he2 (.inl ⟨he2,rfl⟩) _
 · rw[if_neg he2]at hp
   obtain⟨rfl,hk⟩:=hp
   simp -implicitDefEqProofs
   exact fin_pan (q:=(x,r2)) he2 (.inr ⟨he2,rfl,rfl⟩) hk.of_app
theorem ok138 {d:Nat} {F:Rd->Ex×Rd} (hF:PdC c 80 [i64 2] F d) {q:Nat} (hq:H[q]? = some (bxO j)) (ho:H[j]? = some (pdO c r)) (hg:Gd c d r) (he:r.e=0):OkP Tryz.prog 138 [rp q] H (PdP c H j (F r)):=by
 have hj:=getElem?_lt ho
 have hqj:=getElem?_lt hq
 have hoL:∀ L,(H++L)[j]? = some (pdO c r):=fun L=>by rw[List.getElem?_append_left hj]; exact ho
 have hc:=fun L=>hF (hoL L) hg he
 have e1:∀ L,objCells (H++L) q 0=[rp j]:=fun L=>objCells_of (o:=bxO j) (by rw[List.getElem?_append_left hqj]; exact hq) rfl
 refine okP_fn hm Tryz.func138 c138 (by simp[rp,SV.under,hqj]) fun hcl => ?_
 simp -implicitDefEqProofs[i138,r138,rp,e1]
 refine call_goP (by simpa[rp]using hc _) ?_
 intro o H' hp
 unfold PdP PdV at hp
 generalize F r=q at hp ⊢
 obtain⟨x,r2⟩:=q
 simp only at hp ⊢
 by_cases he2:r2.e=0
 · rw[if_pos he2]at hp
   obtain⟨rfl,rfl⟩:=hp
   rw[List.set_append_left _ _ hj]
   simp -implicitDefEqProofs[Ex.v,rp]
   exact fin_ret (q:=(x,r2)) hcl hj he2 (.inl ⟨he2,rfl⟩) _
 · rw[if_neg he2]at hp
   obtain⟨rfl,hk⟩:=hp
   simp -implicitDefEqProofs
   exact fin_pan (q:=(x,r2)) he2 (.inr ⟨he2,rfl,rfl⟩) hk.of_app
end
end Go.Proofs.YtmkdpmfhlfhjkaaGreatDoor
namespace Go.Proofs.YtmkdpmfhlfhjkaaGreatDoor
open Go.Ab
section
variable {H:List AO} {c:Cx} {r:Rd} {j:Nat}
theorem ok80c (hT:TokT c) (hct:c.ts.length<4611686018427387904) {d:Nat} (hd:d≤40) {G ntP:Rd->Ex×Rd} (hG:PdC c 80 [i64 3] G d) (hk:Kp c d G) (hnt:∀ d',d=d'+1->PdC c 80 [i64 2] ntP d') :
 PdC c 80 [i64 2] (notG c (cmpF c G) ntP) d:=by
 intro H j r ho hg he
 have hn:=hT.num
 have w3:IntKind.i64.wrap 3=3:=by decide
 have hj:=getElem?_lt ho
 have hoL:∀ L,(H++L)[j]? = some (pdO c r):=fun L=>by rw[List.getElem?_append_left hj]; exact ho
 have h93:=ok93 (H:=H++[bxO j,zO,⟨[st (B [110,111,116])],9,0,true⟩]) (c:=c) (r:=r) (j:=j) (hoL _) (x:=.own (H.length+2) 0 1 1 0) (l:=[[110,111,116]]) (IsS.own1 (k:=2) rfl rfl) (by decide)
 rw[mem_peek hn rfl he]at h93
 refine okP_fn hm Tryz.func80 c80 (by simp[rp,SV.under,hj]) fun hcl => ?_
 simp -implicitDefEqProofs[i80,r80,rp]
 refine callq_st (r:=bl (peekR c [110,111,116] r)) (fun _=>by simpa[rp,zO,bxO,SV.strip]using h93) ?_
 by_cases hp:peekR c [110,111,116] r=true
 · have hnot:Qe (preF c 4 ntP r) (notG c (cmpF c G) ntP r):=by
    unfold notG
    rw[if_pos hp]
    exact pre_eq he hp
   have hc:=fun L=>ok137 (H:=H++(bxO j::L)) hct (Iv:=fun A=>A[H.length]? = some (bxO j)) (fun A o L h hl=>by
    have h2:=getElem?_lt h
    rw[List.getElem?_append_left (by simpa using h2),List.getElem?_set_ne (by omega)]; exact h) hd (F:=ntP) (f:=.fn (.func 138) [] [rp H.length]) rfl rfl (by simp[rp,SV.under,SV.underL])
    (fun d' hd' A r hA hG hg he=>okCP_of (a:=[]) (b:=[rp H.length]) (by simpa using ok138 (hnt d' hd') hA hG hg he)) (by simp) (hoL (bxO j::L)) hg he (peek_lt hp) 4
   generalize preF c 4 ntP r=q at hnot hc
   simp -implicitDefEqProofs[hp]
   refine call_goP (by simpa[rp,zO,bxO]using hc _) ?_
   intro o H' hp2
   unfold PdP PdV at hp2
   by_cases he2:q.2.e=0
   · rw[if_pos he2]at hp2
     obtain⟨rfl,rfl⟩:=hp2
     rw[List.set_append_left _ _ hj]
     simp -implicitDefEqProofs[Ex.v,bxO]
     exact fin_ret hcl hj he2 hnot _
   · rw[if_neg he2]at hp2
     obtain⟨rfl,hk⟩:=hp2
     simp -implicitDefEqProofs
     exact fin_pan he2 hnot hk.of_app
 · have hnot:notG c (cmpF c G) ntP r=cmpF c G r:=by unfold notG; rw[if_neg hp]
   rw[Bool.not_eq_true]at hp
   rw[hnot]
   have hc:=fun L=>hG (hoL L) hg he
   obtain⟨k1,k2⟩:=hk _ hg
   simp -implicitDefEqProofs[hp,w3]
   refine call_goP (by simpa[rp]using hc _) ?_
   intro o H' hp2
   unfold PdP PdV at hp2
   have hcm:cmpF c G r=match opAt c cmpO (G r).2 with
    | some op=>(.mk op 0 [] [(G r).1,(G (nextR (G r).2)).1] (hereR c (G r).2),(G (nextR (G r).2)).2)
    | none=>G r:=rfl
   rw[hcm]
   generalize G r=q at hp2 k1 k2 ⊢
   obtain⟨x,r2⟩:=q
   simp only at hp2 k1 k2 ⊢
   by_cases he2:r2.e=0
   · rw[if_pos he2]at hp2
     obtain⟨rfl,rfl⟩:=hp2
     rw[List.set_append_left _ _ hj]
     simp -implicitDefEqProofs[Ex.v,rp,w3]
     refine li_go hm l80_0.eq_1 ?_
     have e3:∀ L,objCells (H.set j (pdO c r2)++L) j 0=pdC c r2.a r2.v:=fun L=>ocL (H:=H) hj _ 127 L
     have hpa:∀ h,(pdC c r2.a r2.v)[5]'(h)=mpS cmpO:=fun _=>rfl
     have hG2:∀ L,(H.set j (pdO c r2)++L)[j]? = some (pdO c r2):=fun L=>by rw[List.getElem?_append_left (by simpa using hj)]; simp[hj]
     have h139:=fun L=>ok139 (hG2 L)
     have hlk:lkm (.string (B (tkR c r2).tx)) (mpK cmpO) (mpV cmpO)=(opAt c cmpO r2).map i64:=by
      rw[lk_ops,opAt_tk (ops:=cmpO) hT.num he2 rfl,Option.map_map]; rfl
     simp -implicitDefEqProofs[rp,e3,hpa,pd_len,mpS_ug,mpS_vd,mpS_map,mpK_all]
     refine callq_go (fun _=>by simpa[rp]using h139 _) ?_
     cases hop:opAt c cmpO r2 with
     | none =>
      rw[hop]at hlk
      simp -implicitDefEqProofs[Tok.v,Tok.c,key_st,isK_st,hlk,e3,hpa,pd_len,mpS_ug,mpS_vd,mpS_map,mpK_all]
      exact fin_ret (q:=(x,r2)) hcl hj he2 (.inl ⟨he2,rfl⟩) _
     | some op =>
      rw[hop]at hlk
      obtain⟨_,hlt⟩:=opAt_lt hop
      have h91:=fun L=>ok91 (hG2 L)
      have h140:=fun L=>ok140 (hG2 L) (by omega)
      have hg2:=k1.next hlt
      have hG3:∀ L,(H.set j (pdO c (nextR r2))++L)[j]? = some (pdO c (nextR r2)):=fun L=>by rw[List.getElem?_append_left (by simpa using hj)]; simp[hj]
      have hc:=fun L=>hG (hG3 L) hg2 he2
      simp -implicitDefEqProofs[Tok.v,Tok.c,key_st,isK_st,hlk,e3,hpa,pd_len,mpS_ug,mpS_vd,mpS_map,mpK_all]
      refine call_go (by simpa[rp]using h91 _) ?_
      simp -implicitDefEqProofs[Tok.v,Tok.c,key_st,isK_st,hlk,e3,hpa,pd_len,mpS_ug,mpS_vd,mpS_map,mpK_all]
      refine call_go (by simpa[rp]using h140 _) ?_
      rw[List.set_append_left _ _ (by simpa using hj),List.set_set]
      simp -implicitDefEqProofs[Tok.v,Tok.c,key_st,isK_st,hlk,e3,hpa,pd_len,mpS_ug,mpS_vd,mpS_map,mpK_all,w3]
      refine call_goP (by simpa[rp]using hc _) ?_
      intro o H' hp3
      unfold PdP PdV at hp3
      generalize G (nextR r2)=q at hp3 ⊢
      obtain⟨y,r3⟩:=q
      simp only at hp3 ⊢
      by_cases he3:r3.e=0
      · rw[if_pos he3]at hp3
        obtain⟨rfl,rfl⟩:=hp3
        rw[List.set_append_left _ _ (by simpa using hj),List.set_set]
        simp -implicitDefEqProofs[Ex.v,Tok.v,Tok.c,key_st,isK_st,hlk,e3,hpa,pd_len,mpS_ug,mpS_vd,mpS_map,mpK_all]
        refine⟨_,_,PdP.ret (q:=(.mk op 0 [] [x,y] (hereR c r2),r3)) he3 rfl,cv_fz 3 (closed_pd (c:=c) (a:=r3.a) (v:=r3.v) hcl) (by simp) ?_⟩
        simp[Ex.v,Ex.c,Ex.cL,show List.take 10 (x.c++y.c)=x.c++y.c from List.take_of_length_le (by simp)]
      · rw[if_neg he3]at hp3
        obtain⟨rfl,hk⟩:=hp3
        simp -implicitDefEqProofs
        exact fin_pan (q:=(.mk op 0 [] [x,y] (hereR c r2),r3)) he3 (.inr ⟨he3,rfl,rfl⟩) hk.of_set
   · rw[if_neg he2]at hp2
     obtain⟨rfl,hk⟩:=hp2
     have ho:opAt c cmpO r2=none:=by
      cases ho:opAt c cmpO r2 with
      | none=>rfl
      | some op=>exact absurd (opAt_lt ho).1 he2
     rw[ho]
     simp -implicitDefEqProofs
     exact fin_pan (q:=(x,r2)) he2 (.inr ⟨he2,rfl,rfl⟩) hk.of_app
theorem lv_ok (hT:TokT c) (hct:c.ts.length<4611686018427387904):∀ d:Nat,d≤40->PdC c 136 [] (lv c d).fac d∧PdC c 80 [i64 2] (lv c d).nt d∧PdC c 32 [] (orOf c (lv c d)) d:=by
 have step:∀ (d:Nat) (orP facP ntP:Rd->Ex×Rd),d≤40->(∀ d',d=d'+1->PdC c 32 [] orP d')->(∀ d',d=d'+1->Kp c d' orP)->(∀ d',d=d'+1->PdC c 136 [] facP d')->(∀ d',d=d'+1->Kp c d' facP)->(∀ d',d=d'+1->PdC c 80 [i64 2] ntP d') →
  (∀ d',d=d'+1->Kp c d' ntP)->PdC c 136 [] (lvS c orP facP ntP).fac d∧PdC c 80 [i64 2] (lvS c orP facP ntP).nt d∧PdC c 32 [] (orOf c (lvS c orP facP ntP)) d:=by
  intro d orP facP ntP hd h1 h2 h3 h4 h5 h6
  have hf:PdC c 136 [] (facG c orP facP) d:=ok136 hT hct hd h1 h2 h3
  have kf:Kp c d (facG c orP facP):=facG_keep hd h2 h4
  have hm:PdC c 80 [i64 ((4:Nat):Int)] (binF c mulO (facG c orP facP)) d:=ok80 hT hct (k:=4) (by decide) (by decide) (ok80f hf) kf
  have km:=binF_keep (ops:=mulO) kf
  have hs:PdC c 80 [i64 ((3:Nat):Int)] (binF c sumO (binF c mulO (facG c orP facP))) d:=ok80 hT hct (k:=3) (by decide) (by decide) hm km
  have ks:=binF_keep (ops:=sumO) km
  have hn:PdC c 80 [i64 2] (notG c (cmpF c (binF c sumO (binF c mulO (facG c orP facP)))) ntP) d:=ok80c hT hct hd hs ks h5
  have kn:=notG_keep hd (cmpF_keep ks) h6
  have ha:PdC c 80 [i64 ((1:Nat):Int)] (binF c andO (notG c (cmpF c (binF c sumO (binF c mulO (facG c orP facP)))) ntP)) d:=ok80 hT hct (k:=1) (by decide) (by decide) hn kn
  have ka:=binF_keep (ops:=andO) kn
  have ho:PdC c 80 [i64 ((0:Nat):Int)] (binF c orO (binF c andO (notG c (cmpF c (binF c sumO (binF c mulO (facG c orP facP)))) ntP))) d:=ok80 hT hct (k:=0) (by decide) (by decide) ha ka
  exact⟨hf,hn,ok32 ho⟩
 intro d
 induction d with
 | zero=>exact fun hd=>step 0 _ _ _ hd (fun d' h=>by omega) (fun d' h=>by omega) (fun d' h=>by omega) (fun d' h=>by omega) (fun d' h=>by omega) (fun d' h=>by omega)
 | succ d ih =>
  intro hd
  obtain⟨i1,i2,i3⟩:=ih (by omega)
  obtain⟨k1,k2,k3⟩:=lv_keep c d (by omega)
  exact step (d+1) _ _ _ hd (fun d' h=>by cases h; exact i3) (fun d' h=>by cases h; exact k3) (fun d' h=>by cases h; exact i1) (fun d' h=>by cases h; exact k1) (fun d' h=>by cases h; exact i2) (fun d' h=>by cases h; exact k2)
end
end Go.Proofs.YtmkdpmfhlfhjkaaGreatDoor
namespace Go.Proofs.YtmkdpmfhlfhjkaaGreatDoor
open Go.Ab
section
variable {H:List AO}
theorem ok78:Ok Tryz.prog 78 [] H (.ret (.agg lvlC)) H:=by
 have m1:∀ i,(SV.mp i 0).ug=.mp i 0:=fun _=>rfl
 have m2:∀ i,(SV.mp i 0).flat=[.mp i 0]:=fun _=>rfl
 have m3:∀ i,partOk 1 (.mp i 0):=fun i=>⟨rfl,rfl,rfl⟩
 have m4:∀ i,(SV.mp i 0).isCell=true:=fun _=>rfl
 have m5:∀ i,(SV.mp i 0).vd=true:=fun _=>rfl
 refine ok_fn hm Tryz.func78 c78 (by simp) fun hcl => ?_
 simp -implicitDefEqProofs[i78,r78]
 refine s_mup_go (x:=([],[])) (by simp[SV.mapOf]) rfl rfl rfl ?_
 simp -implicitDefEqProofs[msetK,msetV,vkeq,SV.key]
 refine s_mup_go (x:=([],[])) (by simp[SV.mapOf]) rfl rfl rfl ?_
 simp -implicitDefEqProofs[msetK,msetV,vkeq,SV.key]
 refine s_mup_go (x:=([],[])) (by simp[SV.mapOf]) rfl rfl rfl ?_
 simp -implicitDefEqProofs[msetK,msetV,vkeq,SV.key]
 refine s_mup_go (x:=([.string (B [61,61])],[i64 10])) (by simp[SV.mapOf]) rfl rfl rfl ?_
 simp -implicitDefEqProofs[msetK,msetV,vkeq,SV.key]
 refine s_mup_go (x:=([.string (B [61,61]),.string (B [33,61])],[i64 10,i64 11])) (by simp[SV.mapOf]) rfl rfl rfl ?_
 simp -implicitDefEqProofs[msetK,msetV,vkeq,SV.key]
 refine s_mup_go (x:=([.string (B [61,61]),.string (B [33,61]),.string (B [60])],[i64 10,i64 11,i64 12])) (by simp[SV.mapOf]) rfl rfl rfl ?_
 simp -implicitDefEqProofs[msetK,msetV,vkeq,SV.key]
 refine s_mup_go (x:=([.string (B [61,61]),.string (B [33,61]),.string (B [60]),.string (B [60,61])],[i64 10,i64 11,i64 12,i64 13])) (by simp[SV.mapOf]) rfl rfl rfl ?_
 simp -implicitDefEqProofs[msetK,msetV,vkeq,SV.key]
 refine s_mup_go (x:=([.string (B [61,61]),.string (B [33,61]),.string (B [60]),.string (B [60,61]),.string (B [62])],[i64 10,i64 11,i64 12,i64 13,i64 14])) (by simp[SV.mapOf]) rfl rfl rfl ?_
 simp -implicitDefEqProofs[msetK,msetV,vkeq,SV.key]
 refine s_mup_go (x:=([],[])) (by simp[SV.mapOf]) rfl rfl rfl ?_
 simp -implicitDefEqProofs[msetK,msetV,vkeq,SV.key]
 refine s_mup_go (x:=([.string (B [43])],[i64 8])) (by simp[SV.mapOf]) rfl rfl rfl ?_
 simp -implicitDefEqProofs[msetK,msetV,vkeq,SV.key]
 refine s_mup_go (x:=([],[])) (by simp[SV.mapOf]) rfl rfl rfl ?_
 simp -implicitDefEqProofs[msetK,msetV,vkeq,SV.key]
 refine s_mup_go (x:=([.string (B [42])],[i64 5])) (by simp[SV.mapOf]) rfl rfl rfl ?_
 simp -implicitDefEqProofs[msetK,msetV,vkeq,SV.key]
 refine s_mup_go (x:=([.string (B [42]),.string (B [47])],[i64 5,i64 6])) (by simp[SV.mapOf]) rfl rfl rfl ?_
 simp -implicitDefEqProofs[msetK,msetV,vkeq,SV.key,m1,m2,m3,m4,m5]
 refine cv_fz 3 hcl rfl ?_
 simp[lvlC,mpS,mpK,mpV,orO,andO,cmpO,sumO,mulO,SV.fz]
theorem ok77 (e p:Int):Ok Tryz.prog 77 [fltI e p] H (.ret (fltV e p)) H:=by
 refine ok_fn hm Tryz.func77 c77 (by simp[fltI,fltV]) fun hcl => ?_
 simp -implicitDefEqProofs[i77,r77,fltI,fltV,SV.isIf,SV.ifNil,SV.ifIs,SV.ifVal]
 exact cv_fz 2 hcl rfl rfl
theorem okD76n {f g:Nat} (hf:f<H.length) (hg:g<H.length):OkD Tryz.prog 76 [rp f,rp g] H none (fun H'=>H'=H):=by
 refine okD_rc hm Tryz.func76 c76 (by rfl) fun hcl => ?_
 simp -implicitDefEqProofs[i76s,i76,rp,rvD,SV.isIf,SV.ifNil]
 exact cv_id
theorem okD76e {f g:Nat} {c1 c2:List SV} (hf:H[f]? = some ⟨c1,25,0,true⟩) (hc1:c1.length=5) (hg:H[g]? = some ⟨c2,28,0,true⟩) (hc2:c2.length=2) (hne:f≠g) (e p:Int) :
 OkD Tryz.prog 76 [rp f,rp g] H (some (fltI e p)) (fun H'=>H'=(H.set f zO).set g ⟨[i64 e,i64 p],28,0,true⟩):=by
 have hj:=getElem?_lt hf
 have hjg:=getElem?_lt hg
 have e2:∀ (L:List AO) (h:AO->AO),Ab.setObj (H++L) f h=H.set f (h ⟨c1,25,0,true⟩)++L:=fun L h=>by
  rw[setObj_some (o:=⟨c1,25,0,true⟩) (by rw[List.getElem?_append_left hj]; exact hf),List.set_append_left _ _ hj]
 have hg':(H.set f zO)[g]? = some ⟨c2,28,0,true⟩:=by rw[List.getElem?_set_ne hne]; exact hg
 have e4:∀ (L:List AO) (h:AO->AO),Ab.setObj (H.set f zO++L) g h=(H.set f zO).set g (h ⟨c2,28,0,true⟩)++L:=fun L h=>by
  rw[setObj_some (o:=⟨c2,28,0,true⟩) (by rw[List.getElem?_append_left (by simpa using hjg)]; exact hg'),List.set_append_left _ _ (by simpa using hjg)]
 have e1:∀ L,objCells (H++L) f 0=c1:=fun L=>objCells_of (o:=⟨c1,25,0,true⟩) (by rw[List.getElem?_append_left hj]; exact hf) rfl
 have e3:∀ L,objCells (H.set f zO++L) g 0=c2:=fun L=>objCells_of (o:=⟨c2,28,0,true⟩) (by rw[List.getElem?_append_left (by simpa using hjg)]; exact hg') rfl
 have d1:List.drop 5 c1=[]:=List.drop_of_length_le (by omega)
 have d2:List.drop 2 c2=[]:=List.drop_of_length_le (by omega)
 simp only[zO]at e3 e4
 refine okD_rc hm Tryz.func76 c76 (by rfl) fun hcl => ?_
 simp -implicitDefEqProofs[i76s,i76,rp,rvD,SV.isIf,SV.ifNil,fltI]
 refine callq_go (fun _=>ok77 e p) ?_
 simp -implicitDefEqProofs[fltV,e1,e2,e3,e4,hc1,hc2,d1,d2,fltI,rvD]
 have hc1':closed (H.set f zO):=by
  have:=closed_set hcl f (o:=zO) (by simp[zO,SV.underL,SV.under])
  simpa using this
 have hc2':closed ((H.set f zO).set g ⟨[i64 e,i64 p],28,0,true⟩):=by
  have:=closed_set hc1' g (o:=⟨[i64 e,i64 p],28,0,true⟩) (by simp[SV.underL,SV.under])
  simpa using this
 refine⟨rfl,okC_go (by simpa[fltI,fltV]using ok77 e p),?_⟩
 exact cv_fz 2 hc2' (by simp) rfl
theorem cv_zero (hcl:closed H) (e p:Int) (L:List AO):Cv H.length (.tup [.agg zO.cells,fltV e p]) (H++L) (.tup [zE.v,fltV e p]) H:=by
 refine Cv.le (cv_fz (n0:=H.length) (r1:=.tup [.agg [i64 0,i64 0,st (B []),.val (.slice none 0 0),i64 0],.agg [i64 e,i64 p]]) (r:=.tup [.agg [i64 0,i64 0,st (B []),.val (.slice none 0 0),i64 0],.agg [i64 e,i64 p]]) 3 hcl rfl (by simp)) ?_
 exact le_tup (leL.cons (leaf_le 0 0 [] 0) (leL.cons (SV.le.refl _) leL.nil))
theorem fin31e {q:Ex×Int×Int} (hcl:closed H) (hq:q.1=zE) {env:Env} {H1:List AO} {c1 c2:List SV} (hf:H1[H.length]? = some ⟨c1,25,0,true⟩) (hc1:c1.length=5) (hg:H1[H.length+1]? = some ⟨c2,28,0,true⟩) (hc2:c2.length=2)
 (hp:∀ i,i<H.length->H1[i]? = H[i]?) (h4:env.get 4=rp H.length) (h5:env.get 5=rp (H.length+1)) :
 FinD Tryz.prog H.length r31 (fun o h=>o=.ret (.tup [q.1.v,fltV q.2.1 q.2.2])∧h=H) 76 [rp H.length,rp (H.length+1)] (.panic (fltI q.2.1 q.2.2)) env H1:=by
 refine⟨_,okD76e hf hc1 hg hc2 (by omega) _ _,?_⟩
 rintro H4 rfl
 have hlen:H.length+2≤H1.length:=by have:=getElem?_lt hg; omega
 obtain⟨L,hL⟩:∃ L,(H1.set H.length zO).set (H.length+1) ⟨[i64 q.2.1,i64 q.2.2],28,0,true⟩=H++zO::⟨[i64 q.2.1,i64 q.2.2],28,0,true⟩::L:=by
  refine⟨H1.drop (H.length+2),?_⟩
  apply List.ext_getElem?
  intro i
  rcases Nat.lt_trichotomy i H.length with h | h | h
  · rw[List.getElem?_set_ne (by omega),List.getElem?_set_ne (by omega),hp i h,List.getElem?_append_left h]
  · subst h
    rw[List.getElem?_set_ne (by omega),List.getElem?_set_self (by omega),List.getElem?_append_right (by omega)]
    simp
  · by_cases h2:i=H.length+1
    · subst h2
      rw[List.getElem?_set_self (by simp; omega),List.getElem?_append_right (by omega)]
      simp
    · rw[List.getElem?_set_ne (by omega),List.getElem?_set_ne (by omega),List.getElem?_append_right (by omega)]
      obtain⟨k,rfl⟩:∃ k,i=H.length+2+k:=⟨i-(H.length+2),by omega⟩
      have e:H.length+2+k-H.length=k+1+1:=by omega
      rw[e,List.getElem?_cons_succ,List.getElem?_cons_succ,List.getElem?_drop]
 rw[hL]
 have e1:objCells (H++zO::⟨[i64 q.2.1,i64 q.2.2],28,0,true⟩::L) H.length 0=zO.cells:=objCells_of (o:=zO) (by simp) rfl
 have e2:objCells (H++zO::⟨[i64 q.2.1,i64 q.2.2],28,0,true⟩::L) (H.length+1) 0=[i64 q.2.1,i64 q.2.2]:=objCells_of (o:=⟨[i64 q.2.1,i64 q.2.2],28,0,true⟩) (by simp) rfl
 refine⟨?_,_,H,⟨rfl,rfl⟩,?_⟩
 · intro s hs
   simp only[r31,List.mem_cons,List.not_mem_nil,or_false]at hs
   rcases hs with rfl | rfl
   · simp[RS.side,h4,rp,e1,zO]
   · simp[RS.side,h5,rp,e2]
 · have hr:resV env (H++zO::⟨[i64 q.2.1,i64 q.2.2],28,0,true⟩::L) r31=.tup [.agg zO.cells,fltV q.2.1 q.2.2]:=by
    simp[resV,r31,RS.ev,h4,h5,rp,e1,e2,zO,fltV]
   rw[hr,hq]
   exact cv_zero hcl _ _ _
theorem fin31r {x:Ex} (hcl:closed H) {env:Env} {L:List AO} (h4:env.get 4=rp H.length) (h5:env.get 5=rp (H.length+1)) :
 FinD Tryz.prog H.length r31 (fun o h=>o=.ret (.tup [.agg x.c,.agg [i64 0,i64 0]])∧h=H) 76 [rp H.length,rp (H.length+1)] .ret env (H++eO x::⟨[i64 0,i64 0],28,0,true⟩::L):=by
 refine⟨_,okD76n (by simp) (by simp),?_⟩
 rintro H4 rfl
 have e1:objCells (H++eO x::⟨[i64 0,i64 0],28,0,true⟩::L) H.length 0=x.c:=objCells_of (o:=eO x) (by simp) rfl
 have e2:objCells (H++eO x::⟨[i64 0,i64 0],28,0,true⟩::L) (H.length+1) 0=[i64 0,i64 0]:=objCells_of (o:=⟨[i64 0,i64 0],28,0,true⟩) (by simp) rfl
 refine⟨?_,_,H,⟨rfl,rfl⟩,?_⟩
 · intro s hs
   simp only[r31,List.mem_cons,List.not_mem_nil,or_false]at hs
   rcases hs with rfl | rfl
   · simp[RS.side,h4,rp,e1]
   · simp[RS.side,h5,rp,e2]
 · have hr:resV env (H++eO x::⟨[i64 0,i64 0],28,0,true⟩::L) r31=.tup [.agg x.c,.agg [i64 0,i64 0]]:=by
    simp[resV,r31,RS.ev,h4,h5,rp,e1,e2]
   rw[hr]
   exact cv_fz 3 hcl rfl (by simp)
theorem ok31 {l:List UInt8} (hl:l.length<4611686018427387904) (hT:TokT ⟨(scanG l).1,l.length⟩):Ok Tryz.prog 31 [st (B l),.fn (.func 32) [] []] H (.ret (.tup [(exprR l).1.v,fltV (exprR l).2.1 (exprR l).2.2])) H:=by
 refine OkP.toOk (okP_ds hm Tryz.func31 c31 (by rfl) fun hcl => ?_)
 have hlen:=scan_len l
 have h26:=fun H=>ok26 (H:=H) hl
 have hex:exprR l=if(scanG l).2.1≠0 then(zE,(scanG l).2)else exprT ⟨(scanG l).1,l.length⟩:=rfl
 rw[hex]
 generalize scanG l=s at hlen h26 hT ⊢
 obtain⟨ts,fe,fp⟩:=s
 simp only at hlen h26 hT ⊢
 simp -implicitDefEqProofs[XL,i31p,i31a0,i31a1,i31a2]
 refine call_go (h26 _) ?_
 simp -implicitDefEqProofs[fltV,tksV]
 by_cases hs:fe=0
 · subst hs
   simp -implicitDefEqProofs[i31s,i31f,XL,FinE,i31]
   have hlc:ts.length<4611686018427387904:=by omega
   have hg:Gd ⟨ts,l.length⟩ 40 ⟨0,0,0,0⟩:=⟨Nat.zero_le _,.inr rfl⟩
   have hor:PdC ⟨ts,l.length⟩ 32 [] (orT ⟨ts,l.length⟩) 40:=(lv_ok hT hlc 40 (by omega)).2.2
   refine⟨76,_,⟨rfl,rfl⟩,call_go ok78 ?_⟩
   simp -implicitDefEqProofs[lvlC]
   have hG:∀ L,(H++(zO::⟨[i64 0,i64 fp],28,0,true⟩::pdO ⟨ts,l.length⟩ ⟨0,0,0,0⟩::L))[H.length+2]? = some (pdO ⟨ts,l.length⟩ ⟨0,0,0,0⟩):=fun L=>by simp
   have hc:=hor (hG []) hg rfl
   refine⟨⟨rfl,rfl,rfl,rfl,rfl⟩,call_goP (Pt:=PdP ⟨ts,l.length⟩ (H++[zO,⟨[i64 0,i64 fp],28,0,true⟩,pdO ⟨ts,l.length⟩ ⟨0,0,0,0⟩]) (H.length+2) (orT ⟨ts,l.length⟩ ⟨0,0,0,0⟩)) (by simpa[rp,zO,pdO,pdC,tksV]using hc) ?_⟩
   intro o H' hp
   unfold PdP PdV at hp
   generalize hw:exprT ⟨ts,l.length⟩=w
   unfold exprT at hw
   generalize orT ⟨ts,l.length⟩ ⟨0,0,0,0⟩=x at hw hp
   obtain⟨ex,r⟩:=x
   dsimp only at hw hp
   by_cases he:r.e=0
   · rw[if_pos he]at hp
     obtain⟨rfl,rfl⟩:=hp
     have hset:(H++[zO,⟨[i64 0,i64 fp],28,0,true⟩,pdO ⟨ts,l.length⟩ ⟨0,0,0,0⟩]).set (H.length+2) (pdO ⟨ts,l.length⟩ r)=H++[zO,⟨[i64 0,i64 fp],28,0,true⟩,pdO ⟨ts,l.length⟩ r]:=by
      rw[List.set_append_right _ _ (by omega)]; simp
     rw[hset]
     have hG2:∀ z L,(H++(z::⟨[i64 0,i64 fp],28,0,true⟩::pdO ⟨ts,l.length⟩ r::L))[H.length+2]? = some (pdO ⟨ts,l.length⟩ r):=fun z L=>by simp
     by_cases hlt:r.a<ts.length
     · have h79:=ok79 (hG2 (eO ex) []) 11
       rw[if_pos hlt]at hw
       have hf2:(failR ⟨ts,l.length⟩ 11 r).e=11∧(failR ⟨ts,l.length⟩ 11 r).p=hereR ⟨ts,l.length⟩ r:=by simp[failR,he]
       rw[if_pos (by rw[hf2.1]; decide),hf2.1,hf2.2]at hw
       subst hw
       simp -implicitDefEqProofs[Ex.v,zO,pdO,pdC,tksV,hlt]
       refine call_go (by simpa[rp,eO,pdO,pdC,tksV]using h79) ?_
       simp -implicitDefEqProofs
       exact fin31e (q:=(zE,11,hereR ⟨ts,l.length⟩ r)) hcl rfl (c1:=ex.c) (c2:=[i64 0,i64 fp]) (by simp) (by simp) (by simp) rfl (fun i hi=>by rw[List.getElem?_append_left hi]) (by simp[rp]) (by simp[rp])
     · rw[if_neg hlt,if_neg (by simp[he])]at hw
       subst hw
       simp -implicitDefEqProofs[Ex.v,zO,pdO,pdC,tksV,hlt]
       exact fin31r hcl (by simp[rp]) (by simp[rp])
   · rw[if_neg he]at hp
     obtain⟨rfl,hk⟩:=hp
     have hb:(if r.a<ts.length then failR ⟨ts,l.length⟩ 11 r else r)=r:=by
      by_cases hlt:r.a<ts.length
      · rw[if_pos hlt]; simp[failR,he]
      · rw[if_neg hlt]
     rw[hb,if_pos he]at hw
     subst hw
     simp -implicitDefEqProofs
     have hk1:∀ i,i<H.length+2->H'[i]? = (H++[zO,⟨[i64 0,i64 fp],28,0,true⟩,pdO ⟨ts,l.length⟩ ⟨0,0,0,0⟩])[i]? := fun i hi=>hk.at_ i (by simp; omega) (by simp; omega)
     exact fin31e (q:=(zE,r.e,r.p)) hcl rfl (c1:=zO.cells) (c2:=[i64 0,i64 fp]) (by rw[hk1 _ (by omega)]; simp[zO]) rfl (by rw[hk1 _ (by omega)]; simp) rfl (fun i hi=>by rw[hk1 i (by omega),List.getElem?_append_left hi]) (by simp[rp]) (by simp[rp])
 · simp -implicitDefEqProofs[hs,XL,FinE,r31]
   simp only[if_neg hs]
   exact⟨rfl,_,_,⟨rfl,rfl⟩,by simpa[zO,fltV]using cv_zero hcl fe fp _⟩
theorem ok11 {l:List UInt8} (hl:l.length<4611686018427387904) (hT:TokT ⟨(scanG l).1,l.length⟩):Ok Tryz.prog 11 [st (B l)] H (.ret (.tup [(exprR l).1.v,fltV (exprR l).2.1 (exprR l).2.2])) H:=by
 have h31:=fun H=>ok31 (H:=H) hl hT
 generalize exprR l=q at h31 ⊢
 refine ok_fn hm Tryz.func11 c11 (by simp) fun hcl => ?_
 simp -implicitDefEqProofs[i11,r11]
 refine call_go (h31 _) ?_
 simp -implicitDefEqProofs[Ex.v,fltV]
 exact cv_fz 3 hcl rfl (by simp)
end
end Go.Proofs.YtmkdpmfhlfhjkaaGreatDoor
