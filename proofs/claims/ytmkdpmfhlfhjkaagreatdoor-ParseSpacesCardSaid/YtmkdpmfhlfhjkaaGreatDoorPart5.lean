/- Steps of the proof. -/
import Derived.Test.YtmkdpmfhlfhjkaaGreatDoorPart4
import Derived.Test.YtmkdpmfhlfhjkaaGreatDoorPart2
import Derived.Test.YtmkdpmfhlfhjkaaGreatDoorIr07
import Derived.Test.YtmkdpmfhlfhjkaaGreatDoorPart3
import Derived.Lib.AppendIntMem
set_option linter.all false
namespace Go.Proofs.YtmkdpmfhlfhjkaaGreatDoor
open Go.Ab
def Qf9:ZE:=[109,97,120]
def Qn9:ZE:=[109,105,110]
def wIf:ZE:=[105,102]
def QkW:ZE:=[110,111,116]
def Qli:ZE:=[97,110,100]
def wOr:ZE:=[111,114]
abbrev pw (s:ZE):Pc:=.t (.wd s)
abbrev ps (s:ZE):Pc:=.t (.sg s)
abbrev pnU (n:Nat):Pc:=.t (.nm n)
abbrev pb:Pc:=.b 32
def Qcn (g:GX):List Pc :=
 if g.k=0 then [pw (vN g.x),pb,ps [43],pb,pw (vN g.y)]
 else if g.k=1 then [pw (vN g.x),pb,ps [45],pb,pnU 2,pb,ps [42],pb,pw (vN g.y)]
 else if g.k=2 then [pw Qf9,ps [40],pw (vN g.x),ps [44],pb,pw (vN g.y),ps [41]]
 else if g.k=3 then [pw wIf,ps [40],pw (vN g.x),pb,ps [60],pb,pw (vN g.y),ps [44],pb,pnU 1,ps [44],pb,ps [45],pnU 1,ps [41]]
 else if g.k=4 then [pw Qn9,ps [40],pw (vN g.x),ps [44],pb,pnU 3,ps [41],pb,ps [43],pb,pnU 1]
 else if g.k=5 then [ps [45],pw (vN g.x)]
 else if g.k=6 then [ps [40],pw (vN g.x),pb,ps [43],pb,pnU 7,ps [41],pb,ps [37],pb,pnU 3]
 else [pw (vN g.x)]
def Qbf (g:GX):List Pc :=
 if g.k=0 then [pw (vN g.x),pb,ps [60],pb,pnU 1]
 else if g.k=1 then [pw (vN g.x),pb,ps [62,61],pb,pw (vN g.y),pb,pw Qli,pb,pw QkW,pb,pw (vN g.y),pb,ps [61,61],pb,pnU 2]
 else if g.k=2 then [pw (vN g.x),pb,ps [33,61],pb,pnU 0,pb,pw wOr,pb,pw (vN g.y),pb,ps [62],pb,pnU 1]
 else [pw QkW,pb,pw (vN g.x),pb,ps [60,61],pb,pnU 0]
theorem Qqx (g:GX):txt (Qcn g)=exB g:=by
 unfold Qcn exB exT;repeat' split
 all_goals rfl
theorem Qt0 (g:GX):txt (Qbf g)=cdB g:=by
 unfold Qbf cdB cdT;repeat' split
 all_goals rfl
abbrev eNm (x:Nat):Ex:=.mk 2 0 (vN x) [] 0
abbrev eIn (n:Nat):Ex:=.mk 1 n [] [] 0
abbrev eOp (op:Int) (l:List Ex):Ex:=.mk op 0 [] l 0
def exE (g:GX):Ex :=
 if g.k=0 then eOp 8 [eNm g.x,eNm g.y]
 else if g.k=1 then eOp 9 [eNm g.x,eOp 5 [eIn 2,eNm g.y]]
 else if g.k=2 then eOp 19 [eNm g.x,eNm g.y]
 else if g.k=3 then eOp 20 [eOp 12 [eNm g.x,eNm g.y],eIn 1,eOp 3 [eIn 1]]
 else if g.k=4 then eOp 8 [eOp 18 [eNm g.x,eIn 3],eIn 1]
 else if g.k=5 then eOp 3 [eNm g.x]
 else if g.k=6 then eOp 7 [eOp 8 [eNm g.x,eIn 7],eIn 3]
 else eNm g.x
def cdE (g:GX):Ex :=
 if g.k=0 then eOp 12 [eNm g.x,eIn 1]
 else if g.k=1 then eOp 16 [eOp 15 [eNm g.x,eNm g.y],eOp 4 [eOp 10 [eNm g.y,eIn 2]]]
 else if g.k=2 then eOp 17 [eOp 11 [eNm g.x,eIn 0],eOp 14 [eNm g.y,eIn 1]]
 else eOp 4 [eOp 13 [eNm g.x,eIn 0]]
theorem QzD:∀ w∈Qa0,∀ x,w≠vN x:=by
 intro w hw x;have h1:w.headD 0=118->w.length=2->False:=by
  have:∀ w∈Qa0,¬ (w.headD 0=118/\w.length=2):=by decide
  exact λa b=>this w hw ⟨a,b⟩
 intro e;subst e;exact h1 rfl rfl
theorem Qhz (x:Nat):vN x∉Qa0:=λh=>QzD _ h x rfl
section
variable {c:Cx} {d:Nat}
theorem nm1 (x:Nat):Red c d (lv c d).fac [.wd (vN x)] (eNm x) (λ_=>True):=QyH (Qhz x)
theorem Qdx (x:Nat) (L:List TK):pk (.wd (vN x)::L) [110,111,116]=false:=by
 have:vN x≠[110,111,116]:=λe=>Qhz x (by rw[e]; decide);simp[pk,this]
theorem QhL (x:Nat):Whole c d [.wd (vN x)] (eNm x):=wh0 (nm1 x) (Qdx x)
theorem Qft (n:Nat):Whole c d [.nm n] (eIn n):=wh0 Qc4 λ_=>rfl
theorem QgI (s:ZE) (op:Int) {la lb:List TK} {a b:Ex} (ha:Red c d (q1 c d) la a s1) (hb:Red c d (q1 c d) lb b s1) (hf:(Qa6.find? λo=>decide (s=o.1)).map (·.2)=some op) (hm:(QaV.all λo=>decide (s≠o.1))=true) (hn:∀ L,pk (la++L) [110,111,116]=false):Whole c d (la++.sg s::lb) (.mk op 0 [] [a,b] 0) :=
 wh2 (Red.op ha hb (.inl rfl) hf λL=>⟨trivial,noq (.inl rfl) hm L⟩) λL=>by rw[VC]; exact hn _
theorem Qhj {w:ZE} {op:Int} {x:List TK} {a:Ex} {xs:List (List TK)} {es:List Ex} (hw:(w,op,xs.length)∈QaN) (ha:Whole c d x a) (hr:QgX c d (Q6 c (lv c d)) Qfx xs es) :
 Red c (d+1) (lv c (d+1)).fac (.wd w::.sg [40]::(x++cmm xs++[.sg [41]])) (.mk op 0 [] (a::es) 0) (λ_=>True) :=
 Red.call hw ha hr (λL=>QcO (s:=[41]) (by decide) (.inl rfl) L) (λL=>QcO (s:=[44]) (by decide) (.inl rfl) L)
theorem QgA (s:ZE) (op:Int) {la lb:List TK} {a b:Ex} (ha:Red c d (lv c d).fac la a (λ_=>True)) (hb:Red c d (lv c d).fac lb b (λ_=>True)) (hf:(Qa2.find? λo=>decide (s=o.1)).map (·.2)=some op) (hm:(QaV.all λo=>decide (s≠o.1))=true) (hs:(Qa6.all λo=>decide (s≠o.1))=true) :
 Red c d (q3 c d) (la++.sg s::lb) (.mk op 0 [] [a,b] 0) s2 :=
 Red.cop (rq2 (rq1 ha)) (rq2 (rq1 hb)) (.inl rfl) hf λL=>⟨⟨trivial,noq (.inl rfl) hm L⟩,noq (.inl rfl) hs L⟩
theorem Qln {L:List TK} (h:Qfx L):s2 L:=⟨⟨trivial,h.1⟩,h.2.1⟩
theorem Qm9 (s:ZE) (op:Int) {la lb:List TK} {a b:Ex} (ha:Red c d (lv c d).fac la a (λ_=>True)) (hb:Red c d (lv c d).fac lb b (λ_=>True)) (hf:(Qa2.find? λo=>decide (s=o.1)).map (·.2)=some op) (hm:(QaV.all λo=>decide (s≠o.1))=true) (hs:(Qa6.all λo=>decide (s≠o.1))=true) (hn:∀ L,pk (la++L) [110,111,116]=false) :
 Whole c d (la++.sg s::lb) (.mk op 0 [] [a,b] 0) :=
 wh3 (QgA s op ha hb hf hm hs) (λ_=>Qln) λL=>by rw[VC]; exact hn _
theorem Qok (g:GX):Whole c 40 (tks (Qcn g)) (exE g):=by
 unfold Qcn exE;by_cases k0:g.k=0
 . rw[Zo k0,Zo k0];exact QgI [43] 8 (la:=[.wd (vN g.x)]) (rq1 (nm1 _)) (rq1 (nm1 _)) (by decide) (by decide) (Qdx _)
 rw[Zn k0,Zn k0];by_cases k1:g.k=1
 . rw[Zo k1,Zo k1];refine QgI [45] 9 (la:=[.wd (vN g.x)]) (lb:=[.nm 2]++.sg [42]::[.wd (vN g.y)]) (rq1 (nm1 _)) ?_ (by decide) (by decide) (Qdx _);exact Red.op (s:=[42]) (Qc4 (n:=2)) (nm1 g.y) (.inl rfl) (by decide) λ_=>trivial
 rw[Zn k1,Zn k1];by_cases k2:g.k=2
 . rw[Zo k2,Zo k2];exact wh0 (Qhj (d:=39) (w:=Qf9) (x:=[.wd (vN g.x)]) (xs:=[[.wd (vN g.y)]]) (show(Qf9,(19:Int),1)∈QaN by decide) (QhL _) (.cons (QhL _) .nil)) λ_=>rfl
 rw[Zn k2,Zn k2];by_cases k3:g.k=3
 . rw[Zo k3,Zo k3];refine wh0 (Qhj (d:=39) (w:=wIf) (x:=[.wd (vN g.x)]++.sg [60]::[.wd (vN g.y)]) (xs:=[[.nm 1],.sg [45]::[.nm 1]]) (show(wIf,(20:Int),2)∈QaN by decide) (Qm9 [60] 12 (nm1 _) (nm1 _) (by decide) (by decide) (by decide) λL=>Qdx _ _) (.cons (Qft 1) (.cons ?_ .nil))) λ_=>rfl;exact wh0 (Red.neg (d:=38) (Qc4 (n:=1))) λ_=>rfl
 rw[Zn k3,Zn k3];by_cases k4:g.k=4
 . rw[Zo k4,Zo k4];exact QgI [43] 8 (la:=.wd Qn9::.sg [40]::([.wd (vN g.x)]++cmm [[.nm 3]]++[.sg [41]])) (rq1 (Qhj (op:=18) (d:=39) (show(Qn9,(18:Int),1)∈QaN by decide) (QhL _) (.cons (Qft 3) .nil))) (rq1 (Qc4 (n:=1))) (by decide) (by decide) (λ_=>rfl)
 rw[Zn k4,Zn k4];by_cases k5:g.k=5
 . rw[Zo k5,Zo k5];exact wh0 (Red.neg (d:=39) (nm1 g.x)) λ_=>rfl
 rw[Zn k5,Zn k5];by_cases k6:g.k=6
 . rw[Zo k6,Zo k6];have h1:Red c 40 (lv c 40).fac (.sg [40]::(([.wd (vN g.x)]++.sg [43]::[.nm 7])++[.sg [41]])) (eOp 8 [eNm g.x,eIn 7]) (λ_=>True) :=
    Red.par (d:=39) (QgI [43] 8 (la:=[.wd (vN g.x)]) (rq1 (nm1 _)) (rq1 (Qc4 (n:=7))) (by decide) (by decide) (Qdx _)) λL=>QcO (s:=[41]) (by decide) (.inl rfl) L
   exact wh2 (rq2 (Red.op (s:=[37]) h1 (Qc4 (n:=3)) (.inl rfl) (by decide) λ_=>trivial)) λ_=>rfl
 rw[Zn k6,Zn k6];exact QhL _
theorem Qph (g:GX):Whole c (d+1) (tks (Qbf g)) (cdE g):=by
 unfold Qbf cdE;by_cases k0:g.k=0
 . rw[Zo k0,Zo k0];exact Qm9 [60] 12 (la:=[.wd (vN g.x)]) (nm1 _) (Qc4 (n:=1)) (by decide) (by decide) (by decide) (Qdx _)
 rw[Zn k0,Zn k0];by_cases k1:g.k=1
 . rw[Zo k1,Zo k1];have a1:=rq4 (QgA (c:=c) (d:=d+1) [62,61] 15 (la:=[.wd (vN g.x)]) (nm1 _) (nm1 g.y) (by decide) (by decide) (by decide)) λL=>Qdx _ _;have a2:=rq4 (QgA (c:=c) (d:=d) [61,61] 10 (la:=[.wd (vN g.y)]) (nm1 _) (Qc4 (n:=2)) (by decide) (by decide) (by decide)) λL=>Qdx _ _;have a3:Red c (d+1) (lv c (d+1)).nt (.wd QkW::([.wd (vN g.y)]++.sg [61,61]::[.nm 2])) (eOp 4 [eOp 10 [eNm g.y,eIn 2]]) s2:=Red.nop a2;exact((Red.op (ops:=Qbx) (s:=Qli) a1 a3 (.inr rfl) (by decide) λL=>⟨⟨trivial,noq (s:=Qli) (.inr rfl) (by decide) L⟩,noq (s:=Qli) (.inr rfl) (by decide) L⟩).pass (ops:=orO)).mono λL hL=>⟨⟨Qln hL,hL.2.2.2.1⟩,hL.2.2.2.2⟩
 rw[Zn k1,Zn k1];by_cases k2:g.k=2
 . rw[Zo k2,Zo k2];have a1:=(rq4 (QgA (c:=c) (d:=d+1) [33,61] 11 (la:=[.wd (vN g.x)]) (nm1 _) (Qc4 (n:=0)) (by decide) (by decide) (by decide)) λL=>Qdx _ _).pass (ops:=Qbx);have a2:=(rq4 (QgA (c:=c) (d:=d+1) [62] 14 (la:=[.wd (vN g.y)]) (nm1 _) (Qc4 (n:=1)) (by decide) (by decide) (by decide)) λL=>Qdx _ _).pass (ops:=Qbx);exact(Red.op (ops:=orO) (s:=wOr) a1 a2 (.inr rfl) (by decide) λL=>⟨⟨⟨trivial,noq (s:=wOr) (.inr rfl) (by decide) L⟩,noq (s:=wOr) (.inr rfl) (by decide) L⟩,noq (s:=wOr) (.inr rfl) (by decide) L⟩).mono λL hL=>⟨⟨Qln hL,hL.2.2.2.1⟩,hL.2.2.2.2⟩
 rw[Zn k2,Zn k2];have a2:=rq4 (QgA (c:=c) (d:=d) [60,61] 13 (la:=[.wd (vN g.x)]) (nm1 _) (Qc4 (n:=0)) (by decide) (by decide) (by decide)) λL=>Qdx _ _;have a3:Red c (d+1) (lv c (d+1)).nt (.wd QkW::([.wd (vN g.x)]++.sg [60,61]::[.nm 0])) (eOp 4 [eOp 13 [eNm g.x,eIn 0]]) s2:=Red.nop a2;exact(rq6 a3).mono λL hL=>⟨⟨Qln hL,hL.2.2.2.1⟩,hL.2.2.2.2⟩
end
structure GA where
 wh:Option GX
 hid:Bool
 sets:List (Nat×GX)
 go:Option Nat
inductive GS where
 |deal (x r w s p:Nat)
 |turn (who:Option GX) (p:Nat) (acts:List GA)
structure GR where
 pl:Nat
 v:Nat
 nm:Nat
 ini:List Nat
 stages:List GS
 pays:List GX
section
variable (l:List Int)
def Qbu (v:Nat):Nat->Nat->List (Nat×GX)×Nat
 |0,a=>([],a)
 |m+1,a=>(((nxD l a v).1,(gx l v 8 (nxD l a v).2).1)::(Qbu v m (gx l v 8 (nxD l a v).2).2).1,(Qbu v m (gx l v 8 (nxD l a v).2).2).2)
def whC (v k a:Nat):Option GX×Nat :=
 if k=0 then(none,a)else if(nxD l a 3).1=0 then(some (gx l v 4 (nxD l a 3).2).1,(gx l v 4 (nxD l a 3).2).2)else(none,(nxD l a 3).2)
def goC (i n a:Nat):Option Nat×Nat :=
 if(nxD l a 3).1=0 then(some (i+1+(nxD l (nxD l a 3).2 (n-i)).1),(nxD l (nxD l a 3).2 (n-i)).2)else(none,(nxD l a 3).2)
def QbN (v i n k a:Nat):GA×Nat :=
 let w:=whC l v k a
 let h:=nxD l w.2 3
 let m:=nxD l h.2 3
 let s:=Qbu l v m.1 m.2
 let g:=goC l i n s.2
 (⟨w.1,decide (h.1=0),s.1,g.1⟩,g.2)
def Qcb (v i n:Nat):Nat->Nat->Nat->List GA×Nat
 |0,_,a=>([],a)
 |m+1,k,a=>((QbN l v i n k a).1::(Qcb v i n m (k+1) (QbN l v i n k a).2).1,(Qcb v i n m (k+1) (QbN l v i n k a).2).2)
def Qdb (pl v a:Nat):(Option GX×Nat)×Nat :=
 if(nxD l a 4).1=0 then((some (gx l v 4 (nxD l a 4).2).1,pl-1),(gx l v 4 (nxD l a 4).2).2)else((none,(nxD l (nxD l a 4).2 pl).1),(nxD l (nxD l a 4).2 pl).2)
def Qc8 (pl v i n a:Nat):GS×Nat :=
 let w:=Qdb l pl v a
 let m:=nxD l w.2 3
 let s:=Qcb l v i n (1+m.1) 0 m.2
 (.turn w.1.1 w.1.2 s.1,s.2)
def Qfq (pl a:Nat):(Nat×Nat)×Nat:=if(nxD l a 3).1=1 then((1,(nxD l (nxD l a 3).2 pl).1),(nxD l (nxD l a 3).2 pl).2)else(((nxD l a 3).1,0),(nxD l a 3).2)
def Qej (pl v a:Nat):GS×Nat :=
 let x:=nxD l a v
 let r:=nxD l x.2 4
 let w:=nxD l r.2 4
 let s:=Qfq l pl w.2
 (.deal x.1 r.1 w.1 s.1.1 s.1.2,s.2)
def stC (pl v i n a:Nat):GS×Nat:=if(nxD l a 3).1=0 then Qej l pl v (nxD l a 3).2 else Qc8 l pl v i n (nxD l a 3).2
def QbJ (pl v n:Nat):Nat->Nat->Nat->List GS×Nat
 |0,_,a=>([],a)
 |m+1,i,a=>((stC l pl v i n a).1::(QbJ pl v n m (i+1) (stC l pl v i n a).2).1,(QbJ pl v n m (i+1) (stC l pl v i n a).2).2)
def Qca (v:Nat):Nat->Nat->List GX×Nat
 |0,a=>([],a)
 |m+1,a=>((gx l v 8 a).1::(Qca v m (gx l v 8 a).2).1,(Qca v m (gx l v 8 a).2).2)
def QbC:Nat->Nat->List Nat×Nat
 |0,a=>([],a)
 |m+1,a=>((nxD l a 4).1::(QbC m (nxD l a 4).2).1,(QbC m (nxD l a 4).2).2)
def Qa4:GR :=
 let p:=nxD l 0 3
 let v:=nxD l p.2 3
 let n:=nxD l v.2 4
 let m:=nxD l n.2 9
 let i:=QbC l (1+v.1) m.2
 let s:=QbJ l (1+p.1) (1+v.1) (1+n.1) (1+n.1) 0 i.2
 let y:=Qca l (1+v.1) (1+p.1) s.2
 ⟨1+p.1,1+v.1,m.1,i.1,s.1,y.1⟩
variable {l}
theorem QnQ {v:Nat}:∀ {m a:Nat},a<=l.length->(Qbu l v m a).2<=l.length
 |0,_,h=>h
 |m+1,_,h=>QnQ (m:=m) (QfA (QW h))
theorem QvQ {v k a:Nat} (h:a<=l.length):(whC l v k a).2<=l.length:=by
 unfold whC;repeat' split
 . exact h
 . exact QfA (QW h)
 . exact QW h
theorem QBE {i n a:Nat} (h:a<=l.length):(goC l i n a).2<=l.length:=by
 unfold goC;split
 . exact QW (QW h)
 . exact QW h
theorem Qsq {v i n k a:Nat} (h:a<=l.length):(QbN l v i n k a).2<=l.length:=QBE (QnQ (QW (QW (QvQ h))))
theorem QsW {v i n:Nat}:∀ {m k a:Nat},a<=l.length->(Qcb l v i n m k a).2<=l.length
 |0,_,_,h=>h
 |m+1,_,_,h=>QsW (m:=m) (Qsq h)
theorem QAF {pl v a:Nat} (h:a<=l.length):(Qdb l pl v a).2<=l.length:=by
 unfold Qdb;split
 . exact QfA (QW h)
 . exact QW (QW h)
theorem QxJ {pl v i n a:Nat} (h:a<=l.length):(Qc8 l pl v i n a).2<=l.length:=QsW (QW (QAF h))
theorem QxO {pl a:Nat} (h:a<=l.length):(Qfq l pl a).2<=l.length:=by
 unfold Qfq;split
 . exact QW (QW h)
 . exact QW h
theorem QA4 {pl v a:Nat} (h:a<=l.length):(Qej l pl v a).2<=l.length:=QxO (QW (QW (QW h)))
theorem Qtg {pl v i n a:Nat} (h:a<=l.length):(stC l pl v i n a).2<=l.length:=by
 unfold stC;split
 . exact QA4 (QW h)
 . exact QxJ (QW h)
theorem Qtk {pl v n:Nat}:∀ {m i a:Nat},a<=l.length->(QbJ l pl v n m i a).2<=l.length
 |0,_,_,h=>h
 |m+1,_,_,h=>Qtk (m:=m) (Qtg h)
theorem QrI:∀ {m a:Nat},a<=l.length->(QbC l m a).2<=l.length
 |0,_,h=>h
 |m+1,_,h=>QrI (m:=m) (QW h)
theorem Qib {v:Nat}:∀ {m a:Nat},(Qbu l v m a).1.length=m
 |0,_=>rfl
 |m+1,_=>Zp (· + 1) (Qib (m:=m))
theorem Qiq {v i n:Nat}:∀ {m k a:Nat},(Qcb l v i n m k a).1.length=m
 |0,_,_=>rfl
 |m+1,_,_=>Zp (· + 1) (Qiq (m:=m))
end
def Qfw (s:Nat×GX):ZE:=[32]++vN s.1++[32,61,32]++exB s.2++[59]
def QdW (l:List (Nat×GX)):ZE:=l.flatMap Qfw
def whB (w:Option GX):ZE:=match w with
 |none=>[]
 |some g=>[32,119,104,101,110,32]++cdB g
def Qgd (b:Bool):ZE:=if b=true then [32,104,105,100,100,101,110]else []
def goB (g:Option Nat):ZE:=match g with
 |none=>[]
 |some t=>[32,103,111,116,111,32,115]++dg t++[59]
def aN (k:Nat):ZE:=[UInt8.ofNat (97+k)]
def QeP (k:Nat) (g:GA):ZE:=[32,32,97,99,116,105,111,110,32]++aN k++whB g.wh++Qgd g.hid++[32,123]++QdW g.sets++[32,125]++goB g.go++[10]
def Qel:Nat->List GA->ZE
 |_,[]=>[]
 |k,g::r=>QeP k g++Qel (k+1) r
def Qef (w:Option GX) (p:Nat):ZE:=match w with
 |none=>dg p
 |some g=>[105,102,40]++cdB g++[44,32,48,44,32]++dg p++[41]
def Qk8 (w:Option GX) (p:Nat) (acts:List GA):ZE:=[116,117,114,110,32]++Qef w p++[32,123,10]++Qel 0 acts++[125,10]
def Qez:ZD:=[[48,32,46,46,32,49],[49,32,46,46,32,50],[48,32,46,46,32,50],[51,32,46,46,32,51]]
def wgB (w:Nat) (x:ZE):ZE :=
 if w=0 then [32,119,101,105,103,104,116,32,49,32,43,32]++x
 else if w=1 then [32,119,101,105,103,104,116,32,105,102,40]++x++[32,61,61,32,49,44,32,50,44,32,49,41]
 else if w=2 then [32,119,101,105,103,104,116,32,109,97,120,40]++x++[44,32,48,41,32,43,32,105,102,40]++x++[32,61,61,32,50,44,32,48,44,32,49,41]
 else []
def Qfe (s p:Nat):ZE:=if s=0 then [32,115,101,101,110,32,98,121,32,97,108,108]else if s=1 then [32,115,101,101,110,32,98,121,32]++dg p else []
def Qh8 (x r w s p:Nat):ZE:=[100,101,97,108,32]++vN x++[32,105,110,32]++Qez.getD r []++wgB w (vN x)++Qfe s p++[59,10]
def stB:GS->ZE
 |.deal x r w s p=>Qh8 x r w s p
 |.turn w p acts=>Qk8 w p acts
def lbB (i:Nat):ZE:=[115]++dg i++[58,32]
def QdK:Nat->List GS->ZE
 |_,[]=>[]
 |i,g::r=>lbB i++stB g++QdK (i+1) r
def QeI:ZD:=[[48],[49],[45,49],[50]]
def Qdl:Nat->List Nat->ZE
 |_,[]=>[]
 |i,c::r=>[118,97,114,32,118]++dg i++[32,61,32]++QeI.getD c []++[59,10]++Qdl (i+1) r
def QdP:Bool->List GX->ZE
 |_,[]=>[]
 |b,g::r=>(if b then [44,32]else [])++exB g++QdP true r
def Qbi (g:GR):ZE:=[103,97,109,101,32,103]++dg g.nm++[59,10,112,108,97,121,101,114,115,32]++dg g.pl++[59,10]++Qdl 0 g.ini++QdK 0 g.stages++[115]++dg g.stages.length++[58,32,101,110,100,32,123,32,112,97,121,32]++QdP false g.pays++[59,32,125,10]
theorem Qr3 (s:Nat×GX):(Qfw s).length<=60:=by
 have:=QmO s.2;simp[Qfw,vN,dg]; omega
theorem Qmw:∀ l:List (Nat×GX),(QdW l).length<=60*l.length
 |[]=>by simp[QdW]
 |s::r=>by
  have h1:=Qmw r;have h2:=Qr3 s;unfold QdW at h1 ⊢;rw[VV,Vj,Vh]; omega
theorem QsV (w:Option GX):(whB w).length<=60:=by
 cases w with
 |none=>simp[whB]
 |some g=>have:=Qhs g; simp[whB]; omega
theorem Qwo (g:Option Nat):(goB g).length<=60:=by
 cases g with
 |none=>simp[goB]
 |some g=>simp[goB,dg]
theorem Qy6 (b:Bool):(Qgd b).length<=60:=by cases b<;>simp[Qgd]
theorem QoO (w:Option GX) (p:Nat):(Qef w p).length<=60:=by
 cases w with
 |none=>simp[Qef,dg]
 |some g=>have:=Qhs g; simp[Qef,dg]; omega
theorem Qug (w:Nat) (x:Nat):(wgB w (vN x)).length<=60:=by
 unfold wgB;repeat' split
 all_goals simp[vN,dg]
theorem Qv9 (s p:Nat):(Qfe s p).length<=60:=by
 unfold Qfe;repeat' split
 all_goals simp[dg]
def GX.Wf (v n:Nat) (g:GX):Prop:=g.k<n/\g.x<v/\g.y<v
structure GA.Wf (v i n:Nat) (g:GA):Prop where
 wh:∀ c,g.wh=some c->c.Wf v 4
 sets:∀ s∈g.sets,s.1<v/\s.2.Wf v 8
 len:g.sets.length<=2
 go:∀ t,g.go=some t->i<t/\t<=n
def GS.Wf (pl v n i:Nat):GS->Prop
 |.deal x r w s p=>x<v/\r<4/\w<4/\s<3/\p<pl
 |.turn w p acts=>(∀ c,w=some c->c.Wf v 4)/\p<pl/\1<=acts.length/\acts.length<=3/\∀ a∈acts,a.Wf v i n
def Qfi (pl v n:Nat):Nat->List GS->Prop
 |_,[]=>True
 |i,g::r=>g.Wf pl v n i/\Qfi pl v n (i+1) r
structure GR.Wf (g:GR):Prop where
 pl1:1<=g.pl
 pl3:g.pl<=3
 v1:1<=g.v
 v3:g.v<=3
 nm:g.nm<9
 ini:∀ c∈g.ini,c<4
 inl:g.ini.length=g.v
 st1:1<=g.stages.length
 st4:g.stages.length<=4
 sts:Qfi g.pl g.v g.stages.length 0 g.stages
 pays:∀ x∈g.pays,x.Wf g.v 8
 payl:g.pays.length=g.pl
section
variable {l:List Int} {v pl n:Nat} (hv:1<=v)
include hv
theorem Qk1 {m a:Nat} (hm:1<=m):(gx l v m a).1.Wf v m:=⟨Qad hm,Qad hv,Qad hv⟩
theorem Qp6:∀ (m a:Nat),∀ s∈(Qbu l v m a).1,s.1<v/\s.2.Wf v 8
 |0,_,s,h=>by cases h
 |m+1,a,s,h=>by
  rw[Qbu,Vd]at h;rcases h with rfl|h
  . exact⟨Qad hv,Qk1 hv (by decide)⟩
  . exact Qp6 m _ s h
theorem Qwj {i k a:Nat} (hi:i<n):(QbN l v i n k a).1.Wf v i n:=by
 dsimp only[QbN];refine⟨λc h => ?_,Qp6 hv _ _,?_,λt h => ?_⟩
 . dsimp only at h;unfold whC at h;split at h
   . cases h
   . split at h
     . simp only[Option.some.injEq]at h;rw[<-h]; exact Qk1 hv (by decide)
     . cases h
 . rw[Qib];have:=Qad (l:=l) (a:=(nxD l (whC l v k a).2 3).2) (n:=3) (by decide);omega
 . dsimp only at h;unfold goC at h;split at h
   . simp only[Option.some.injEq]at h;have:=Qad (l:=l) (a:=(nxD l (Qbu l v (nxD l (nxD l (whC l v k a).2 3).2 3).1 (nxD l (nxD l (whC l v k a).2 3).2 3).2).2 3).2) (n:=n-i) (by omega);omega
   . cases h
theorem Qsv {i:Nat} (hi:i<n):∀ (m k a:Nat),∀ g∈(Qcb l v i n m k a).1,g.Wf v i n
 |0,_,_,g,h=>by cases h
 |m+1,k,a,g,h=>by
  rw[Qcb,Vd]at h;rcases h with rfl|h
  . exact Qwj hv hi
  . exact Qsv hi m _ _ g h
theorem QB8 {i a:Nat} (hp:1<=pl) (hi:i<n):(stC l pl v i n a).1.Wf pl v n i:=by
 unfold stC;split
 . dsimp only[Qej];refine⟨Qad hv,Qad (by decide),Qad (by decide),?_,?_⟩
   . unfold Qfq;split
     . show 1<3; decide
     . exact Qad (by decide)
   . unfold Qfq;split
     . exact Qad hp
     . exact hp
 . dsimp only[Qc8];refine⟨λc h => ?_,?_,?_,?_,Qsv hv hi _ _ _⟩
   . unfold Qdb at h;split at h
     . simp only[Option.some.injEq]at h;rw[<-h]; exact Qk1 hv (by decide)
     . cases h
   . unfold Qdb;split
     . show pl-1<pl; omega
     . exact Qad hp
   . rw[Qiq]; omega
   . rw[Qiq];have:=Qad (l:=l) (a:=(Qdb l pl v (nxD l a 3).2).2) (n:=3) (by decide);omega
theorem Qr6 (hp:1<=pl):∀ (m i a:Nat),i+m<=n->Qfi pl v n i (QbJ l pl v n m i a).1
 |0,_,_,_=>trivial
 |m+1,i,a,h=>⟨QB8 hv hp (by omega),Qr6 hp m (i+1) _ (by omega)⟩
theorem QsI:∀ (m a:Nat),∀ x∈(Qca l v m a).1,x.Wf v 8
 |0,_,g,h=>by cases h
 |m+1,a,g,h=>by
  rw[Qca,Vd]at h;rcases h with rfl|h
  . exact Qk1 hv (by decide)
  . exact QsI m _ g h
end
theorem QrP {l:List Int}:∀ (m a:Nat),∀ c∈(QbC l m a).1,c<4
 |0,_,g,h=>by cases h
 |m+1,a,g,h=>by
  rw[QbC,Vd]at h;rcases h with rfl|h
  . exact Qad (by decide)
  . exact QrP m _ g h
theorem QtG {l:List Int}:∀ {m a:Nat},(QbC l m a).1.length=m
 |0,_=>rfl
 |m+1,_=>Zp (· + 1) (QtG (m:=m))
theorem Qjf {l:List Int} {pl v n:Nat}:∀ {m i a:Nat},(QbJ l pl v n m i a).1.length=m
 |0,_,_=>rfl
 |m+1,_,_=>Zp (· + 1) (Qjf (m:=m))
theorem Qpw {l:List Int} {v:Nat}:∀ {m a:Nat},(Qca l v m a).1.length=m
 |0,_=>rfl
 |m+1,_=>Zp (· + 1) (Qpw (m:=m))
theorem Qn2 (l:List Int):(Qa4 l).Wf:=by
 dsimp only[Qa4];have b1:=Qad (l:=l) (a:=0) (n:=3) (by decide);have b2:=Qad (l:=l) (a:=(nxD l 0 3).2) (n:=3) (by decide);have b3:=Qad (l:=l) (a:=(nxD l (nxD l 0 3).2 3).2) (n:=4) (by decide);have b4:=Qad (l:=l) (a:=(nxD l (nxD l (nxD l 0 3).2 3).2 4).2) (n:=9) (by decide);refine⟨?_,?_,?_,?_,b4,QrP _ _,QtG,?_,?_,?_,?_,Qpw⟩
 . dsimp only; omega
 . dsimp only; omega
 . dsimp only; omega
 . dsimp only; omega
 . dsimp only; rw[Qjf]; omega
 . dsimp only; rw[Qjf]; omega
 . dsimp only; rw[Qjf];exact Qr6 (by omega) (by omega) _ _ _ (by omega)
 . exact QsI (by omega) _ _
def sN (i:Nat):ZE:=[115]++dg i
def gN (i:Nat):ZE:=[103]++dg i
def pnl:Pc:=.b 10
def Qbm (s:Nat×GX):List Pc:=[pb,pw (vN s.1),pb,ps [61],pb]++Qcn s.2++[ps [59]]
def QeO (w:Option GX):List Pc:=match w with
 |none=>[]
 |some g=>[pb,pw QhO,pb]++Qbf g
def QcS (g:Option Nat):List Pc:=match g with
 |none=>[]
 |some t=>[pb,pw QiX,pb,pw (sN t),ps [59]]
def Qdz (k:Nat) (g:GA):List Pc:=[pb,pb,pw Qir,pb,pw (aN k)]++QeO g.wh++Qdq kwH g.hid++[pb,ps [123]]++g.sets.flatMap Qbm++[pb,ps [125]]++QcS g.go++[pnl]
def QcA:Nat->List GA->List Pc
 |_,[]=>[]
 |k,g::r=>Qdz k g++QcA (k+1) r
def Qdp (w:Option GX) (p:Nat):List Pc:=match w with
 |none=>[pnU p]
 |some g=>[pw wIf,ps [40]]++Qbf g++[ps [44],pb,pnU 0,ps [44],pb,pnU p,ps [41]]
def Qf2 (w:Option GX) (p:Nat) (acts:List GA):List Pc:=[pw kwT,pb]++Qdp w p++[pb,ps [123],pnl]++QcA 0 acts++[ps [125],pnl]
def loV (r:Nat):Nat:=if r=1 then 1 else if r=3 then 3 else 0
def hiV (r:Nat):Nat:=if r=0 then 1 else if r=3 then 3 else 2
def wgX (w x:Nat):List Pc :=
 if w=0 then [pnU 1,pb,ps [43],pb,pw (vN x)]
 else if w=1 then [pw wIf,ps [40],pw (vN x),pb,ps [61,61],pb,pnU 1,ps [44],pb,pnU 2,ps [44],pb,pnU 1,ps [41]]
 else [pw Qf9,ps [40],pw (vN x),ps [44],pb,pnU 0,ps [41],pb,ps [43],pb,pw wIf,ps [40],pw (vN x),pb,ps [61,61],pb,pnU 2,ps [44],pb,pnU 0,ps [44],pb,pnU 1,ps [41]]
def Qcx (w x:Nat):List Pc:=if w<3 then [pb,pw kwW,pb]++wgX w x else []
def QbF (s p:Nat):List Pc:=if s=0 then [pb,pw kwS,pb,pw kwB,pb,pw kwA]else if s=1 then [pb,pw kwS,pb,pw kwB,pb,pnU p]else []
def Qe2 (x r w s p:Nat):List Pc:=[pw kwD,pb,pw (vN x),pb,pw kwI,pb,pnU (loV r),pb,ps [46,46],pb,pnU (hiV r)]++Qcx w x++QbF s p++[ps [59],pnl]
def QeZ:GS->List Pc
 |.deal x r w s p=>Qe2 x r w s p
 |.turn w p acts=>Qf2 w p acts
def QcH:Nat->List GS->List Pc
 |_,[]=>[]
 |i,g::r=>[pw (sN i),ps [58],pb]++QeZ g++QcH (i+1) r
def QeG (c:Nat):List Pc:=if c=0 then [pnU 0]else if c=1 then [pnU 1]else if c=2 then [ps [45],pnU 1]else [pnU 2]
def QcG:Nat->List Nat->List Pc
 |_,[]=>[]
 |i,c::r=>[pw kwV,pb,pw (vN i),pb,ps [61],pb]++QeG c++[ps [59],pnl]++QcG (i+1) r
def QaU:Bool->List GX->List Pc
 |_,[]=>[]
 |b,g::r=>(if b then [ps [44],pb]else [])++Qcn g++QaU true r
def QfL (g:GR):List Pc:=[pw kwG,pb,pw (gN g.nm),ps [59],pnl,pw QhV,pb,pnU g.pl,ps [59],pnl]++QcG 0 g.ini++QcH 0 g.stages++[pw (sN g.stages.length),ps [58],pb,pw kwE,pb,ps [123],pb,pw kwP,pb]++QaU false g.pays++[ps [59],pb,ps [125],pnl]
theorem Qn8 {n:Nat} (h:n<=9):QcI n=dg n:=Qzg h
theorem QAI (s:Nat×GX):txt (Qbm s)=Qfw s:=by simp[Qbm,Qfw,txt,Qcd,TK.tx,Qqx]
theorem Qvh (b:Bool):txt (Qdq kwH b)=Qgd b:=by cases b<;>rfl
theorem QwZ (w:Option GX):txt (QeO w)=whB w:=by cases w<;>simp[QeO,whB,txt,TK.tx,Qt0,QhO]
theorem QuF (w:Option Nat):txt (QcS w)=goB w:=by cases w<;>simp[QcS,goB,txt,TK.tx,QiX,sN]
theorem Qrk:∀ l:List (Nat×GX),txt (l.flatMap Qbm)=QdW l
 |[]=>rfl
 |s::r=>by
  have h:=Qrk r;unfold QdW at h ⊢;rw[VV,VV,Qcd,h,QAI]
theorem Qyx (k:Nat) (g:GA):txt (Qdz k g)=QeP k g:=by
 simp[Qdz,QeP,txt,Qcd,TK.tx,QwZ,Qvh,Qrk,QuF,Qir,pnl]
theorem QoE:∀ (l:List GA) (k:Nat),txt (QcA k l)=Qel k l
 |[],_=>rfl
 |g::r,k=>by rw[QcA,Qel,Qcd,Qyx,QoE r]
theorem QuX (w:Option GX) {p:Nat} (h:p<=9):txt (Qdp w p)=Qef w p:=by
 cases w<;>simp[Qdp,Qef,txt,Qcd,TK.tx,Qt0,Qn8 h,wIf,show QcI 0=[48]from rfl]
theorem QB0 {w x:Nat}:txt (Qcx w x)=wgB w (vN x):=by
 unfold Qcx wgB wgX;by_cases h0:w=0
 . subst h0; simp[txt,TK.tx,kwW,show QcI 1=[49]from rfl]
 by_cases h1:w=1
 . subst h1; simp[txt,TK.tx,kwW,wIf,show QcI 1=[49]from rfl,show QcI 2=[50]from rfl]
 by_cases h2:w=2
 . subst h2; simp[txt,TK.tx,kwW,wIf,Qf9,show QcI 1=[49]from rfl,show QcI 2=[50]from rfl,show QcI 0=[48]from rfl]
 rw[Zn (by omega),Zn h0,Zn h1,Zn h2]; rfl
theorem QzV {s p:Nat} (h:p<=9):txt (QbF s p)=Qfe s p:=by
 unfold QbF Qfe;repeat' split
 all_goals simp[txt,TK.tx,kwS,kwB,kwA,Qn8 h]
theorem QAH {x r w s p:Nat} (hr:r<4) (h:p<=9):txt (Qe2 x r w s p)=Qh8 x r w s p:=by
 have hq:QcI (loV r)++[32,46,46,32]++QcI (hiV r)=Qez.getD r []:=by
  match r,hr with
  |0,_=>rfl
  |1,_=>rfl
  |2,_=>rfl
  |3,_=>rfl
 unfold Qe2 Qh8;rw[<-hq];simp[txt,Qcd,TK.tx,QB0,QzV h,kwD,kwI,pnl]
theorem Qyd {pl v n i:Nat} {g:GS} (h:g.Wf pl v n i) (hp:pl<=3):txt (QeZ g)=stB g:=by
 cases g with
 |deal x r w s p=>exact QAH h.2.1 (by have:=h.2.2.2.2; omega)
 |turn w p acts =>
  have hp9:p<=9:=by have:=h.2.1; omega
  simp[QeZ,stB,Qf2,Qk8,txt,Qcd,TK.tx,QuX w hp9,QoE,kwT,pnl]
theorem Qtq {pl v n:Nat} (hp:pl<=3):∀ (l:List GS) (i:Nat),Qfi pl v n i l->txt (QcH i l)=QdK i l
 |[],_,_=>rfl
 |g::r,i,h=>by
  rw[QcH,QdK,Qcd,Qcd,Qyd h.1 hp,Qtq hp r _ h.2];simp[txt,TK.tx,sN,lbB]
theorem QrT:∀ (l:List Nat) (i:Nat),(∀ c∈l,c<4)->txt (QcG i l)=Qdl i l
 |[],_,_=>rfl
 |c::r,i,h=>by
  have hq:txt (QeG c)=QeI.getD c []:=by
   match c,h c (by simp)with
   |0,_=>rfl
   |1,_=>rfl
   |2,_=>rfl
   |3,_=>rfl
  rw[QcG,Qdl,<- hq];simp only[Qcd,QrT r (i+1) λc hc=>h c (by simp[hc])];simp[txt,TK.tx,kwV,vN,pnl]
theorem QoZ:∀ (l:List GX) (b:Bool),txt (QaU b l)=QdP b l
 |[],_=>rfl
 |g::r,b=>by
  rw[QaU,QdP,Qcd,Qcd,Qqx,QoZ r]
  cases b<;>rfl
theorem Qgh {g:GR} (h:g.Wf):txt (QfL g)=Qbi g:=by
 have h1:=h.pl3;have h2:=h.st4;unfold QfL Qbi;simp only[Qcd,QrT _ _ h.ini,Qtq h.pl3 _ _ h.sts,QoZ];simp[txt,TK.tx,kwG,QhV,kwE,kwP,gN,sN,pnl,Qn8 (show g.pl<=9 by omega)]
def okB:TK->Bool
 |.wd s => !s.isEmpty&&(decide (cAt s 0=2)&&(s.all (λc=>decide (cls c.toNat=2)||decide (cls c.toNat=3))&&decide (s.length<=40)))
 |.sg s=>(match s with|[c]=>Qgs.contains c|_=>QaH.contains s)
 |.nm n=>decide (n<=1000000000)
def Qiv (k:TK) (c:UInt8):Bool:=match k with
 |.sg s=>decide (s.length=2)||(decide (c≠61)&&decide (c≠46))
 |_=>decide (cls c.toNat≠2)&&decide (cls c.toNat≠3)
def fb (l:List Pc) (c:UInt8):UInt8:=(txt l++[c]).headD 0
def gd:List Pc->UInt8->Bool
 |[],_=>true
 |.b x::r,c=>(decide (x=32)||decide (x=10))&&gd r c
 |.t k::r,c=>okB k&&(Qiv k (fb r c)&&gd r c)
theorem Qx5 {k:TK} (h:okB k=true):k.ok:=by
 cases k with
 |wd s =>
  simp only[okB,Va,Zq,VM,List.isEmpty_eq_false_iff,Vn,V4]at h;refine⟨h.1,h.2.1,λi hi => ?_,h.2.2.2⟩;have:=h.2.2.1 s[i] (Vt hi);unfold cAt;rw[Vz,Ve hi];exact this
 |sg s =>
  match s,h with
  |[c],h=>exact .inl ⟨c,by simpa[okB]using h,rfl⟩
  |[],h=>exact .inr (by simpa[okB]using h)
  |a::b::r,h=>exact .inr (by simpa[okB]using h)
 |nm n=>exact Zw (p:=n<=1000000000) h
theorem Qwv {k:TK} {r:ZE} (h:Qiv k (r.getD 0 0)=true):k.sep r:=by
 cases k with
 |wd s=>simpa[Qiv,TK.sep,cAt]using h
 |sg s=>simpa[Qiv,TK.sep]using h
 |nm n=>simpa[Qiv,TK.sep,cAt]using h
theorem QzH (a:List Pc) (b:List Pc):fb a ((txt b).getD 0 0)=(txt (a++b)).getD 0 0:=by
 unfold fb;rw[Qcd]
 cases txt a<;>simp
theorem QmH {b:List Pc} (hb:QdD b):∀ a:List Pc,gd a ((txt b).getD 0 0)=true->QdD (a++b)
 |[],_=>hb
 |.b x::r,h=>by
  simp only[gd,Va,V4,Zq]at h;exact⟨h.1,QmH hb r h.2⟩
 |.t k::r,h=>by
  simp only[gd,Va]at h;refine⟨Qx5 h.1,Qwv ?_,QmH hb r h.2.2⟩;have:=h.2.1;rw[QzH]at this;exact this
theorem Qlm (a b:List Pc) (c:UInt8):fb (a++b) c=fb a (fb b c):=by
 unfold fb;rw[Qcd]
 cases txt a<;>simp
theorem Qb4:∀ {a b:List Pc} {c:UInt8},gd a (fb b c)=true->gd b c=true->gd (a++b) c=true
 |[],_,_,_,h=>h
 |.b x::r,b,c,h,hb=>by
  simp only[gd,Va,Vr]at h ⊢;exact⟨h.1,Qb4 h.2 hb⟩
 |.t k::r,b,c,h,hb=>by
  simp only[gd,Va,Vr]at h ⊢;rw[Qlm];exact⟨h.1,h.2.1,Qb4 h.2.2 hb⟩
def Qjd:ZE:=[32,44,59,41,10]
def Qf3 (n m:Nat) (f:GX->Bool):Bool:=(List.range n).all λk=>(List.range m).all λx=>(List.range m).all λy=>f ⟨k,x,y⟩
theorem Qgi {n m:Nat} {f:GX->Bool} (h:Qf3 n m f=true) {g:GX} {v:Nat} (hv:v<=m) (hg:g.Wf v n):f g=true:=by
 unfold Qf3 at h;simp only[Vn,V2]at h;obtain⟨h1,h2,h3⟩:=hg;exact h _ h1 _ (by omega) _ (by omega)
theorem QwT:Qf3 8 3 (λg=>Qjd.all λc=>gd (Qcn g) c)=true:=by kernel_rfl
theorem QwG:Qf3 4 3 (λg=>Qjd.all λc=>gd (Qbf g) c)=true:=by kernel_rfl
theorem QsO {g:GX} {v:Nat} (hv:v<=3) (hg:g.Wf v 8) {c:UInt8} (hc:c∈Qjd):gd (Qcn g) c=true:=Vn.1 (Qgi QwT hv hg) c hc
theorem QsD {g:GX} {v:Nat} (hv:v<=3) (hg:g.Wf v 4) {c:UInt8} (hc:c∈Qjd):gd (Qbf g) c=true:=Vn.1 (Qgi QwG hv hg) c hc
def upto (n:Nat) (f:Nat->Bool):Bool:=(List.range n).all f
theorem QbO {n:Nat} {f:Nat->Bool} (h:upto n f=true) {k:Nat} (hk:k<n):f k=true:=Vn.1 h k (V2.2 hk)
def Wh (c:UInt8):Prop:=c=32\/c=10
def GW (a:List Pc):Prop:=∀ c,Wh c->gd a c=true
def wst:List Pc->Bool
 |[]=>true
 |.b x::_=>decide (x=32)||decide (x=10)
 |_=>false
theorem fb_w {b:List Pc} {c:UInt8} (h:wst b=true) (hc:Wh c):Wh (fb b c):=by
 match b,h with
 |[],_=>exact hc
 |.b x::r,h =>
  show Wh x;simpa[wst,Wh]using h
theorem GW.app {a b:List Pc} (ha:GW a) (hb:GW b) (hw:wst b=true):GW (a++b):=λc hc=>Qb4 (ha _ (fb_w hw hc)) (hb c hc)
theorem GW.of {a:List Pc} (h:(gd a 32&&gd a 10)=true):GW a:=by
 rw[Va]at h;rintro c (rfl|rfl)
 . exact h.1
 . exact h.2
theorem GW.b {a:List Pc} (h:GW a):GW (pb::a):=λc hc=>by
 have:=h c hc;simp[gd,this]
theorem GW.nil:GW []:=λ_ _=>rfl
theorem GW.ex {a b:List Pc} (c0:UInt8) (ha:gd a c0=true) (hb:GW b) (hf:∀ c,fb b c=c0):GW (a++b):=λc hc=>Qb4 (by rw[hf]; exact ha) (hb c hc)
def GY (a:List Pc):Prop:=∀ c,gd a c=true
theorem GW.nl {a:List Pc} (h:GW a):GY (a++[pnl]):=λc=>Qb4 (h 10 (.inr rfl)) rfl
theorem GY.app {a b:List Pc} (ha:GY a) (hb:GY b):GY (a++b):=λc=>Qb4 (ha _) (hb c)
theorem Qxi {s:Nat×GX} {v:Nat} (hv:v<=3) (h:s.1<v/\s.2.Wf v 8):GW (Qbm s):=by
 have q:upto 3 (λx=>gd [pb,pw (vN x),pb,ps [61]] 32&&gd [pb,pw (vN x),pb,ps [61]] 10)=true:=by kernel_rfl
 have h1:=GW.of (QbO q (show s.1<3 by omega));have h2:GW (Qcn s.2++[ps [59]]):=GW.ex 59 (QsO hv h.2 (by decide)) (GW.of (by kernel_rfl)) λ_=>rfl;have:=h1.app h2.b rfl;simpa[Qbm]using this
theorem QtF {v:Nat} (hv:v<=3):∀ l:List (Nat×GX),(∀ s∈l,s.1<v/\s.2.Wf v 8)->GW (l.flatMap Qbm)/\wst (l.flatMap Qbm)=true
 |[],_=>⟨GW.nil,rfl⟩
 |s::r,h=>by
  obtain⟨h1,h2⟩:=QtF hv r λx hx=>h x (by simp[hx]);rw[VV];exact⟨(Qxi hv (h s (by simp))).app h1 h2,rfl⟩
theorem QvP {w:Option GX} {v:Nat} (hv:v<=3) (h:∀ c,w=some c->c.Wf v 4):GW (QeO w)/\wst (QeO w)=true:=by
 cases w with
 |none=>exact⟨GW.nil,rfl⟩
 |some g =>
  refine⟨?_,rfl⟩;have h1:GW [pb,pw QhO]:=GW.of (by kernel_rfl);have h2:GW (Qbf g):=λc hc=>QsD hv (h g rfl) (by rcases hc with rfl|rfl<;>decide)
  exact h1.app h2.b rfl
theorem QAP (b:Bool):GW (Qdq kwH b)/\wst (Qdq kwH b)=true:=by
 cases b with
 |true=>exact⟨GW.of (by kernel_rfl),rfl⟩
 |false=>exact⟨GW.nil,rfl⟩
theorem QCv {g:Option Nat} (h:∀ t,g=some t->t<=4):GW (QcS g)/\wst (QcS g)=true:=by
 cases g with
 |none=>exact⟨GW.nil,rfl⟩
 |some t =>
  have q:upto 5 (λt=>gd (QcS (some t)) 32&&gd (QcS (some t)) 10)=true:=by kernel_rfl
  exact⟨GW.of (QbO q (by have:=h t rfl; omega)),rfl⟩
theorem QwE {k:Nat} (hk:k<3) {g:GA} {v i n:Nat} (hv:v<=3) (hn:n<=4) (h:g.Wf v i n):GY (Qdz k g):=by
 have q:upto 3 (λk=>gd [pb,pb,pw Qir,pb,pw (aN k)] 32&&gd [pb,pb,pw Qir,pb,pw (aN k)] 10)=true:=by kernel_rfl
 have h1:=GW.of (QbO q hk);obtain⟨h2,w2⟩:=QvP hv h.wh;obtain⟨h3,w3⟩:=QAP g.hid;obtain⟨h4,w4⟩:=QtF hv g.sets h.sets;obtain⟨h5,w5⟩:=QCv (g:=g.go) λt ht=>by have:=h.go t ht; omega
 have b1:GW [pb,ps [123]]:=GW.of (by kernel_rfl);have b2:GW [pb,ps [125]]:=GW.of (by kernel_rfl);exact((((((h1.app h2 w2).app h3 w3).app b1 rfl).app h4 w4).app b2 rfl).app h5 w5).nl
theorem QtQ {v i n:Nat} (hv:v<=3) (hn:n<=4):∀ (l:List GA) (k:Nat),k+l.length<=3->(∀ a∈l,a.Wf v i n)->GY (QcA k l)
 |[],_,_,_=>λ_=>rfl
 |g::r,k,hk,h=>by
  simp only[Vh]at hk;exact(QwE (by omega) hv hn (h g (by simp))).app (QtQ hv hn r (k+1) (by omega) λa ha=>h a (by simp[ha]))
theorem Qw6 {w:Option GX} {p v:Nat} (hv:v<=3) (hp:p<3) (h:∀ c,w=some c->c.Wf v 4):GW (Qdp w p):=by
 cases w with
 |none =>
  have q:upto 3 (λp=>gd [pnU p] 32&&gd [pnU p] 10)=true:=by kernel_rfl
  exact GW.of (QbO q hp)
 |some g =>
  have q:upto 3 (λp=>gd [ps [44],pb,pnU 0,ps [44],pb,pnU p,ps [41]] 32&&gd [ps [44],pb,pnU 0,ps [44],pb,pnU p,ps [41]] 10)=true:=by kernel_rfl
  have h1:GW (Qbf g++[ps [44],pb,pnU 0,ps [44],pb,pnU p,ps [41]]):=GW.ex 44 (QsD hv (h g rfl) (by decide)) (GW.of (QbO q hp)) λ_=>rfl;have f:upto 4 (λk=>(List.range 3).all λx=>(List.range 3).all λy=>decide (cls (fb (Qbf ⟨k,x,y⟩) 0).toNat≠61)&&(gd [pw wIf,ps [40]] (fb (Qbf ⟨k,x,y⟩) 0) && !(txt (Qbf ⟨k,x,y⟩)).isEmpty))=true:=by kernel_rfl
  obtain⟨g1,g2,g3⟩:=h g rfl;have f2:=QbO f g1;simp only[Vn,V2,Va]at f2;obtain⟨_,f3,f4⟩:=f2 g.x (by omega) g.y (by omega);intro c hc;have e:Qdp (some g) p=[pw wIf,ps [40]]++(Qbf g++[ps [44],pb,pnU 0,ps [44],pb,pnU p,ps [41]]):=by simp[Qdp]
  rw[e];refine Qb4 ?_ (h1 c hc);rw[Qlm];have e2:∀ c',fb (Qbf g) c'=fb (Qbf g) 0:=by
   intro c';unfold fb;have f5:(txt (Qbf g)).isEmpty=false:=by simpa using f4
   cases hq:txt (Qbf g)with
   |nil=>rw[hq]at f5; cases f5
   |cons a r=>rfl
  rw[e2]; exact f3
theorem QCi {w:Option GX} {p pl v i n:Nat} {acts:List GA} (hv:v<=3) (hn:n<=4) (hp3:pl<=3) (h:(GS.turn w p acts).Wf pl v n i):GY (Qf2 w p acts):=by
 obtain⟨h1,h2,h3,h4,h5⟩:=h;have g1:GW [pw kwT]:=GW.of (by kernel_rfl);have g2:=Qw6 hv (show p<3 by omega) h1;have g3:GW [pb,ps [123]]:=GW.of (by kernel_rfl);have g4:=QtQ hv hn acts 0 (by omega) h5;have g5:GY [ps [125],pnl]:=GW.nl (a:=[ps [125]]) (GW.of (by kernel_rfl));have:=(((g1.app g2.b rfl).app g3 rfl).nl.app g4).app g5;simpa[Qf2]using this
theorem QBe {x r w s p pl v n i:Nat} (hv:v<=3) (hp3:pl<=3) (h:(GS.deal x r w s p).Wf pl v n i):GY (Qe2 x r w s p):=by
 obtain⟨h1,h2,h3,h4,h5⟩:=h;have q1:upto 3 (λx=>(List.range 4).all λr=>gd [pw kwD,pb,pw (vN x),pb,pw kwI,pb,pnU (loV r),pb,ps [46,46],pb,pnU (hiV r)] 32&&gd [pw kwD,pb,pw (vN x),pb,pw kwI,pb,pnU (loV r),pb,ps [46,46],pb,pnU (hiV r)] 59)=true:=by kernel_rfl
 have q2:upto 3 (λx=>(List.range 4).all λw=>gd (Qcx w x) 32&&gd (Qcx w x) 59)=true:=by kernel_rfl
 have q3:upto 3 (λs=>(List.range 3).all λp=>gd (QbF s p) 59&&(decide (fb (QbF s p) 59=59)||decide (fb (QbF s p) 59=32)))=true:=by kernel_rfl
 have q4:upto 3 (λx=>(List.range 4).all λw=>(decide (fb (Qcx w x) 59=59)||decide (fb (Qcx w x) 59=32))&&decide (fb (Qcx w x) 32=32))=true:=by kernel_rfl
 have k1:=QbO q1 (show x<3 by omega);have k2:=QbO q2 (show x<3 by omega);have k3:=QbO q3 h4;have k4:=QbO q4 (show x<3 by omega);simp only[Vn,V2,Va,V4,Zq]at k1 k2 k3 k4;have k1:=k1 r h2;have k2:=k2 w h3;have k3:=k3 p (by omega);have k4:=k4 w h3;intro c;have e:Qe2 x r w s p=[pw kwD,pb,pw (vN x),pb,pw kwI,pb,pnU (loV r),pb,ps [46,46],pb,pnU (hiV r)]++(Qcx w x++(QbF s p++[ps [59],pnl])):=by simp[Qe2]
 rw[e];have f1:fb [ps [59],pnl] c=59:=rfl;have m1:gd (QbF s p++[ps [59],pnl]) c=true:=Qb4 (by rw[f1]; exact k3.1) ((GW.nl (a:=[ps [59]]) (GW.of (by kernel_rfl))) c);have f2:fb (QbF s p++[ps [59],pnl]) c=59\/fb (QbF s p++[ps [59],pnl]) c=32:=by rw[Qlm,f1]; exact k3.2
 have m2:gd (Qcx w x++(QbF s p++[ps [59],pnl])) c=true:=by
  refine Qb4 ?_ m1;rcases f2 with f2|f2
  . rw[f2]; exact k2.2
  . rw[f2]; exact k2.1
 refine Qb4 ?_ m2;rw[Qlm];rcases f2 with f2|f2
 . rw[f2];rcases k4.1 with k|k
   . rw[k]; exact k1.2
   . rw[k]; exact k1.1
 . rw[f2,k4.2]; exact k1.1
theorem QvD {g:GS} {pl v n i:Nat} (hv:v<=3) (hn:n<=4) (hp3:pl<=3) (h:g.Wf pl v n i):GY (QeZ g):=by
 cases g with
 |deal x r w s p=>exact QBe hv hp3 h
 |turn w p acts=>exact QCi hv hn hp3 h
theorem QtH {pl v n:Nat} (hv:v<=3) (hn:n<=4) (hp3:pl<=3):∀ (l:List GS) (i:Nat),i+l.length<=4->Qfi pl v n i l->GY (QcH i l)
 |[],_,_,_=>λ_=>rfl
 |g::r,i,hi,h=>by
  simp only[Vh]at hi;have q:upto 5 (λi=>gd [pw (sN i),ps [58]] 32)=true:=by kernel_rfl
  have h1:GY [pw (sN i),ps [58],pb]:=λc=>Qb4 (a:=[pw (sN i),ps [58]]) (b:=[pb]) (QbO q (by omega)) rfl;exact(h1.app (QvD hv hn hp3 h.1)).app (QtH hv hn hp3 r (i+1) (by omega) h.2)
theorem QqS:∀ (l:List Nat) (i:Nat),i+l.length<=3->(∀ c∈l,c<4)->GY (QcG i l)
 |[],_,_,_=>λ_=>rfl
 |c::r,i,hi,h=>by
  simp only[Vh]at hi;have q:upto 3 (λi=>(List.range 4).all λc=>gd ([pw kwV,pb,pw (vN i),pb,ps [61],pb]++QeG c++[ps [59]]) 10)=true:=by kernel_rfl
  have q2:=QbO q (show i<3 by omega);simp only[Vn,V2]at q2;have h1:GY (([pw kwV,pb,pw (vN i),pb,ps [61],pb]++QeG c++[ps [59]])++[pnl]):=λd=>Qb4 (q2 c (h c (by simp))) rfl;have:=h1.app (QqS r (i+1) (by omega) λc hc=>h c (by simp[hc]));simpa[QcG]using this
theorem QrV {v:Nat} (hv:v<=3):∀ (l:List GX) (b:Bool),(∀ x∈l,x.Wf v 8)->gd (QaU b l) 59=true/\(b=true->fb (QaU b l) 59=59\/fb (QaU b l) 59=44)
 |[],_,_=>⟨rfl,λ_=>.inl rfl⟩
 |g::r,b,h=>by
  obtain⟨h1,h2⟩:=QrV hv r true λx hx=>h x (by simp[hx]);have h3:gd (Qcn g++QaU true r) 59=true:=Qb4 (by rcases h2 rfl with e|e<;>rw[e]<;>exact QsO hv (h g (by simp)) (by decide)) h1
  cases b with
  |true=>exact⟨by
   have:gd ([ps [44],pb]++(Qcn g++QaU true r)) 59=true:=Qb4 (a:=[ps [44],pb]) rfl h3;simpa[QaU]using this,λ_=>.inr rfl⟩
  |false=>exact⟨by simpa[QaU]using h3,λh=>by cases h⟩
theorem Qjz {g:GR} (h:g.Wf):QdD (QfL g):=by
 have q1:upto 9 (λm=>(List.range 4).all λp=>gd [pw kwG,pb,pw (gN m),ps [59],pnl,pw QhV,pb,pnU p,ps [59]] 10)=true:=by kernel_rfl
 have q2:upto 5 (λi=>gd [pw (sN i),ps [58],pb,pw kwE,pb,ps [123],pb,pw kwP] 32)=true:=by kernel_rfl
 have k1:=QbO q1 h.nm;simp only[Vn,V2]at k1;have a1:GY ([pw kwG,pb,pw (gN g.nm),ps [59],pnl,pw QhV,pb,pnU g.pl,ps [59]]++[pnl]):=λc=>Qb4 (k1 g.pl (by have:=h.pl3; omega)) rfl;have a2:=QqS g.ini 0 (by have:=h.inl; have:=h.v3; omega) h.ini;have a3:=QtH h.v3 h.st4 h.pl3 g.stages 0 (by have:=h.st4; omega) h.sts;have a4:GY ([pw (sN g.stages.length),ps [58],pb,pw kwE,pb,ps [123],pb,pw kwP]++[pb]):=λc=>Qb4 (QbO q2 (by have:=h.st4; omega)) rfl;have a5:GY (QaU false g.pays++[ps [59],pb,ps [125],pnl]):=λc=>Qb4 (QrV h.v3 g.pays false h.pays).1 ((GW.nl (a:=[ps [59],pb,ps [125]]) (GW.of (by kernel_rfl))) c);have:=QmH (b:=[]) trivial _ ((((a1.app a2).app a3).app a4).app a5 0);simpa[QfL]using this
section
variable {H:ZG} {j:Nat} {l:List Int} {a:Nat}
theorem Qre (hcl:closed H) (b:Nat):closed (mvD H j l b):=Qfj hcl j (by simp[drO])
theorem ok66 (ho:H[j]? = some (drO l a)) (ha:a<=l.length) (hl:l.length<4611686018427387904) {x:SV} {ws:ZD} (hx:∀ b,IsS (mvD H j l b) x ws) (h1:1<=ws.length) (h2:ws.length<=9) :
 Ok Tryz.prog 66 [rp j,x] H (.ret (st (B (ws.getD (nxD l a ws.length).1 [])))) (mvD H j l (nxD l a ws.length).2):=by
 have e4:=QyE ho;have hx0:=hx a;rw[e4]at hx0;refine Qz hm Tryz.func66 c66 (by simp[rp]) λhcl => ?_;have h37:=Qix ho ha hl ws.length (by omega);have hk:=Qad (l:=l) (a:=a) (n:=ws.length) h1;have hx1:=hx (nxD l a ws.length).2;generalize nxD l a ws.length=kk at *;obtain⟨k,b⟩:=kk;simp only at *;have hv:=hx1.vA [] hk;have hok:=hx1.okA [] hk;rw[VE]at hv hok;have hg:ws.getD k []=ws[k]:=by rw[Vz,Ve hk]; rfl
 have hk':(k:Int)<ws.length:=by omega
 rw[hg];simp -implicitDefEqProofs[i66,r66,hx0.vd,hx0.ug,hx0.sl,hx0.len];refine Qc h37 ?_;simp -implicitDefEqProofs[hx1.vd,hx1.ug,hx1.sl,hx1.len,hk',hv,hok];exact Qj
theorem go39 (hd:Dr H j l) (ha:a<=l.length) (hl:l.length<4611686018427387904) (L:ZG) {x:SV} {ws:ZD} (hx:∀ b,IsS (mvD H j l b++L) x ws) (h1:1<=ws.length) (h2:ws.length<=9) :
 Ok Tryz.prog 66 [rp j,x] (mvD H j l a++L) (.ret (st (B (ws.getD (nxD l a ws.length).1 [])))) (mvD H j l (nxD l a ws.length).2++L):=by
 have:=ok66 (hd.at a L) ha hl (x:=x) (ws:=ws) (λb=>by rw[hd.mv]; exact hx b) h1 h2; rwa [hd.mv]at this
theorem row1 {L:ZG} {k n ver:Nat} {ws:ZD} (h:L[k]? = some ⟨wds ws,9,ver,true⟩) (hn:n=ws.length) (b:Nat):IsS (mvD H j l b++L) (.own (H.length+k) 0 n 1 ver) ws:=by
 have:=IsS.own1 (H:=mvD H j l b) (L:=L) h hn
 rwa [Yc]at this
theorem ok67 (hd:Dr H j l) (ha:a<=l.length) (hl:l.length<4611686018427387904) {v pl:Nat} (hv:1<=v) (h3:v<=3) (hp:1<=pl) (hp3:pl<=3) :
 Ok Tryz.prog 67 [rp j,i64 pl,i64 v] (mvD H j l a) (.ret (st (B (stB (Qej l pl v a).1)))) (mvD H j l (Qej l pl v a).2):=by
 refine Qz hm Tryz.func67 c67 (by simp[rp]) λhcl => ?_;dsimp only[Qej,Qfq,stB,Qh8];have a1:=QW (n:=v) ha;have g1:=go71 hd ha hl [] hv h3;have h2:=λL k (h:L[k]? = some ⟨wds Qez,9,0,true⟩)=>go39 hd a1 hl L (x:=.own (H.length+k) 0 4 1 0) (ws:=Qez) (λb=>row1 h rfl b) (by decide) (by decide);have a2:=QW (n:=4) a1;have g3:=λL=>Qb3 hd a2 hl L 4 (by decide);have b3:=Qad (l:=l) (a:=(nxD l (nxD l a v).2 4).2) (n:=4) (by decide);have a3:=QW (n:=4) a2;have g4:=λL=>Qb3 hd a3 hl L 3 (by decide);have b4:=Qad (l:=l) (a:=(nxD l (nxD l (nxD l a v).2 4).2 4).2) (n:=3) (by decide);have a4:=QW (n:=3) a3;have g5:=λL=>Qb3 hd a4 hl L pl (by omega);have b5:=Qad (l:=l) (a:=(nxD l (nxD l (nxD l (nxD l a v).2 4).2 4).2 3).2) hp;have lr:∀ k,(Qez.getD k []).length<=6:=by
  intro k
  match k with
  |0|1|2|3=>decide
  |k+4=>simp[Qez]
 simp only[show Qez.length=4 from rfl]at h2;generalize nxD l (nxD l (nxD l (nxD l (nxD l a v).2 4).2 4).2 3).2 pl=q5 at *;generalize nxD l (nxD l (nxD l (nxD l a v).2 4).2 4).2 3=q4 at *;generalize nxD l (nxD l (nxD l a v).2 4).2 4=q3 at *;generalize nxD l (nxD l a v).2 4=q2 at *;generalize nxD l a v=q1 at *;obtain⟨x1,c1⟩:=q1;obtain⟨x2,c2⟩:=q2;obtain⟨x3,c3⟩:=q3;obtain⟨x4,c4⟩:=q4;obtain⟨x5,c5⟩:=q5;simp only at *;have lx:(vN x1).length=2:=rfl;have lr:=lr x2;generalize Qez.getD x2 []=tr at *;simp -implicitDefEqProofs[i67,r67];refine Qc (by rw[VE,VE]at g1; exact g1) ?_;simp -implicitDefEqProofs[QX,lx];refine Qc (h2 _ 0 rfl) ?_;simp -implicitDefEqProofs[QX,lx];refine⟨by omega,?_⟩;refine Qc (g3 _) ?_;have hk4:x3=0\/x3=1\/x3=2\/x3=3:=by omega
 have hk3:x4=0\/x4=1\/x4=2:=by omega
 have hc:∀ b,closed (mvD H j l b):=λb=>by have:=Qre (j:=j) (l:=l) hcl b; unfold mvD at this; rwa [VD]at this
 have ld:∀ k,(dg k).length=1:=λ_=>rfl;have g6:=λH=>Qeo (H:=H) (n:=x5) (by omega);have ld:=ld x5;generalize hd5:dg x5=t5 at *;rcases hk4 with rfl|rfl|rfl|rfl
 all_goals
  simp -implicitDefEqProofs[QX,lx];repeat (refine⟨by omega,?_⟩)
  refine Qc (g4 _) ?_;rcases hk3 with rfl|rfl|rfl
  . simp -implicitDefEqProofs[QX,lx,wgB,Qfe];repeat (refine⟨by omega,?_⟩)
    exact Qq 1 (hc _) (Yc ..).symm rfl
  . simp -implicitDefEqProofs[QX,lx];repeat (refine⟨by omega,?_⟩)
    refine Qc (g5 _) ?_;simp -implicitDefEqProofs;refine Qc (g6 _) ?_;simp -implicitDefEqProofs[QX,lx,wgB,Qfe,ld,hd5];repeat (refine⟨by omega,?_⟩)
    exact Qq 1 (hc _) (Yc ..).symm rfl
  . simp -implicitDefEqProofs[QX,lx,wgB,Qfe];repeat (refine⟨by omega,?_⟩)
    exact Qq 1 (hc _) (Yc ..).symm rfl
end
section
variable {H:ZG} {j:Nat} {l:List Int}
structure E41 (j v i n k w:Nat) (env:Env):Prop where
 h0:env.get 0=rp j
 h2:env.get 2=i64 v
 h3:env.get 3=i64 i
 h4:env.get 4=i64 n
 h12:env.get 12=i64 w
 h13:env.get 13=i64 k
theorem QBF (hd:Dr H j l) (hl:l.length<4611686018427387904) {v i n k w:Nat} (hv:1<=v) (h3:v<=3) {G:ZG} {N:Nat} {K:ZF} :
 ∀ (m a:Nat) (P:ZE) (env:Env),a<=l.length->m<=9->P.length+60*m<=1000000000->E41 j v i n k w env->env.get 11=st (B P)->env.get 14=i64 m ->
  (∀ env,E41 j v i n k w env->env.get 11=st (B (P++QdW (Qbu l v m a).1))->K (.exit 2) env (mvD H j l (Qbu l v m a).2++G))->LI Tryz.prog N Qf QhK env (mvD H j l a++G) K:=by
 intro m
 induction m with
 |zero =>
  intro a P env ha hm9 hP he h11 h14 hk;refine Qu hm QhK.eq_1 ?_;simp[h14];refine hk _ ⟨?_,?_,?_,?_,?_,?_⟩ ?_;all_goals simp[he.h0,he.h2,he.h3,he.h4,he.h12,he.h13,h11,QdW,Qbu]
 |succ m ih =>
  intro a P env ha hm9 hP he h11 h14 hk;refine Qu hm QhK.eq_1 ?_;have hsl:=Qr3 ((nxD l a v).1,(gx l v 8 (nxD l a v).2).1);have g1:=go71 hd ha hl G hv h3;have a1:=QW (n:=v) ha;have g2:=go42 hd a1 hl G hv h3;have a2:=QfA (v:=v) (n:=8) a1;have hih:=ih (gx l v 8 (nxD l a v).2).2 (P++Qfw ((nxD l a v).1,(gx l v 8 (nxD l a v).2).1));have hk':∀ env,E41 j v i n k w env->env.get 11=st (B (P++Qfw ((nxD l a v).1,(gx l v 8 (nxD l a v).2).1)++QdW (Qbu l v m (gx l v 8 (nxD l a v).2).2).1))->K (.exit 2) env (mvD H j l (Qbu l v m (gx l v 8 (nxD l a v).2).2).2++G):=by
   intro env e1 e2;refine hk env e1 ?_;rw[e2,VC]; rfl
  clear hk ih;generalize Qbu l v m (gx l v 8 (nxD l a v).2).2=r at hk' hih;generalize gx l v 8 (nxD l a v).2=q2 at *;generalize nxD l a v=q1 at *;obtain⟨x1,c1⟩:=q1;obtain⟨x2,c2⟩:=q2;simp only at *;have hb:Qfw (x1,x2)=[32]++vN x1++[32,61,32]++exB x2++[59]:=rfl;rw[hb]at hsl hih hk';have lx:(vN x1).length=2:=rfl;generalize vN x1=t1 at *;generalize exB x2=t2 at *;simp only[Vj,Vh,VH]at hsl;have w1:IntKind.i64.wrap (m:Int)=m:=Qfn (by omega);simp[he.h0,he.h2,h11,h14,QX];repeat (refine⟨by omega,?_⟩)
  refine Qc g1 ?_;simp[he.h0,he.h2,h11,h14,QX];repeat (refine⟨by omega,?_⟩)
  refine Qc g2 ?_;simp[he.h0,he.h2,h11,h14,QX];repeat (refine⟨by omega,?_⟩)
  refine hih _ a2 (by omega) (by simp only[Vj,Vh,VH]; omega) ⟨?_,?_,?_,?_,?_,?_⟩ ?_ ?_ hk';all_goals simp[he.h3,he.h4,he.h12,he.h13,w1]
theorem Qrb (k:Nat) (g:GA) (h:g.sets.length<=2):(QeP k g).length<=400:=by
 have h1:=QsV g.wh;have h2:=Qy6 g.hid;have h3:=Qmw g.sets;have h4:=Qwo g.go;simp[QeP,aN]; omega
end
def t41:IC:=(.seq
 (.seq
 (.reg [
 ⟨(some 66),none,.p (.mov (.t 0))⟩,
 ⟨(some 67),none,.e (.call (.c (.fn (.func 64) [] [])) [(.t 66),(.c (i64 3))])⟩,
 ⟨(some 68),none,.p (.bin .eql (.i .i64) (.t 67) (.c (i64 0)))⟩])
 (.cond (.t 68)
 (.reg [
 ⟨(some 69),none,.p (.mov (.t 11))⟩,
 ⟨(some 70),none,.p (.bin .add .s (.t 69) (.c (st ⟨#[32,104,105,100,100,101,110]⟩)))⟩,
 ⟨(some 11),none,.p (.mov (.t 70))⟩])
 .skip))
 (.seq
 (.reg [
 ⟨(some 71),none,.p (.mov (.t 11))⟩,
 ⟨(some 72),none,.p (.bin .add .s (.t 71) (.c (st ⟨#[32,123]⟩)))⟩,
 ⟨(some 11),none,.p (.mov (.t 72))⟩])
 (.seq
 (.seq
 (.reg [
 ⟨(some 73),none,.p (.mov (.t 0))⟩,
 ⟨(some 74),none,.e (.call (.c (.fn (.func 64) [] [])) [(.t 73),(.c (i64 3))])⟩,
 ⟨(some 14),none,.p (.mov (.t 74))⟩])
 (.blk 2
 (.loop QhK)))
 (.seq
 (.reg [
 ⟨(some 91),none,.p (.mov (.t 11))⟩,
 ⟨(some 92),none,.p (.bin .add .s (.t 91) (.c (st ⟨#[32,125]⟩)))⟩,
 ⟨(some 11),none,.p (.mov (.t 92))⟩])
 (.seq
 (.seq
 (.reg [
 ⟨(some 93),none,.p (.mov (.t 0))⟩,
 ⟨(some 94),none,.e (.call (.c (.fn (.func 64) [] [])) [(.t 93),(.c (i64 3))])⟩,
 ⟨(some 95),none,.p (.bin .eql (.i .i64) (.t 94) (.c (i64 0)))⟩])
 (.cond (.t 95)
 (.reg [
 ⟨(some 96),none,.p (.mov (.t 11))⟩,
 ⟨(some 97),none,.p (.bin .add .s (.t 96) (.c (st ⟨#[32,103,111,116,111,32,115]⟩)))⟩,
 ⟨(some 98),none,.p (.mov (.t 3))⟩,
 ⟨(some 99),none,.p (.bin .add (.i .i64) (.t 98) (.c (i64 1)))⟩,
 ⟨(some 100),none,.p (.mov (.t 0))⟩,
 ⟨(some 101),none,.p (.mov (.t 4))⟩,
 ⟨(some 102),none,.p (.mov (.t 3))⟩,
 ⟨(some 103),none,.p (.bin .sub (.i .i64) (.t 101) (.t 102))⟩,
 ⟨(some 104),none,.e (.call (.c (.fn (.func 64) [] [])) [(.t 100),(.t 103)])⟩,
 ⟨(some 105),none,.p (.bin .add (.i .i64) (.t 99) (.t 104))⟩,
 ⟨(some 106),none,.e (.call (.c (.fn (.func 65) [] [])) [(.t 105)])⟩,
 ⟨(some 107),none,.p (.bin .add .s (.t 97) (.t 106))⟩,
 ⟨(some 108),none,.p (.bin .add .s (.t 107) (.c (st ⟨#[59]⟩)))⟩,
 ⟨(some 11),none,.p (.mov (.t 108))⟩])
 .skip))
 (.reg [
 ⟨(some 109),none,.p (.mov (.t 11))⟩,
 ⟨(some 110),none,.p (.bin .add .s (.t 109) (.c (st ⟨#[10]⟩)))⟩,
 ⟨(some 11),none,.p (.mov (.t 110))⟩]))))))
theorem Qrf:Qje=.keep [0,2,3,4,11,12,13]
 (.seq
 (.seq
 (.reg [
 ⟨(some 41),none,.p (.mov (.t 13))⟩,
 ⟨(some 42),none,.p (.mov (.t 12))⟩,
 ⟨(some 43),none,.p (.bin .lss (.i .i64) (.t 41) (.t 42))⟩])
 (.cond (.t 43)
 .skip
 (.exit 0)))
 (.seq
 (.blk 1
 (.seq
 (.reg [
 ⟨(some 46),none,.p (.mov (.t 11))⟩,
 ⟨(some 47),none,.p (.bin .add .s (.t 46) (.c (st ⟨#[32,32,97,99,116,105,111,110,32]⟩)))⟩,
 ⟨(some 48),none,.e (.bsl 9 1 3 [st ⟨#[]⟩] [(0,(.c (st ⟨#[97]⟩))),(1,(.c (st ⟨#[98]⟩))),(2,(.c (st ⟨#[99]⟩)))])⟩,
 ⟨(some 49),none,.p (.mov (.t 13))⟩,
 ⟨(some 50),none,.p (.ia 1 (.t 48) (.t 49))⟩,
 ⟨(some 51),none,.p (.ld1 (.t 50))⟩,
 ⟨(some 52),none,.p (.bin .add .s (.t 47) (.t 51))⟩,
 ⟨(some 11),none,.p (.mov (.t 52))⟩])
 (.seq
 (.seq
 (.reg [
 ⟨(some 53),none,.p (.mov (.t 13))⟩,
 ⟨(some 54),none,.p (.bin .gtr (.i .i64) (.t 53) (.c (i64 0)))⟩,
 ⟨(some 55),none,.p (.mov (.t 54))⟩,
 ⟨(some 56),(some (55,true)),.p (.mov (.t 0))⟩,
 ⟨(some 57),(some (55,true)),.e (.call (.c (.fn (.func 64) [] [])) [(.t 56),(.c (i64 3))])⟩,
 ⟨(some 58),(some (55,true)),.p (.bin .eql (.i .i64) (.t 57) (.c (i64 0)))⟩,
 ⟨(some 59),none,.p (.pick (.t 55) (.t 58) (.c (bl false)))⟩])
 (.cond (.t 59)
 (.reg [
 ⟨(some 60),none,.p (.mov (.t 11))⟩,
 ⟨(some 61),none,.p (.bin .add .s (.t 60) (.c (st ⟨#[32,119,104,101,110,32]⟩)))⟩,
 ⟨(some 62),none,.p (.mov (.t 0))⟩,
 ⟨(some 63),none,.p (.mov (.t 2))⟩,
 ⟨(some 64),none,.e (.call (.c (.fn (.func 122) [] [])) [(.t 62),(.t 63)])⟩,
 ⟨(some 65),none,.p (.bin .add .s (.t 61) (.t 64))⟩,
 ⟨(some 11),none,.p (.mov (.t 65))⟩])
 .skip))
 t41)))
 (.reg [
 ⟨(some 44),none,.p (.mov (.t 13))⟩,
 ⟨(some 45),none,.p (.bin .add (.i .i64) (.t 44) (.c (i64 1)))⟩,
 ⟨(some 13),none,.p (.mov (.t 45))⟩]))):=rfl
section
variable {H:ZG} {j:Nat} {l:List Int}
theorem QuB (hd:Dr H j l) (hl:l.length<4611686018427387904) {v i n k w:Nat} (hv:1<=v) (h3:v<=3) (hi:i<n) (hn:n<=4) {N:Nat} {K:ZF} {G:ZG} {a:Nat} {P:ZE} {env:Env}
 (ha:a<=l.length) (hP:P.length<=100000000) (he:E41 j v i n k w env) (h11:env.get 11=st (B P))
 (hk:∀ env,E41 j v i n k w env->env.get 11=st (B (P++Qgd (decide ((nxD l a 3).1=0))++[32,123]++QdW (Qbu l v (nxD l (nxD l a 3).2 3).1 (nxD l (nxD l a 3).2 3).2).1++[32,125]++goB (goC l i n (Qbu l v (nxD l (nxD l a 3).2 3).1 (nxD l (nxD l a 3).2 3).2).2).1++[10])) ->
  K .normal env (mvD H j l (goC l i n (Qbu l v (nxD l (nxD l a 3).2 3).1 (nxD l (nxD l a 3).2 3).2).2).2++G)):X Tryz.prog N Qf t41 env (mvD H j l a++G) K:=by
 have g1:=Qb3 hd ha hl G 3 (by decide);have a1:=QW (n:=3) ha;have g2:=Qb3 hd a1 hl G 3 (by decide);have a2:=QW (n:=3) a1;have b2:=Qad (l:=l) (a:=(nxD l a 3).2) (n:=3) (by decide);generalize nxD l (nxD l a 3).2 3=q2 at *;generalize nxD l a 3=q1 at *;obtain⟨x1,c1⟩:=q1;obtain⟨x2,c2⟩:=q2;simp only at *;have a3:=QnQ (v:=v) (m:=x2) a2;have s3:=Qmw (Qbu l v x2 c2).1;rw[Qib]at s3;have g4:=Qb3 hd a3 hl G 3 (by decide);have a4:=QW (n:=3) a3;have g5:=Qb3 hd a4 hl G (n-i) (by omega);have b5:=Qad (l:=l) (a:=(nxD l (Qbu l v x2 c2).2 3).2) (n:=n-i) (by omega);have lp:=λ(P:ZE) (env:Env) (K:ZF)=>QBF hd hl (i:=i) (n:=n) (k:=k) (w:=w) hv h3 (G:=G) (N:=N) (K:=K) x2 c2 P env a2;unfold goC at hk;generalize Qbu l v x2 c2=r at *;obtain⟨tx,c3⟩:=r;simp only at *;generalize QdW tx=sx at *;generalize nxD l (nxD l c3 3).2 (n-i)=q5 at *;generalize nxD l c3 3=q4 at *;obtain⟨x4,c4⟩:=q4;obtain⟨x5,c5⟩:=q5;simp only at *;have e5:IntKind.i64.wrap ((n:Int)-i)=((n-i:Nat):Int):=by rw[Qah (by omega) (by omega)]; omega
 have e6:IntKind.i64.wrap (IntKind.i64.wrap ((i:Int)+1)+(x5:Int))=((i+1+x5:Nat):Int):=by rw[Qah (n:=(i:Int)+1) (by omega) (by omega),Qah (by omega) (by omega)]; omega
 have g6:=λH=>Qeo (H:=H) (n:=i+1+x5) (by omega);have ld:(dg (i+1+x5)).length=1:=rfl;unfold t41;simp -implicitDefEqProofs[he.h0];refine Qc g1 ?_;rcases(by omega:x1=0\/¬ x1=0)with h1|h1
 all_goals
  have hh:Qgd (decide (x1=0))=if x1=0 then [32,104,105,100,100,101,110]else []:=by unfold Qgd; simp only[Zq]
  rw[hh]at hk;simp -implicitDefEqProofs[he.h0,h11,QX,h1];repeat (refine⟨by omega,?_⟩)
  refine Qc g2 ?_;simp -implicitDefEqProofs;refine lp (P++(if x1=0 then [32,104,105,100,100,101,110]else [])++[32,123]) _ _ (by omega) (by simp[h1]; omega) ⟨?_,?_,?_,?_,?_,?_⟩ ?_ ?_ ?_
  . simp[he.h0]
  . simp[he.h2]
  . simp[he.h3]
  . simp[he.h4]
  . simp[he.h12]
  . simp[he.h13]
  . simp[h1]
  . simp
  clear lp;intro env he2 h112;simp -implicitDefEqProofs[he2.h0,h112,QX,h1];repeat (refine⟨by omega,?_⟩)
  refine Qc g4 ?_;rcases(by omega:x4=0\/¬ x4=0)with h4|h4
  . simp -implicitDefEqProofs[he2.h0,he2.h3,he2.h4,QX,h4,e5];repeat (refine⟨by omega,?_⟩)
    refine Qc g5 ?_;simp -implicitDefEqProofs[h4,e6];refine Qc (g6 _) ?_;rw[Zo h4]at hk;simp only[goB]at hk;generalize dg (i+1+x5)=t5 at *;simp -implicitDefEqProofs[QX];repeat (refine⟨by omega,?_⟩)
    refine hk _ ⟨?_,?_,?_,?_,?_,?_⟩ ?_;all_goals simp[he2.h0,he2.h2,he2.h3,he2.h4,he2.h12,he2.h13,h1]
  . rw[Zn h4]at hk;simp only[goB]at hk;simp -implicitDefEqProofs[QX,h4];repeat (refine⟨by omega,?_⟩)
    refine hk _ ⟨?_,?_,?_,?_,?_,?_⟩ ?_;all_goals simp[he2.h0,he2.h2,he2.h3,he2.h4,he2.h12,he2.h13,h1]
end
section
variable {H:ZG} {j:Nat} {l:List Int}
theorem QCa (hd:Dr H j l) (hl:l.length<4611686018427387904) {v i n w:Nat} (hv:1<=v) (h3:v<=3) (hi:i<n) (hn:n<=4) (hw:w<=3) {N:Nat} {K:ZF} :
 ∀ (m k a:Nat) (P:ZE) (G:ZG) (env:Env),a<=l.length->k+m=w->P.length+400*m<=1000000->E41 j v i n k w env->env.get 11=st (B P) ->
  (∀ env G,env.get 11=st (B (P++Qel k (Qcb l v i n m k a).1))->K (.exit 0) env (mvD H j l (Qcb l v i n m k a).2++G))->LI Tryz.prog N Qf Qje env (mvD H j l a++G) K:=by
 intro m
 induction m with
 |zero =>
  intro k a P G env ha hm' hP he h11 hk;refine Qu hm Qrf ?_;have:k=w:=by omega
  subst this;simp[he.h12,he.h13];refine hk _ _ ?_;simp[h11,Qel,Qcb]
 |succ m ih =>
  intro k a P G env ha hm9 hP he h11 hk;refine Qu hm Qrf ?_;have hkw:(k:Int)<w:=by omega
  have hkw':k<w:=by omega
  have hal:=Qrb k (QbN l v i n k a).1 (by
   have:=Qad (l:=l) (a:=(nxD l (whC l v k a).2 3).2) (n:=3) (by decide);dsimp only[QbN];rw[Qib]; omega)
  have hk2:∀ env G,env.get 11=st (B (P++QeP k (QbN l v i n k a).1++Qel (k+1) (Qcb l v i n m (k+1) (QbN l v i n k a).2).1))->K (.exit 0) env (mvD H j l (Qcb l v i n m (k+1) (QbN l v i n k a).2).2++G):=by
   intro env G e2;refine hk env G ?_;rw[e2,VC]; rfl
  clear hk;have ht:=λ(c:Nat) (hc:c<=l.length) (G:ZG) (P:ZE) (env:Env) (K:ZF)=>QuB hd hl (i:=i) (n:=n) (k:=k) (w:=w) hv h3 hi hn (G:=G) (N:=N) (K:=K) (a:=c) (P:=P) (env:=env) hc;have key:∀ (wh:Option GX) (c:Nat),whC l v k a=(wh,c)->c<=l.length->∀ (env:Env) (G:ZG),E41 j v i n k w env->env.get 11=st (B (P++[32,32,97,99,116,105,111,110,32]++aN k++whB wh))->∀ K':ZF,
   (∀ env,E41 j v i n k w env->env.get 11=st (B (P++QeP k (QbN l v i n k a).1))->K' .normal env (mvD H j l (QbN l v i n k a).2++G))->X Tryz.prog N Qf t41 env (mvD H j l c++G) K':=by
   intro wh c hw1 hc env G he h11 K' hk';refine ht c hc G _ env K' ?_ he h11 λenv he2 h112 => ?_
   . have:=QsV wh;simp[aN]; omega
   . have e:(QbN l v i n k a).2=(goC l i n (Qbu l v (nxD l (nxD l c 3).2 3).1 (nxD l (nxD l c 3).2 3).2).2).2:=by dsimp only[QbN]; rw[hw1]
     rw[<-e];refine hk' env he2 ?_;rw[h112];dsimp only[QbN,QeP];rw[hw1];simp
  have fin:∀ (env:Env),E41 j v i n k w env->env.get 11=st (B (P++QeP k (QbN l v i n k a).1))->∀ G,∀ env2:Env,E41 j v i n (k+1) w env2->env2.get 11=env.get 11->LI Tryz.prog N Qf Qje env2 (mvD H j l (QbN l v i n k a).2++G) K:=λenv e1 e2 G env2 e3 e4 =>
   ih (k+1) _ _ G env2 (Qsq ha) (by omega) (by simp; omega) e3 (by rw[e4,e2]) hk2
  clear ih hk2 ht;have hk3:k=0\/k=1\/k=2:=by omega
  rcases hk3 with rfl|rfl|rfl
  . simp[he.h0,he.h2,he.h3,he.h4,he.h12,he.h13,h11,hkw',QX];repeat (refine⟨by omega,?_⟩)
    refine key none a rfl ha _ _ ⟨?_,?_,?_,?_,?_,?_⟩ ?_ _ λenv e1 e2 => ?_
    . simp
    . simp
    . simp
    . simp
    . simp
    . simp
    . simp[whB,aN]
    . refine⟨by rw[e1.h13]; rfl,fin env e1 e2 _ _ ⟨?_,?_,?_,?_,?_,?_⟩ ?_⟩;all_goals simp[e1.h0,e1.h2,e1.h3,e1.h4,e1.h12,e1.h13,show IntKind.i64.wrap 1=1 from rfl]
  . have hc1:(1:Int)<w:=by omega
    have g1:=λG=>Qb3 hd ha hl G 3 (by decide);have a1:=QW (n:=3) ha;have g2:=λG=>Qn1 hd a1 hl G hv h3;have a2:=QfA (v:=v) (n:=4) a1;have cl:=Qhs (gx l v 4 (nxD l a 3).2).1;unfold whC at key;simp only[show ¬ (1:Nat)=0 from by decide,Zu]at key;generalize gx l v 4 (nxD l a 3).2=q2 at *;generalize nxD l a 3=q1 at *;obtain⟨x1,c1⟩:=q1;obtain⟨x2,c2⟩:=q2;simp only at *;simp[he.h0,he.h2,he.h3,he.h4,he.h12,he.h13,h11,hc1,QX];repeat (refine⟨by omega,?_⟩)
    refine Qq6 (g1 _) ?_;rcases(by omega:x1=0\/¬ x1=0)with h1|h1
    . rw[Zo h1]at key;simp[he.h0,he.h2,he.h3,he.h4,he.h12,he.h13,h11,QX,h1];repeat (refine⟨by omega,?_⟩)
      refine Qc (g2 _) ?_;simp[he.h0,he.h2,he.h3,he.h4,he.h12,he.h13,h11,QX,h1];repeat (refine⟨by omega,?_⟩)
      refine key (some x2) c2 rfl a2 _ _ ⟨?_,?_,?_,?_,?_,?_⟩ ?_ _ λenv e1 e2 => ?_
      . simp
      . simp
      . simp
      . simp
      . simp
      . simp
      . simp[whB,aN]
      . refine⟨by rw[e1.h13]; rfl,fin env e1 e2 _ _ ⟨?_,?_,?_,?_,?_,?_⟩ ?_⟩;all_goals simp[e1.h0,e1.h2,e1.h3,e1.h4,e1.h12,e1.h13,show IntKind.i64.wrap 2=2 from rfl]
    . rw[Zn h1]at key;simp[he.h0,he.h2,he.h3,he.h4,he.h12,he.h13,h11,h1];refine key none c1 rfl a1 _ _ ⟨?_,?_,?_,?_,?_,?_⟩ ?_ _ λenv e1 e2 => ?_
      . simp
      . simp
      . simp
      . simp
      . simp
      . simp
      . simp[whB,aN]
      . refine⟨by rw[e1.h13]; rfl,fin env e1 e2 _ _ ⟨?_,?_,?_,?_,?_,?_⟩ ?_⟩;all_goals simp[e1.h0,e1.h2,e1.h3,e1.h4,e1.h12,e1.h13,show IntKind.i64.wrap 2=2 from rfl]
  . have hc1:(2:Int)<w:=by omega
    have g1:=λG=>Qb3 hd ha hl G 3 (by decide);have a1:=QW (n:=3) ha;have g2:=λG=>Qn1 hd a1 hl G hv h3;have a2:=QfA (v:=v) (n:=4) a1;have cl:=Qhs (gx l v 4 (nxD l a 3).2).1;unfold whC at key;simp only[show ¬ (2:Nat)=0 from by decide,Zu]at key;generalize gx l v 4 (nxD l a 3).2=q2 at *;generalize nxD l a 3=q1 at *;obtain⟨x1,c1⟩:=q1;obtain⟨x2,c2⟩:=q2;simp only at *;simp[he.h0,he.h2,he.h3,he.h4,he.h12,he.h13,h11,hc1,QX];repeat (refine⟨by omega,?_⟩)
    refine Qq6 (g1 _) ?_;rcases(by omega:x1=0\/¬ x1=0)with h1|h1
    . rw[Zo h1]at key;simp[he.h0,he.h2,he.h3,he.h4,he.h12,he.h13,h11,QX,h1];repeat (refine⟨by omega,?_⟩)
      refine Qc (g2 _) ?_;simp[he.h0,he.h2,he.h3,he.h4,he.h12,he.h13,h11,QX,h1];repeat (refine⟨by omega,?_⟩)
      refine key (some x2) c2 rfl a2 _ _ ⟨?_,?_,?_,?_,?_,?_⟩ ?_ _ λenv e1 e2 => ?_
      . simp
      . simp
      . simp
      . simp
      . simp
      . simp
      . simp[whB,aN]
      . refine⟨by rw[e1.h13]; rfl,fin env e1 e2 _ _ ⟨?_,?_,?_,?_,?_,?_⟩ ?_⟩;all_goals simp[e1.h0,e1.h2,e1.h3,e1.h4,e1.h12,e1.h13,show IntKind.i64.wrap 3=3 from rfl]
    . rw[Zn h1]at key;simp[he.h0,he.h2,he.h3,he.h4,he.h12,he.h13,h11,h1];refine key none c1 rfl a1 _ _ ⟨?_,?_,?_,?_,?_,?_⟩ ?_ _ λenv e1 e2 => ?_
      . simp
      . simp
      . simp
      . simp
      . simp
      . simp
      . simp[whB,aN]
      . refine⟨by rw[e1.h13]; rfl,fin env e1 e2 _ _ ⟨?_,?_,?_,?_,?_,?_⟩ ?_⟩;all_goals simp[e1.h0,e1.h2,e1.h3,e1.h4,e1.h12,e1.h13,show IntKind.i64.wrap 3=3 from rfl]
theorem Ql2:∀ (gs:List GA) (k:Nat),(∀ g∈gs,g.sets.length<=2)->(Qel k gs).length<=400*gs.length
 |[],k,_=>by simp[Qel]
 |g::r,k,h=>by
  have h1:=Qrb k g (h g (by simp));have h2:=Ql2 r (k+1) λx hx=>h x (by simp[hx]);simp[Qel]; omega
theorem Qm5 {v i n:Nat}:∀ (m k a:Nat),∀ g∈(Qcb l v i n m k a).1,g.sets.length<=2
 |0,_,_,g,h=>by cases h
 |m+1,k,a,g,h=>by
  rw[Qcb,Vd]at h;rcases h with rfl|h
  . have:=Qad (l:=l) (a:=(nxD l (whC l v k a).2 3).2) (n:=3) (by decide);dsimp only[QbN];rw[Qib]; omega
  . exact Qm5 m _ _ g h
theorem ok68 (hd:Dr H j l) {a:Nat} (ha:a<=l.length) (hl:l.length<4611686018427387904) {v pl i n:Nat} (hv:1<=v) (h3:v<=3) (hp:1<=pl) (hp3:pl<=3) (hi:i<n) (hn:n<=4) :
 Ok Tryz.prog 68 [rp j,i64 pl,i64 v,i64 i,i64 n] (mvD H j l a) (.ret (st (B (stB (Qc8 l pl v i n a).1)))) (mvD H j l (Qc8 l pl v i n a).2):=by
 refine Qz hm Tryz.func68 c68 (by simp[rp]) λhcl => ?_;have hc:∀ b,closed (mvD H j l b):=λb=>by have:=Qre (j:=j) (l:=l) hcl b; unfold mvD at this; rwa [VD]at this
 have g1:=Qb3 hd ha hl [] 4 (by decide);have a1:=QW (n:=4) ha;have g2:=Qn1 hd a1 hl [] hv h3;have a2:=QfA (v:=v) (n:=4) a1;have cl:=Qhs (gx l v 4 (nxD l a 4).2).1;have g3:=Qb3 hd a1 hl [] pl (by omega);have b3:=Qad (l:=l) (a:=(nxD l a 4).2) hp;have a3:=QW (n:=pl) a1;have key:∀ (w:Option GX) (p c:Nat),Qdb l pl v a=((w,p),c)->c<=l.length->∀ (env:Env),env.get 0=rp j->env.get 2=i64 v->env.get 3=i64 i->env.get 4=i64 n->env.get 11=st (B ([116,117,114,110,32]++Qef w p)) ->
  X Tryz.prog Tryz.f68.ntmps Qf (IC.tl 3 i68) env (mvD H j l c) (Fin H.length r68 (.ret (st (B (stB (Qc8 l pl v i n a).1)))) (mvD H j l (Qc8 l pl v i n a).2)):=by
  intro w p c hw hc' env h0 h2 h3' h4 h11;have wl:=QoO w p;have e:Qc8 l pl v i n a=(.turn w p (Qcb l v i n (1+(nxD l c 3).1) 0 (nxD l c 3).2).1,(Qcb l v i n (1+(nxD l c 3).1) 0 (nxD l c 3).2).2):=by dsimp only[Qc8]; rw[hw]
  rw[e];have g1:=Qb3 hd hc' hl [] 3 (by decide);have b1:=Qad (l:=l) (a:=c) (n:=3) (by decide);have a1:=QW (n:=3) hc';generalize nxD l c 3=q at *;obtain⟨x,d⟩:=q;simp only[VE,stB]at *;have e6:IntKind.i64.wrap (1+(x:Int))=((1+x:Nat):Int):=by rw[Qah (by omega) (by omega)]; omega
  have hal:=Ql2 _ 0 (Qm5 (l:=l) (v:=v) (i:=i) (n:=n) (1+x) 0 d);rw[Qiq]at hal;unfold Qk8;generalize Qef w p=tw at *;simp[IC.tl,i68,h0,h11,QX];repeat (refine⟨by omega,?_⟩)
  refine Qc g1 ?_;simp[e6];refine LI.cong (H':=mvD H j l d++[]) (by simp) ?_;refine QCa hd hl (v:=v) (i:=i) (n:=n) (w:=1+x) hv h3 hi hn (by omega) (1+x) 0 d ([116,117,114,110,32]++tw++[32,123,10]) [] _ a1 (by omega) (by simp; omega) ⟨?_,?_,?_,?_,?_,?_⟩ ?_ λenv G h112 => ?_
  . simp[h0]
  . simp[h2]
  . simp[h3']
  . simp[h4]
  . simp
  . simp
  . simp
  . generalize Qcb l v i n (1+x) 0 d=r at *;simp[h112,QX,r68];repeat (refine⟨by omega,?_⟩)
    exact Qq 1 (hc _) (Yc ..).symm (by simp)
 unfold Qdb at key;generalize gx l v 4 (nxD l a 4).2=q2 at *;generalize nxD l (nxD l a 4).2 pl=q3 at *;generalize nxD l a 4=q1 at *;obtain⟨x1,c1⟩:=q1;obtain⟨x2,c2⟩:=q2;obtain⟨x3,c3⟩:=q3;simp only[VE]at *;have hd41:i68=.seq (IC.nth 0 i68) (.seq (IC.nth 1 i68) (.seq (IC.nth 2 i68) (IC.tl 3 i68))):=rfl;rw[hd41];generalize IC.tl 3 i68=tl at *;have w1:IntKind.i64.wrap ((pl:Int)-1)=((pl-1:Nat):Int):=by rw[Qah (by omega) (by omega)]; omega
 simp[IC.nth,i68];refine Qc g1 ?_;rcases(by omega:x1=0\/¬ x1=0)with h1|h1
 . rw[Zo h1]at key;have g6:=λH=>Qeo (H:=H) (n:=pl-1) (by omega);have ld:(dg (pl-1)).length=1:=rfl;simp[h1];refine Qc g2 ?_;simp[QX,w1];repeat (refine⟨by omega,?_⟩)
   refine Qc (g6 _) ?_;have key:=key (some x2) (pl-1) c2 rfl a2;simp only[Qef]at key;generalize dg (pl-1)=t5 at *;simp[QX];repeat (refine⟨by omega,?_⟩)
   refine key _ ?_ ?_ ?_ ?_ ?_;all_goals simp
 . rw[Zn h1]at key;have g6:=λH=>Qeo (H:=H) (n:=x3) (by omega);have ld:(dg x3).length=1:=rfl;simp[h1];refine Qc g3 ?_;simp;refine Qc (g6 _) ?_;have key:=key none x3 c3 rfl a3;simp only[Qef]at key;generalize dg x3=t5 at *;simp[QX];repeat (refine⟨by omega,?_⟩)
   refine key _ ?_ ?_ ?_ ?_ ?_;all_goals simp
end
structure R17 (j pl v n:Nat) (env:Env):Prop where
 h3:env.get 3=rp j
 h4:env.get 4=i64 pl
 h5:env.get 5=i64 v
 h6:env.get 6=i64 n
theorem Qwn (k:Nat):(Qez.getD k []).length<=6:=by
 match k with
 |0|1|2|3=>decide
 |k+4=>simp[Qez]
theorem QoD (k:Nat):(QeI.getD k []).length<=2:=by
 match k with
 |0|1|2|3=>decide
 |k+4=>simp[QeI]
section
variable {H:ZG} {j:Nat} {l:List Int}
theorem Qrr {pl v i n a:Nat}:(stB (stC l pl v i n a).1).length<=1300:=by
 unfold stC;split
 . dsimp only[Qej,stB,Qh8];have h1:=Qwn (nxD l (nxD l (nxD l a 3).2 v).2 4).1;have h2:=Qug (nxD l (nxD l (nxD l (nxD l a 3).2 v).2 4).2 4).1 (nxD l (nxD l a 3).2 v).1;have h3:=Qv9 (Qfq l pl (nxD l (nxD l (nxD l (nxD l a 3).2 v).2 4).2 4).2).1.1 (Qfq l pl (nxD l (nxD l (nxD l (nxD l a 3).2 v).2 4).2 4).2).1.2;have h4:(vN (nxD l (nxD l a 3).2 v).1).length=2:=rfl;simp only[Vj,Vh,VH];omega
 . dsimp only[Qc8,stB,Qk8];generalize (nxD l a 3).2=b;have h1:=QoO (Qdb l pl v b).1.1 (Qdb l pl v b).1.2;have h2:=Ql2 _ 0 (Qm5 (l:=l) (v:=v) (i:=i) (n:=n) (1+(nxD l (Qdb l pl v b).2 3).1) 0 (nxD l (Qdb l pl v b).2 3).2);rw[Qiq]at h2;have h3:=Qad (l:=l) (a:=(Qdb l pl v b).2) (n:=3) (by decide);simp only[Vj,Vh,VH];omega
theorem go40 (hd:Dr H j l) {a:Nat} (ha:a<=l.length) (hl:l.length<4611686018427387904) (G:ZG) {v pl:Nat} (hv:1<=v) (h3:v<=3) (hp:1<=pl) (hp3:pl<=3) :
 Ok Tryz.prog 67 [rp j,i64 pl,i64 v] (mvD H j l a++G) (.ret (st (B (stB (Qej l pl v a).1)))) (mvD H j l (Qej l pl v a).2++G):=by
 have:=ok67 (hd.app G) ha hl hv h3 hp hp3;unfold mvD at this
 rwa [Vm _ _ hd.lt,Vm _ _ hd.lt]at this
theorem go41 (hd:Dr H j l) {a:Nat} (ha:a<=l.length) (hl:l.length<4611686018427387904) (G:ZG) {v pl i n:Nat} (hv:1<=v) (h3:v<=3) (hp:1<=pl) (hp3:pl<=3) (hi:i<n) (hn:n<=4) :
 Ok Tryz.prog 68 [rp j,i64 pl,i64 v,i64 i,i64 n] (mvD H j l a++G) (.ret (st (B (stB (Qc8 l pl v i n a).1)))) (mvD H j l (Qc8 l pl v i n a).2++G):=by
 have:=ok68 (hd.app G) ha hl hv h3 hp hp3 hi hn;unfold mvD at this
 rwa [Vm _ _ hd.lt,Vm _ _ hd.lt]at this
theorem Qvk (hd:Dr H j l) (hl:l.length<4611686018427387904) {pl v n:Nat} (hv:v<=3) {N:Nat} {K:ZF} :
 ∀ (m i a:Nat) (P:ZE) (G:ZG) (env:Env),a<=l.length->i+m=v->P.length+40*m<=1000000->R17 j pl v n env->env.get 7=st (B P)->env.get 8=i64 i ->
  (∀ env G,R17 j pl v n env->env.get 7=st (B (P++Qdl i (QbC l m a).1))->K (.exit 0) env (mvD H j l (QbC l m a).2++G))->LI Tryz.prog N Qf Qjj env (mvD H j l a++G) K:=by
 intro m
 induction m with
 |zero =>
  intro i a P G env ha hm' hP he h7 h8 hk;refine Qu hm Qjj.eq_1 ?_;have:i=v:=by omega
  subst this;simp[he.h5,h8];refine hk _ _ ⟨?_,?_,?_,?_⟩ ?_;all_goals simp[he.h3,he.h4,he.h6,h7,Qdl,QbC]
 |succ m ih =>
  intro i a P G env ha hm9 hP he h7 h8 hk;refine Qu hm Qjj.eq_1 ?_;have hiv:(i:Int)<v:=by omega
  have hiv':i<v:=by omega
  have g1:=λH=>Qeo (H:=H) (n:=i) (by omega);have ld:(dg i).length=1:=rfl;have g2:=λL k (h:L[k]? = some ⟨wds QeI,9,0,true⟩)=>go39 hd ha hl L (x:=.own (H.length+k) 0 4 1 0) (ws:=QeI) (λb=>row1 h rfl b) (by decide) (by decide);have a1:=QW (n:=4) ha;simp only[show QeI.length=4 from rfl]at g2;have wl:=QoD (nxD l a 4).1;have hk2:∀ env G,R17 j pl v n env->env.get 7=st (B ((P++[118,97,114,32,118]++dg i++[32,61,32]++QeI.getD (nxD l a 4).1 []++[59,10])++Qdl (i+1) (QbC l m (nxD l a 4).2).1))->K (.exit 0) env (mvD H j l (QbC l m (nxD l a 4).2).2++G):=by
   intro env G e1 e2;refine hk env G e1 ?_;rw[e2]; simp[QbC,Qdl]
  clear hk;have ih:=λP G env=>ih (i+1) (nxD l a 4).2 P G env a1 (by omega);generalize QbC l m (nxD l a 4).2=r at *;generalize nxD l a 4=q at *;obtain⟨x,c⟩:=q;simp only at *;generalize QeI.getD x []=tx at *;generalize dg i=t1 at *;simp[he.h3,he.h5,h7,h8,hiv,QX];repeat (refine⟨by omega,?_⟩)
  refine Qc (g1 _) ?_;simp[he.h3,he.h5,h7,h8,QX];repeat (refine⟨by omega,?_⟩)
  refine Qc (g2 _ G.length (by simp; rfl)) ?_;simp[he.h3,he.h5,h7,h8,QX];repeat (refine⟨by omega,?_⟩)
  refine ih (P++[118,97,114,32,118]++t1++[32,61,32]++tx++[59,10]) _ _ (by simp; omega) ⟨?_,?_,?_,?_⟩ ?_ ?_ hk2;all_goals simp[he.h4,he.h6,QaJ (show i<9223372036854775807 by omega)]
theorem Qzv (hd:Dr H j l) (hl:l.length<4611686018427387904) {pl v n:Nat} (hp:1<=pl) (hp3:pl<=3) (hv1:1<=v) (hv:v<=3) (hn:n<=4) {N:Nat} {K:ZF} :
 ∀ (m i a:Nat) (P:ZE) (G:ZG) (env:Env),a<=l.length->i+m=n->P.length+1400*m<=1000000->R17 j pl v n env->env.get 7=st (B P)->env.get 9=i64 i ->
  (∀ env G,R17 j pl v n env->env.get 7=st (B (P++QdK i (QbJ l pl v n m i a).1))->K (.exit 2) env (mvD H j l (QbJ l pl v n m i a).2++G))->LI Tryz.prog N Qf Qku env (mvD H j l a++G) K:=by
 intro m
 induction m with
 |zero =>
  intro i a P G env ha hm' hP he h7 h8 hk;refine Qu hm Qku.eq_1 ?_;have:i=n:=by omega
  subst this;simp[he.h6,h8];refine hk _ _ ⟨?_,?_,?_,?_⟩ ?_;all_goals simp[he.h3,he.h4,he.h5,h7,QdK,QbJ]
 |succ m ih =>
  intro i a P G env ha hm9 hP he h7 h8 hk;refine Qu hm Qku.eq_1 ?_;have hiv:(i:Int)<n:=by omega
  have hiv':i<n:=by omega
  have g1:=λH=>Qeo (H:=H) (n:=i) (by omega);have ld:(dg i).length=1:=rfl;have g2:=Qb3 hd ha hl G 3 (by decide);have a1:=QW (n:=3) ha;have g3:=go40 hd a1 hl G hv1 hv hp hp3;have g4:=go41 hd a1 hl G hv1 hv hp hp3 hiv' hn;have sl:=Qrr (l:=l) (pl:=pl) (v:=v) (i:=i) (n:=n) (a:=a);have a2:=Qtg (pl:=pl) (v:=v) (i:=i) (n:=n) ha;have hk2:∀ env G,R17 j pl v n env->env.get 7=st (B ((P++[115]++dg i++[58,32]++stB (stC l pl v i n a).1)++QdK (i+1) (QbJ l pl v n m (i+1) (stC l pl v i n a).2).1))->K (.exit 2) env (mvD H j l (QbJ l pl v n m (i+1) (stC l pl v i n a).2).2++G):=by
   intro env G e1 e2;refine hk env G e1 ?_;rw[e2]; simp[QbJ,QdK,lbB]
  clear hk;have ih:=λP G env=>ih (i+1) (stC l pl v i n a).2 P G env a2 (by omega);generalize QbJ l pl v n m (i+1) (stC l pl v i n a).2=r at *;unfold stC at *;generalize Qej l pl v (nxD l a 3).2=q3 at *;generalize Qc8 l pl v i n (nxD l a 3).2=q4 at *;generalize nxD l a 3=q at *;obtain⟨x,c⟩:=q;obtain⟨y3,c3⟩:=q3;obtain⟨y4,c4⟩:=q4;simp only at *;generalize dg i=t1 at *;simp[he.h3,he.h4,he.h5,he.h6,h7,h8,hiv,QX];repeat (refine⟨by omega,?_⟩)
  refine Qc (g1 _) ?_;simp[he.h3,he.h4,he.h5,he.h6,h7,h8,QX];repeat (refine⟨by omega,?_⟩)
  refine Qc g2 ?_;rcases(by omega:x=0\/¬ x=0)with h1|h1
  . simp only[Zo h1]at *;simp[he.h3,he.h4,he.h5,he.h6,h7,h8,h1];refine Qc g3 ?_;generalize stB y3=ts at *;simp[he.h3,he.h4,he.h5,he.h6,h7,h8,QX];repeat (refine⟨by omega,?_⟩)
    refine ih (P++[115]++t1++[58,32]++ts) _ _ (by simp; omega) ⟨?_,?_,?_,?_⟩ ?_ ?_ hk2;all_goals simp[QaJ (show i<9223372036854775807 by omega)]
  . simp only[Zn h1]at *;simp[he.h3,he.h4,he.h5,he.h6,h7,h8,h1];refine Qc g4 ?_;generalize stB y4=ts at *;simp[he.h3,he.h4,he.h5,he.h6,h7,h8,QX];repeat (refine⟨by omega,?_⟩)
    refine ih (P++[115]++t1++[58,32]++ts) _ _ (by simp; omega) ⟨?_,?_,?_,?_⟩ ?_ ?_ hk2;all_goals simp[QaJ (show i<9223372036854775807 by omega)]
theorem QxG (hd:Dr H j l) (hl:l.length<4611686018427387904) {pl v:Nat} (hp3:pl<=3) (hv1:1<=v) (hv:v<=3) {G:ZG} {N:Nat} {K:ZF} :
 ∀ (m i a:Nat) (P:ZE) (env:Env),a<=l.length->i+m=pl->P.length+50*m<=1000000->env.get 3=rp j->env.get 4=i64 pl->env.get 5=i64 v->env.get 7=st (B P)->env.get 10=i64 i ->
  (∀ env,env.get 7=st (B (P++QdP (decide (0<i)) (Qca l v m a).1))->K (.exit 4) env (mvD H j l (Qca l v m a).2++G))->LI Tryz.prog N Qf Qki env (mvD H j l a++G) K:=by
 intro m
 induction m with
 |zero =>
  intro i a P env ha hm' hP h3 h4 h5 h7 h8 hk;refine Qu hm Qki.eq_1 ?_;have:i=pl:=by omega
  subst this;simp[h4,h8];refine hk _ ?_;simp[h7,QdP,Qca]
 |succ m ih =>
  intro i a P env ha hm9 hP h3 h4 h5 h7 h8 hk;refine Qu hm Qki.eq_1 ?_;have hiv:(i:Int)<pl:=by omega
  have hiv':i<pl:=by omega
  have g1:=go42 hd ha hl G hv1 hv;have a1:=QfA (v:=v) (n:=8) ha;have el:=QmO (gx l v 8 a).1;have hk2:∀ env,env.get 7=st (B ((P++(if 0<i then [44,32]else [])++exB (gx l v 8 a).1)++QdP (decide (0<i+1)) (Qca l v m (gx l v 8 a).2).1))->K (.exit 4) env (mvD H j l (Qca l v m (gx l v 8 a).2).2++G):=by
   intro env e2;refine hk env ?_;rw[e2]; simp[Qca,QdP]
  clear hk;have ih:=λP env=>ih (i+1) (gx l v 8 a).2 P env a1 (by omega);generalize Qca l v m (gx l v 8 a).2=r at *;generalize gx l v 8 a=q at *;obtain⟨x,c⟩:=q;simp only at *;generalize exB x=tx at *;rcases(by omega:0<i\/i=0)with h1|h1
  . simp only[Zo h1]at *;simp[h3,h4,h5,h7,h8,hiv,QX,h1];repeat (refine⟨by omega,?_⟩)
    refine Qc g1 ?_;simp[h3,h4,h5,h7,h8,QX];repeat (refine⟨by omega,?_⟩)
    refine ih (P++[44,32]++tx) _ (by simp; omega) ?_ ?_ ?_ ?_ ?_ hk2;all_goals simp[QaJ (show i<9223372036854775807 by omega)]
  . simp only[Zn (show ¬ 0<i by omega)]at *;subst h1;simp[h3,h4,h5,h7,h8,hiv'];repeat (refine⟨by omega,?_⟩)
    refine Qc g1 ?_;simp[h3,h4,h5,h7,h8,QX];repeat (refine⟨by omega,?_⟩)
    refine ih (P++[]++tx) _ (by simp; omega) ?_ ?_ ?_ ?_ ?_ hk2;all_goals simp[show IntKind.i64.wrap 1=1 from rfl]
end
theorem Qn0:∀ (cs:List Nat) (i:Nat),(Qdl i cs).length<=40*cs.length
 |[],_=>by simp[Qdl]
 |c::r,i=>by
  have h1:=QoD c;have h2:=Qn0 r (i+1);simp only[Qdl,dg,Vj,Vh,VH]; omega
theorem Qmj {l:List Int}:∀ {m a:Nat},(QbC l m a).1.length=m
 |0,_=>rfl
 |m+1,_=>Zp (· + 1) (Qmj (m:=m))
theorem Qna {l:List Int} {pl v n:Nat}:∀ {m i a:Nat},(QbJ l pl v n m i a).1.length=m
 |0,_,_=>rfl
 |m+1,_,_=>Zp (· + 1) (Qna (m:=m))
theorem QlI {l:List Int} {v:Nat}:∀ {m a:Nat},(Qca l v m a).1.length=m
 |0,_=>rfl
 |m+1,_=>Zp (· + 1) (QlI (m:=m))
theorem Qmb {l:List Int} {pl v n:Nat}:∀ (m i a:Nat),(QdK i (QbJ l pl v n m i a).1).length<=1400*m
 |0,_,_=>by simp[QdK,QbJ]
 |m+1,i,a=>by
  have h1:=Qrr (l:=l) (pl:=pl) (v:=v) (i:=i) (n:=n) (a:=a);have h2:=Qmb (l:=l) (pl:=pl) (v:=v) (n:=n) m (i+1) (stC l pl v i n a).2;simp only[QbJ,QdK,lbB,dg,Vj,Vh,VH]; omega
theorem QnW:∀ (cs:List GX) (b:Bool),(QdP b cs).length<=50*cs.length
 |[],_=>by simp[QdP]
 |c::r,b=>by
  have h1:=QmO c;have h2:=QnW r true
  cases b<;>simp only[QdP,Zs,Vw,Zu,Vj,Vh,VH]<;>omega
section
variable {H:ZG} {l:List Int}
theorem ok25 (hl:l.length<4611686018427387904):Ok Tryz.prog 25 [.slc (QM l) l.length] H (.ret (st (B (Qbi (Qa4 l))))) H:=by
 refine Qz hm Tryz.func25 c25 (by simp[QM]) λhcl => ?_;have hd:Dr (H++[drO l 0]) H.length l:=⟨0,by simp⟩;have e0:∀ b,H++[drO l b]=mvD (H++[drO l 0]) H.length l b:=λb=>by simp[mvD]
 have g1:=Qb3 hd (V3 _) hl [] 3 (by decide);have a1:=QW (n:=3) (V3 l.length);have b1:=Qad (l:=l) (a:=0) (n:=3) (by decide);have g2:=Qb3 hd a1 hl [] 3 (by decide);have a2:=QW (n:=3) a1;have b2:=Qad (l:=l) (a:=(nxD l 0 3).2) (n:=3) (by decide);have g3:=Qb3 hd a2 hl [] 4 (by decide);have a3:=QW (n:=4) a2;have b3:=Qad (l:=l) (a:=(nxD l (nxD l 0 3).2 3).2) (n:=4) (by decide);have g4:=Qb3 hd a3 hl [] 9 (by decide);have a4:=QW (n:=9) a3;have b4:=Qad (l:=l) (a:=(nxD l (nxD l (nxD l 0 3).2 3).2 4).2) (n:=9) (by decide);dsimp only[Qa4,Qbi];rw[Qna];generalize nxD l (nxD l (nxD l (nxD l 0 3).2 3).2 4).2 9=q4 at *;generalize nxD l (nxD l (nxD l 0 3).2 3).2 4=q3 at *;generalize nxD l (nxD l 0 3).2 3=q2 at *;generalize nxD l 0 3=q1 at *;obtain⟨x1,c1⟩:=q1;obtain⟨x2,c2⟩:=q2;obtain⟨x3,c3⟩:=q3;obtain⟨x4,c4⟩:=q4;simp only[VE]at *;have w1:IntKind.i64.wrap (1+(x1:Int))=((1+x1:Nat):Int):=by rw[Qah (by omega) (by omega)]; omega
 have w2:IntKind.i64.wrap (1+(x2:Int))=((1+x2:Nat):Int):=by rw[Qah (by omega) (by omega)]; omega
 have w3:IntKind.i64.wrap (1+(x3:Int))=((1+x3:Nat):Int):=by rw[Qah (by omega) (by omega)]; omega
 have k1:=λH=>Qeo (H:=H) (n:=x4) (by omega);have k2:=λH=>Qeo (H:=H) (n:=1+x1) (by omega);have k3:=λH=>Qeo (H:=H) (n:=1+x3) (by omega);have l1:(dg x4).length=1:=rfl;have l2:(dg (1+x1)).length=1:=rfl;have l3:(dg (1+x3)).length=1:=rfl;rw[<-e0]at g1;simp -implicitDefEqProofs[i25,r25];refine Qc g1 ?_;have hlen:(H++[drO l 0]).length=H.length+1:=by simp
 clear g1;generalize H++[drO l 0]=HH at *;simp -implicitDefEqProofs[w1];refine Qc g2 ?_;simp -implicitDefEqProofs[w2];refine Qc g3 ?_;simp -implicitDefEqProofs[w3];refine Qc g4 ?_;simp -implicitDefEqProofs;refine Qc (k1 _) ?_;simp -implicitDefEqProofs[QX,l1];refine Qc (k2 _) ?_;simp -implicitDefEqProofs[QX,l1,l2];clear k1 k2 g2 g3 g4;refine LI.cong (H':=mvD HH H.length l c4++[]) (by simp) ?_;have i1:=Qn0 (QbC l (1+x2) c4).1 0;rw[Qmj]at i1;have a5:=QrI (m:=1+x2) a4;refine Qvk hd hl (pl:=1+x1) (v:=1+x2) (n:=1+x3) (by omega) (1+x2) 0 c4 ([103,97,109,101,32,103]++dg x4++[59,10,112,108,97,121,101,114,115,32]++dg (1+x1)++[59,10]) [] _ a4 (by omega) (by simp[l1,l2]; omega) ⟨?_,?_,?_,?_⟩ ?_ ?_ λenv G he h7 => ?_
 . simp[rp]
 . simp
 . simp
 . simp
 . simp
 . simp
 generalize QbC l (1+x2) c4=qi at *;obtain⟨ci,c5⟩:=qi;simp only at *;simp -implicitDefEqProofs;have i2:=Qmb (l:=l) (pl:=1+x1) (v:=1+x2) (n:=1+x3) (1+x3) 0 c5;have i3:=Qna (l:=l) (pl:=1+x1) (v:=1+x2) (n:=1+x3) (m:=1+x3) (i:=0) (a:=c5);have a6:=Qtk (pl:=1+x1) (v:=1+x2) (n:=1+x3) (m:=1+x3) (i:=0) a5;refine Qzv hd hl (pl:=1+x1) (v:=1+x2) (n:=1+x3) (by omega) (by omega) (by omega) (by omega) (by omega) (1+x3) 0 c5 ([103,97,109,101,32,103]++dg x4++[59,10,112,108,97,121,101,114,115,32]++dg (1+x1)++[59,10]++Qdl 0 ci) G _ a5 (by omega) (by simp[l1,l2]; omega) ⟨?_,?_,?_,?_⟩ ?_ ?_ λenv G he h7 => ?_
 . simp[he.h3]
 . simp[he.h4]
 . simp[he.h5]
 . simp[he.h6]
 . simp[h7]
 . simp
 generalize QbJ l (1+x1) (1+x2) (1+x3) (1+x3) 0 c5=qs at *;obtain⟨ss,c6⟩:=qs;simp only at *;generalize QdK 0 ss=ts at *;generalize Qdl 0 ci=ti at *;have i4:=QnW (Qca l (1+x2) (1+x1) c6).1 false;rw[QlI]at i4;have lp:=λP env K=>QxG hd hl (pl:=1+x1) (v:=1+x2) (by omega) (by omega) (by omega) (G:=G) (N:=Tryz.f25.ntmps) (K:=K) (1+x1) 0 c6 P env a6 (by omega);generalize Qca l (1+x2) (1+x1) c6=qp at *;obtain⟨ps,c7⟩:=qp;simp only[show decide (0<0)=false from rfl]at *;generalize QdP false ps=tp at *;simp -implicitDefEqProofs[he.h6,h7,QX,l1,l2];repeat (refine⟨by omega,?_⟩)
 refine Qc (k3 _) ?_;generalize dg x4=t1 at *;generalize dg (1+x1)=t2 at *;generalize dg (1+x3)=t3 at *;simp -implicitDefEqProofs[QX,l1,l2];repeat (refine⟨by omega,?_⟩)
 refine lp ([103,97,109,101,32,103]++t1++[59,10,112,108,97,121,101,114,115,32]++t2++[59,10]++ti++ts++[115]++t3++[58,32,101,110,100,32,123,32,112,97,121,32]) _ _ (by simp; omega) ?_ ?_ ?_ ?_ ?_ λenv h72 => ?_
 . simp[he.h3]
 . simp[he.h4]
 . simp[he.h5]
 . simp
 . simp
 simp -implicitDefEqProofs[h72,QX];repeat (refine⟨by omega,?_⟩)
 rw[<-e0,VC];exact Qq 1 hcl rfl (by simp)
end
theorem QmP:∀ (ts:List Tok) (i:Nat),i+ts.length<=5000->QbY i (ts.map .tok)=(0,0)
 |[],_,_=>rfl
 |t::r,i,h=>by
  simp only[Vh]at h;rw[Vg,QbY,Zn (by omega)];exact QmP r (i+1) (by omega)
theorem Qih {ts:List Tok} {ks:List TK} (h:Qbp ts ks):ts.length=ks.length:=by
 induction h with
 |nil=>rfl
 |cons _ _ ih=>simp[ih]
theorem QBi {ps:List Pc} (hg:QdD ps) (h1:(txt ps).length<=20000) (h2:(tks ps).length<=5000):(Qi (txt ps)).2.1=0:=by
 obtain⟨ts,g1,g2,_⟩:=Qh2 ps hg [] (txt ps).length (Vb _) (.inl (.inl rfl));have g1:QB (txt ps)=ts.map .tok:=g1;have hf:=QmP ts 0 (by rw[Qih g2]; omega);unfold Qi;rw[Zn (by omega),g1,hf,Zo rfl]
theorem Qsd (g:GX):(tks (Qcn g)).length<=11:=by
 unfold Qcn;repeat' split
 all_goals simp[tks]
theorem QtY (g:GX):(tks (Qbf g)).length<=11:=by
 unfold Qbf;repeat' split
 all_goals simp[tks]
theorem QrW:∀ l:List (Nat×GX),(tks (l.flatMap Qbm)).length<=20*l.length
 |[]=>by simp[tks]
 |s::r=>by
  have h1:=QrW r;have h2:=Qsd s.2;rw[VV,QaG,Vj,Vh];simp[Qbm,tks,QaG]; omega
theorem Qu4 {k:Nat} {g:GA} (h:g.sets.length<=2):(tks (Qdz k g)).length<=80:=by
 have h1:(tks (QeO g.wh)).length<=12:=by
  cases g.wh with
  |none=>simp[QeO,tks]
  |some c=>have:=QtY c; simp[QeO,tks]; omega
 have h2:(tks (Qdq kwH g.hid)).length<=1:=by cases g.hid<;>decide
 have h3:=QrW g.sets;have h4:(tks (QcS g.go)).length<=3:=by cases g.go<;>simp[QcS,tks]
 simp[Qdz,tks,QaG,pnl]; omega
theorem QpV:∀ (l:List GA) (k:Nat),(∀ a∈l,a.sets.length<=2)->(tks (QcA k l)).length<=80*l.length
 |[],_,_=>by simp[QcA,tks]
 |g::r,k,h=>by
  have h1:=Qu4 (k:=k) (h g (by simp));have h2:=QpV r (k+1) λa ha=>h a (by simp[ha]);rw[QcA,QaG,Vj,Vh]; omega
theorem Qxx {pl v n i:Nat} {g:GS} (h:g.Wf pl v n i):(tks (QeZ g)).length<=300:=by
 cases g with
 |deal x r w s p =>
  have h1:(tks (Qcx w x)).length<=30:=by
   unfold Qcx wgX;repeat' split
   all_goals simp[tks]
  have h2:(tks (QbF s p)).length<=3:=by
   unfold QbF;repeat' split
   all_goals simp[tks]
  simp[QeZ,Qe2,tks,QaG,pnl]; omega
 |turn w p acts =>
  have h1:(tks (Qdp w p)).length<=20:=by
   cases w with
   |none=>simp[Qdp,tks]
   |some c=>have:=QtY c; simp[Qdp,tks,QaG]; omega
  have h2:=QpV acts 0 λa ha=>(h.2.2.2.2 a ha).len;have h3:=h.2.2.2.1;simp[QeZ,Qf2,tks,QaG,pnl]; omega
theorem Qru {pl v n:Nat}:∀ (l:List GS) (i:Nat),Qfi pl v n i l->(tks (QcH i l)).length<=310*l.length
 |[],_,_=>by simp[QcH,tks]
 |g::r,i,h=>by
  have h1:=Qxx h.1;have h2:=Qru r (i+1) h.2;simp only[QcH,QaG,Vj,Vh];simp[tks]; omega
theorem Qqz:∀ (l:List Nat) (i:Nat),(tks (QcG i l)).length<=10*l.length
 |[],_=>by simp[QcG,tks]
 |c::r,i=>by
  have h2:=Qqz r (i+1);have h1:(tks (QeG c)).length<=2:=by
   unfold QeG;repeat' split
   all_goals simp[tks]
  simp only[QcG,QaG,Vj,Vh];simp[tks,pnl]; omega
theorem Qou:∀ (l:List GX) (b:Bool),(tks (QaU b l)).length<=20*l.length
 |[],_=>by simp[QaU,tks]
 |g::r,b=>by
  have h1:=Qsd g;have h2:=Qou r true
  cases b<;>(simp[QaU,tks,QaG]; omega)
theorem Qks {g:GR} (h:g.Wf):(tks (QfL g)).length<=5000:=by
 have h1:=Qqz g.ini 0;have h2:=Qru g.stages 0 h.sts;have h3:=Qou g.pays false;have:=h.inl;have:=h.v3;have:=h.st4;have:=h.payl;have:=h.pl3;simp[QfL,tks,QaG,pnl]; omega
theorem Qtu (l:List Int):(Qbi (Qa4 l)).length<=6000:=by
 dsimp only[Qa4,Qbi];have b1:=Qad (l:=l) (a:=0) (n:=3) (by decide);have b2:=Qad (l:=l) (a:=(nxD l 0 3).2) (n:=3) (by decide);have b3:=Qad (l:=l) (a:=(nxD l (nxD l 0 3).2 3).2) (n:=4) (by decide);generalize nxD l (nxD l (nxD l 0 3).2 3).2 4=q3 at *;generalize nxD l (nxD l 0 3).2 3=q2 at *;generalize nxD l 0 3=q1 at *;have i1:=Qn0 (QbC l (1+q2.1) (nxD l q3.2 9).2).1 0;rw[Qmj]at i1;have i2:=Qmb (l:=l) (pl:=1+q1.1) (v:=1+q2.1) (n:=1+q3.1) (1+q3.1) 0 (QbC l (1+q2.1) (nxD l q3.2 9).2).2;have i3:=QnW (Qca l (1+q2.1) (1+q1.1) (QbJ l (1+q1.1) (1+q2.1) (1+q3.1) (1+q3.1) 0 (QbC l (1+q2.1) (nxD l q3.2 9).2).2).2).1 false;rw[QlI]at i3;simp only[Vj,Vh,VH,dg];omega
theorem QCw (l:List Int):(Qbi (Qa4 l)).length<=20000:=Vi (Qtu l) (by decide)
theorem QpZ (l:List Int):(Qi (Qbi (Qa4 l))).2.1=0/\Qbp (Qi (Qbi (Qa4 l))).1 (tks (QfL (Qa4 l))):=by
 have h:=Qn2 l;rw[<-Qgh h];have h1:=QBi (Qjz h) (by rw[Qgh h]; exact QCw l) (Qks h);exact⟨h1,QnD (Qjz h) h1⟩
def QgR (s:Nat×GX):Qp:=⟨vN s.1,exE s.2,0⟩
def whL (w:Option GX):List Ex:=match w with
 |none=>[]
 |some c=>[cdE c]
def goN (w:Option Nat):ZE:=match w with
 |none=>[]
 |some t=>sN t
def QfJ (k:Nat) (g:GA):Qn:=⟨aN k,whL g.wh,g.hid,g.sets.map QgR,goN g.go,0⟩
def Qd2:Nat->List GA->List Qn
 |_,[]=>[]
 |k,g::r=>QfJ k g::Qd2 (k+1) r
def QhI (w:Option GX) (p:Nat):Ex:=match w with
 |none=>eIn p
 |some g=>eOp 20 [cdE g,eIn 0,eIn p]
def wgE (w x:Nat):List Ex :=
 if w=0 then [eOp 8 [eIn 1,eNm x]]else if w=1 then [eOp 20 [eOp 10 [eNm x,eIn 1],eIn 2,eIn 1]]
 else if w=2 then [eOp 8 [eOp 19 [eNm x,eIn 0],eOp 20 [eOp 10 [eNm x,eIn 2],eIn 0,eIn 1]]]else []
def Qf0 (i:Nat):GS->Qb
 |.deal x r w s p=>⟨1,sN i,vN x,loV r,hiV r,wgE w x,decide (s=0),if s=1 then [(p:Int)]else [],[],[],[],0⟩
 |.turn w p acts=>⟨2,sN i,[],0,0,[],false,[],[QhI w p],Qd2 0 acts,[],0⟩
def Qjp (n:Nat) (l:List GX):Qb:=⟨3,sN n,[],0,0,[],false,[],[],[],l.map exE,0⟩
def Qd1:Nat->List GS->List Qb
 |_,[]=>[]
 |i,g::r=>Qf0 i g::Qd1 (i+1) r
def QfK (c:Nat):Int:=if c=0 then 0 else if c=1 then 1 else if c=2 then -1 else 2
def QdN:Nat->List Nat->List Qm
 |_,[]=>[]
 |i,c::r=>⟨vN i,QfK c,0⟩::QdN (i+1) r
def QnV (g:GR):QC:=⟨gN g.nm,g.pl,QdN 0 g.ini,Qd1 0 g.stages++[Qjp g.stages.length g.pays]⟩
theorem res2 {a b:UInt8} (h:(Qa0.all λw=>decide (w.length≠2)||decide (w.headD 0≠a))=true):[a,b]∉Qa0:=by
 intro hm;have:=Vn.1 h _ hm;simp at this
theorem QmI (i:Nat):sN i∉Qa0:=res2 (by decide)
theorem QzF (i:Nat):gN i∉Qa0:=res2 (by decide)
theorem Qvt (k:Nat):aN k∉Qa0:=by
 intro hm;have h:∀ w∈Qa0,w.length≠1:=by decide
 exact h _ hm rfl
section
variable {c:Cx} {r:Rd} {L:List TK}
theorem Qg3 {l:List TK} {e:Ex} (h:Whole c 40 l e) (hs:Sta c 40 r (l++L)) (hL:Qfx L):Sta c 40 (orT c r).2 L/\(orT c r).1.er=e.er:=h r L hs hL
theorem Qu7 {s:Nat×GX} {acc:List Qp} (ha:acc.length<32) (h:Sta c 40 r (tks (Qbm s)++L)):Sta c 40 (QaK c (orT c) acc r).2 L/\(QaK c (orT c) acc r).1.er=(QgR s).er:=by
 have h:Sta c 40 r (.wd (vN s.1)::.sg [61]::(tks (Qcn s.2)++.sg [59]::L)):=by
  unfold Qbm at h; simpa[tks,QaG]using h
 unfold QaK;simp only;rw[Zn (by omega)];obtain⟨g1,g2⟩:=h.word (Qhz s.1);rw[g1];obtain⟨g4,g5⟩:=Qg3 (Qok s.2) (g2.t2 (s:=[61]) rfl) (QcO (s:=[59]) (by decide) (.inl rfl) L);refine⟨g4.t2 rfl,?_⟩;unfold Qp.er;simp only[g5,QgR]
theorem QpI:∀ (ss:List (Nat×GX)) (n:Nat) (acc:List Qp) (r:Rd),ss.length<n->acc.length+ss.length<32->Sta c 40 r (tks (ss.flatMap Qbm)++.sg [125]::L) ->
 Sta c 40 (QaS c (orT c) n acc r).2 (.sg [125]::L)/\∃ l,(QaS c (orT c) n acc r).1=acc++l/\l.map Qp.er=(ss.map QgR).map Qp.er
 |[],n,acc,r,hn,ha,h=>by
  have h:Sta c 40 r (.sg [125]::L):=h
  cases n with
  |zero=>simp at hn
  |succ n =>
   rw[QaS,Zn (by rintro⟨_,h2⟩; rw[h.peek]at h2; cases h2)]
   exact⟨h,[],by simp,rfl⟩
 |s::ss,n,acc,r,hn,ha,h=>by
  have h:Sta c 40 r (tks (Qbm s)++(tks (ss.flatMap Qbm)++.sg [125]::L)):=by
   rw[VV,QaG,VC]at h; exact h
  simp only[Vh]at hn ha
  cases n with
  |zero=>omega
  |succ n =>
   have hp:Qd c [125] r=false:=by rw[h.peek]; rfl
   rw[QaS,Zo ⟨h.e,hp⟩];obtain⟨g1,g2⟩:=Qu7 (acc:=acc) (by omega) h;obtain⟨g3,l,g4,g5⟩:=QpI ss n (acc++[(QaK c (orT c) acc r).1]) _ (by omega) (by simp; omega) g1;refine⟨g3,(QaK c (orT c) acc r).1::l,by rw[g4]; simp,?_⟩;simp only[Vg,g2,g5]
theorem Qwe {w:ZE} {b:Bool} (hL:pk L w=false) (h:Sta c 40 r (tks (Qdq w b)++L)):Sta c 40 (QaR c w r).2 L/\(QaR c w r).1=b:=by
 unfold QaR
 cases b with
 |true =>
  have h:Sta c 40 r (.wd w::L):=h;rw[Zo (by rw[h.peek]; simp[pk])];exact⟨h.t2 (by simp[pk]),rfl⟩
 |false =>
  have h:Sta c 40 r L:=h;rw[Zn (by rw[h.peek,hL]; decide)];exact⟨h,rfl⟩
theorem QBI {w:Option Nat} (hL:pk L QiX=false) (h:Sta c 40 r (tks (QcS w)++L)):Sta c 40 (Qbj c r).2 L/\(Qbj c r).1=goN w:=by
 unfold Qbj
 cases w with
 |none =>
  have h:Sta c 40 r L:=h;rw[Zn (by rw[h.peek]; exact λh=>by rw[show pk L [103,111,116,111]=false from hL]at h; cases h)]
  exact⟨h,rfl⟩
 |some t =>
  have h:Sta c 40 r (.wd QiX::.wd (sN t)::.sg [59]::L):=h;rw[Zo (by rw[h.peek]; rfl)];obtain⟨h2,h3⟩:=(h.t2 (s:=[103,111,116,111]) rfl).word (QmI t);rw[h2];exact⟨h3.t2 rfl,rfl⟩
theorem QtP {k:Nat} {g:GA} (hl:g.sets.length<=2) (hL:pk L QiX=false) (h:Sta c 40 r (tks (Qdz k g)++L)):Sta c 40 (QQ c (orT c) r).2 L/\(QQ c (orT c) r).1.er=(QfJ k g).er:=by
 have h:Sta c 40 r (.wd Qir::.wd (aN k)::(tks (QeO g.wh)++(tks (Qdq kwH g.hid)++.sg [123]::(tks (g.sets.flatMap Qbm)++.sg [125]::(tks (QcS g.go)++L))))):=by
  unfold Qdz at h; simpa[tks,QaG,pnl]using h
 unfold QQ;simp only;have g1:=(h.take (s:=[97,99,116,105,111,110]) rfl).2;obtain⟨g2,g3⟩:=g1.word (Qvt k);rw[g2];simp only;generalize Qa (Qh c [97,99,116,105,111,110] r).2=r1 at g3 ⊢;have hfl:∀ X:List TK,Qfx (tks (Qdq kwH g.hid)++.sg [123]::X)/\pk (tks (Qdq kwH g.hid)++.sg [123]::X) QhO=false:=by
  intro X
  cases g.hid with
  |true=>exact⟨QcO (s:=kwH) (by decide) (.inr rfl) _,rfl⟩
  |false=>exact⟨QcO (s:=[123]) (by decide) (.inl rfl) _,rfl⟩
 have k12:Sta c 40 (QaQ c (orT c) [119,104,101,110] r1).2 (tks (Qdq kwH g.hid)++.sg [123]::(tks (g.sets.flatMap Qbm)++.sg [125]::(tks (QcS g.go)++L)))/\Ex.erL (QaQ c (orT c) [119,104,101,110] r1).1=Ex.erL (whL g.wh):=by
  unfold QaQ
  cases hw:g.wh with
  |none =>
   rw[hw]at g3;have g3:Sta c 40 r1 (tks (Qdq kwH g.hid)++.sg [123]::(tks (g.sets.flatMap Qbm)++.sg [125]::(tks (QcS g.go)++L))):=g3;rw[Zn (by rw[g3.peek]; exact λh=>by rw[show pk _ [119,104,101,110]=false from(hfl _).2]at h; cases h)]
   exact⟨g3,rfl⟩
  |some w =>
   rw[hw]at g3;have g3:Sta c 40 r1 (.wd QhO::(tks (Qbf w)++(tks (Qdq kwH g.hid)++.sg [123]::(tks (g.sets.flatMap Qbm)++.sg [125]::(tks (QcS g.go)++L))))):=g3;rw[Zo (by rw[g3.peek]; rfl)];obtain⟨m1,m2⟩:=Qg3 (Qph w) (g3.t2 (s:=[119,104,101,110]) rfl) (hfl _).1;exact⟨m1,by simp only[Ex.erL,whL,m2]⟩
 obtain⟨k1,k2⟩:=k12;obtain⟨k3,k4⟩:=Qwe (w:=[104,105,100,100,101,110]) (b:=g.hid) rfl k1;have k5:=k3.t2 (s:=[123]) rfl;have hle:=k5.len;have hsl:g.sets.length<c.ts.length+1:=by
  rw[Vj]at hle;have:∀ ss:List (Nat×GX),ss.length<=(tks (ss.flatMap Qbm)).length:=by
   intro ss
   induction ss with
   |nil=>simp
   |cons s ss ih =>
    rw[VV,QaG,Vj];have:1<=(tks (Qbm s)).length:=by unfold Qbm; simp[tks]
    simp only[Vh]; omega
  have:=this g.sets;omega
 obtain⟨k6,l,k7,k8⟩:=QpI g.sets (c.ts.length+1) [] _ hsl (by simp; omega) k5;have k9:=k6.t2 (s:=[125]) rfl;obtain⟨m1,m2⟩:=QBI hL k9;refine⟨m1,?_⟩;unfold Qn.er;simp only[k2,k4,k7,VA,k8,m2,QfJ]
theorem QsG:∀ (ms:List GA) (k n:Nat) (acc:List Qn) (r:Rd),ms.length<=n->acc.length+ms.length<=10->(∀ a∈ms,a.sets.length<=2)->Sta c 40 r (tks (QcA k ms)++.sg [125]::L) ->
 Sta c 40 (Qak c (orT c) 0 n acc r).2 (.sg [125]::L)/\∃ l,(Qak c (orT c) 0 n acc r).1=acc++l/\l.map Qn.er=(Qd2 k ms).map Qn.er
 |[],k,n,acc,r,hn,ha,hs,h=>by
  have h:Sta c 40 r (.sg [125]::L):=h
  cases n with
  |zero=>exact⟨h,[],by simp[Qak],rfl⟩
  |succ n =>
   rw[Qak,Zn (by rw[h.peek]; exact λh=>by cases h)];exact⟨h,[],by simp,rfl⟩
 |m::ms,k,n,acc,r,hn,ha,hs,h=>by
  have h:Sta c 40 r (tks (Qdz k m)++(tks (QcA (k+1) ms)++.sg [125]::L)):=by
   rw[QcA,QaG,VC]at h; exact h
  simp only[Vh]at hn ha
  cases n with
  |zero=>omega
  |succ n =>
   rw[Qak,Zo (by rw[h.peek]; rfl)];simp only;rw[Zn (by omega)];obtain⟨g1,g2⟩:=QtP (hs m (by simp)) (by
    cases ms with
    |nil=>rfl
    |cons y ys=>rfl) h
   obtain⟨g3,l,g4,g5⟩:=QsG ms (k+1) n (acc++[(QQ c (orT c) r).1]) _ (by omega) (by simp; omega) (λa ha=>hs a (by simp[ha])) g1;exact⟨g3,(QQ c (orT c) r).1::l,by rw[g4]; simp,by simp only[Qd2,Vg,g2,g5]⟩
theorem Qta:∀ (ss:List GA) (k:Nat),ss.length<=(tks (QcA k ss)).length
 |[],_=>by simp
 |s::ss,k=>by
  have:=Qta ss (k+1);rw[QcA,QaG,Vj];have:1<=(tks (Qdz k s)).length:=by unfold Qdz; simp[tks]
  simp only[Vh]; omega
theorem Qvj {w:Option GX} {p:Nat}:Whole c 40 (tks (Qdp w p)) (QhI w p):=by
 cases w with
 |none=>exact Qft p
 |some g =>
  have h:=wh0 (c:=c) (Qhj (d:=39) (w:=wIf) (x:=tks (Qbf g)) (xs:=[[.nm 0],[.nm p]]) (show(wIf,(20:Int),2)∈QaN by decide) (Qph g) (.cons (Qft 0) (.cons (Qft p) .nil))) λ_=>rfl;have e:tks (Qdp (some g) p)=.wd wIf::.sg [40]::(tks (Qbf g)++cmm [[.nm 0],[.nm p]]++[.sg [41]]):=by simp[Qdp,tks,QaG,cmm]
  rw[e]; exact h
theorem QAY {i p:Nat} {w:Option GX} {acts:List GA} {y:Qb} (hy:y={ QdE with lb:=sN i }) (h1:1<=acts.length) (h3:acts.length<=3) (hs:∀ a∈acts,a.sets.length<=2) (h:Sta c 40 r (tks (Qf2 w p acts)++L)) :
 Sta c 40 (QdA c (orT c) y r).2 L/\(QdA c (orT c) y r).1.er=(Qf0 i (.turn w p acts)).er:=by
 obtain⟨a,rest,ha⟩:∃ a rest,acts=a::rest:=by
  cases acts with
  |nil=>simp at h1
  |cons a rest=>exact⟨a,rest,rfl⟩
 subst ha;simp only[Vh]at h3;have h:Sta c 40 r (.wd kwT::(tks (Qdp w p)++.sg [123]::(tks (Qdz 0 a)++(tks (QcA 1 rest)++.sg [125]::L)))):=by
  unfold Qf2 at h; simpa[tks,QaG,QcA,pnl]using h
 unfold QdA;simp only;have g1:=(h.take (s:=[116,117,114,110]) rfl).2;generalize Qh c [116,117,114,110] r=t at g1 ⊢;obtain⟨g2,g3⟩:=Qg3 Qvj g1 (QcO (s:=[123]) (by decide) (.inl rfl) _);have g4:=g2.t2 (s:=[123]) rfl;obtain⟨g5,g6⟩:=QtP (hs a (by simp)) (by
  cases rest with
  |nil=>rfl
  |cons y ys=>rfl) g4
 have hle:=g5.len;have hal:=Qta rest 1;rw[Vj]at hle;obtain⟨g7,l,g8,g9⟩:=QsG rest 1 c.ts.length [(QQ c (orT c) (t2 c [123] (orT c t.2).2)).1] _ (by omega) (by simp; omega) (λa ha=>hs a (by simp[ha])) g5;refine⟨g7.t2 rfl,?_⟩;unfold Qb.er;simp only[hy,QdE,Qf0,g8,Vr,VA,Vg,g6,g9,Ex.erL,g3,Qd2]
theorem QAW {w x:Nat} (hw:w<3):∃ e,wgE w x=[e]/\Whole c 40 (tks (wgX w x)) e:=by
 unfold wgE wgX;by_cases h0:w=0
 . rw[Zo h0,Zo h0];exact⟨_,rfl,QgI [43] 8 (la:=[.nm 1]) (rq1 Qc4) (rq1 (nm1 x)) (by decide) (by decide) λ_=>rfl⟩
 rw[Zn h0,Zn h0];have ifx:∀ (a b q:Nat),Red c 40 (lv c 40).fac (.wd wIf::.sg [40]::(([.wd (vN x)]++.sg [61,61]::[.nm q])++cmm [[.nm a],[.nm b]]++[.sg [41]])) (eOp 20 [eOp 10 [eNm x,eIn q],eIn a,eIn b]) (λ_=>True):=λa b q =>
  Qhj (d:=39) (w:=wIf) (x:=[.wd (vN x)]++.sg [61,61]::[.nm q]) (xs:=[[.nm a],[.nm b]]) (show(wIf,(20:Int),2)∈QaN by decide) (Qm9 [61,61] 10 (nm1 _) Qc4 (by decide) (by decide) (by decide) λL=>Qdx _ _) (.cons (Qft a) (.cons (Qft b) .nil))
 by_cases h1:w=1
 . rw[Zo h1,Zo h1];exact⟨_,rfl,wh0 (ifx 2 1 1) λ_=>rfl⟩
 rw[Zn h1,Zn h1,Zo (by omega)];refine⟨_,rfl,?_⟩;exact QgI [43] 8 (la:=.wd Qf9::.sg [40]::([.wd (vN x)]++cmm [[.nm 0]]++[.sg [41]])) (rq1 (Qhj (op:=19) (d:=39) (show(Qf9,(19:Int),1)∈QaN by decide) (QhL _) (.cons (Qft 0) .nil))) (rq1 (ifx 0 1 2)) (by decide) (by decide) (λ_=>rfl)
theorem Qxc {i x q w s p:Nat} {y:Qb} (hs:s<3) (hy:y={ QdE with lb:=sN i }) (h:Sta c 40 r (tks (Qe2 x q w s p)++L)) :
 Sta c 40 (QdB c (orT c) y r).2 L/\(QdB c (orT c) y r).1.er=(Qf0 i (.deal x q w s p)).er:=by
 have h:Sta c 40 r (.wd kwD::.wd (vN x)::.wd kwI::.nm (loV q)::.sg [46,46]::.nm (hiV q)::(tks (Qcx w x)++(tks (QbF s p)++.sg [59]::L))):=by
  unfold Qe2 at h; simpa[tks,QaG,pnl]using h
 unfold QdB;simp only;have g1:=(h.take (s:=[100,101,97,108]) rfl).2;obtain⟨g2,g3⟩:=g1.word (Qhz x);rw[g2];simp only;generalize Qa (Qh c [100,101,97,108] r).2=r1 at g3 ⊢;have g4:=g3.t2 (s:=[105,110]) rfl;obtain⟨g5,g6⟩:=g4.numb;rw[g5];simp only;have g7:=g6.t2 (s:=[46,46]) rfl;obtain⟨g8,g9⟩:=g7.numb;rw[g8];simp only;generalize Qa (t2 c [46,46] (Qa (t2 c [105,110] r1)))=r2 at g9 ⊢;have hst:∀ X,Qfx (tks (QbF s p)++.sg [59]::X)/\pk (tks (QbF s p)++.sg [59]::X) kwW=false:=by
  intro X;unfold QbF;by_cases h0:s=0
  . rw[Zo h0]; exact⟨QcO (s:=kwS) (by decide) (.inr rfl) _,rfl⟩
  rw[Zn h0];by_cases h1:s=1
  . rw[Zo h1]; exact⟨QcO (s:=kwS) (by decide) (.inr rfl) _,rfl⟩
  rw[Zn h1];exact⟨QcO (s:=[59]) (by decide) (.inl rfl) _,rfl⟩
 have k12:Sta c 40 (QaQ c (orT c) [119,101,105,103,104,116] r2).2 (tks (QbF s p)++.sg [59]::L)/\Ex.erL (QaQ c (orT c) [119,101,105,103,104,116] r2).1=Ex.erL (wgE w x):=by
  unfold QaQ;by_cases hw:w<3
  . obtain⟨e,he,hwh⟩:=QAW (c:=c) (x:=x) hw;have g9:Sta c 40 r2 (.wd kwW::(tks (wgX w x)++(tks (QbF s p)++.sg [59]::L))):=by
     unfold Qcx at g9; rw[Zo hw]at g9; exact g9
    rw[Zo (by rw[g9.peek]; rfl)];obtain⟨m1,m2⟩:=Qg3 hwh (g9.t2 (s:=[119,101,105,103,104,116]) rfl) (hst _).1;exact⟨m1,by simp only[Ex.erL,he,m2]⟩
  . have g9:Sta c 40 r2 (tks (QbF s p)++.sg [59]::L):=by
     unfold Qcx at g9; rw[Zn hw]at g9; exact g9
    have e:wgE w x=[]:=by unfold wgE; rw[Zn (by omega),Zn (by omega),Zn (by omega)]
    rw[Zn (by rw[g9.peek]; exact λh=>by rw[show pk _ [119,101,105,103,104,116]=false from(hst _).2]at h; cases h),e]
    exact⟨g9,rfl⟩
 obtain⟨k1,k2⟩:=k12;generalize QaQ c (orT c) [119,101,105,103,104,116] r2=o at k1 k2 ⊢;have k34:Sta c 40 (QaI c o.2).2 (.sg [59]::L)/\(QaI c o.2).1=(decide (s=0),if s=1 then [(p:Int)]else []):=by
  unfold QaI;by_cases h0:s=0
  . subst h0;have h:Sta c 40 o.2 (.wd kwS::.wd kwB::.wd kwA::.sg [59]::L):=k1;have h2:=(h.t2 (s:=[115,101,101,110]) rfl).t2 (s:=[98,121]) rfl;rw[Zo (by rw[h.peek]; rfl)];simp only;rw[Zo (by rw[h2.peek]; rfl)];exact⟨h2.t2 rfl,rfl⟩
  by_cases h1:s=1
  . subst h1;have h:Sta c 40 o.2 (.wd kwS::.wd kwB::.nm p::.sg [59]::L):=k1;have h2:=(h.t2 (s:=[115,101,101,110]) rfl).t2 (s:=[98,121]) rfl;rw[Zo (by rw[h.peek]; rfl)];simp only;rw[Zn (by rw[h2.peek]; exact λh=>by cases h)];obtain⟨g1,g2⟩:=h2.numb;rw[g1];simp only;have hpos:0<c.ts.length:=by have:=g2.len; simp at this; omega
    obtain⟨n,hn⟩:∃ n,c.ts.length=n+1:=⟨c.ts.length-1,by omega⟩;rw[hn,QaE,Zn (by rw[g2.peek]; exact λh=>by cases h)];exact⟨g2,rfl⟩
  have h2:s=2:=by omega
  subst h2;have h:Sta c 40 o.2 (.sg [59]::L):=k1;rw[Zn (by rw[h.peek]; exact λh=>by cases h)];exact⟨h,rfl⟩
 obtain⟨k3,k4⟩:=k34;refine⟨k3.t2 rfl,?_⟩;unfold Qb.er;simp only[hy,QdE,k2,k4,Qf0]
theorem QqK {i:Nat} (h:Sta c 40 r (.wd (sN i)::.sg [58]::L)):(QaB c r).1=sN i/\Sta c 40 (QaB c r).2 L:=by
 unfold QaB;have hr:=QmI i;rw[Zo (by rw[h.free]; simp[Qem,hr])];obtain⟨g1,g2⟩:=h.word hr;rw[g1];exact⟨rfl,g2.t2 rfl⟩
theorem QvC {pl v n i:Nat} {g:GS} (hg:g.Wf pl v n i) (h:Sta c 40 r (.wd (sN i)::.sg [58]::(tks (QeZ g)++L))):Sta c 40 (Q8 c (orT c) r).2 L/\(Q8 c (orT c) r).1.er=(Qf0 i g).er:=by
 obtain⟨l1,l2⟩:=QqK h;unfold Q8;simp only;rw[l1]
 cases g with
 |deal x q w s p =>
  rw[Zo (by rw[l2.peek]; rfl)];exact Qxc hg.2.2.2.1 rfl l2
 |turn w p acts =>
  rw[Zn (by rw[l2.peek]; exact λh=>by cases h),Zo (by rw[l2.peek]; rfl)];exact QAY rfl hg.2.2.1 hg.2.2.2.1 (λa ha=>(hg.2.2.2.2 a ha).len) l2
theorem Qrh:∀ (ms:List GX) (n:Nat) (acc:List Ex) (r:Rd),ms.length<=n->acc.length+ms.length<32->Sta c 40 r (tks (QaU true ms)++.sg [59]::L) ->
 Sta c 40 (Qao c (orT c) n acc r).2 (.sg [59]::L)/\∃ l,(Qao c (orT c) n acc r).1=acc++l/\Ex.erL l=Ex.erL (ms.map exE)
 |[],n,acc,r,hn,ha,h=>by
  have h:Sta c 40 r (.sg [59]::L):=h
  cases n with
  |zero=>exact⟨h,[],by simp[Qao],rfl⟩
  |succ n =>
   rw[Qao,Zn (by rw[h.peek]; exact λh=>by cases h)];exact⟨h,[],by simp,rfl⟩
 |m::ms,n,acc,r,hn,ha,h=>by
  have h:Sta c 40 r (.sg [44]::(tks (Qcn m)++(tks (QaU true ms)++.sg [59]::L))):=by simpa[QaU,tks,QaG]using h
  simp only[Vh]at hn ha
  cases n with
  |zero=>omega
  |succ n =>
   rw[Qao,Zo (by rw[h.peek]; rfl)];simp only;rw[Zn (by omega)];obtain⟨g1,g2⟩:=Qg3 (Qok m) (h.t2 (s:=[44]) rfl) (by
    cases ms with
    |nil=>exact QcO (s:=[59]) (by decide) (.inl rfl) _
    |cons y ys=>exact QcO (s:=[44]) (by decide) (.inl rfl) _)
   obtain⟨g3,l,g4,g5⟩:=Qrh ms n (acc++[(orT c (t2 c [44] r)).1]) _ (by omega) (by simp; omega) g1;exact⟨g3,(orT c (t2 c [44] r)).1::l,by rw[g4]; simp,by simp only[Vg,Ex.erL,g2,g5]⟩
theorem Qos:∀ ms:List GX,ms.length<=(tks (QaU true ms)).length
 |[]=>by simp
 |m::ms=>by have:=Qos ms; simp[QaU,tks,QaG]; omega
theorem QwP {n:Nat} {ms:List GX} (h1:1<=ms.length) (h3:ms.length<=3) (h:Sta c 40 r (.wd (sN n)::.sg [58]::.wd kwE::.sg [123]::.wd kwP::(tks (QaU false ms)++.sg [59]::.sg [125]::L))) :
 Sta c 40 (Q8 c (orT c) r).2 L/\(Q8 c (orT c) r).1.er=(Qjp n ms).er:=by
 obtain⟨l1,l2⟩:=QqK h;obtain⟨m,rest,rfl⟩:∃ m rest,ms=m::rest:=by
  cases ms with
  |nil=>simp at h1
  |cons m rest=>exact⟨m,rest,rfl⟩
 simp only[Vh]at h3;unfold Q8;simp only;rw[l1,Zn (by rw[l2.peek]; exact λh=>by cases h),Zn (by rw[l2.peek]; exact λh=>by cases h)];have g1:=(l2.take (s:=[101,110,100]) rfl).2;have g2:=(g1.t2 (s:=[123]) rfl).t2 (s:=[112,97,121]) rfl;generalize t2 c [112,97,121] (t2 c [123] (Qh c [101,110,100] (QaB c r).2).2)=r1 at g2 ⊢;have g2:Sta c 40 r1 (tks (Qcn m)++(tks (QaU true rest)++.sg [59]::.sg [125]::L)):=by simpa[QaU,QaG]using g2
 unfold Qcr;obtain⟨g3,g4⟩:=Qg3 (Qok m) g2 (by
  cases rest with
  |nil=>exact QcO (s:=[59]) (by decide) (.inl rfl) _
  |cons y ys=>exact QcO (s:=[44]) (by decide) (.inl rfl) _)
 have hle:=g3.len;have hal:=Qos rest;rw[Vj]at hle;obtain⟨g5,l,g6,g7⟩:=Qrh rest c.ts.length [(orT c r1).1] _ (by omega) (by simp; omega) g3;refine⟨(g5.t2 (s:=[59]) rfl).t2 rfl,?_⟩;unfold Qb.er;simp only[QdE,Qjp,g6,Vr,VA,Vg,VF,Ex.erL,g4,g7]
end
section
variable {c:Cx} {r:Rd} {L:List TK}
theorem QAO {i k:Nat} (hk:k<4) {acc:List Qm} (ha:acc.length<40) (h:Sta c 40 r (.wd kwV::.wd (vN i)::.sg [61]::(tks (QeG k)++.sg [59]::L))) :
 Sta c 40 (Qbb c acc r).2 L/\(Qbb c acc r).1.er=⟨vN i,QfK k,0⟩:=by
 unfold Qbb;simp only;have h1:=h.t2 (s:=[118,97,114]) rfl;generalize t2 c [118,97,114] r=r0 at h1 ⊢;rw[Zn (by omega)];obtain⟨g1,g2⟩:=h1.word (Qhz i);rw[g1];simp only;have g3:=g2.t2 (s:=[61]) rfl;generalize t2 c [61] (Qa r0)=r1 at g3 ⊢;have pos:∀ n:Nat,n<=9->QeG k=[pnU n]->QfK k=n->Sta c 40 (t2 c [59] (nmR c (QaR c [45] r1).2).2) L/\Qm.er ⟨vN i,IntKind.i64.wrap ((if(QaR c [45] r1).1=true then -1 else 1)*(nmR c (QaR c [45] r1).2).1),Qk c r0⟩=⟨vN i,QfK k,0⟩:=by
  intro n hn e1 e2;have g3:Sta c 40 r1 (.nm n::.sg [59]::L):=by rw[e1]at g3; exact g3
  have e:QaR c [45] r1=(false,r1):=by unfold QaR; rw[Zn (by rw[g3.peek]; exact λh=>by cases h)]
  rw[e];obtain⟨g5,g6⟩:=g3.numb;rw[g5];refine⟨g6.t2 rfl,?_⟩;have w:IntKind.i64.wrap (1*(n:Int))=n:=by rw[Qah (by omega) (by omega)]; omega
  unfold Qm.er;simp only[Vw,Zu,w,e2]
 match k,hk with
 |0,_=>exact pos 0 (by decide) rfl rfl
 |1,_=>exact pos 1 (by decide) rfl rfl
 |3,_=>exact pos 2 (by decide) rfl rfl
 |2,_ =>
  have g3:Sta c 40 r1 (.sg [45]::.nm 1::.sg [59]::L):=g3;have g4:=g3.t2 (s:=[45]) rfl;have e:QaR c [45] r1=(true,t2 c [45] r1):=by unfold QaR; rw[Zo (by rw[g3.peek]; rfl)]
  rw[e];obtain⟨g5,g6⟩:=g4.numb;simp only;rw[g5];exact⟨g6.t2 rfl,rfl⟩
theorem Qq1:∀ (vs:List Nat) (i n:Nat) (acc:List Qm) (r:Rd),(∀ k∈vs,k<4)->vs.length<=n->acc.length+vs.length<40->pk L kwV=false->Sta c 40 r (tks (QcG i vs)++L) ->
 Sta c 40 (Qab c n acc r).2 L/\∃ l,(Qab c n acc r).1=acc++l/\l.map Qm.er=QdN i vs
 |[],i,n,acc,r,hv,hn,ha,hL,h=>by
  have h:Sta c 40 r L:=h
  cases n with
  |zero=>exact⟨h,[],by simp[Qab],rfl⟩
  |succ n =>
   rw[Qab,Zn (by rw[h.peek]; exact λh=>by rw[show pk L [118,97,114]=false from hL]at h; cases h)]
   exact⟨h,[],by simp,rfl⟩
 |v::vs,i,n,acc,r,hv,hn,ha,hL,h=>by
  have h:Sta c 40 r (.wd kwV::.wd (vN i)::.sg [61]::(tks (QeG v)++.sg [59]::(tks (QcG (i+1) vs)++L))):=by
   simpa[QcG,tks,QaG,pnl]using h
  simp only[Vh]at hn ha
  cases n with
  |zero=>omega
  |succ n =>
   rw[Qab,Zo (by rw[h.peek]; rfl)];obtain⟨g1,g2⟩:=QAO (acc:=acc) (hv v (by simp)) (by omega) h;obtain⟨g3,l,g4,g5⟩:=Qq1 vs (i+1) n (acc++[(Qbb c acc r).1]) _ (λk hk=>hv k (by simp[hk])) (by omega) (by simp; omega) hL g1;exact⟨g3,(Qbb c acc r).1::l,by rw[g4]; simp,by simp only[Vg,g2,g5,QdN]⟩
theorem Qrd {acc:List Qb} (h:acc.length<100):QaW c acc r=r:=by
 unfold QaW;rw[Zn (by omega)]
theorem QrB {pl v n:Nat} {ms:List GX} {N:Nat} (h1:1<=ms.length) (h3:ms.length<=3):∀ (ss:List GS) (i m:Nat) (acc:List Qb) (r:Rd),Qfi pl v n i ss->ss.length+1<m->acc.length+ss.length<50 ->
 Sta c 40 r (tks (QcH i ss)++(.wd (sN N)::.sg [58]::.wd kwE::.sg [123]::.wd kwP::(tks (QaU false ms)++.sg [59]::.sg [125]::[]))) ->
 (QL c (orT c) m acc r).2.e=0/\∃ l,(QL c (orT c) m acc r).1=acc++l/\l.map Qb.er=(Qd1 i ss++[Qjp N ms]).map Qb.er
 |[],i,m,acc,r,_,hm,ha,h=>by
  have h:Sta c 40 r (.wd (sN N)::.sg [58]::.wd kwE::.sg [123]::.wd kwP::(tks (QaU false ms)++.sg [59]::.sg [125]::[])):=h
  cases m with
  |zero=>simp at hm
  |succ m =>
   cases m with
   |zero=>simp at hm
   |succ m =>
    rw[QL,Zo ⟨h.e,.inr h.rem.lt.1⟩,Qrd (by simp at ha; omega)];obtain⟨g1,g2⟩:=QwP h1 h3 h;have:=g1.rem.end;rw[QL,Zn (by rintro⟨_,h2|h2⟩; simp at h2; omega)];exact⟨g1.e,[(Q8 c (orT c) r).1],rfl,by simp only[Vg,VF,Qd1,VA,g2]⟩
 |s::ss,i,m,acc,r,hw,hm,ha,h=>by
  have h:Sta c 40 r (.wd (sN i)::.sg [58]::(tks (QeZ s)++(tks (QcH (i+1) ss)++(.wd (sN N)::.sg [58]::.wd kwE::.sg [123]::.wd kwP::(tks (QaU false ms)++.sg [59]::.sg [125]::[]))))):=by
   simpa[QcH,tks,QaG]using h
  simp only[Vh]at hm ha
  cases m with
  |zero=>simp at hm
  |succ m =>
   rw[QL,Zo ⟨h.e,.inr h.rem.lt.1⟩,Qrd (by omega)];obtain⟨g1,g2⟩:=QvC hw.1 h;obtain⟨g3,l,g4,g5⟩:=QrB h1 h3 ss (i+1) m (acc++[(Q8 c (orT c) r).1]) _ hw.2 (by omega) (by simp; omega) g1;exact⟨g3,(Q8 c (orT c) r).1::l,by rw[g4]; simp,by simp only[Qd1,Vr,Vg,g2,g5]⟩
end
theorem Qra:∀ (ss:List GS) (i:Nat),ss.length<=(tks (QcH i ss)).length
 |[],_=>by simp
 |s::ss,i=>by have:=Qra ss (i+1); simp[QcH,tks,QaG]; omega
theorem QoJ:∀ (ss:List Nat) (i:Nat),ss.length<=(tks (QcG i ss)).length
 |[],_=>by simp
 |s::ss,i=>by have:=QoJ ss (i+1); simp[QcG,tks,QaG,pnl]; omega
theorem Qwh {ss:List GS} {i:Nat} {N:Nat} {X:List TK}:pk (tks (QcH i ss)++.wd (sN N)::X) kwV=false:=by
 have h:∀ (i:Nat) (Y:List TK),pk (.wd (sN i)::Y) kwV=false:=by
  intro i Y;have:sN i≠kwV:=λe=>QmI i (by rw[e]; decide);simp[pk,this]
 cases ss with
 |nil=>exact h N X
 |cons s ss=>exact h i _
theorem Qvr (l:List Int):(QG (Qbi (Qa4 l))).2.1=0/\(QG (Qbi (Qa4 l))).1.er=(QnV (Qa4 l)).er:=by
 have hw:=Qn2 l;obtain⟨hsc,hA⟩:=QpZ l;unfold QG;rw[Zn (λh=>h hsc)];generalize (Qi (Qbi (Qa4 l))).1=ts at *;generalize (Qbi (Qa4 l)).length=en at *;generalize Qa4 l=g at *;have hst:Sta ⟨ts,en⟩ 40 ⟨0,0,0,0⟩ (.wd kwG::.wd (gN g.nm)::.sg [59]::.wd QhV::.nm g.pl::.sg [59]::(tks (QcG 0 g.ini)++(tks (QcH 0 g.stages)++(.wd (sN g.stages.length)::.sg [58]::.wd kwE::.sg [123]::.wd kwP::(tks (QaU false g.pays)++.sg [59]::.sg [125]::[]))))):=by
  refine⟨rfl,?_,rfl,by decide⟩;unfold Rem;rw[Yx];unfold QfL at hA;simpa[tks,QaG,pnl]using hA
 unfold QbU;simp only;have g1:=hst.t2 (s:=[103,97,109,101]) rfl;obtain⟨g2,g3⟩:=g1.word (QzF g.nm);rw[g2];simp only;generalize Qa (t2 ⟨ts,en⟩ [103,97,109,101] ⟨0,0,0,0⟩)=r1 at g3 ⊢;have g4:=(g3.t2 (s:=[59]) rfl).t2 (s:=[112,108,97,121,101,114,115]) rfl;obtain⟨g5,g6⟩:=g4.numb;rw[g5];simp only;generalize Qa (t2 ⟨ts,en⟩ [112,108,97,121,101,114,115] (t2 ⟨ts,en⟩ [59] r1))=r2 at g6 ⊢;have g7:=g6.t2 (s:=[59]) rfl;have hle:=g7.len;have l1:=QoJ g.ini 0;have l2:=Qra g.stages 0;rw[Vj,Vj]at hle;simp only[Vh]at hle;have h1:=hw.inl;have h2:=hw.v3;have h3:=hw.st4;have h4:=hw.payl;have h5:=hw.pl1;have h6:=hw.pl3;obtain⟨k1,l,k2,k3⟩:=Qq1 g.ini 0 ts.length [] _ hw.ini (by omega) (by simp; omega) Qwh g7;obtain⟨k4,l2,k5,k6⟩:=QrB (by omega) (by omega) g.stages 0 (ts.length+1) [] _ hw.sts (by omega) (by simp; omega) k1;rw[Zn (λh=>h k4)];refine⟨rfl,?_⟩;have hvE:(QdN 0 g.ini).map Qm.er=QdN 0 g.ini:=by
  generalize 0=i;generalize g.ini=cs
  induction cs generalizing i with
  |nil=>rfl
  |cons a r ih=>simp only[QdN,Vg,ih]; rfl
 unfold QC.er;simp only[k2,k5,VA,k3,k6,QnV,hvE]
def Qj4:IC:=.keep [5,6,7,68,69,70]
 (.seq
  (.reg [
    ⟨(some 71),none,.p (.bin .lss (.i .i64) (.t 70) (.t 69))⟩])
  (.seq
   (.cond (.t 71)
    .skip
    (.exit 2))
   (.seq
    (.blk 3
     (.seq
      (.reg [
        ⟨(some 72),none,.p (.mov (.t 70))⟩,
        ⟨(some 73),none,.p (.ia 5 (.t 68) (.t 70))⟩,
        ⟨(some 74),none,.p (.ldn 5 (.t 73))⟩,
        ⟨(some 9),none,.e (.alc 25 [i64 0,i64 0,st ⟨#[]⟩,.val (.slice none 0 0),i64 0])⟩,
        ⟨(some 8),none,.p (.mov (.t 72))⟩,
        ⟨none,none,.e (.st 5 (.t 9) (.t 74))⟩])
      (.seq
       (.reg [
         ⟨(some 75),none,.p (.fa 1 (.t 7))⟩,
         ⟨(some 76),none,.p (.ld1 (.t 75))⟩,
         ⟨(some 77),none,.p (.mov (.t 8))⟩,
         ⟨(some 78),none,.p (.ia 5 (.t 76) (.t 77))⟩,
         ⟨(some 79),none,.p (.ldn 5 (.t 78))⟩,
         ⟨(some 10),none,.e (.alc 25 [i64 0,i64 0,st ⟨#[]⟩,.val (.slice none 0 0),i64 0])⟩,
         ⟨none,none,.e (.st 5 (.t 10) (.t 79))⟩])
       (.seq
        (.seq
         (.reg [
           ⟨(some 80),none,.p (.fa 0 (.t 9))⟩,
           ⟨(some 81),none,.p (.ld1 (.t 80))⟩,
           ⟨(some 82),none,.p (.fa 0 (.t 10))⟩,
           ⟨(some 83),none,.p (.ld1 (.t 82))⟩,
           ⟨(some 84),none,.p (.bin .neq (.i .i64) (.t 81) (.t 83))⟩,
           ⟨(some 85),none,.p (.mov (.t 84))⟩,
           ⟨(some 86),(some (85,false)),.p (.fa 1 (.t 9))⟩,
           ⟨(some 87),(some (85,false)),.p (.ld1 (.t 86))⟩,
           ⟨(some 88),(some (85,false)),.p (.fa 1 (.t 10))⟩,
           ⟨(some 89),(some (85,false)),.p (.ld1 (.t 88))⟩,
           ⟨(some 90),(some (85,false)),.p (.bin .neq (.i .i64) (.t 87) (.t 89))⟩,
           ⟨(some 91),none,.p (.pick (.t 85) (.c (bl true)) (.t 90))⟩,
           ⟨(some 92),none,.p (.mov (.t 91))⟩,
           ⟨(some 93),(some (92,false)),.p (.fa 2 (.t 9))⟩,
           ⟨(some 94),(some (92,false)),.p (.ld1 (.t 93))⟩,
           ⟨(some 95),(some (92,false)),.p (.fa 2 (.t 10))⟩,
           ⟨(some 96),(some (92,false)),.p (.ld1 (.t 95))⟩,
           ⟨(some 97),(some (92,false)),.p (.bin .neq .s (.t 94) (.t 96))⟩,
           ⟨(some 98),none,.p (.pick (.t 92) (.c (bl true)) (.t 97))⟩])
         (.cond (.t 98)
          (.seq
           (.reg [
             ⟨(some 4),none,.p (.mov (.c (bl false)))⟩])
           .ret)
          .skip))
        (.reg [
          ⟨(some 99),none,.p (.mov (.t 5))⟩,
          ⟨(some 100),none,.p (.fa 3 (.t 9))⟩,
          ⟨(some 101),none,.p (.ld1 (.t 100))⟩,
          ⟨(some 102),none,.p (.fa 3 (.t 10))⟩,
          ⟨(some 103),none,.p (.ld1 (.t 102))⟩,
          ⟨(some 104),none,.p (.bld [.val (.slice none 0 0),.val (.slice none 0 0)] [(0,1,(.t 101)),(1,1,(.t 103))])⟩,
          ⟨(some 105),none,.e (.bsl 170 2 1 [.val (.slice none 0 0),.val (.slice none 0 0)] [(0,(.t 104))])⟩,
          ⟨(some 106),none,.e (.app 170 2 48 (.t 99) (.t 105))⟩,
          ⟨(some 5),none,.p (.mov (.t 106))⟩])))))
    (.reg [
      ⟨(some 107),none,.p (.bin .add (.i .i64) (.t 70) (.c (i64 1)))⟩,
      ⟨(some 70),none,.p (.mov (.t 107))⟩]))))
def r74:List RS:=[.t 4]
def Qc2:IC:=.keep [5,6]
 (.seq
  (.seq
   (.reg [
     ⟨(some 16),none,.p (.mov (.t 5))⟩,
     ⟨(some 17),none,.p (.len (.t 16))⟩,
     ⟨(some 18),none,.p (.bin .gtr (.i .i64) (.t 17) (.c (i64 0)))⟩])
   (.cond (.t 18)
    .skip
    (.exit 0)))
  (.blk 1
   (.seq
    (.reg [
      ⟨(some 19),none,.p (.mov (.t 5))⟩,
      ⟨(some 20),none,.p (.mov (.t 5))⟩,
      ⟨(some 21),none,.p (.len (.t 20))⟩,
      ⟨(some 22),none,.p (.bin .sub (.i .i64) (.t 21) (.c (i64 1)))⟩,
      ⟨(some 23),none,.p (.ia 2 (.t 19) (.t 22))⟩,
      ⟨(some 24),none,.p (.ldn 2 (.t 23))⟩,
      ⟨(some 7),none,.e (.alc 170 [.val (.slice none 0 0),.val (.slice none 0 0)])⟩,
      ⟨none,none,.e (.st 2 (.t 7) (.t 24))⟩])
    (.seq
     (.reg [
       ⟨(some 25),none,.p (.mov (.t 5))⟩,
       ⟨(some 26),none,.p (.mov (.t 5))⟩,
       ⟨(some 27),none,.p (.len (.t 26))⟩,
       ⟨(some 28),none,.p (.bin .sub (.i .i64) (.t 27) (.c (i64 1)))⟩,
       ⟨(some 29),none,.p (.sl 2 (.t 25) none (some (.t 28)))⟩,
       ⟨(some 5),none,.p (.mov (.t 29))⟩])
     (.seq
      (.seq
       (.reg [
         ⟨(some 30),none,.p (.fa 0 (.t 7))⟩,
         ⟨(some 31),none,.p (.ld1 (.t 30))⟩,
         ⟨(some 32),none,.p (.lnv (.t 31))⟩,
         ⟨(some 33),none,.p (.fa 1 (.t 7))⟩,
         ⟨(some 34),none,.p (.ld1 (.t 33))⟩,
         ⟨(some 35),none,.p (.lnv (.t 34))⟩,
         ⟨(some 36),none,.p (.bin .neq (.i .i64) (.t 32) (.t 35))⟩])
       (.cond (.t 36)
        (.seq
         (.reg [
           ⟨(some 4),none,.p (.mov (.c (bl false)))⟩])
         .ret)
        .skip))
      (.seq
       (.seq
        (.drw [0,1,2,3,4,5,6,7,8,9,10,11,12,13,14,15,16,17,18] [
          ⟨(some 37),none,.p (.fa 0 (.t 7))⟩,
          ⟨(some 38),none,.p (.ld1 (.t 37))⟩,
          ⟨(some 39),none,.p (.lnv (.t 38))⟩,
          ⟨(some 40),none,.p (.bin .eql (.i .i64) (.t 39) (.c (i64 0)))⟩,
          ⟨(some 41),none,.p (.mov (.t 40))⟩,
          ⟨(some 42),(some (41,false)),.p (.mov (.t 6))⟩,
          ⟨(some 43),(some (41,false)),.p (.fa 0 (.t 7))⟩,
          ⟨(some 44),(some (41,false)),.p (.ld1 (.t 43))⟩,
          ⟨(some 45),(some (41,false)),.p (.iav 5 (.t 44) (.c (i64 0)))⟩,
          ⟨(some 46),(some (41,false)),.p (.fa 1 (.t 7))⟩,
          ⟨(some 47),(some (41,false)),.p (.ld1 (.t 46))⟩,
          ⟨(some 48),(some (41,false)),.p (.iav 5 (.t 47) (.c (i64 0)))⟩,
          ⟨(some 49),(some (41,false)),.p (.bld [.val (.pointer none),.val (.pointer none)] [(0,1,(.t 45)),(1,1,(.t 48))])⟩,
          ⟨(some 50),(some (41,false)),.p (.lkp (.pp 164 25) false (i64 0) (.t 42) (.t 49))⟩,
          ⟨(some 51),(some (41,false)),.p (.fa 0 (.t 7))⟩,
          ⟨(some 52),(some (41,false)),.p (.ld1 (.t 51))⟩,
          ⟨(some 53),(some (41,false)),.p (.lnv (.t 52))⟩,
          ⟨(some 54),(some (41,false)),.p (.bin .geq (.i .i64) (.t 50) (.t 53))⟩,
          ⟨(some 55),none,.p (.pick (.t 41) (.c (bl true)) (.t 54))⟩])
        (.cond (.t 55)
         (.exit 1)
         .skip))
       (.seq
        (.drw [0,1,2,3,4,5,6,7,8,9,10,11] [
          ⟨(some 56),none,.p (.mov (.t 6))⟩,
          ⟨(some 57),none,.p (.fa 0 (.t 7))⟩,
          ⟨(some 58),none,.p (.ld1 (.t 57))⟩,
          ⟨(some 59),none,.p (.iav 5 (.t 58) (.c (i64 0)))⟩,
          ⟨(some 60),none,.p (.fa 1 (.t 7))⟩,
          ⟨(some 61),none,.p (.ld1 (.t 60))⟩,
          ⟨(some 62),none,.p (.iav 5 (.t 61) (.c (i64 0)))⟩,
          ⟨(some 63),none,.p (.bld [.val (.pointer none),.val (.pointer none)] [(0,1,(.t 59)),(1,1,(.t 62))])⟩,
          ⟨(some 64),none,.p (.fa 0 (.t 7))⟩,
          ⟨(some 65),none,.p (.ld1 (.t 64))⟩,
          ⟨(some 66),none,.p (.lnv (.t 65))⟩,
          ⟨none,none,.e (.mup (.pp 164 25) (.t 56) (.t 63) (.t 66))⟩])
        (.seq
         (.reg [
           ⟨(some 67),none,.p (.fa 0 (.t 7))⟩,
           ⟨(some 68),none,.p (.ld1 (.t 67))⟩,
           ⟨(some 69),none,.p (.lnv (.t 68))⟩,
           ⟨(some 70),none,.p (.mov (.c (i64 0)))⟩])
         (.blk 2
          (.loop Qj4))))))))))
def i74m:IC :=
 (.seq
  (.reg [
    ⟨(some 4),none,.p (.mov (.c (bl false)))⟩])
  (.seq
   (.reg [
     ⟨(some 11),none,.p (.mov (.t 0))⟩,
     ⟨(some 12),none,.p (.mov (.t 1))⟩,
     ⟨(some 13),none,.p (.bld [.val (.slice none 0 0),.val (.slice none 0 0)] [(0,1,(.t 11)),(1,1,(.t 12))])⟩,
     ⟨(some 14),none,.e (.bsl 170 2 1 [.val (.slice none 0 0),.val (.slice none 0 0)] [(0,(.t 13))])⟩,
     ⟨(some 5),none,.p (.mov (.t 14))⟩])
   (.seq
    (.reg [
      ⟨(some 15),none,.e (.mkm 172)⟩,
      ⟨(some 6),none,.p (.mov (.t 15))⟩])
    (.seq
     (.blk 0
      (.loop Qc2))
     (.seq
      (.reg [
        ⟨(some 4),none,.p (.mov (.c (bl true)))⟩])
      .ret)))))
theorem c74m:QdG Tryz.prog Qf Tryz.f74 i74m r74=true:=by kernel_rfl
theorem QkJ:∀ l:List Ex,Ex.erL l=l.map Ex.er
 |[]=>rfl
 |e::r=>by rw[Ex.erL,QkJ r,Vg]
theorem Qc1 {a b:List Ex} (h:Ex.erL a=Ex.erL b):a.length=b.length:=by
 have:=Zp List.length h;simpa[QkJ]using this
theorem QsP {a b:List Ex} (h:Ex.erL a=Ex.erL b) {i:Nat} (h1:i<a.length) (h2:i<b.length):(a[i]).er=(b[i]).er:=by
 rw[QkJ,QkJ]at h;have:=Zp (λl=>l[i]?) h;simpa[h1,h2]using this
theorem Qzq:∀ {x y:Ex},x.er=y.er->Ex.erL x.lsE=Ex.erL y.lsE
 |.mk _ _ _ _ _,.mk _ _ _ _ _,h=>by simp only[Ex.er,Ex.mk.injEq]at h; exact h.2.2.2.1
def Qbo (a b:List Ex):List (List Ex×List Ex):=List.zipWith (λx y=>(x.lsE,y.lsE)) a b
def exP (td:List (List Ex×List Ex)):ZH:=td.flatMap λp=>[exS p.1,exS p.2]
theorem QiU:∀ td:List (List Ex×List Ex),(exP td).length=td.length*2
 |[]=>rfl
 |p::r=>by
  have:=QiU r;simp only[exP,VV,Vj,Vh,VH]at *;omega
theorem QpQ (a b:List (List Ex×List Ex)):exP (a++b)=exP a++exP b:=by simp[exP]
theorem Qo8 (p:List Ex×List Ex):exP [p]=[exS p.1,exS p.2]:=by simp[exP]
def QcC (td:List (List Ex×List Ex)):Nat:=(td.map λp=>Qau p.1).sum
theorem Qno (a b:List (List Ex×List Ex)):QcC (a++b)=QcC a+QcC b:=by simp[QcC]
theorem Qo1:∀ td:List (List Ex×List Ex),td.length<=QcC td
 |[]=>Vb _
 |l::r=>by
  have h1:=Qhv l.1;have h2:=Qo1 r;simp only[QcC,Vg,VO,Vh]at h2 ⊢;omega
theorem Qlb {a b:List Ex} (h:a.length=b.length):(Qbo a b).length=a.length:=by simp[Qbo,h]
theorem Qm1 {a b:List Ex} {i:Nat} (h1:i<a.length) (h2:i<b.length) (h:i<(Qbo a b).length):(Qbo a b)[i]=((a[i]).lsE,(b[i]).lsE):=by simp[Qbo]
theorem Qor:∀ {a b:List Ex},a.length=b.length->Qau a=1+QcC (Qbo a b)
 |[],[],_=>rfl
 |x::a,y::b,h=>by
  have:=Qor (a:=a) (b:=b) (by simpa using h);obtain⟨o,n,s,l,p⟩:=x;rw[Qau,this,Qcz];simp only[Qbo,QcC,List.zipWith_cons_cons,Vg,VO,Ex.lsE];omega
theorem QB2 {a b:List Ex} (h:Ex.erL a=Ex.erL b):∀ p∈Qbo a b,Ex.erL p.1=Ex.erL p.2:=by
 intro p hp;obtain⟨i,hi,rfl⟩:=Y3 hp;have hl:=Qc1 h;have hi':i<a.length:=by rw[<-Qlb hl]; exact hi
 rw[Qm1 hi' (by omega) hi];exact Qzq (QsP h hi' (by omega))
abbrev T2 (td:List (List Ex×List Ex)) (kp:ZI) (vp:ZH) (vt:Nat) (G:ZG):ZG:=⟨exP td,170,vt,true⟩::⟨.mk kp::vp,172,0,false⟩::G
structure SE (n:Nat) (td:List (List Ex×List Ex)) (vt:Nat) (env:Env):Prop where
 s5:env.get 5=.own n 0 td.length 2 vt
 s6:env.get 6=.mp (n+1) 0
theorem mo2 (H:ZG) (a:AO) (ks:ZI) (vs:ZH) (T:ZK) (G:ZG):SV.mapOf (H++a::⟨.mk ks::vs,T,0,false⟩::G) (.mp (H.length+1) 0)=some (ks,vs):=by
 simp[SV.mapOf]
section
variable [Qv] {H:ZG} {kp:ZI} {vp:ZH} {N:Nat} {K:ZF}
theorem Qwc {vt:Nat} {G:ZG} {env:Env} (he:SE H.length [] vt env) (h:∀ env G,K (.exit 0) env (H++G)) :
 LI Tryz.prog N Qf Qc2 env (H++T2 [] kp vp vt G) K:=by
 obtain⟨h5,h6⟩:=he;refine Qu hm Qc2.eq_1 ?_;simp -implicitDefEqProofs[h5,h6];exact h _ _
theorem QtD (A:ZH) (x y z:SV) {n:Nat} (h:A.length=n):(A++[x,y]).set n z=A++[z,y]:=by
 rw[Yf _ _ (by omega),h]; simp
theorem QpK (A:ZH) (x y z:SV) {n:Nat} (h:A.length=n):(A++[x,y]).set (n+1) z=A++[x,z]:=by
 rw[Yf _ _ (by omega),h]; simp
theorem QAd {rest:List (List Ex×List Ex)} {vt:Nat} {G:ZG} {env:Env} (hr:rest.length<2000000000) (he:SE H.length (rest++[([],[])]) vt env)
 (h:∀ G env,SE H.length rest vt env->LI Tryz.prog N Qf Qc2 env (H++T2 rest kp vp vt G) K) :
 LI Tryz.prog N Qf Qc2 env (H++T2 (rest++[([],[])]) kp vp vt G) K:=by
 obtain⟨h5,h6⟩:=he;have hl:(rest++[(([],[]):List Ex×List Ex)]).length=rest.length+1:=by simp
 rw[hl]at h5;have hlen:=QiU rest;have hcell:exP (rest++[([],[])])=exP rest++[SV.slc [] 0,SV.slc [] 0]:=by rw[QpQ,Qo8]; rfl
 rw[show T2 (rest++[([],[])]) kp vp vt G=⟨exP rest++[SV.slc [] 0,SV.slc [] 0],170,vt,true⟩::⟨.mk kp::vp,172,0,false⟩::G by rw[T2,hcell]];refine LI.learn0 H.length (rest.length*2) (o:=⟨exP rest++[SV.slc [] 0,SV.slc [] 0],170,vt,true⟩) (cells:=[]) (len:=0) (by simp) rfl (by simp[hlen]) λoa cap => ?_;refine LI.cong (H':=H++⟨exP rest++[SV.val (.slice oa 0 cap),SV.slc [] 0],170,vt,true⟩::⟨.mk kp::vp,172,0,false⟩::G) (by rw[<-QtD (exP rest) (SV.slc [] 0) (SV.slc [] 0) (SV.val (.slice oa 0 cap)) hlen]; simp) ?_;refine LI.learn0 H.length (rest.length*2+1) (o:=⟨exP rest++[SV.val (.slice oa 0 cap),SV.slc [] 0],170,vt,true⟩) (cells:=[]) (len:=0) (by simp) rfl (by rw[Vl (by omega)]; simp[hlen]) λob cap' => ?_;refine LI.cong (H':=H++⟨exP rest++[SV.val (.slice oa 0 cap),SV.val (.slice ob 0 cap')],170,vt,true⟩::⟨.mk kp::vp,172,0,false⟩::G) (by rw[<-QpK (exP rest) (SV.val (.slice oa 0 cap)) (SV.slc [] 0) (SV.val (.slice ob 0 cap')) hlen]; simp) ?_;have htk:List.take (rest.length*2) (exP rest++[SV.val (.slice oa 0 cap),.val (.slice ob 0 cap')])=exP rest:=VN hlen;have hcc:(exP rest++[SV.val (.slice oa 0 cap),.val (.slice ob 0 cap')]).length=rest.length*2+2:=by simp[hlen]
 have hgd:(List.drop (rest.length*2) (exP rest++[SV.val (.slice oa 0 cap),.val (.slice ob 0 cap')]))=[.val (.slice oa 0 cap),.val (.slice ob 0 cap')]:=Y6 hlen;have w1:IntKind.i64.wrap (rest.length:Int)=(rest.length:Int):=Qfn (by omega);refine Qu hm Qc2.eq_1 ?_;generalize exP rest++[SV.val (.slice oa 0 cap),.val (.slice ob 0 cap')]=cc at *;simp -implicitDefEqProofs[h5,h6,w1,hgd];refine⟨by omega,⟨rfl,rfl⟩,LI.tell (Qaw.trunc (j:=H.length) (o:=⟨cc,170,vt,true⟩) (by simp) rfl (rest.length*2)) (LI.cong (H':=H++T2 rest kp vp vt (G++[⟨[SV.val (.slice oa 0 cap),SV.val (.slice ob 0 cap')],170,0,true⟩])) (by simp[htk]) (h _ _ ⟨by simp,by simp⟩))⟩
theorem Qvv {a b:List Ex} (hab:Ex.erL a=Ex.erL b) (hl3:a.length<=100) {rest:List (List Ex×List Ex)} (hr:rest.length+200<2000000000) {G1:ZG}
 (h:∀ vt G env,SE H.length (rest++Qbo a b) vt env->K (.exit 2) env (H++T2 (rest++Qbo a b) kp vp vt G)) :
 ∀ (m i vt:Nat) (G:ZG) (env:Env),i+m=a.length->SE H.length (rest++(Qbo a b).take i) vt env->env.get 7=rp (H.length+(G1.length+2))->env.get 68=exS a->env.get 69=i64 a.length->env.get 70=i64 i ->
  LI Tryz.prog N Qf Qj4 env (H++T2 (rest++(Qbo a b).take i) kp vp vt (G1++⟨[exS a,exS b],170,0,true⟩::G)) K:=by
 have hlab:=Qc1 hab;intro m
 induction m with
 |zero =>
  intro i vt G env hi he h7 h68 h69 h70;obtain⟨h5,h6⟩:=he;refine Qu hm Qj4.eq_1 ?_;have e:i=a.length:=by omega
  subst e;rw[VB (by rw[Qlb hlab]; exact Vb _)]at *;simp -implicitDefEqProofs[h5,h6,h7,h68,h69,h70];exact h vt _ _ ⟨by simp,by simp⟩
 |succ m ih =>
  intro i vt G env hi he h7 h68 h69 h70;obtain⟨h5,h6⟩:=he;refine Qu hm Qj4.eq_1 ?_;have hlt:i<a.length:=by omega
  have hltb:i<b.length:=by omega
  have hlt':(i:Int)<a.length:=by omega
  have hltb':(i:Int)<b.length:=by omega
  have hg:=Qe9 hlt;have hgb:=Qe9 hltb;have hcl':=Qfg a;have hclb':=Qfg b;have hoke:=QsP hab hlt hltb;have hki:i<(Qbo a b).length:=by rw[Qlb hlab]; exact hlt
  have htk:rest++(Qbo a b).take (i+1)=(rest++(Qbo a b).take i)++[((a[i]).lsE,(b[i]).lsE)]:=by
   rw[<-Y5 hki,Qm1 hlt hltb hki,VC]
  have ih:=ih (i+1);rw[htk]at ih;have hrl:(rest++(Qbo a b).take i).length<2000000000:=by simp; omega
  generalize rest++(Qbo a b).take i=td at *;generalize a[i]=x at *;generalize b[i]=y at *;obtain⟨op,n,nm,le,p⟩:=x;obtain⟨op',n',nm',le',p'⟩:=y;simp only[Ex.er,Ex.mk.injEq]at hoke;obtain⟨rfl,rfl,rfl,hle,_⟩:=hoke;have hex:=QiU td;simp -implicitDefEqProofs[h5,h6,h7,h68,h69,h70,exS,hlt',hltb',hg,hgb,hcl',hclb',Ex.c,rp,hex,Ye];refine⟨by omega,by omega,by omega,by omega,LI.cong ?_ (ih (vt+1) (G++[⟨[i64 op,i64 n,st (B nm),.slc (Ex.cL le) le.length,i64 p],25,0,true⟩,⟨[i64 op,i64 n,st (B nm),.slc (Ex.cL le') le'.length,i64 p'],25,0,true⟩,⟨[.slc (Ex.cL le) le.length,.slc (Ex.cL le') le'.length],170,0,true⟩]) _ (by omega) ⟨?_,?_⟩ ?_ ?_ ?_ ?_)⟩
  . simp[exP,Ex.lsE,exS]
  . simp
  . simp
  . simp[rp]
  . simp[exS]
  . simp
  . simp[QaJ (show i<9223372036854775807 by omega)]
theorem Qub {l m:List Ex} {rest:List (List Ex×List Ex)} {a b:Addr} {cap cap' vt:Nat} {G:ZG} {env:Env} (hk:(exS l,Value.slice (some a) l.length cap)∈Qv.kn) (hk':(exS m,Value.slice (some b) l.length cap')∈Qv.kn)
 (hlm:Ex.erL l=Ex.erL m) (hl0:l≠[]) (hl3:l.length<=100) (hr:rest.length+200<2000000000)
 (hkl:kp.length=vp.length) (hkn:∀ v∈kp,(KK.pp 164 25).knows v) (hvp:∀ x∈vp,∃ n,x=i64 n) (he:SE H.length (rest++[(l,m)]) vt env)
 (hskip:∀ G env,SE H.length rest vt env->LI Tryz.prog N Qf Qc2 env (H++T2 rest kp vp vt G) K)
 (h:∀ kp' vp' vt G env,kp'.length=vp'.length->(∀ v∈kp',(KK.pp 164 25).knows v)->(∀ x∈vp',∃ n,x=i64 n)->SE H.length (rest++Qbo l m) vt env->LI Tryz.prog N Qf Qc2 env (H++T2 (rest++Qbo l m) kp' vp' vt G) K) :
 LI Tryz.prog N Qf Qc2 env (H++⟨exP rest++[.val (.slice (some a) l.length cap),.val (.slice (some b) l.length cap')],170,vt,true⟩::⟨.mk kp::vp,172,0,false⟩::G) K:=by
 obtain⟨h5,h6⟩:=he;have hl:(rest++[(l,m)]).length=rest.length+1:=by simp
 rw[hl]at h5;have hlm':=Qc1 hlm;have hkn1:∀ {x:List Ex} {c:Addr} {cap:Nat},x≠[]->(exS x,Value.slice (some c) l.length cap)∈Qv.kn->x.length=l.length->Qdn (.pointer (some c)):=by
  intro x c cap hx hk hxl;rw[exS,hxl]at hk;refine⟨rfl,c,Ex.cL x,l.length,cap,rfl,hk,?_⟩
  cases x with
  |nil=>exact absurd rfl hx
  |cons x r =>
   obtain⟨op,n,nm,l,p⟩:=x;exact⟨B nm,by rw[Ex.cL,Ex.c]; exact Yu _ (.tail _ (.tail _ (.head _)))⟩
 have hm0:m≠[]:=by
  intro e; rw[e]at hlm'; simp at hlm'; exact hl0 hlm'
 have hknow:(KK.pp 164 25).knows (.agg #[.pointer (some a),.pointer (some b)]):=⟨_,_,rfl,hkn1 hl0 hk rfl,hkn1 hm0 hk' hlm'.symm⟩;have hkall:∀ v∈(Value.agg #[.pointer (some a),.pointer (some b)])::kp,(KK.pp 164 25).knows v:=by
  intro v hv;rcases Vd.1 hv with rfl|hv
  . exact hknow
  . exact hkn v hv
 have hkis:∀ v∈kp,(KK.pp 164 25).is v=true:=by
  intro v hv;obtain⟨x,y,rfl,⟨_,c,_,_,_,rfl,_⟩,⟨_,d,_,_,_,rfl,_⟩⟩:=hkn v hv;rfl
 have hl0':¬ (l.length:Int)=0:=by
  cases l with
  |nil=>exact absurd rfl hl0
  |cons x r=>simp; omega
 have hl00:¬ l.length=0:=by omega
 have hpos:0<l.length:=by omega
 have hlen:=QiU rest;have htk:List.take (rest.length*2) (exP rest++[SV.val (.slice (some a) l.length cap),.val (.slice (some b) l.length cap')])=exP rest:=VN hlen;have hcc:(exP rest++[SV.val (.slice (some a) l.length cap),.val (.slice (some b) l.length cap')]).length=rest.length*2+2:=by simp[hlen]
 have hgd:(List.drop (rest.length*2) (exP rest++[SV.val (.slice (some a) l.length cap),.val (.slice (some b) l.length cap')]))=[.val (.slice (some a) l.length cap),.val (.slice (some b) l.length cap')]:=Y6 hlen;have w1:IntKind.i64.wrap (rest.length:Int)=(rest.length:Int):=Qfn (by omega);refine Qu hm Qc2.eq_1 ?_;generalize exP rest++[SV.val (.slice (some a) l.length cap),.val (.slice (some b) l.length cap')]=cc at *;obtain⟨n,hn⟩:∃ n,(lkm (Value.agg #[.pointer (some a),.pointer (some b)]) kp vp).getD (i64 0)=i64 n:=by
  cases hlk:lkm (Value.agg #[.pointer (some a),.pointer (some b)]) kp vp with
  |none=>exact⟨0,rfl⟩
  |some x=>obtain⟨n,rfl⟩:=hvp x (Qm2 hlk); exact⟨n,rfl⟩
 have hal:((kp,vp):ZI×ZH).1.all (KK.pp 164 25).is=true:=Vn.2 hkis;have add0:∀ a:Addr,a.add 0=a:=λa=>Zo rfl;have hpt:QaY 1 (SV.val (Value.pointer (some a)))/\QaY 1 (SV.val (Value.pointer (some b))):=⟨⟨rfl,rfl,rfl⟩,rfl,rfl,rfl⟩;by_cases hmet:(l.length:Int)<=n
 . simp -implicitDefEqProofs[h5,h6,w1,hgd,hl00,hpos,mo2,Qly,add0,hn,hmet,SV.isK,SV.key,SV.isPP,SV.ppval,SV.isP,SV.pval];refine⟨by omega,⟨rfl,rfl⟩,hpt,⟨rfl,hkis,hknow,hkn⟩,LI.tell (Qaw.trunc (j:=H.length) (o:=⟨cc,170,vt,true⟩) (by simp) rfl (rest.length*2)) (LI.cong (H':=H++T2 rest kp vp vt (G++[⟨[SV.val (.slice (some a) l.length cap),SV.val (.slice (some b) l.length cap')],170,0,true⟩])) (by simp[htk]) (hskip _ _ ⟨by simp,by simp⟩))⟩
 . simp -implicitDefEqProofs[h5,h6,w1,hgd,hl00,hpos,mo2,Qly,add0,hn,hmet,SV.isK,SV.key,SV.isPP,SV.ppval,SV.isP,SV.pval];refine⟨by omega,⟨rfl,rfl⟩,hpt,⟨rfl,hkis,hknow,hkn⟩,hpt,?_⟩;refine QbX (x:=(kp,vp)) (mo2 ..) rfl rfl hal ?_ (by simpa[SV.key,SV.ppval,SV.pval]using hkall);simp -implicitDefEqProofs[SV.key,SV.ppval,SV.pval];have hk2:(SV.slc (Ex.cL m) l.length,Value.slice (some b) l.length cap')∈Qv.kn:=by rw[exS,<- hlm']at hk'; exact hk'
   refine LI.tell (Qaw.knownE (k:=68) (by simp) hk) ?_;refine LI.tell (Qaw.known (j:=H.length+(G.length+2)) (p:=0) (o:=⟨[SV.val (.slice (some a) l.length cap),SV.val (.slice (some b) l.length cap')],170,0,true⟩) (by simp) rfl rfl hk) ?_;refine LI.tell (Qaw.known (j:=H.length+(G.length+2)) (p:=1) (o:=⟨[SV.slc (Ex.cL l) l.length,SV.val (.slice (some b) l.length cap')],170,0,true⟩) (by simp) rfl rfl hk2) ?_;refine LI.tell (Qaw.trunc (j:=H.length) (o:=⟨cc,170,vt,true⟩) (by simp) rfl (rest.length*2)) ?_;generalize hks:Qac (Value.agg #[Value.pointer (some a),Value.pointer (some b)]) kp=kp';generalize hvs:Qaa (Value.agg #[Value.pointer (some a),Value.pointer (some b)]) (i64 l.length) kp vp=vp';have hkl':kp'.length=vp'.length:=by
    rw[<-hks,<- hvs]; exact QmC hkl
   have hkn':∀ v∈kp',(KK.pp 164 25).knows v:=λv hv=>by
    rw[<-hks]at hv;rcases QlN hv with hv|rfl
    . exact hkn v hv
    . exact hknow
   have hvp':∀ x∈vp',∃ n,x=i64 n:=λx hx=>by
    rw[<-hvs]at hx;rcases QmQ hx with hx|rfl
    . exact hvp x hx
    . exact⟨_,rfl⟩
   refine LI.cong (H':=H++T2 (rest++(Qbo l m).take 0) kp' vp' vt (G++⟨[exS l,exS m],170,0,true⟩::[])) (by simp[htk,exS,<- hlm']) ?_;refine Qvv hlm hl3 hr (λvt G env he => ?_) l.length 0 vt [] _ (by omega) ⟨?_,?_⟩ ?_ ?_ ?_ ?_
   . simp -implicitDefEqProofs;exact h _ _ vt G env hkl' hkn' hvp' he
   all_goals simp[exS,h6,rp]
theorem QB5 {l m:List Ex} {rest:List (List Ex×List Ex)} {vt:Nat} {G:ZG} {env:Env} (hlm:Ex.erL l=Ex.erL m) (hl0:l≠[]) (hl3:l.length<=100) (hr:rest.length+200<2000000000)
 (hkl:kp.length=vp.length) (hkn:∀ v∈kp,(KK.pp 164 25).knows v) (hvp:∀ x∈vp,∃ n,x=i64 n) (he:SE H.length (rest++[(l,m)]) vt env)
 (h:∀ (kn:Qv) td kp' vp' vt G env,(td=rest\/td=rest++Qbo l m)->kp'.length=vp'.length->(∀ v∈kp',@KK.knows _ kn (.pp 164 25) v)->(∀ x∈vp',∃ n,x=i64 n)->SE H.length td vt env -> @LI _ _ kn Tryz.prog N Qf Qc2 env (H++T2 td kp' vp' vt G) K) :
 LI Tryz.prog N Qf Qc2 env (H++T2 (rest++[(l,m)]) kp vp vt G) K:=by
 have hne:∀ {l:List Ex},l≠[]->Ex.cL l≠[]:=by
  intro l hl0
  cases l with
  |nil=>exact absurd rfl hl0
  |cons x r=>obtain⟨a,b,c,d,e⟩:=x; simp[Ex.cL,Ex.c]
 have hlm':=Qc1 hlm;have hm0:m≠[]:=by
  intro e; rw[e]at hlm'; simp at hlm'; exact hl0 hlm'
 have hlen:=QiU rest;have hcell:exP (rest++[(l,m)])=exP rest++[SV.slc (Ex.cL l) l.length,SV.slc (Ex.cL m) m.length]:=by rw[QpQ,Qo8]; rfl
 rw[show T2 (rest++[(l,m)]) kp vp vt G=⟨exP rest++[SV.slc (Ex.cL l) l.length,SV.slc (Ex.cL m) m.length],170,vt,true⟩::⟨.mk kp::vp,172,0,false⟩::G by rw[T2,hcell]];refine LI.learn H.length (rest.length*2) (o:=⟨exP rest++[SV.slc (Ex.cL l) l.length,SV.slc (Ex.cL m) m.length],170,vt,true⟩) (cells:=Ex.cL l) (len:=l.length) (by simp) rfl (by simp[hlen]) (hne hl0) (Ex.undL 0 l) λa cap => ?_;have mono:∀ (A B:Qv) (v:Value),(∀ q∈A.kn,q∈B.kn) -> @KK.knows _ A (.pp 164 25) v -> @KK.knows _ B (.pp 164 25) v:=by
  rintro A B v hq ⟨x,y,rfl,⟨hf,a,cells,len,cap,h1,h2,h3⟩,⟨hf',a',cells',len',cap',h1',h2',h3'⟩⟩;exact⟨x,y,rfl,⟨hf,a,cells,len,cap,h1,hq _ h2,h3⟩,⟨hf',a',cells',len',cap',h1',hq _ h2',h3'⟩⟩
 refine @LI.cong _ _ ⟨(.slc (Ex.cL l) l.length,.slice (some a) l.length cap)::Qv.kn⟩ _ _ _ _ _ _ (H++⟨exP rest++[SV.val (.slice (some a) l.length cap),SV.slc (Ex.cL m) m.length],170,vt,true⟩::⟨.mk kp::vp,172,0,false⟩::G) _ (by rw[<-QtD (exP rest) (SV.slc (Ex.cL l) l.length) (SV.slc (Ex.cL m) m.length) (SV.val (.slice (some a) l.length cap)) hlen]; simp) ?_;refine @LI.learn _ _ ⟨(.slc (Ex.cL l) l.length,.slice (some a) l.length cap)::Qv.kn⟩ _ _ _ _ _ _ _ H.length (rest.length*2+1) (⟨exP rest++[SV.val (.slice (some a) l.length cap),SV.slc (Ex.cL m) m.length],170,vt,true⟩) (Ex.cL m) m.length (by simp) rfl (by rw[Vl (by omega)]; simp[hlen]) (hne hm0) (Ex.undL 0 m) λb cap' => ?_;let G3:Qv:=⟨(.slc (Ex.cL m) m.length,.slice (some b) m.length cap')::(.slc (Ex.cL l) l.length,.slice (some a) l.length cap)::Qv.kn⟩
 refine @LI.cong _ _ G3 _ _ _ _ _ _ (H++⟨exP rest++[SV.val (.slice (some a) l.length cap),SV.val (.slice (some b) l.length cap')],170,vt,true⟩::⟨.mk kp::vp,172,0,false⟩::G) _ (by rw[hlm',<- QpK (exP rest) (SV.val (.slice (some a) m.length cap)) (SV.slc (Ex.cL m) m.length) (SV.val (.slice (some b) m.length cap')) hlen]; simp) ?_;have hkn':∀ v∈kp,@KK.knows _ G3 (.pp 164 25) v:=λv hv=>mono _ G3 v (λq hq=>VL _ (VL _ hq)) (hkn v hv);exact @Qub G3 H kp vp N K l m rest a b cap cap' vt G env (VL _ (YB ..)) (by rw[hlm']; exact YB ..) hlm hl0 hl3 hr hkl hkn' hvp he
  (λG env he=>h _ _ _ _ _ G env (.inl rfl) hkl hkn' hvp he) (λkp' vp' vt G env h1 h2 h3 he=>h _ _ _ _ _ G env (.inr rfl) h1 h2 h3 he)
end
section
variable {H:ZG} {N:Nat} {K:ZF}
theorem QAJ (hK:∀ env G,K (.exit 0) env (H++G)):∀ (M:Nat),M<1000000000->∀ (kn:Qv) (td:List (List Ex×List Ex)) (kp:ZI) (vp:ZH) (vt:Nat) (G:ZG) (env:Env),QcC td<=M->(∀ p∈td,Ex.erL p.1=Ex.erL p.2/\p.1.length<=100/\∀ e∈p.1,e.sm) ->
 kp.length=vp.length->(∀ v∈kp,@KK.knows _ kn (.pp 164 25) v)->(∀ x∈vp,∃ n,x=i64 n)->SE H.length td vt env -> @LI _ _ kn Tryz.prog N Qf Qc2 env (H++T2 td kp vp vt G) K:=by
 intro M
 induction M using Nat.strongRecOn with
 |ind M ih =>
  intro hM kn td kp vp vt G env hc hok hkl hkn hvp he;rcases List.eq_nil_or_concat td with rfl|⟨rest,⟨l,m⟩,rfl⟩
  . exact Qwc he hK
  . rw[List.concat_eq_append]at *;have hrl:=Qo1 (rest++[(l,m)]);simp only[Vj,List.length_singleton]at hrl;rw[Qno]at hc hrl;have hl1:QcC [(l,m)]=Qau l:=by simp[QcC]
    rw[hl1]at hc hrl;have hpos:=Qhv l;have hrest:∀ p∈rest,Ex.erL p.1=Ex.erL p.2/\p.1.length<=100/\∀ e∈p.1,e.sm:=λx hx=>hok x (by simp[hx]);obtain⟨hlm,hl3,hle⟩:=hok (l,m) (by simp);have hce:=Qor (a:=l) (b:=m) (Qc1 hlm);by_cases hl0:l=[]
    . subst hl0;have hm0:m=[]:=by
       have:=Qc1 hlm;exact Yd.1 (by simpa using this.symm)
      subst hm0;exact QAd (by omega) he λG env he=>ih (QcC rest) (by omega) (by omega) kn rest kp vp vt G env (Vb _) hrest hkl hkn hvp he
    . refine QB5 hlm hl0 hl3 (by omega) hkl hkn hvp he λkn' td kp' vp' vt G env htd h1 h2 h3 he2 => ?_;rcases htd with rfl|rfl
      . exact ih (QcC td) (by omega) (by omega) kn' td kp' vp' vt G env (Vb _) hrest h1 h2 h3 he2
      . refine ih (QcC (rest++Qbo l m)) (by rw[Qno]; omega) (by rw[Qno]; omega) kn' _ kp' vp' vt G env (Vb _) ?_ h1 h2 h3 he2;intro x hx;rcases Vq.1 hx with hx|hx
        . exact hrest x hx
        . refine⟨QB2 hlm x hx,?_⟩;obtain⟨i,hi,rfl⟩:=Y3 hx;have hll:l.length=m.length:=Qc1 hlm;have hi':i<l.length:=by rw[<-Qlb hll]; exact hi
          rw[Qm1 hi' (by omega) hi];have:=hle l[i] (Vt hi');generalize l[i]=e at this ⊢;obtain⟨op,n,nm,l',p⟩:=e;unfold Ex.sm at this;exact⟨Vi this.1 (by omega),Qnz.1 this.2⟩
theorem ok74 {l m:List Ex} (hlm:Ex.erL l=Ex.erL m) (hl:l.length<=100) (hok:∀ e∈l,e.sm) (hc:Qau l<1000000000):Ok Tryz.prog 74 [exS l,exS m] H (.ret (bl true)) H:=by
 refine Qz hm Tryz.func74 c74m (by simp[exS]) λhcl => ?_;simp -implicitDefEqProofs[i74m,r74,exS];refine LI.cong (H':=H++T2 [(l,m)] [] [] 0 []) (by simp[exP,exS]) ?_;refine QAJ (λenv G => ?_) (Qau l) hc _ [(l,m)] [] [] 0 [] _ (by simp[QcC]) (by simpa using ⟨hlm,hl,hok⟩) rfl (by simp) (by simp) ⟨?_,?_⟩
 . simp -implicitDefEqProofs;exact Qq 3 hcl rfl (by simp)
 all_goals simp
end
theorem gPow : Tryz.prog.globalNamed "internal/strconv.uint64pow10" = some 3 := by kernel_rfl
theorem QyW {S : St} (h : S.GL) : Lib.TabIs Tryz.prog S.w "internal/strconv.uint64pow10" .u64 Lib.pow10Tab := by
 obtain⟨h1,T,h2⟩:=h 3 _ rfl;generalize hus:(Lib.pow10Tab.map λz=>Value.int .u64 z)=us at h1 h2;unfold Lib.TabIs World.var?;rw[gPow,hus];simp only[Option.bind_some];unfold World.shape? at h2;split at h2
 . rename_i c e f hh;rw[hh];simp only[Option.some.injEq,Prod.mk.injEq]at h2 ⊢;obtain⟨_,h2⟩:=h2;apply Array.ext
   . simpa using h2
   . intro i hi1 hi2;have h3:=h1.1 i us[i] (Ve (by simpa using hi2));have e:((⟨3,0,none⟩:Addr).add i)=⟨3,i,none⟩:=by unfold Addr.add; split<;>simp_all
     rw[e]at h3;unfold World.cell? at h3;simp only[hh]at h3;simp at h3;rw[VZ hi1]at h3;simpa using h3
 . cases h2
theorem VRs1 {S:St} {a:Value} {vs:ZI} (h:VRs S [.val a] vs):vs=[a]:=by
 obtain⟨h1,h2⟩:=h
 match vs,h1 with
 |[x],_ =>
  have hx:=h2 0 _ x rfl rfl
  cases hx; rfl
def QmV (n:Int):ZE:=Lib.itoa n
theorem QzA {n:Int} (h:0<=n):QmV n=QbT n:=by
 unfold QmV Lib.itoa QbT;rw[Zn (by omega)]
theorem QyL {H:ZG} (n:Int) (h0 : -9223372036854775808<=n) (h1:n<=9223372036854775807):Ok Tryz.prog 106 [i64 n] H (.ret (st (B (QmV n)))) H :=
 Ok.lib (enters_of Tryz.func106 (by kernel_rfl) rfl) λS vs hS hv=>by
  rw[VRs1 hv];refine(Tryz.strconv_Itoa n h0 h1 S.w (QyW hS.gl)).mono ?_;rintro e w' ⟨rfl,k,os,rfl⟩;exact⟨rfl,Lib.below_grow _ _ (Vb _) _ _⟩
theorem Qkx {n:Int} (h0:0<=n) (h1:n<=9223372036854775807):NumK n:=λH=>by
 rw[<-QzA h0]; exact QyL n (by omega) h1
theorem Qkd {α:Type} {c:α->ZH} {w:Nat} (hc:∀ a,(c a).length=w) {l:List α} {i:Nat} (h:i<l.length):((rws c l).drop (i*w)).take w=c l[i]:=by
 rw[Qeg hc h,VN (hc _)]
theorem Ex.okc:∀ e:Ex,QD e.c
 |.mk op n nm l p=>by
  intro s hs; simp[Ex.c]at hs;rcases hs with rfl|rfl|rfl|rfl|rfl<;>rfl
theorem Qp.ok (s:Qp):QD s.c:=by
 intro x hx;rw[Qp.c]at hx;rcases Vd.1 hx with rfl|hx
 . rfl
 . rcases Vq.1 hx with hx|hx
   . exact Ex.okc s.e x hx
   . rw[VU.1 hx]; rfl
@[simp] theorem Qp.okT (s:Qp):QD s.c=True:=Zv s.ok
section
variable {H:ZG}
theorem QvY {l:List Qb} (hl:l.length<2147483648) {C:ZN} {p:SV} (hf:∀ e∈l,Ok Tryz.prog C [.agg e.c,p] H (.ret (bl false)) H) {N:Nat} {K:ZF} (hexit:∀ env,K (.exit 0) env H) :
 ∀ (m i:Nat) (env:Env),i+m=l.length->env.get 0=.slc (rws Qb.c l) l.length->env.get 1=.fn (.func C) [] [p]->env.get 7=i64 l.length->env.get 8=i64 i->LI Tryz.prog N Qf Qjq env H K:=by
 have hlen:=Qa8 Qb.c_len l;intro m
 induction m with
 |zero =>
  intro i env hi h0 h1 h7 h8;refine Qu hm Qjq.eq_1 ?_;have e:i=l.length:=by omega
  subst e;simp[h0,h1,h7,h8];exact hexit _
 |succ m ih =>
  intro i env hi h0 h1 h7 h8;refine Qu hm Qjq.eq_1 ?_;have hlt:i<l.length:=by omega
  have hlt':(i:Int)<l.length:=by omega
  have hg:=Qkd (c:=Qb.c) Qb.c_len hlt;have hfe:=hf _ (Vt hlt);generalize l[i]=e at hg hfe

  simp[h0,h1,h7,h8,hlt',hg,hlen];refine⟨by omega,?_⟩;refine Qpc (H':=H) (out:=.ret (bl false)) (by simpa using hfe) ?_;simp[h0,h1,h7,h8];refine ih (i+1) _ (by omega) ?_ ?_ ?_ ?_;all_goals simp[QaJ (show i<9223372036854775807 by omega)]
theorem QvX {l:List Qb} (hl:l.length<2147483648) {C:ZN} {p:SV} (hp:p.under H.length=true) (hf:∀ e∈l,Ok Tryz.prog C [.agg e.c,p] H (.ret (bl false)) H) :
 Ok Tryz.prog 184 [.slc (rws Qb.c l) l.length,.fn (.func C) [] [p]] H (.ret (i64 (-1))) H:=by
 refine Qz hm Tryz.func184 c184 (by simp) λhcl => ?_;simp[i184,r184];refine QvY hl hf (λenv => ?_) l.length 0 _ (by omega) (by simp) (by simp) (by simp) (by simp);simp;exact Qj
theorem QyA {l:List Qb} (hl:l.length<2147483648) {C:ZN} {p:SV} (hp:p.under H.length=true) (hf:∀ e∈l,Ok Tryz.prog C [.agg e.c,p] H (.ret (bl false)) H) :
 Ok Tryz.prog 152 [.slc (rws Qb.c l) l.length,.fn (.func C) [] [p]] H (.ret (bl false)) H:=by
 have h:=QvX hl hp hf;refine Qz hm Tryz.func152 c152 (by simp) λhcl => ?_;simp[i152,r152];refine Qc h ?_;simp;exact Qj
theorem QyO {x:Qb} {R:ZN} {j T:Nat} (hj:H[j]? = some ⟨[.fn (.func R) [] []],T,0,true⟩) (hR:∀ L,Ok Tryz.prog R [.agg x.c] (H++L) (.ret (bl true)) (H++L)) :
 Ok Tryz.prog 153 [.agg x.c,rp j] H (.ret (bl false)) H:=by
 have hlt:=Ql hj;have e1:∀ L,Qo (H++L) j 0=[.fn (.func R) [] []]:=λL=>Qav (o:=⟨[.fn (.func R) [] []],T,0,true⟩) (by rw[Vc hlt]; exact hj) rfl;have e2:Qo H j 0=[.fn (.func R) [] []]:=Qav hj rfl;refine Qz hm Tryz.func153 c153 (by simp[rp]) λhcl => ?_;simp[i153,r153,rp,e1]

 refine Qc (hR _) ?_;simp;exact Qq 3 hcl rfl (by simp)
theorem QAZ {l:List Qb} (hl:l.length<2147483648) {R:ZN} (hR:∀ x∈l,∀ L,Ok Tryz.prog R [.agg x.c] (H++L) (.ret (bl true)) (H++L)) :
 Ok Tryz.prog 103 [.slc (rws Qb.c l) l.length,.fn (.func R) [] []] H (.ret (bl true)) H:=by
 have h:=QyA hl (H:=H++[⟨[.fn (.func R) [] []],95,0,true⟩]) (C:=153) (p:=.ptr (.own H.length 0 0 0 0) 0) (by simp[SV.under]) λx hx=>QyO (R:=R) (j:=H.length) (T:=95) (by simp) λL=>by rw[VC]; exact hR x hx _
 refine Qz hm Tryz.func103 c103 (by simp) λhcl => ?_;simp[i103,r103];refine Qc h ?_;simp;exact Qq 3 hcl rfl (by simp)
end
structure QbZ (l:List Ex):Prop where
 len:l.length<=100
 prp:∀ e∈l,e.prp
 cst:Qau l<1000000000
structure Qcs (s:ZE):Prop where
 len:s.length<4611686018427387904
 ok:Qb8 s=true
structure Qp.prp (s:Qp):Prop where
 nm:Qcs s.nm
 e:QbZ [s.e]
structure Qn.prp (a:Qn):Prop where
 nm:Qcs a.nm
 wh1:a.wh.length<=1
 wh:QbZ a.wh
 sets:∀ s∈a.sets,s.prp
 len:a.sets.length<2147483648
 go:a.go=[]\/Qcs a.go
structure Qb.dl (x:Qb):Prop where
 nm:Qcs x.nm
 lo:0<=x.lo/\x.lo<=1000000000
 hi:0<=x.hi/\x.hi<=1000000000
 seen:∀ n∈x.seen,0<=n/\n<=1000000000
 len:x.seen.length<2147483648
 wt1:x.wt.length<=1
 wt:QbZ x.wt
 all:x.all=true->x.seen=[]
section
variable {H:ZG}
theorem Qyy {l:List Ex} (h:QbZ l):Ok Tryz.prog 72 [exS l] H (.ret (bl true)) H:=ok72 h.len h.prp h.cst
theorem Qmd {s:ZE} (h:Qcs s):Ok Tryz.prog 101 [st (B s)] H (.ret (bl true)) H:=by
 have:=QtV (H:=H) h.len
 rwa [h.ok]at this
theorem QqF {a n b:Int} (h1:a<=n) (h2:n<=b):Ok Tryz.prog 102 [i64 a,i64 n,i64 b] H (.ret (bl true)) H:=by
 have:=QsY (H:=H) a n b
 rwa [decide_eq_true (And.intro h1 h2)]at this
end
structure Qb.tn (x:Qb):Prop where
 who1:x.who.length=1
 who:QbZ x.who
 acts0:0<x.acts.length
 acts:∀ a∈x.acts,a.prp
 len:x.acts.length<2147483648
 nm:x.nm=[]
 lo:x.lo=0
 hi:x.hi=0
 wt:x.wt=[]
 all:x.all=false
 seen:x.seen=[]
 pays:x.pays=[]
structure Qb.en (x:Qb):Prop where
 pays0:0<x.pays.length
 pays:QbZ x.pays
 nm:x.nm=[]
 lo:x.lo=0
 hi:x.hi=0
 wt:x.wt=[]
 all:x.all=false
 seen:x.seen=[]
 who:x.who=[]
 acts:x.acts=[]
structure Qb.prp (x:Qb):Prop where
 lb:x.lb=[]\/Qcs x.lb
 kd:(x.k=1/\x.dl/\x.who=[]/\x.acts=[]/\x.pays=[])\/(x.k=2/\x.tn)\/(x.k=3/\x.en)
def Qb.at0 (x:Qb):Qb:={ x with p:=0 }
section
variable {H:ZG}
set_option maxRecDepth 8000 in
set_option maxHeartbeats 2000000 in
theorem QxL (x:Qb):Ok Tryz.prog 157 [.agg x.c,.agg x.at0.c] H (.ret (bl true)) H:=by
 refine Qz hm Tryz.func157 c157 (by simp[SV.under,Qb.und]) λhcl => ?_;simp -implicitDefEqProofs[i157,r157,Qb.c,Qb.at0];refine⟨⟨rfl,rfl,rfl⟩,?_⟩;simp -implicitDefEqProofs[exS];exact Qq 3 hcl rfl (by simp)
theorem QB9 {x:Qb} (hlb:x.lb=[]\/Qcs x.lb) {N:Nat} {K:ZF} {env:Env} (h1:env.get 1=rp H.length)
 (hK:∀ env,env.get 1=rp H.length->K .normal env (H++[⟨x.c,78,0,true⟩])):X Tryz.prog N Qf (IC.nth 1 QcL) env (H++[⟨x.c,78,0,true⟩]) K:=by
 rcases hlb with h|h
 . obtain⟨k,lb,nm,lo,hi,wt,all,seen,who,acts,pays,p⟩:=x;simp only at h; subst h;simp -implicitDefEqProofs[IC.nth,QcL,Qb.c,rp,h1];refine Qcm _ _ _ _ ?_;simp -implicitDefEqProofs[h1,rp];exact hK _ (by simp[h1,rp])
 . have h101:=λH=>Qmd (H:=H) h;by_cases h0:x.lb=[]
   . clear h101 h;obtain⟨k,lb,nm,lo,hi,wt,all,seen,who,acts,pays,p⟩:=x;simp only at h0; subst h0;simp -implicitDefEqProofs[IC.nth,QcL,Qb.c,rp,h1];refine Qcm _ _ _ _ ?_;simp -implicitDefEqProofs[h1,rp];exact hK _ (by simp[h1,rp])
   . have h0B:¬ B x.lb=B []:=λh=>h0 (QrN.1 h);simp -implicitDefEqProofs[IC.nth,QcL,Qb.c,rp,h1,h0,h0B];refine QZ (r:=bl true) (λ_=>h101 _) ?_;simp -implicitDefEqProofs[h1,rp];exact hK _ (by simp[h1,rp])
set_option maxRecDepth 8000 in
set_option maxHeartbeats 4000000 in
theorem Qxy {x:Qb} (hk:x.k=3) (he:x.en) {N:Nat} {K:ZF} {env:Env} (h1:env.get 1=rp H.length)
 (hK:∀ env L,env.get 2=bl true->K .ret env (H++L)):X Tryz.prog N Qf (IC.tl 2 QcL) env (H++[⟨x.c,78,0,true⟩]) K:=by
 have h157:=λH=>QxL (H:=H) x;have h72:=λH=>Qyy (H:=H) he.pays;have hp:=he.pays0;obtain⟨_,_,e1,e2,e3,e4,e5,e6,e7,e8⟩:=he;obtain⟨k,lb,nm,lo,hi,wt,all,seen,who,acts,pays,p⟩:=x;simp only at *;subst hk e1 e2 e3 e4 e5 e6 e7 e8;have hp':(0:Int)<pays.length:=by omega
 simp only[Qb.c,Qb.at0]at h157;simp -implicitDefEqProofs[IC.tl,QcL,Qb.c,rp,h1,exS,hp,hp'];refine QZ (r:=bl true) (λ_=>h72 _) ?_;simp -implicitDefEqProofs[rp,h1,exS,hp,hp'];refine QZ (r:=bl true) (λ_=>(OkP.le ?_ (h157 _).toP).toOk) ?_
 . simp only[Qb.c,exS,Ex.cL,QM,rws,Vr,VA,VE,List.map,SV.strip,Vh,VH];repeat first
    |exact leL.nil
    |refine leL.cons ?_ ?_
    |exact SV.le.refl _
    |exact QdV
    |refine QlK ?_ _
    |refine Qga ?_
 simp -implicitDefEqProofs[rp,h1,exS,hp,hp'];exact hK _ _ (by simp)
theorem Qxr {x:Qb} (hlb:x.lb=[]\/Qcs x.lb) (hT:∀ (K:ZF) (env:Env),env.get 1=rp H.length->(∀ env L,env.get 2=bl true->K .ret env (H++L))->X Tryz.prog Tryz.f104.ntmps Qf (IC.tl 2 QcL) env (H++[⟨x.c,78,0,true⟩]) K):Ok Tryz.prog 104 [.agg x.c] H (.ret (bl true)) H:=by
 refine Qz hm Tryz.func104 c104 (by simp[SV.under,Qb.und]) λhcl => ?_;rw[show QcL=.seq (IC.nth 0 QcL) (.seq (IC.nth 1 QcL) (IC.tl 2 QcL))from rfl];generalize ht:IC.tl 2 QcL=t at *;generalize ht1:IC.nth 1 QcL=t1;simp -implicitDefEqProofs[IC.nth,QcL];subst ht1;refine QB9 hlb (by simp[rp]) λenv h1 => ?_;refine hT _ env h1 λenv L h2 => ?_;simp -implicitDefEqProofs[r104,h2];exact Qq 3 hcl rfl (by simp)
theorem QBc {x:Qb} (hx:x.prp) (hk:x.k=3):Ok Tryz.prog 104 [.agg x.c] H (.ret (bl true)) H:=Qxr hx.lb λK env h1 hK=>by
 rcases hx.kd with ⟨hk',_⟩|⟨hk',_⟩|⟨_,he⟩
 . omega
 . omega
 . exact Qxy hk he h1 hK
structure Qm.prp (v:Qm):Prop where
 nm:Qcs v.nm
 lo : -1000000000<=v.n
 hi:v.n<=1000000000
structure QC.prp (r:QC):Prop where
 nm:Qcs r.nm
 pl:0<=r.pl/\r.pl<=1000000000
 vars:∀ v∈r.vars,v.prp
 vlen:r.vars.length<2147483648
 stages:∀ x∈r.stages,x.prp
 slen:r.stages.length<2147483648
 s0:0<r.stages.length
theorem Qm.len (v:Qm):v.c.length=3:=rfl
theorem Qys {r:QC} (hr:r.prp) {N:Nat} {K:ZF} (hexit:∀ env G,env.get 1=rp H.length->K (.exit 0) env (H++(⟨r.c,36,0,true⟩::G))) :
 ∀ (m i:Nat) (G:ZG) (env:Env),i+m=r.vars.length->env.get 1=rp H.length->env.get 22=.slc (rws Qm.c r.vars) r.vars.length->env.get 23=i64 r.vars.length->env.get 24=i64 i ->
  LI Tryz.prog N Qf QjF env (H++(⟨r.c,36,0,true⟩::G)) K:=by
 have hlen:=Qa8 Qm.len r.vars;have hb:=hr.vlen;intro m
 induction m with
 |zero =>
  intro i G env hi h1 h22 h23 h24;refine Qu hm QjF.eq_1 ?_;have e:i=r.vars.length:=by omega
  subst e;simp -implicitDefEqProofs[h1,h22,h23,h24];exact hexit _ _ (by simp[h1])
 |succ m ih =>
  intro i G env hi h1 h22 h23 h24;refine Qu hm QjF.eq_1 ?_;have hlt:i<r.vars.length:=by omega
  have hlt':(i:Int)<r.vars.length:=by omega
  have hg:=Qkd (c:=Qm.c) Qm.len hlt;have hv:=hr.vars _ (Vt hlt);generalize r.vars[i]=v at hg hv;have h101:=λH=>Qmd (H:=H) hv.nm;have h102:=λH=>QqF (H:=H) hv.lo hv.hi;simp -implicitDefEqProofs[h1,h22,h23,h24,rp,Qm.c,hlt,hlt',hg,hlen];refine⟨by omega,Qc (h101 _) ?_⟩;simp -implicitDefEqProofs[h1,h22,h23,h24,rp,hlt,hlt'];refine QZ (r:=bl true) (λ_=>h102 _) ?_;simp -implicitDefEqProofs[h1,h22,h23,h24,rp,hlt,hlt'];refine LI.cong (H':=H++(⟨r.c,36,0,true⟩::(G++[⟨v.c,75,0,true⟩]))) (by simp[Qm.c]) (ih (i+1) _ _ (by omega) ?_ ?_ ?_ ?_);all_goals simp[h1,h22,h23,h24,rp,Qm.c,QaJ (show i<9223372036854775807 by omega)]
theorem QCf {r:QC} (hr:r.prp) (hg:∀ x∈r.stages,∀ H,Ok Tryz.prog 104 [.agg x.c] H (.ret (bl true)) H):Ok Tryz.prog 49 [.agg r.c] H (.ret (bl true)) H:=by
 have h101:=λH=>Qmd (H:=H) hr.nm;have h102:=λH=>QqF (H:=H) hr.pl.1 hr.pl.2;have h103:=λH=>QAZ (H:=H) (R:=104) hr.slen λx hx L=>hg x hx _;have h0:=hr.s0;have h0':¬ r.stages.length=0:=by omega
 have h0'':¬ (r.stages.length:Int)=0:=by omega
 have hne:¬ r.stages=[]:=λh=>by rw[h]at h0; simp at h0
 refine Qz hm Tryz.func49 c49 (by simp[SV.under,Qf5]) λhcl => ?_;simp -implicitDefEqProofs[i49,r49,QC.c];refine Qc (h101 _) ?_;simp -implicitDefEqProofs;refine QZ (r:=bl true) (λ_=>h102 _) ?_;simp -implicitDefEqProofs[h0,h0',h0'',hne];refine LI.cong (H':=H++(⟨r.c,36,0,true⟩::[])) (by simp[QC.c]) ?_;refine Qys hr (λenv G h1 => ?_) r.vars.length 0 [] _ (by omega) (by simp[rp]) (by simp) (by simp) (by simp);simp -implicitDefEqProofs[h1,rp,QC.c];refine Qc (h103 _) ?_;simp -implicitDefEqProofs;exact Qq 3 hcl rfl (by simp)
end
section
variable {H:ZG}
@[simp] theorem Qm.okT (v:Qm):QD v.c=True:=Zv λs hs=>by
 simp[Qm.c]at hs; rcases hs with rfl|rfl|rfl<;>rfl
theorem QAh {l m:List Qp} (hl:m.length=l.length) (hb:l.length<2147483648) {f:SV} (hf:f=.fn (.func 161) [] []) (hc:∀ i (h:i<l.length) (h':i<m.length) (H:ZG),Ok Tryz.prog 161 [.agg l[i].c,.agg m[i].c] H (.ret (bl true)) H) {N:Nat} {K:ZF} (hexit:∀ env G,K (.exit 0) env (H++G)) :
 ∀ (k i:Nat) (G:ZG) (env:Env),i+k=l.length->env.get 1=.slc (rws Qp.c m) m.length->env.get 2=f->env.get 15=.slc (rws Qp.c l) l.length->env.get 16=i64 l.length->env.get 17=i64 i ->
  LI Tryz.prog N Qf Qjm env (H++G) K:=by
 have hlen:=Qa8 Qp.len l;have hlenm:=Qa8 Qp.len m;subst hf;intro k
 induction k with
 |zero =>
  intro i G env hi h1 h2 h15 h16 h17;refine Qu hm Qjm.eq_1 ?_;have e:i=l.length:=by omega
  subst e;simp[h1,h2,h15,h16,h17];exact hexit _ _
 |succ k ih =>
  intro i G env hi h1 h2 h15 h16 h17;refine Qu hm Qjm.eq_1 ?_;have hlt:i<l.length:=by omega
  have hlt':(i:Int)<l.length:=by omega
  have hltm:i<m.length:=by omega
  have hltm':(i:Int)<m.length:=by omega
  have g1:((rws Qp.c l).drop (i*7)).take 7=l[i].c:=by rw[Qeg Qp.len hlt,VN (Qp.len _)]
  have g2:((rws Qp.c m).drop (i*7)).take 7=m[i].c:=by rw[Qeg Qp.len hltm,VN (Qp.len _)]
  have hcc:=hc i hlt hltm;generalize l[i]=a at g1 hcc;generalize m[i]=b at g2 hcc;have ha:=Qp.len a;have hb':=Qp.len b;have ta:List.take 7 a.c=a.c:=VB (V0 ha);have tb:List.take 7 b.c=b.c:=VB (V0 hb');simp[h1,h2,h15,h16,h17,hlt',hltm',g1,g2,hlen,hlenm,ha,hb',ta,tb];refine⟨by omega,by omega,Qc (hcc _) ?_⟩;simp[h1,h2,h15,h16,h17];refine LI.cong (H':=H++(G++[⟨a.c,91,0,true⟩,⟨b.c,91,0,true⟩])) (by simp) (ih (i+1) _ _ (by omega) ?_ ?_ ?_ ?_ ?_);all_goals simp[QaJ (show i<9223372036854775807 by omega)]
theorem Quv {l m:List Qp} (hl:m.length=l.length) (hb:l.length<2147483648) (hc:∀ i (h:i<l.length) (h':i<m.length) (H:ZG),Ok Tryz.prog 161 [.agg l[i].c,.agg m[i].c] H (.ret (bl true)) H) :
 Ok Tryz.prog 162 [.slc (rws Qp.c l) l.length,.slc (rws Qp.c m) m.length,.fn (.func 161) [] []] H (.ret (bl true)) H:=by
 refine Qz hm Tryz.func162 c162 (by simp) λhcl => ?_;simp[i162,r162,hl];refine LI.cong (H':=H++[]) (by simp) (QAh hl hb rfl hc (λenv G => ?_) l.length 0 [] _ (by omega) ?_ ?_ ?_ ?_ ?_)
 . simp;exact Qq 1 hcl rfl (by simp)
 all_goals simp[hl]
theorem Qvf {l m:List Qn} (hl:m.length=l.length) (hb:l.length<2147483648) {f:SV} (hf:f=.fn (.func 118) [] []) (hc:∀ i (h:i<l.length) (h':i<m.length) (H:ZG),Ok Tryz.prog 118 [.agg l[i].c,.agg m[i].c] H (.ret (bl true)) H) {N:Nat} {K:ZF} (hexit:∀ env G,K (.exit 0) env (H++G)) :
 ∀ (k i:Nat) (G:ZG) (env:Env),i+k=l.length->env.get 1=.slc (rws Qn.c m) m.length->env.get 2=f->env.get 15=.slc (rws Qn.c l) l.length->env.get 16=i64 l.length->env.get 17=i64 i ->
  LI Tryz.prog N Qf QkP env (H++G) K:=by
 have hlen:=Qa8 Qn.c_len l;have hlenm:=Qa8 Qn.c_len m;subst hf;intro k
 induction k with
 |zero =>
  intro i G env hi h1 h2 h15 h16 h17;refine Qu hm QkP.eq_1 ?_;have e:i=l.length:=by omega
  subst e;simp[h1,h2,h15,h16,h17];exact hexit _ _
 |succ k ih =>
  intro i G env hi h1 h2 h15 h16 h17;refine Qu hm QkP.eq_1 ?_;have hlt:i<l.length:=by omega
  have hlt':(i:Int)<l.length:=by omega
  have hltm:i<m.length:=by omega
  have hltm':(i:Int)<m.length:=by omega
  have g1:((rws Qn.c l).drop (i*6)).take 6=l[i].c:=by rw[Qeg Qn.c_len hlt,VN (Qn.c_len _)]
  have g2:((rws Qn.c m).drop (i*6)).take 6=m[i].c:=by rw[Qeg Qn.c_len hltm,VN (Qn.c_len _)]
  have hcc:=hc i hlt hltm;generalize l[i]=a at g1 hcc;generalize m[i]=b at g2 hcc;have ha:=Qn.c_len a;have hb':=Qn.c_len b;have ta:List.take 6 a.c=a.c:=VB (V0 ha);have tb:List.take 6 b.c=b.c:=VB (V0 hb');simp[h1,h2,h15,h16,h17,hlt',hltm',g1,g2,hlen,hlenm,ha,hb',ta,tb];refine⟨by omega,by omega,Qc (hcc _) ?_⟩;simp[h1,h2,h15,h16,h17];refine LI.cong (H':=H++(G++[⟨a.c,89,0,true⟩,⟨b.c,89,0,true⟩])) (by simp) (ih (i+1) _ _ (by omega) ?_ ?_ ?_ ?_ ?_);all_goals simp[QaJ (show i<9223372036854775807 by omega)]
theorem QBu {l m:List Qn} (hl:m.length=l.length) (hb:l.length<2147483648) (hc:∀ i (h:i<l.length) (h':i<m.length) (H:ZG),Ok Tryz.prog 118 [.agg l[i].c,.agg m[i].c] H (.ret (bl true)) H) :
 Ok Tryz.prog 117 [.slc (rws Qn.c l) l.length,.slc (rws Qn.c m) m.length,.fn (.func 118) [] []] H (.ret (bl true)) H:=by
 refine Qz hm Tryz.func117 c117 (by simp) λhcl => ?_;simp[i117,r117,hl];refine LI.cong (H':=H++[]) (by simp) (Qvf hl hb rfl hc (λenv G => ?_) l.length 0 [] _ (by omega) ?_ ?_ ?_ ?_ ?_)
 . simp;exact Qq 1 hcl rfl (by simp)
 all_goals simp[hl]
theorem Qy1 {l m:List Qb} (hl:m.length=l.length) (hb:l.length<2147483648) {f:SV} (hf:f=.fn (.func 62) [] []) (hc:∀ i (h:i<l.length) (h':i<m.length) (H:ZG),Ok Tryz.prog 62 [.agg l[i].c,.agg m[i].c] H (.ret (bl true)) H) {N:Nat} {K:ZF} (hexit:∀ env G,K (.exit 0) env (H++G)) :
 ∀ (k i:Nat) (G:ZG) (env:Env),i+k=l.length->env.get 1=.slc (rws Qb.c m) m.length->env.get 2=f->env.get 15=.slc (rws Qb.c l) l.length->env.get 16=i64 l.length->env.get 17=i64 i ->
  LI Tryz.prog N Qf QjT env (H++G) K:=by
 have hlen:=Qa8 Qb.c_len l;have hlenm:=Qa8 Qb.c_len m;subst hf;intro k
 induction k with
 |zero =>
  intro i G env hi h1 h2 h15 h16 h17;refine Qu hm QjT.eq_1 ?_;have e:i=l.length:=by omega
  subst e;simp[h1,h2,h15,h16,h17];exact hexit _ _
 |succ k ih =>
  intro i G env hi h1 h2 h15 h16 h17;refine Qu hm QjT.eq_1 ?_;have hlt:i<l.length:=by omega
  have hlt':(i:Int)<l.length:=by omega
  have hltm:i<m.length:=by omega
  have hltm':(i:Int)<m.length:=by omega
  have g1:((rws Qb.c l).drop (i*12)).take 12=l[i].c:=by rw[Qeg Qb.c_len hlt,VN (Qb.c_len _)]
  have g2:((rws Qb.c m).drop (i*12)).take 12=m[i].c:=by rw[Qeg Qb.c_len hltm,VN (Qb.c_len _)]
  have hcc:=hc i hlt hltm;generalize l[i]=a at g1 hcc;generalize m[i]=b at g2 hcc;have ha:=Qb.c_len a;have hb':=Qb.c_len b;have ta:List.take 12 a.c=a.c:=VB (V0 ha);have tb:List.take 12 b.c=b.c:=VB (V0 hb');simp[h1,h2,h15,h16,h17,hlt',hltm',g1,g2,hlen,hlenm,ha,hb',ta,tb];refine⟨by omega,by omega,Qc (hcc _) ?_⟩;simp[h1,h2,h15,h16,h17];refine LI.cong (H':=H++(G++[⟨a.c,78,0,true⟩,⟨b.c,78,0,true⟩])) (by simp) (ih (i+1) _ _ (by omega) ?_ ?_ ?_ ?_ ?_);all_goals simp[QaJ (show i<9223372036854775807 by omega)]
theorem ok61 {l m:List Qb} (hl:m.length=l.length) (hb:l.length<2147483648) (hc:∀ i (h:i<l.length) (h':i<m.length) (H:ZG),Ok Tryz.prog 62 [.agg l[i].c,.agg m[i].c] H (.ret (bl true)) H) :
 Ok Tryz.prog 61 [.slc (rws Qb.c l) l.length,.slc (rws Qb.c m) m.length,.fn (.func 62) [] []] H (.ret (bl true)) H:=by
 refine Qz hm Tryz.func61 c61 (by simp) λhcl => ?_;simp[i61,r61,hl];refine LI.cong (H':=H++[]) (by simp) (Qy1 hl hb rfl hc (λenv G => ?_) l.length 0 [] _ (by omega) ?_ ?_ ?_ ?_ ?_)
 . simp;exact Qq 1 hcl rfl (by simp)
 all_goals simp[hl]
theorem QxT {l m:List Qm} (hl:m.length=l.length) (hb:l.length<2147483648) {f:SV} (hf:f=.fn (.func 59) [] []) (hc:∀ i (h:i<l.length) (h':i<m.length) (H:ZG),Ok Tryz.prog 59 [.agg l[i].c,.agg m[i].c] H (.ret (bl true)) H) {N:Nat} {K:ZF} (hexit:∀ env G,K (.exit 0) env (H++G)) :
 ∀ (k i:Nat) (G:ZG) (env:Env),i+k=l.length->env.get 1=.slc (rws Qm.c m) m.length->env.get 2=f->env.get 15=.slc (rws Qm.c l) l.length->env.get 16=i64 l.length->env.get 17=i64 i ->
  LI Tryz.prog N Qf QlA env (H++G) K:=by
 have hlen:=Qa8 Qm.c_len l;have hlenm:=Qa8 Qm.c_len m;subst hf;intro k
 induction k with
 |zero =>
  intro i G env hi h1 h2 h15 h16 h17;refine Qu hm QlA.eq_1 ?_;have e:i=l.length:=by omega
  subst e;simp[h1,h2,h15,h16,h17];exact hexit _ _
 |succ k ih =>
  intro i G env hi h1 h2 h15 h16 h17;refine Qu hm QlA.eq_1 ?_;have hlt:i<l.length:=by omega
  have hlt':(i:Int)<l.length:=by omega
  have hltm:i<m.length:=by omega
  have hltm':(i:Int)<m.length:=by omega
  have g1:((rws Qm.c l).drop (i*3)).take 3=l[i].c:=by rw[Qeg Qm.c_len hlt,VN (Qm.c_len _)]
  have g2:((rws Qm.c m).drop (i*3)).take 3=m[i].c:=by rw[Qeg Qm.c_len hltm,VN (Qm.c_len _)]
  have hcc:=hc i hlt hltm;generalize l[i]=a at g1 hcc;generalize m[i]=b at g2 hcc;have ha:=Qm.c_len a;have hb':=Qm.c_len b;have ta:List.take 3 a.c=a.c:=VB (V0 ha);have tb:List.take 3 b.c=b.c:=VB (V0 hb');simp[h1,h2,h15,h16,h17,hlt',hltm',g1,g2,hlen,hlenm,ha,hb',ta,tb];refine⟨by omega,by omega,Qc (hcc _) ?_⟩;simp[h1,h2,h15,h16,h17];refine LI.cong (H':=H++(G++[⟨a.c,75,0,true⟩,⟨b.c,75,0,true⟩])) (by simp) (ih (i+1) _ _ (by omega) ?_ ?_ ?_ ?_ ?_);all_goals simp[QaJ (show i<9223372036854775807 by omega)]
theorem ok60 {l m:List Qm} (hl:m.length=l.length) (hb:l.length<2147483648) (hc:∀ i (h:i<l.length) (h':i<m.length) (H:ZG),Ok Tryz.prog 59 [.agg l[i].c,.agg m[i].c] H (.ret (bl true)) H) :
 Ok Tryz.prog 60 [.slc (rws Qm.c l) l.length,.slc (rws Qm.c m) m.length,.fn (.func 59) [] []] H (.ret (bl true)) H:=by
 refine Qz hm Tryz.func60 c60 (by simp) λhcl => ?_;simp[i60,r60,hl];refine LI.cong (H':=H++[]) (by simp) (QxT hl hb rfl hc (λenv G => ?_) l.length 0 [] _ (by omega) ?_ ?_ ?_ ?_ ?_)
 . simp;exact Qq 1 hcl rfl (by simp)
 all_goals simp[hl]
end
end Go.Proofs.YtmkdpmfhlfhjkaaGreatDoor
