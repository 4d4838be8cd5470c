/- Steps of the proof. -/
import Derived.Test.YtmkdpmfhlfhjkaaGreatDoorCore3
import Derived.Below
import Derived.ChangeArms
import Derived.DataReads
import Derived.WideShapes
import Derived.RowKit
import Derived.WalkKit
import Derived.ProofKit
import Derived.OpenShut
import Derived.ShutString
import Derived.ChangeOld
import Derived.Carry
import Derived.KernelRfl
import Derived.RecoverIn
import Derived.SizedLaws
set_option linter.all false
namespace Go.Ab
variable [QN] [QG] [Qr]
structure IsI (H:ZG) (x:SV) (l:List Int):Prop where
 vd:x.vd=true
 ug:x.ug=x
 sl:x.isSl=true
 cell:x.isCell=true
 sz:x.szIs 1=true
 len:x.slen=l.length
 und:x.under H.length=true
 row:(x.row H).take l.length=QE l
 flat:x.flat=[x]
theorem Qjb {H:ZG} {i ver:Nat} (L:ZG) (h:i<H.length):Qn (H++L) i ver=Qn H i ver:=by
 unfold Qn; rw[Vc h]
theorem Qy7 {H:ZG} {x:SV} (L:ZG) (h:x.under H.length=true):x.row (H++L)=x.row H:=by
 cases x<;>try rfl
 rename_i i off len sz ver;simp only[SV.row]; rw[Qjb L (by simpa[SV.under]using h)]
namespace IsI
variable {H:ZG} {x:SV} {l:List Int}
theorem rowlen (h:IsI H x l):l.length<=(x.row H).length:=by
 have:=Zp List.length h.row;simp at this; omega
theorem ldlen (h:IsI H x l) {k:Nat} (hk:k<l.length):k<(x.row H).length:=YL hk h.rowlen
theorem ld (h:IsI H x l) {k:Nat} (hk:k<l.length):((x.row H).drop k).headD .any=i64 (l.getD k 0):=by
 have h1:=h.ldlen hk;have h2:((x.row H).take l.length)[k]? = (QE l)[k]? := by rw[h.row]
 rw[YM hk]at h2;rw[Y6,List.head?_drop,h2];simp[QE,hk]
theorem ok (h:IsI H x l) {k:Nat} (hk:k<l.length):Qe4 H (.ptr x k) 1:=by
 have:=h.ldlen hk;simp only[Qe4,Qlh,YC]; omega
theorem v (h:IsI H x l) {k:Nat} (hk:k<l.length):ldv H (.ptr x k)=i64 (l[k]'hk):=by
 have:=h.ld hk;simp only[ldv,Qlh,this,VB,Vd hk,VX]
theorem own0 (H:ZG) (L:ZG) (k ver:Nat) (l m:List Int) (T:ZK) (h:L[k]? = some ⟨QE (l++m),T,ver,true⟩):IsI (H++L) (.own (H.length+k) 0 l.length 1 ver) l:=by
 refine⟨rfl,rfl,rfl,rfl,rfl,rfl,?_,?_,rfl⟩
 . have:k<L.length:=Qj h;simp; omega
 . simp only[SV.row,QfN,Yt];unfold Qn;rw[h];simp[QE]
end IsI
theorem Qu {P:ZL} (hm:P.follows .mixedOrders=true) {N:Nat} {i j:IC} (e:i=j) {env:Env} {H:ZG} {K:ZF}
 (h:X P N Qf j env H λx env H=>match x with|.normal=>LI P N Qf i env H K|x=>K x env H):LI P N Qf i env H K:=by
 subst e; exact QvV hm h
@[congr] theorem QF8 {P:ZL} {N:Nat} {D:Array Oper->List Nat->List Ins->Bool} {i:IC} {env env':Env} {H H':ZG} {K:ZF} (h:Ev env=env') (h2:Ev H=H'):LI P N D i env H K=LI P N D i env' H' K:=by rw[QR h,QR h2]
@[simp] theorem QFU (n k:Nat):(n+k<n)=False:=by simp
theorem QeU {n:Nat} (h:n<=9223372036854775807):IntKind.i64.wrap (n:Int)=n:=Qae (by omega) (by omega)
theorem QaH {n:Nat} (h:n<9223372036854775807):IntKind.i64.wrap ((n:Int)+1)=(n:Int)+1:=Qae (by omega) (by omega)
theorem Qns {n:Nat} (h:n<9223372036854775807):IntKind.i64.wrap ((n:Int)+1)=((n+1:Nat):Int):=by rw[Qae (by omega) (by omega)]; rfl
@[simp] theorem ints_G {l:List Int} {k:Nat} (h:k<(QE l).length):(QE l)[k]=i64 (l[k]'(by simpa using h)):=by simp[QE]
def SV.strip:SV->SV
 |.gd true x=>x.strip
 |x=>x
theorem QtD {S:St} {s:SV} {v:Value} (h:VR S s v):VR S s.strip v:=by
 induction h with
 |gd b x v h0 h ih =>
  cases b with
  |true=>exact ih rfl
  |false=>exact .gd false x v h0 h
 |any v=>exact .any v
 |val v=>exact .val v
 |nilslc=>exact .nilslc
 |slc cells len a cap us hc hl hi h ih=>exact .slc cells len a cap us hc hl hi h
 |own i off len sz ver a cap o ho hv hc hz h=>exact .own i off len sz ver a cap o ho hv hc hz h
 |ptrI cells len k a us hl hi h ih=>exact .ptrI cells len k a us hl hi h
 |ptrO i off len sz ver k a o ho hv h=>exact .ptrO i off len sz ver k a o ho hv h
 |agg l us hl h ih=>exact .agg l us hl h
 |tup l us hl h ih=>exact .tup l us hl h
 |fn f x y us vs hl h hl' h' ih ih'=>exact .fn f x y us vs hl h hl' h'
 |ifc t x v h ih=>exact .ifc t x v h
 |yl i l o ho h=>exact .yl i l o ho h
 |mp i ver l o ho hv h=>exact .mp i ver l o ho hv h
 |mpf vs l es cl us hb hn hu hl h ih=>exact .mpf vs l es cl us hb hn hu hl h
theorem Ok.strip {P:ZL} {f:ZN} {args:ZH} {H H':ZG} {out:Out} (h:Ok P f (args.map SV.strip) H out H'):Ok P f args H out H' :=
 ⟨h.1,λS vs hH hS hv=>h.2 S vs hH hS (hv.map λs v hs=>QtD hs)⟩
theorem QZ {P:ZL} {on:Bool} {k:ZN} {args:ZH} {H:ZG} {r:SV} {K:SV->Prop} (h:on=true->Ok P k (args.map SV.strip) H (.ret r) H) (hk:K r):Qem P on (.fn (.func k) [] []) args H K :=
 QeW (λho=>(h ho).strip) hk
theorem QpB {P:ZL} {k:ZN} {args:ZH} {H H':ZG} {out:Out} {K:Out->ZG->Prop} (h:Ok P k (args.map SV.strip) H out H') (hk:K out H'):QdS P (.fn (.func k) [] []) args H K :=
 Qc h.strip hk
theorem IsI.whole {H L:ZG} {T:ZK} {l:List Int} {k n ver:Nat} (h:L[k]? = some ⟨QE l,T,ver,true⟩) (hn:n=l.length):IsI (H++L) (.own (H.length+k) 0 n 1 ver) l:=by
 subst hn; exact IsI.own0 H L k ver l [] T (by simpa using h)
section
variable (n:Nat) (ks:List Nat) (L:ZG) (d:Nat)
theorem QcM {l:ZH} (h:SV.underL n l=true):l.map (SV.fz n ks L (d+1))=l:=by
 rw[SV.underL_iff]at h;have:l.map (SV.fz n ks L (d+1))=l.map id:=Ya λs hs=>Qc3 (h s hs);simpa using this
@[simp] theorem fz_agg (l:ZH):SV.fz n ks L (d+2) (.agg l)=.agg (l.map (SV.fz n ks L (d+1))):=by
 by_cases h:(SV.agg l).under n=true
 . rw[Qc3 h]; rw[QcM n ks L d (by simpa[SV.under]using h)]
 . conv=>lhs; unfold SV.fz
   rw[Zm h]
@[simp] theorem fz_tup (l:ZH):SV.fz n ks L (d+2) (.tup l)=.tup (l.map (SV.fz n ks L (d+1))):=by
 by_cases h:(SV.tup l).under n=true
 . rw[Qc3 h]; rw[QcM n ks L d (by simpa[SV.under]using h)]
 . conv=>lhs; unfold SV.fz
   rw[Zm h]
@[simp] theorem fz_slc (l:ZH) (m:Nat):SV.fz n ks L (d+2) (.slc l m)=.slc (l.map (SV.fz n ks L (d+1))) m:=by
 by_cases h:(SV.slc l m).under n=true
 . rw[Qc3 h]; rw[QcM n ks L d (by simpa[SV.under]using h)]
 . conv=>lhs; unfold SV.fz
   rw[Zm h]
@[simp] theorem fz_st (s:ByteArray):SV.fz n ks L (d+1) (st s)=st s:=Qc3 rfl
@[simp] theorem fz_val (v:Value):SV.fz n ks L (d+1) (.val v)=.val v:=Qc3 rfl
@[simp] theorem QxM (k off len sz ver:Nat):SV.fz n ks L (d+1) (.own (n+k) off len sz ver)=(match L[k]? with
     |some o =>
       match Qbf ks k with
       |some p=>if o.ver=ver then .own (n+p) off len sz 0 else .any
       |none=>if o.live=true/\o.ver=ver/\off+len*sz<=o.cells.length then .slc (((o.cells.drop off).take (len*sz)).map (SV.fz n ks L d)) len else .any
     |none=>.any):=by
 conv=>lhs; unfold SV.fz
 rw[Zm (by simp[SV.under])];have e:n+k-n=k:=by omega
 simp only[e]
 cases L[k]? with
 |none=>rfl
 |some o=>cases Qbf ks k<;>rfl
@[simp] theorem QFL (off len sz ver:Nat):SV.fz n ks L (d+1) (.own n off len sz ver)=(match L[0]? with
     |some o =>
       match Qbf ks 0 with
       |some p=>if o.ver=ver then .own (n+p) off len sz 0 else .any
       |none=>if o.live=true/\o.ver=ver/\off+len*sz<=o.cells.length then .slc (((o.cells.drop off).take (len*sz)).map (SV.fz n ks L d)) len else .any
     |none=>.any):=QxM n ks L d 0 off len sz ver
end
end Go.Ab
namespace Go.Ab
section
variable [QN] [QG] [Qr]
open Go.RowKit
def st0 (W:ZM):St:=⟨λ_=>none,[],W⟩
theorem sim0 (W:ZM) (hg:(st0 W).GL) (hk:Qr.kn=[]):Sim (st0 W) :=
 ⟨λi o h=>by simp[st0]at h,λi o h=>by simp[st0]at h,λi j o o' b h=>by simp[st0]at h,λi o h=>by simp[st0]at h,hg,λp hp=>by rw[hk]at hp; cases hp⟩
theorem rw0 (W:ZM) (k:Nat):¬ (st0 W).rw k:=by
 rintro⟨i,o,h,_⟩; simp[st0]at h
theorem Qxx {W W':ZM} {ρ:Nat->Option Nat} {H:ZG} (h:Ext 0 (st0 W) ⟨ρ,H,W'⟩):Below W.heap.size W W' :=
 ⟨h.os,h.tape,h.output,h.size,λk hk=>(h.imm k hk (rw0 W k)).1⟩
theorem Qw4 [QeV] {P:ZL} {f:ZN} {args:ZH} (h:Ok P f args [] (.ret (bl true)) []) {W:ZM} (hg:(st0 W).GL) {vs:ZI} (hv:VRs (st0 W) args vs) :
 Calls P f vs.toArray W λe W'=>e=.returned (.bool true)/\Below W.heap.size W W':=by
 refine(h.2 (st0 W) vs rfl (sim0 W hg QeV.nokn) hv).mono ?_;rintro e W' ⟨v,ρ',hext,_,rfl,hv⟩;refine⟨?_,Qxx hext⟩;have:=hv.isB rfl;rw[this]; rfl
end
section
variable [QN] [QG] [Qr] [QeV] [QfG]
open Go.ChangeShapes Go.WideShapes Go.RowKit
inductive Sh where
 |int (k:IntKind)
 |bool
 |str
 |sl (e:Sh)
 |st (l:List Sh)
inductive Dt where
 |int (k:IntKind) (n:Int)
 |bool (b:Bool)
 |str (s:ByteArray)
 |sl (l:List Dt)
 |agg (l:List Dt)
 deriving Inhabited
mutual
def Dt.cells:Dt->ZH
 |.int k n=>[.val (.int k n)]
 |.bool b=>[bl b]
 |.str s=>[Ab.st s]
 |.sl l=>[.slc (Dt.cellsL l) l.length]
 |.agg l=>Dt.cellsL l
def Dt.cellsL:List Dt->ZH
 |[]=>[]
 |d::r=>d.cells++Dt.cellsL r
end
def Dt.sv:Dt->SV
 |.agg l=>.agg (Dt.cellsL l)
 |d=>d.cells.headD .any
mutual
def Sh.has:Sh->Dt->Prop
 |.int k,d=>∃ n,d=.int k n/\(Lit.int k n).wf=true
 |.bool,d=>∃ b,d=.bool b
 |.str,d=>∃ s,d=.str s/\s.size<=maxLen
 |.sl e,d=>∃ l,d=.sl l/\l.length<=maxLen/\∀ x∈l,e.has x
 |.st l,d=>∃ m,d=.agg m/\Sh.hasL l m
def Sh.hasL:List Sh->List Dt->Prop
 |[],m=>m=[]
 |s::r,m=>∃ d m',m=d::m'/\s.has d/\Sh.hasL r m'
end
mutual
def Sh.chk (P:ZL):Sh->ZK->Bool
 |.int k,t=>match P.underlying t with|some (.int k')=>decide (k'=k)|_=>false
 |.bool,t=>match P.underlying t with|some .bool=>true|_=>false
 |.str,t=>match P.underlying t with|some .string=>true|_=>false
 |.sl e,t=>match P.underlying t with|some (.slice e')=>e.chk P e'|_=>false
 |.st l,t=>match P.underlying t with|some (.struct fs)=>Sh.chkL P l fs.toList 0 (P.cellsOf t)|_=>false
def Sh.chkL (P:ZL):List Sh->List Field->Nat->Nat->Bool
 |[],fs,off,tot=>fs.isEmpty&&off==tot
 |s::r,fs,off,tot=>match fs with|[]=>false|f::fs=>f.offset==off&&s.chk P f.type&&Sh.chkL P r fs (off+P.cellsOf f.type) tot
end
section
variable {H:Type} {enc:ZK×Value->H} {P:ZL} {W:ZM} {base:Nat} {spare:Nat->Bool} {held:Bool}
theorem Qrv (a b:List Dt):Dt.cellsL (a++b)=Dt.cellsL a++Dt.cellsL b:=by
 induction a with
 |nil=>rfl
 |cons x r ih=>simp[Dt.cellsL,ih]
theorem Qt7 {e:ZK} {sh:Sh} {n:Nat} {a:Addr} {elems:List (DataW H×List MemPlace)}
 (ih:∀ cs x,DataW.trod enc P W base spare held n e cs=some x->∃ d,sh.has d/\VRs (st0 W) d.cells cs) :
 ∀ k,k<=elems.length->(∀ i,i<k->(W.cells? base (a.add (i*P.cellsOf e)) (P.cellsOf e)).bind (DataW.trod enc P W base spare held n e)=elems[i]?) ->
  ∃ (ds:List Dt) (us:ZI),ds.length=k/\(∀ x∈ds,sh.has x)/\VRs (st0 W) (Dt.cellsL ds) us/\us.length=k*P.cellsOf e/\∀ j u,us[j]? = some u->W.cell? (a.add j)=some u:=by
 intro k
 induction k with
 |zero=>intro _ _; exact⟨[],[],rfl,by simp,VRs.nil _,by simp,by simp⟩
 |succ k ihk =>
  intro hk hel;obtain⟨ds,us,h1,h2,h3,h4,h5⟩:=ihk (by omega) (λi hi=>hel i (by omega));have h6:=hel k (by omega);rw[Vd (by omega),Option.bind_eq_some_iff]at h6;obtain⟨cs,hcs,ht⟩:=h6;obtain⟨d,hd,hv⟩:=ih cs _ ht;obtain⟨_,hlen,hc⟩:=World.cells?_some hcs;refine⟨ds++[d],us++cs,by simp[h1],?_,?_,?_,?_⟩
  . intro x hx;rcases Vq.1 hx with hx|hx
    . exact h2 x hx
    . simp at hx; subst hx; exact hd
  . rw[Qrv]; simpa[Dt.cellsL]using h3.append hv
  . simp[h4,hlen,Yj]
  . intro j u hj;by_cases hlt:j<us.length
    . rw[Vc hlt]at hj; exact h5 j u hj
    . rw[Vk (by omega)]at hj;have hj':j-us.length<cs.length:=Qj hj;have:=hc (j-us.length) (by omega);rw[hj,Qg3]at this;rw[<-this]; congr 2; omega
mutual
theorem read (sh:Sh):∀ {t:ZK} {fuel:Nat} {cs:ZI} {x:DataW H×List MemPlace},sh.chk P t=true->DataW.trod enc P W base spare held fuel t cs=some x ->
 ∃ d,sh.has d/\VRs (st0 W) d.cells cs:=by
 intro t fuel cs x hc h
 cases sh with
 |int k =>
  simp only[Sh.chk]at hc;split at hc
  . rename_i k' ht;have:k'=k:=by simpa using hc
    subst this;obtain⟨n,rfl,_,hw⟩:=DataW.trod_int ht h;exact⟨.int k' n,⟨n,rfl,hw⟩,VRs.cons (.val _) (VRs.nil _)⟩
  . cases hc
 |bool =>
  simp only[Sh.chk]at hc;split at hc
  . rename_i ht;obtain⟨b,rfl⟩:∃ b,cs=[.bool b]:=by
     cases fuel with
     |zero=>simp[DataW.trod]at h
     |succ n =>
      unfold DataW.trod at h;rw[ht]at h;split at h<;>simp_all
    exact⟨.bool b,⟨b,rfl⟩,VRs.cons (.val _) (VRs.nil _)⟩
  . cases hc
 |str =>
  simp only[Sh.chk]at hc;split at hc
  . rename_i ht;obtain⟨s,rfl,_,hs⟩:=DataW.trod_string ht h;exact⟨.str s,⟨s,rfl,hs⟩,VRs.cons (.val _) (VRs.nil _)⟩
  . cases hc
 |sl e =>
  simp only[Sh.chk]at hc;split at hc
  . rename_i e' ht;rcases DataW.trod_slice ht h with ⟨rfl,_⟩|⟨a,len,cap,elems,rest,n,_,rfl,_,hb,hl,hm,hlen,hel,_,_⟩
    . exact⟨.sl [],⟨[],rfl,by simp,by simp⟩,VRs.cons .nilslc (VRs.nil _)⟩
    . obtain⟨ds,us,h1,h2,h3,h4,h5⟩:=Qt7 (sh:=e) (λcs x hx=>read e hc hx) len (by omega) hel;refine⟨.sl ds,⟨ds,rfl,by omega,h2⟩,VRs.cons ?_ (VRs.nil _)⟩;have:ds.length=len:=h1;subst this;exact .slc _ _ a cap us hl h3.1 ⟨h5,λ_=>rw0 W _,λhf=>absurd (QfG.old.symm.trans hf) (by decide)⟩ h3.2
  . cases hc
 |st l =>
  simp only[Sh.chk]at hc;split at hc
  . rename_i fs ht;obtain⟨xs,n,_,_,hl,hlen,hf⟩:=DataW.trod_struct ht h;obtain⟨m,hm,hv⟩:=Qo6 l (n:=n) (cs:=cs) (fs:=fs.toList) (off:=0) (xs:=xs) hc (λi f hi=>by
     have hlt:i<xs.length:=by rw[hlen]; simpa using Qj hi
     refine⟨xs[i],?_⟩;rw[hf i f (by simpa using hi),Vd hlt]) hl
    exact⟨.agg m,⟨m,rfl,hm⟩,by rw[Dt.cells]; simpa using hv⟩
  . cases hc
theorem Qo6 (l:List Sh):∀ {n:Nat} {cs:ZI} {fs:List Field} {off tot:Nat} {xs:List (DataW H×List MemPlace)},Sh.chkL P l fs off tot=true ->
 (∀ (i:Nat) (f:Field),fs[i]? = some f->∃ x,DataW.trod enc P W base spare held n f.type ((cs.drop f.offset).take (P.cellsOf f.type))=some x)->cs.length=tot ->
 ∃ m,Sh.hasL l m/\VRs (st0 W) (Dt.cellsL m) (cs.drop off):=by
 intro n cs fs off tot xs hc hf hl
 cases l with
 |nil =>
  simp only[Sh.chkL,Va,List.isEmpty_iff,Zr]at hc;refine⟨[],rfl,?_⟩;rw[V1 (by omega)];exact VRs.nil _
 |cons s r =>
  simp only[Sh.chkL]at hc;split at hc
  . cases hc
  . rename_i f fs';simp only[Va,Zr]at hc;obtain⟨⟨h1,h2⟩,h3⟩:=hc;obtain⟨x,hx⟩:=hf 0 f rfl;obtain⟨d,hd,hv⟩:=read s h2 hx;obtain⟨m,hm,hv'⟩:=Qo6 r (n:=n) (cs:=cs) (fs:=fs') (xs:=xs) h3 (λi f hi=>hf (i+1) f (by simpa using hi)) hl;refine⟨d::m,⟨d,m,rfl,hd,hm⟩,?_⟩;have:=hv.append hv';rw[h1,<- List.drop_drop,Yk]at this;simpa[Dt.cellsL]using this
end
end
end
section
variable [QN] [QG] [Qr] [QeV] [QfG]
open Go.ChangeShapes Go.WideShapes Go.ChangeAt Go.RowKit
section
variable {H:Type} {enc:ZK×Value->H} {P:ZL} {W:ZM} {base b0:Nat} {spare:Nat->Bool} {held:Bool} {r:Reach}
theorem QqE (hl:laidOutB P=true) {W':ZM} (hb:Below W.heap.size W W'):∀ {ts:List ZK} {vs:ZI} {ds:List (DataW H)} {p:List MemPlace},
 (∀ t∈ts,P.readableRec t=true/\t<P.types.size)->DataW.TrodAll enc P W 0 (λ_=>true) true ts vs ds p->DataW.TrodAll enc P W' 0 (λb=>decide (b<W.heap.size)) true ts vs ds p
 |[],vs,ds,p,_,h=>by obtain⟨rfl,rfl,rfl⟩:=trodAll_nil h; exact trodAll_mk0
 |t::ts,vs,ds,p,hr,h=>by
  obtain⟨v,vs',d,ds',p,q,rfl,rfl,rfl,h1,h2⟩:=trodAll_cons h;have hlt:∀ x∈p,x.block<W.heap.size:=by obtain⟨m,hm⟩:=h1; exact DataW.trod_lt m _ _ _ hm
  exact trodAll_cons_mk (Below.trod hl (hr t (by simp)).1 (hr t (by simp)).2 h1 hb hlt) (QqE hl hb (λt ht=>hr t (by simp[ht])) h2)
theorem Qql:∀ {ts:List ZK} {vs:ZI} {ds:List (DataW H)} {p:List MemPlace},DataW.TrodAll enc P W base spare held ts vs ds p->ds.length=ts.length
 |[],vs,ds,p,h=>by obtain⟨rfl,rfl,rfl⟩:=trodAll_nil h; rfl
 |t::ts,vs,ds,p,h=>by
  obtain⟨v,vs',d,ds',p,q,rfl,rfl,rfl,h1,h2⟩:=trodAll_cons h;simp[Qql h2]
end
end
section
variable [QN] [QG] [Qr]
def SV.gv (k ver:Nat) (cs:ZH):Nat->SV->SV
 |0,s=>s
 |d+1,s =>
  match s with
  |.own i off len sz v=>if i=k/\v=ver/\off+len*sz<=cs.length then .slc ((cs.drop off).take (len*sz)) len else .own i off len sz v
  |.agg l=>.agg (l.map (SV.gv k ver cs d))
  |.tup l=>.tup (l.map (SV.gv k ver cs d))
  |s=>s
section
variable {S:St} {k:Nat} {o:AO}
theorem QrD (hS:Sim S) (ho:S.H[k]? = some o) (hl:o.live=true):∀ (d:Nat) (s:SV) (v:Value),VR S s v->VR ⟨S.ρ,S.H.set k o.dead,S.w⟩ (s.gv k o.ver o.cells d) v:=by
 have he:=QlL ho;intro d
 induction d with
 |zero=>intro s v h; exact h.ext he
 |succ d ih =>
  intro s v h;unfold SV.gv;split
  . rename_i i off len sz ver;split
    . rename_i hc;obtain⟨rfl,rfl,hlen⟩:=hc;obtain⟨ad,cap,rfl,hcap,hz,hat⟩:=h.own_inv ho rfl;have h1:=hS.live i o ho hl;unfold St.OwnAt at hat
      cases hρ:S.ρ i with
      |none =>
       rw[hρ]at hat;obtain⟨rfl,rfl⟩:=hat
       cases ad with
       |none=>simpa using VR.nilslc
       |some a =>
        simp only[Yi,Yn];exact .slc [] 0 a 0 [] hcap rfl ⟨λj u hj=>by simp at hj,λhne=>absurd rfl hne,Qgw⟩ λj s u hj=>by simp at hj
      |some b =>
       rw[hρ]at hat h1;obtain⟨us,rest,hh,hvr⟩:=h1;have hul:us.length=o.cells.length:=hvr.1;have him:(⟨S.ρ,S.H.set i o.dead,S.w⟩:St).Imm ⟨b,off,none⟩ ((us.drop off).take (len*sz)):=by
        refine⟨?_,?_,λ_ _=>.inl ⟨_,_,hh⟩⟩
        . intro j u hj;rw[VH]at hj;split at hj
          . rw[VP]at hj;have hadd:(⟨b,off,none⟩:Addr).add j=⟨b,off+j,none⟩:=by unfold Addr.add; split<;>simp_all
            rw[hadd];show S.w.cell? _=_;unfold World.cell?;simp only[hh,Ym,Vt,Zt];simp[Vc (Qj hj),hj]
          . cases hj
        . rintro hne ⟨j,p,hp,hpl,hpρ⟩;simp only at hp hpρ;by_cases hij:j=i
          . subst hij; rw[Vo (Qj ho)]at hp; cases hp; simp[AO.dead,AO.own]at hpl
          . rw[Vf (by omega)]at hp;exact hij (hS.inj j i p o b hp ho hpl (AO.own_live hl) hpρ hρ)
       have hvs:VRs (⟨S.ρ,S.H.set i o.dead,S.w⟩:St) ((o.cells.drop off).take (len*sz)) ((us.drop off).take (len*sz)):=((hvr.ext he).drop off).take (len*sz)
       cases ad with
       |none =>
        have h0:=hz rfl;subst h0;have hc0:cap=0:=by
         rcases hat with h2|⟨h2,_⟩
         . exact h2
         . cases h2
        subst hc0;simpa using VR.nilslc
       |some a =>
        rcases hat with h2|⟨h2,_⟩
        . have:len=0:=by omega
          subst this;simp only[Yi,Yn];exact .slc [] 0 a cap [] hcap rfl ⟨λj u hj=>by simp at hj,λhne=>absurd rfl hne,Qgw⟩ λj s u hj=>by simp at hj
        . cases h2
          exact .slc _ len _ cap _ hcap hvs.1 him hvs.2
    . exact h.ext he
  . cases h with
    |agg _ us hl h=>exact VR.of_agg (VRs.map (S:=S) (us:=us) ⟨hl,h⟩ ih)
  . cases h with
    |tup _ us hl h=>exact VR.of_tup (VRs.map (S:=S) (us:=us) ⟨hl,h⟩ ih)
  . exact h.ext he
end
@[simp] theorem QFu (o:AO):AO.dead o=⟨[],o.ty,o.ver+1,false⟩:=rfl
def AO.gv (k ver:Nat) (cs:ZH) (d:Nat) (p:AO):AO:={ p with cells:=p.cells.map (SV.gv k ver cs d) }
theorem QnI {k ver:Nat} {cs:ZH} {d:Nat} {p:AO} (h:(p.gv k ver cs d).own=true):p.own=true:=by
 simpa[AO.own,AO.gv]using h
theorem Qvd {k ver:Nat} {cs:ZH} {d:Nat} {s:SV} (h:s.isCell=true):(s.gv k ver cs d).isCell=true:=by
 cases d with
 |zero=>exact h
 |succ d =>
  unfold SV.gv;split
  . split
    . rfl
    . exact h
  . simp[SV.isCell]at h
  . simp[SV.isCell]at h
  . exact h
theorem QwQ {k ver n:Nat} {cs:ZH} (hn:n<=k):∀ (d:Nat) (s:SV),s.under n=true->s.gv k ver cs d=s:=by
 intro d
 induction d with
 |zero=>intro s _; rfl
 |succ d ih =>
  intro s h;have hm:∀ l:ZH,SV.underL n l=true->l.map (SV.gv k ver cs d)=l:=by
   intro l hl;rw[SV.underL_iff]at hl;have:l.map (SV.gv k ver cs d)=l.map id:=Ya λs hs=>ih s (hl s hs);simpa using this
  unfold SV.gv;split
  . simp only[SV.under,Zq]at h;rw[Zm (by omega)]
  . simp only[SV.under]at h; rw[hm _ h]
  . simp only[SV.under]at h; rw[hm _ h]
  . rfl
section
variable (k ver:Nat) (cs:ZH) (d:Nat)
@[simp] theorem QBy (s:SV):SV.gv k ver cs 0 s=s:=rfl
@[simp] theorem gv_i64 (n:Int):SV.gv k ver cs d (i64 n)=i64 n:=by cases d<;>rfl
@[simp] theorem gv_bl (b:Bool):SV.gv k ver cs d (bl b)=bl b:=by cases d<;>rfl
@[simp] theorem gv_st (s:ByteArray):SV.gv k ver cs d (st s)=st s:=by cases d<;>rfl
@[simp] theorem gv_val (v:Value):SV.gv k ver cs d (.val v)=.val v:=by cases d<;>rfl
@[simp] theorem Qo3:SV.gv k ver cs d .any=.any:=by cases d<;>rfl
@[simp] theorem gv_slc (l:ZH) (n:Nat):SV.gv k ver cs d (.slc l n)=.slc l n:=by cases d<;>rfl
@[simp] theorem gv_ptr (s:SV) (n:Nat):SV.gv k ver cs d (.ptr s n)=.ptr s n:=by cases d<;>rfl
@[simp] theorem gv_fn (f:Fn) (a b:ZH):SV.gv k ver cs d (.fn f a b)=.fn f a b:=by cases d<;>rfl
@[simp] theorem gv_gd (b:Bool) (x:SV):SV.gv k ver cs d (.gd b x)=.gd b x:=by cases d<;>rfl
@[simp] theorem gv_agg (l:ZH):SV.gv k ver cs (d+1) (.agg l)=.agg (l.map (SV.gv k ver cs d)):=rfl
@[simp] theorem gv_tup (l:ZH):SV.gv k ver cs (d+1) (.tup l)=.tup (l.map (SV.gv k ver cs d)):=rfl
@[simp] theorem gv_own (i off len sz v:Nat):SV.gv k ver cs (d+1) (.own i off len sz v)=if i=k/\v=ver/\off+len*sz<=cs.length then .slc ((cs.drop off).take (len*sz)) len else .own i off len sz v:=rfl
end
theorem Qug {k ver n:Nat} {cs:ZH} (hc:SV.underL n cs=true):∀ (d:Nat) (s:SV),s.under n=true->(s.gv k ver cs d).under n=true:=by
 intro d
 induction d with
 |zero=>intro s h; exact h
 |succ d ih =>
  intro s h;have hm:∀ l:ZH,SV.underL n l=true->SV.underL n (l.map (SV.gv k ver cs d))=true:=by
   intro l hl;rw[SV.underL_iff]at hl ⊢;intro s hs;obtain⟨t,ht,rfl⟩:=Vy.1 hs;exact ih t (hl t ht)
  unfold SV.gv;split
  . split
    . rw[SV.under,SV.underL_iff];rw[SV.underL_iff]at hc;intro s hs;exact hc s (YP (Ye hs))
    . exact h
  . simp only[SV.under]at h ⊢; exact hm _ h
  . simp only[SV.under]at h ⊢; exact hm _ h
  . exact h
section
variable {S:St} {H0 L:ZG} {k d:Nat} {o:AO}
def Qci (S:St) (H0 L:ZG) (k d:Nat) (o:AO):St:=⟨S.ρ,H0++(L.set k o.dead).map (AO.gv (H0.length+k) o.ver o.cells d),S.w⟩
theorem Qgm {i:Nat} {p:AO} (h:(Qci S H0 L k d o).H[i]? = some p) (ho:L[k]? = some o) :
 (i<H0.length/\H0[i]? = some p)\/(i=H0.length+k/\p=AO.gv (H0.length+k) o.ver o.cells d o.dead)\/(∃ p0 j,i=H0.length+j/\j≠k/\L[j]? = some p0/\p=AO.gv (H0.length+k) o.ver o.cells d p0):=by
 simp only[Qci]at h;by_cases hi:i<H0.length
 . rw[Vc hi]at h; exact .inl ⟨hi,h⟩
 . rw[Vk (by omega),Vp,VZ]at h;obtain⟨p0,h1,rfl⟩:=h;right;by_cases hk:i-H0.length=k
   . left;rw[hk,Vo (Qj ho)]at h1
     cases h1
     exact⟨by omega,rfl⟩
   . right;rw[Vf (by omega)]at h1;exact⟨p0,i-H0.length,by omega,hk,h1,rfl⟩
theorem QjV (hH:S.H=H0++L) (ho:L[k]? = some o):Ext S.H.length S (Qci S H0 L k d o) where
 obj:=by
  intro i p hi hp;rw[hH]at hp hi;by_cases hlt:i<H0.length
  . rw[Vc hlt]at hp;exact⟨p,by simp only[Qci]; rw[Vc hlt]; exact hp,Vb _,λ_=>rfl⟩
  . rw[Vk (by omega)]at hp;by_cases hk:i-H0.length=k
    . rw[hk,ho]at hp; cases hp
      refine⟨AO.gv (H0.length+k) o.ver o.cells d o.dead,?_,by simp[AO.gv,AO.dead],λ_=>rfl⟩;simp only[Qci];rw[Vk (by omega),Vp,hk,Vo (Qj ho)]; rfl
    . refine⟨AO.gv (H0.length+k) o.ver o.cells d p,?_,Vb _,λ_=>rfl⟩;simp only[Qci];rw[Vk (by omega),Vp,Vf (by omega),hp]; rfl
 imm:=by
  intro b hb hn;refine⟨rfl,?_⟩;rintro⟨i,p,hp,hl,hρ⟩;rcases Qgm hp ho with ⟨h1,h2⟩|⟨rfl,rfl⟩|⟨p0,j,rfl,h1,h2,rfl⟩
  . exact hn ⟨i,p,by rw[hH,Vc h1]; exact h2,hl,hρ⟩
  . simp[AO.gv,AO.dead,AO.own]at hl
  . exact hn ⟨H0.length+j,p0,by rw[hH,Vk (by omega)]; simpa using h2,QnI hl,hρ⟩
 size:=Vb _
 shape:=λ_ _ _ h=>h
 loops:=λ_ r h=>⟨r,h⟩
 os:=rfl
 tape:=rfl
 output:=rfl
theorem QmK (hS:Sim S) (hH:S.H=H0++L) (ho:L[k]? = some o) (hl:o.live=true) (s:SV) (v:Value) (h:VR S s v):VR (Qci S H0 L k d o) (s.gv (H0.length+k) o.ver o.cells d) v:=by
 have ho':S.H[H0.length+k]? = some o:=by rw[hH,Vk (by omega)]; simpa using ho
 have h1:=QrD hS ho' hl d s v h;refine h1.ext (S:=⟨S.ρ,S.H.set (H0.length+k) o.dead,S.w⟩) ?_;have hsz:(S.H.set (H0.length+k) o.dead).length=S.H.length:=by simp
 constructor
 . intro i p hi hp;simp only at hp hi;by_cases hik:i=H0.length+k
   . subst hik;rw[Vo (Qj ho')]at hp; cases hp
     refine⟨AO.gv (H0.length+k) o.ver o.cells d o.dead,?_,Vb _,λ_=>rfl⟩;simp only[Qci];rw[Vk (by omega),Vp,Zi,Vo (Qj ho)]; rfl
   . rw[Vf (by omega),hH]at hp;by_cases hlt:i<H0.length
     . rw[Vc hlt]at hp;exact⟨p,by simp only[Qci]; rw[Vc hlt]; exact hp,Vb _,λ_=>rfl⟩
     . rw[Vk (by omega)]at hp;refine⟨AO.gv (H0.length+k) o.ver o.cells d p,?_,Vb _,λ_=>rfl⟩;simp only[Qci];rw[Vk (by omega),Vp,Vf (by omega),hp]; rfl
 . intro b hb hn;refine⟨rfl,?_⟩;rintro⟨i,p,hp,hpl,hρ⟩;rcases Qgm hp ho with ⟨h1,h2⟩|⟨rfl,rfl⟩|⟨p0,j,rfl,h1,h2,rfl⟩
   . refine hn ⟨i,p,?_,hpl,hρ⟩;simp only;rw[Vf (by omega),hH,Vc h1]; exact h2
   . simp[AO.gv,AO.dead,AO.own]at hpl
   . refine hn ⟨H0.length+j,p0,?_,QnI hpl,hρ⟩;simp only;rw[Vf (by omega),hH,Vk (by omega)]; simpa using h2
 . exact Vb _
 . exact λ_ _ _ h=>h
 . exact λ_ r h=>⟨r,h⟩
 . rfl
 . rfl
 . rfl
theorem Qw2 (hS:Sim S) (hH:S.H=H0++L) (hcl:closed H0) (ho:L[k]? = some o) (hl:o.live=true):Sim (Qci S H0 L k d o):=by
 have ho':S.H[H0.length+k]? = some o:=by rw[hH,Vk (by omega)]; simpa using ho
 have hlen:(Qci S H0 L k d o).H.length=S.H.length:=by simp[Qci,hH]
 have at0:∀ {i:Nat} {p:AO},H0[i]? = some p->S.H[i]? = some p:=by
  intro i p h; rw[hH,Vc (Qj h)]; exact h
 have at1:∀ {j:Nat} {p:AO},L[j]? = some p->S.H[H0.length+j]? = some p:=by
  intro j p h; rw[hH,Vk (by omega)]; simpa using h
 constructor
 . intro i p hp hpl;have key:∀ (p0:AO),S.H[i]? = some p0->p0.live=true->p.ty=p0.ty->(p.cells=p0.cells.map (SV.gv (H0.length+k) o.ver o.cells d)) ->
    match S.ρ i with
    |none=>p.cells=[]
    |some b=>∃ us rest,S.w.heap[b]? = some (.cells (us++rest).toArray p.ty (0,0))/\VRs (Qci S H0 L k d o) p.cells us:=by
    intro p0 h0 h0l hty hce;have h1:=hS.live i p0 h0 h0l
    cases hρ:S.ρ i with
    |none=>rw[hρ]at h1; simp only at h1 ⊢; rw[hce,h1]; rfl
    |some b =>
     rw[hρ]at h1;obtain⟨us,rest,h2,h3⟩:=h1;exact⟨us,rest,by rw[hty]; exact h2,by rw[hce]; exact h3.map λs v h=>QmK hS hH ho hl s v h⟩
   show match S.ρ i with
    |none=>p.cells=[]
    |some b=>∃ us rest,S.w.heap[b]? = some (.cells (us++rest).toArray p.ty (0,0))/\VRs (Qci S H0 L k d o) p.cells us
   rcases Qgm hp ho with ⟨h1,h2⟩|⟨rfl,rfl⟩|⟨p0,j,rfl,h1,h2,rfl⟩
   . refine key p (at0 h2) hpl rfl ?_;have:p.cells.map (SV.gv (H0.length+k) o.ver o.cells d)=p.cells.map id:=Ya λs hs=>QwQ (Nat.le_add_right _ _) d s (hcl i p h2 s hs);rw[this]; simp
   . simp[AO.gv,AO.dead]at hpl
   . exact key p0 (at1 h2) hpl rfl rfl
 . intro i p hp s hs;rw[hlen];rcases Qgm hp ho with ⟨h1,h2⟩|⟨rfl,rfl⟩|⟨p0,j,rfl,h1,h2,rfl⟩
   . exact hS.bel i p (at0 h2) s hs
   . simp[AO.gv,AO.dead]at hs
   . simp only[AO.gv,Vy]at hs;obtain⟨t,ht,rfl⟩:=hs;have h3:=hS.bel _ p0 (at1 h2) t ht;refine⟨Qug ?_ d t h3.1,λhl=>Qvd (h3.2 hl)⟩;rw[SV.underL_iff];exact λu hu=>(hS.bel _ o ho' u hu).1
 . intro i j p q b hi hj hil hjl hρi hρj;have key:∀ {i:Nat} {p:AO},(Qci S H0 L k d o).H[i]? = some p->p.own=true->∃ p0,S.H[i]? = some p0/\p0.own=true:=by
    intro i p hp hpl;rcases Qgm hp ho with ⟨h1,h2⟩|⟨rfl,rfl⟩|⟨p0,j,rfl,h1,h2,rfl⟩
    . exact⟨p,at0 h2,hpl⟩
    . simp[AO.gv,AO.dead,AO.own]at hpl
    . exact⟨p0,at1 h2,QnI hpl⟩
   obtain⟨p0,h1,h2⟩:=key hi hil;obtain⟨q0,h3,h4⟩:=key hj hjl;exact hS.inj i j p0 q0 b h1 h3 h2 h4 hρi hρj
 . intro i p hp hl' hne;rcases Qgm hp ho with ⟨h1,h2⟩|⟨rfl,rfl⟩|⟨p0,j,rfl,h1,h2,rfl⟩
   . obtain⟨l,x,m,us,env,k1,k2,k3,k4,k6⟩:=hS.lp i p (at0 h2) hl' hne;exact⟨l,x,m,us,env,k1,k2,k3,k4,k6.ext (QjV hH ho)⟩
   . exact absurd rfl hne
   . have hne':p0.cells≠[]:=λe=>hne (by simp[AO.gv,e]);obtain⟨l,x,m,us,env,k1,k2,k3,k4,k6⟩:=hS.lp _ p0 (at1 h2) hl' hne';have hm:SV.gv (H0.length+k) o.ver o.cells d m=m:=by
      cases m<;>first|(simp[SpR]at k4; done)|(cases d<;>rfl)
     refine⟨l,x,m,us,env.map (SV.gv (H0.length+k) o.ver o.cells d),k1,?_,k3,k4,k6.map λs v h=>QmK hS hH ho hl s v h⟩;simp only[AO.gv,k2,Vn,hm]
 . exact hS.gl.ext (QjV hH ho)
 . exact hS.kf.ext (QjV hH ho)
theorem Qos (e:Env) (f:SV->SV) (hf:f .any=.any) (t:Nat):Env.get (e.map λp=>(p.1,f p.2)) t=f (e.get t):=by
 induction e with
 |nil=>exact hf.symm
 |cons p r ih =>
  obtain⟨k,v⟩:=p;simp only[Vn,Env.get];split
  . rfl
  . exact ih
end
attribute [simp] AO.gv
@[simp] theorem dep_q (f:Od) (args:List Od):J.dep (.q f args)=true:=rfl
attribute [simp] List.filter_cons
end
section
variable [QN] [QG] [Qr]
section
variable {P:ZL} {N:Nat} {D:Array Oper->List Nat->List Ins->Bool}
def QeY (n i:Nat):Nat:=n+i
@[simp] theorem rs_p (n:Nat) (d:Option Nat) (g:Option (Nat×Bool)) (i:I):Ins.rs n ⟨d,g,.p i⟩=⟨d,g,.p i⟩:=rfl
@[simp] theorem rs_q (n:Nat) (d:Option Nat) (g:Option (Nat×Bool)) (f:Od) (as:List Od):Ins.rs n ⟨d,g,.q f as⟩=⟨d,g,.q f as⟩:=rfl
@[simp] theorem rs_e (n:Nat) (d:Option Nat) (g:Option (Nat×Bool)) (i:E):Ins.rs n ⟨d,g,.e i⟩=⟨d,g,.e (i.rs n)⟩:=rfl
@[simp] theorem rs_st (n m:Nat) (p x:Od):E.rs n (.st m p x)=.st m p x:=rfl
@[simp] theorem rs_stw (n m:Nat) (ws:List Nat) (p x:Od):E.rs n (.stw ws m p x)=.stw ws m p x:=rfl
@[simp] theorem rs_app (n:Nat) (T:ZK) (sz b:Nat) (s x:Od):E.rs n (.app T sz b s x)=.app T sz b s x:=rfl
@[simp] theorem rs_aps (n:Nat) (T:ZK) (s x:Od):E.rs n (.aps T s x)=.aps T s x:=rfl
@[simp] theorem QGn (n:Nat) (f:Od) (as:List Od):E.rs n (.call f as)=.call f as:=rfl
@[simp] theorem rs_alc (n:Nat) (T:ZK) (z:ZH):E.rs n (.alc T z)=.alc T z:=rfl
@[simp] theorem rs_box (n:Nat) (T:ZK) (x:Od):E.rs n (.box T x)=.box T x:=rfl
def xdl (P:ZL) (l:List Ins) (env:Env) (H:ZG) (K:ZF):Prop:=xd P [] l env H K
@[congr] theorem QCM {l l':List Ins} {env:Env} {H:ZG} {K:ZF} (h:Ev l=l'):xdl P l env H K=xdl P l' env H K:=by rw[QR h]
@[simp] theorem xdl_go (l:List Ins) (env:Env) (H:ZG) (K:ZF):xdl P l env H K=xd P [] l env H K:=rfl
def Qjf (P:ZL) (l:List Ins) (n:Nat) (env:Env) (H:ZG) (K:ZF):Prop:=xdl P (l.map (Ins.rs n)) env H K
@[congr] theorem QCx {l:List Ins} {n n':Nat} {env:Env} {H H':ZG} {K:ZF} (h:Ev n=n') (h2:Ev H=H'):Qjf P l n env H K=Qjf P l n' env H' K:=by rw[QR h,QR h2]
@[simp] theorem QD0 (l:List Ins) (n:Nat) (env:Env) (H:ZG) (K:ZF):Qjf P l n env H K=xdl P (l.map (Ins.rs n)) env H K:=rfl
@[simp ↓] theorem X_drq (Ts:List ZK) (n0:Nat) (m:List Nat) (l:List Ins) (os:List (List Nat)) (tl:List Ins) (env:Env) (H:ZG) (K:ZF):X P N D (.drq Ts n0 m l os tl) env H K=Qjf P l H.length env (H++Qcz Ts) λx env H' =>
 match x with
 |.normal=>xrt P n0 tl os env H' λx e H=>K x (e.keep (Qho tl env)) H
 |x=>K x env H':=rfl
@[simp] theorem QGh:Qcz []=[]:=rfl
@[simp] theorem QE9 (T:ZK) (r:List ZK):Qcz (T::r)=⟨[],T,0,false⟩::Qcz r:=rfl
end
@[simp] theorem QGb (H:ZG) (k:Nat):H.length+k+1=H.length+(k+1):=rfl
@[simp] theorem QGz (T:ZK) (sz bytes:Nat) (x:SV) (H:ZG) (K:SV->ZG->Prop):Qf5 T sz bytes (.val (.slice none 0 0)) x H K=(x.vd=true/\x.ug.isSl=true/\x.ug.slen*sz<=(x.ug.row H).length/\QC (x.ug.els H sz) /\
     x.ug.slen*bytes<=140737488355328/\x.ug.slen<=140737488355328/\Ke K (.own H.length 0 x.ug.slen sz 1) (H++[⟨x.ug.els H sz,T,1,true⟩])):=by
 simp[Qf5,SV.vd,SV.ug,SV.slen,SV.isNil,Ke]
section
variable (n:Nat) (L:ZG) (d:Nat)
@[simp] theorem QAN (k off len sz ver p:Nat):SV.fz n [] L (d+1) (.ptr (.own (n+k) off len sz ver) p)=(match L[k]? with
     |some o=>if o.live=true/\o.ver=ver/\off<o.cells.length then .ptr (.slc ((o.cells.drop off).map (SV.fz n [] L d)) 0) p else .any
     |none=>.any):=by
 conv=>lhs; unfold SV.fz
 rw[Zm (by simp[SV.under])];have e:n+k-n=k:=by omega
 simp only[e]
 cases L[k]? with
 |none=>rfl
 |some o=>rfl
@[simp] theorem QEw (off len sz ver p:Nat):SV.fz n [] L (d+1) (.ptr (.own n off len sz ver) p)=(match L[0]? with
     |some o=>if o.live=true/\o.ver=ver/\off<o.cells.length then .ptr (.slc ((o.cells.drop off).map (SV.fz n [] L d)) 0) p else .any
     |none=>.any):=QAN n L d 0 off len sz ver p
end
end
section
variable [QN] [QG] [Qr]
section
variable {P:ZL} {N:Nat}
def Rg (P:ZL) (N:Nat) (D:Array Oper->List Nat->List Ins->Bool) (kk:Nat) (ps:List Nat) (ia ib:IC) (f:SV) (env:Env) (H:ZG) (K:ZF):Prop :=
 f.vd=true/\match f.ug with
  |.fn (.func k) first cap=>∃ Pt:Out->ZG->Prop,OkP P k (first++[.yl H.length]++cap) (H++[lpo P N D kk ps ia ib (env.vals N) .ready]) Pt /\
   ∀ out H',Pt out H'->match out with
    |.ret _=>∃ k' ok st cs,H'[H.length]? = some ⟨.lp k' ok st::cs,0,0,false⟩/\st.out K env (H'.set H.length Qfv)
    |.pan x=>K (.panic x) env H'
  |_=>False
@[congr] theorem QEj {D:Array Oper->List Nat->List Ins->Bool} {kk:Nat} {ps:List Nat} {ia ib:IC} {f f':SV} {env env':Env} {H H':ZG} {K:ZF} (h1:Ev f=f') (h2:Ev env=env') (h3:Ev H=H') :
 Rg P N D kk ps ia ib f env H K=Rg P N D kk ps ia ib f' env' H' K:=by rw[QR h1,QR h2,QR h3]
@[simp ↓] theorem X_rng (D:Array Oper->List Nat->List Ins->Bool) (kk:Nat) (g:Od) (ps:List Nat) (ia ib:IC) (env:Env) (H:ZG) (K:ZF):X P N D (.rng kk g ps ia ib) env H K=Rg P N D kk ps ia ib (env.ev g) env H K:=rfl
theorem Qsw {kk:Nat} {ps:List Nat} {ia ib:IC} {k:ZN} {first cap:ZH} {env:Env} {H:ZG} {K:ZF} {Pt:Out->ZG->Prop}
 (h:OkP P k (first++[.yl H.length]++cap) (H++[lpo P N Qf kk ps ia ib (env.vals N) .ready]) Pt)
 (hk:∀ out H',Pt out H'->match out with
  |.ret _=>∃ st cs,H'[H.length]? = some (lpo P N Qf kk ps ia ib cs st)/\st.out K env (H'.set H.length Qfv)
  |.pan x=>K (.panic x) env H'):Rg P N Qf kk ps ia ib (.fn (.func k) first cap) env H K:=⟨rfl,Pt,h,λout H' hp=>by
 have:=hk out H' hp
 cases out with
 |ret r=>obtain⟨st,cs,h1,h2⟩:=this; exact⟨_,_,st,cs,h1,h2⟩
 |pan x=>exact this⟩
theorem QoC {i:Nat} {args:ZH} {H:ZG} {Pt:Out->ZG->Prop} {K:Out->ZG->Prop} (h:YlP P i args H Pt) (hk:∀ out H',Pt out H'->K out H'):QdS P (.yl i) args H K :=
 ⟨Pt,⟨rfl,h⟩,hk⟩
theorem YlP.mono {i:Nat} {args:ZH} {H:ZG} {Pt Pt':Out->ZG->Prop} (h:YlP P i args H Pt) (hk:∀ out H',Pt out H'->Pt' out H'):YlP P i args H Pt':=by
 refine⟨h.1,λS vs l h1 h2 h3 h4 => ?_⟩;obtain⟨r,k1,k2,k3⟩:=h.2 S vs l h1 h2 h3 h4;exact⟨r,k1,k2,k3.mono λe w' ⟨out,H',v,ρ',h5,h6⟩=>⟨out,H',v,ρ',hk _ _ h5,h6⟩⟩
attribute [simp] Env.puts LSt.out
end
end
section
variable [QN] [QG] [Qr]
section
variable {S:St} {H0 H1 L:ZG} {ks:List Nat} {d:Nat}
structure Qds (H0 H1 L:ZG) (ks:List Nat) (d:Nat):Prop where
 len:H1.length=H0.length
 cell:∀ (i:Nat) (o':AO),H1[i]? = some o'->(H0[i]? = some o'/\∀ s∈o'.cells,s.under H0.length=true) \/
  (∃ o k,H0[i]? = some o/\o.live=true/\o'=⟨(o.cells.map (SV.fz H0.length ks L d)).take k,o.ty,o.ver,true⟩/\QC o'.cells)
def Qa3 (S:St) (H0 H1 L:ZG) (ks:List Nat) (d:Nat):St:=⟨QcA S H0.length ks,H1++Qeo H0.length ks L d,S.w⟩
theorem Qds.up (hz:Qds H0 H1 L ks d) {i:Nat} {o:AO} (h:H0[i]? = some o):∃ o',H1[i]? = some o'/\o'.ver=o.ver/\o'.own=o.own/\o'.ty=o.ty:=by
 have hi:i<H1.length:=by rw[hz.len]; exact Qj h
 have h1:H1[i]? = some H1[i]:=Vd hi;rcases hz.cell i _ h1 with ⟨h2,_⟩|⟨o2,_,h2,h3,h4,_⟩
 . rw[h]at h2; cases h2
   exact⟨_,h1,rfl,rfl,rfl⟩
 . rw[h]at h2; cases h2
   refine⟨_,h1,by rw[h4],?_,by rw[h4]⟩;rw[h4,AO.own_live h3]; exact AO.own_live rfl
theorem Qqp (hz:Qds H0 H1 L ks d) {i:Nat} {o':AO} (h:(Qa3 S H0 H1 L ks d).H[i]? = some o'):∃ o,(Qa0 S H0 L ks d).H[i]? = some o/\o.ver=o'.ver/\o.own=o'.own/\o.ty=o'.ty:=by
 simp only[Qa3]at h;simp only[Qa0];by_cases hi:i<H0.length
 . rw[Vc (by rw[hz.len]; exact hi)]at h;rw[Vc hi];obtain⟨o2,h1,h2,h3,h4⟩:=hz.up (Vd hi);rw[h]at h1; cases h1
   exact⟨_,Vd hi,h2.symm,h3.symm,h4.symm⟩
 . rw[Vk (by rw[hz.len]; omega),hz.len]at h;rw[Vk (by omega)];exact⟨_,h,rfl,rfl,rfl⟩
theorem Qmj (hz:Qds H0 H1 L ks d):Ext (Qa0 S H0 L ks d).H.length (Qa0 S H0 L ks d) (Qa3 S H0 H1 L ks d) where
 obj:=by
  intro i o hi ho;have hl:(Qa3 S H0 H1 L ks d).H.length=(Qa0 S H0 L ks d).H.length:=by simp[Qa3,Qa0,hz.len]
  have h1:(Qa3 S H0 H1 L ks d).H[i]? = some ((Qa3 S H0 H1 L ks d).H[i]'(by omega)):=Vd _;obtain⟨o2,h2,h3,_⟩:=Qqp hz h1;rw[ho]at h2; cases h2
  exact⟨_,h1,by omega,λ_=>rfl⟩
 imm:=by
  refine λk _ hnr=>⟨rfl,?_⟩;rintro⟨i,o,ho,hl,hρ⟩;obtain⟨o2,h2,h3,h4,_⟩:=Qqp hz ho;exact hnr ⟨i,o2,h2,by rw[h4]; exact hl,hρ⟩
 size:=Vb _
 shape:=λ_ _ _ h=>h
 loops:=λ_ r h=>⟨r,h⟩
 os:=rfl
 tape:=rfl
 output:=rfl
theorem Qlj (hsim:Sim S) (hS:S.H=H0++L) (hz:Qds H0 H1 L ks d) (hk:Qcn H0.length ks L d ks) (s:SV) (v:Value) (h:VR S s v):VR (Qa3 S H0 H1 L ks d) (s.fz H0.length ks L d) v :=
 (Qmy hsim hS hk d (Vb _) s v h).ext (Qmj hz)
theorem QkP (hz:Qds H0 H1 L ks d) (hk:Qcn H0.length ks L d ks) {i:Nat} {o:AO} (h:(Qa3 S H0 H1 L ks d).H[i]? = some o) :
 (i<H0.length/\(Qa3 S H0 H1 L ks d).ρ i=S.ρ i/\((H0[i]? = some o/\∀ s∈o.cells,s.under H0.length=true) \/
  ∃ o' k,H0[i]? = some o'/\o'.live=true/\o=⟨(o'.cells.map (SV.fz H0.length ks L d)).take k,o'.ty,o'.ver,true⟩/\QC o.cells)) \/
 (∃ p k o',i=H0.length+p/\ks[p]? = some k/\L[k]? = some o'/\o'.live=true/\QC o.cells /\
  o={ cells:=o'.cells.map (SV.fz H0.length ks L d),ty:=o'.ty,ver:=0,live:=true }/\(Qa3 S H0 H1 L ks d).ρ i=S.ρ (H0.length+k)):=by
 by_cases hi:i<H0.length
 . simp only[Qa3]at h;rw[Vc (by rw[hz.len]; exact hi)]at h;exact .inl ⟨hi,by simp[Qa3,QcA,hi],hz.cell i o h⟩
 . have h':(Qa0 S H0 L ks d).H[i]? = some o:=by
    simp only[Qa3]at h;rw[Vk (by rw[hz.len]; omega),hz.len]at h;simp only[Qa0];rw[Vk (by omega)]; exact h
   rcases Qf4 hk h' with ⟨h1,_⟩|h1
   . exact absurd h1 hi
   . exact .inr h1
theorem Quo (hsim:Sim S) (hS:S.H=H0++L) (hz:Qds H0 H1 L ks d) (hk:Qcn H0.length ks L d ks):Sim (Qa3 S H0 H1 L ks d):=by
 have hat:∀ {i:Nat} {o:AO},H0[i]? = some o->S.H[i]? = some o:=λh=>by rw[hS,Vc (Qj h)]; exact h
 have hext:Ext H0.length S (Qa3 S H0 H1 L ks d):=(QfI hS hk).trans ((Qmj hz).mono (by simp[Qa0]));have hlive:∀ (i:Nat) (o:AO),(Qa3 S H0 H1 L ks d).H[i]? = some o->o.live=true ->
  match (Qa3 S H0 H1 L ks d).ρ i with
  |none=>o.cells=[]
  |some b=>∃ us rest,S.w.heap[b]? = some (.cells (us++rest).toArray o.ty (0,0))/\VRs (Qa3 S H0 H1 L ks d) o.cells us:=by
  intro i o ho hl;rcases QkP (S:=S) hz hk ho with ⟨h1,h2,⟨h3,h4⟩|⟨o',m,h3,h4,rfl,h5⟩⟩|⟨p,k,o',rfl,h1,h2,h3,_,rfl,h5⟩
  . rw[h2];have h6:=hsim.live i o (hat h3) hl
    cases hρ:S.ρ i with
    |none=>rw[hρ]at h6; exact h6
    |some b =>
     rw[hρ]at h6;obtain⟨us,rest,h7,h8⟩:=h6;exact⟨us,rest,h7,h8.extB hext ((SV.underL_iff _ _).2 h4)⟩
  . rw[h2];have h6:=hsim.live i o' (hat h3) h4
    cases hρ:S.ρ i with
    |none=>rw[hρ]at h6; simp only; rw[h6]; simp
    |some b =>
     rw[hρ]at h6;obtain⟨us,rest,h7,h8⟩:=h6;refine⟨us.take m,us.drop m++rest,?_,(h8.map (Qlj hsim hS hz hk)).take m⟩;rw[<-Vz,Yk]; exact h7
  . rw[h5];have h4:=hsim.live (H0.length+k) o' (by rw[hS,Vk (by omega)]; simpa using h2) h3
    cases hρ:S.ρ (H0.length+k)with
    |none=>rw[hρ]at h4; simp only; rw[h4]; rfl
    |some b =>
     rw[hρ]at h4;obtain⟨us,rest,h6,h7⟩:=h4;exact⟨us,rest,h6,h7.map (Qlj hsim hS hz hk)⟩
 have hlen:H0.length<=(Qa3 S H0 H1 L ks d).H.length:=by simp[Qa3,hz.len]
 have hbel:∀ (i:Nat) (o:AO),(Qa3 S H0 H1 L ks d).H[i]? = some o->o.live=true->∀ s∈o.cells,s.under (Qa3 S H0 H1 L ks d).H.length=true:=by
  intro i o ho hl s hs;have h8:=hlive _ _ ho hl;split at h8
  . rw[h8]at hs; cases hs
  . obtain⟨us,rest,h9,h10⟩:=h8;obtain⟨j,hj⟩:=Vw hs;obtain⟨u,_,h11⟩:=h10.get hj;exact h11.under
 refine⟨hlive,?_,?_,?_,hsim.gl.ext hext,hsim.kf.ext hext⟩
 . intro i o ho s hs;rcases QkP (S:=S) hz hk ho with ⟨h1,h2,⟨h3,h4⟩|⟨o',m,h3,h4,h6,h5⟩⟩|⟨p,k,o',h0,h1,h2,h3,h6,h7,h5⟩
   . exact⟨SV.under_mono hlen s (h4 s hs),(hsim.bel i o (hat h3) s hs).2⟩
   . exact⟨hbel i o ho (by rw[h6]) s hs,λ_=>h5 s hs⟩
   . exact⟨hbel i o ho (by rw[h7]) s hs,λ_=>h6 s hs⟩
 . intro i j o o' b hi hj hl hl' hρ hρ';have key:∀ {i:Nat} {o:AO},(Qa3 S H0 H1 L ks d).H[i]? = some o->o.own=true->∃ i0 o0,S.H[i0]? = some o0/\o0.own=true/\(Qa3 S H0 H1 L ks d).ρ i=S.ρ i0/\((i<H0.length/\i0=i)\/∃ p k,i=H0.length+p/\ks[p]? = some k/\i0=H0.length+k):=by
    intro i o ho hl;rcases QkP (S:=S) hz hk ho with ⟨h1,h2,⟨h3,h4⟩|⟨o',m,h3,h4,h6,h5⟩⟩|⟨p,k,o',rfl,h1,h2,h3,_,rfl,h5⟩
    . exact⟨i,o,hat h3,hl,h2,.inl ⟨h1,rfl⟩⟩
    . exact⟨i,o',hat h3,AO.own_live h4,h2,.inl ⟨h1,rfl⟩⟩
    . exact⟨H0.length+k,o',by rw[hS,Vk (by omega)]; simpa using h2,AO.own_live h3,h5,.inr ⟨p,k,rfl,h1,rfl⟩⟩
   obtain⟨i0,o0,a1,a2,a3,a4⟩:=key hi hl;obtain⟨j0,o1,b1,b2,b3,b4⟩:=key hj hl';have e:=hsim.inj i0 j0 o0 o1 b a1 b1 a2 b2 (by rw[<-a3]; exact hρ) (by rw[<-b3]; exact hρ');rcases a4 with ⟨a4,rfl⟩|⟨p,k,rfl,a4,rfl⟩<;>rcases b4 with ⟨b4,rfl⟩|⟨q,k',rfl,b4,rfl⟩
   . exact e
   . omega
   . omega
   . have:k=k':=by omega
     subst this;rw[Qln hk a4 b4]
 . intro i o ho hl hne;rcases QkP (S:=S) hz hk ho with ⟨h1,h2,⟨h3,h4⟩|⟨o',m,h3,h4,rfl,h5⟩⟩|⟨p,k,o',rfl,h1,h2,h3,h6,rfl,h5⟩
   . obtain⟨l,x,m,us,env,k1,k2,k3,k4,k6⟩:=hsim.lp i o (hat h3) hl hne;rw[k2]at h4;exact⟨l,x,m,us,env,h2.trans k1,k2,k3,k4,k6.extB hext ((SV.underL_iff _ _).2 λs hs=>h4 s (by simp[hs]))⟩
   . cases hl
   . cases hl
theorem Qto {n0:Nat} {Hx:ZG} {r:SV} (d:Nat) (ks:List Nat) (h:Hx=H0++L) (hn:n0<=H0.length) (hz:Qds H0 H1 L ks d) (hk:Qcn H0.length ks L d ks) :
 Cv n0 r Hx (r.fz H0.length ks L d) (H1++Qeo H0.length ks L d):=by
 intro S v hS hsim hv;subst h;exact⟨_,((QfI hS hk).trans ((Qmj hz).mono (by simp[Qa0]))).mono hn,Quo hsim hS hz hk,Qlj hsim hS hz hk r v hv⟩
theorem Qui {n0:Nat} {Hx:ZG} {r:SV} (d:Nat) (h:Hx=H0++L) (hn:n0<=H0.length) (hz:Qds H0 H1 L [] d):Cv n0 r Hx (r.fz H0.length [] L d) H1:=by
 have:=Qto (r:=r) d [] h hn hz Zo;simpa[Qeo]using this
end
theorem OkP.give {P:ZL} {f:ZN} {args:ZH} {H:ZG} {Pt:Out->ZG->Prop} (k:Nat) (d:Nat) {o:AO} (ho:H[k]? = some o) (hl:o.live=true)
 (h:OkP P f (args.map (SV.gv k o.ver o.cells d)) (H.set k o.dead) Pt):OkP P f args H Pt:=by
 refine⟨h.1,?_⟩;intro S vs hH hS hvs;subst hH;have h1:=h.2 ⟨S.ρ,S.H.set k o.dead,S.w⟩ vs rfl (QuJ hS ho) (hvs.map (QrD hS ho hl d));refine h1.mono ?_;rintro en w' ⟨out,H',v,ρ',hp,hext,hsim,hout⟩;exact⟨out,H',v,ρ',hp,(QlL ho).trans (hext.mono (by simp)),hsim,hout⟩
section
variable {S:St}
theorem Qgv {j:Nat} {o:AO} (ho:S.H[j]? = some o) (hl:o.live=true) (cs:ZH):Ext S.H.length S ⟨S.ρ,S.H.set j ⟨cs,o.ty,o.ver,true⟩,S.w⟩ where
 obj:=by
  intro i p hi hp;by_cases e:i=j
  . subst e; rw[ho]at hp; cases hp
    exact⟨⟨cs,o.ty,o.ver,true⟩,by show(S.H.set i _)[i]? = _; rw[Vo hi],Vb _,λ_=>rfl⟩
  . exact⟨p,by show(S.H.set j _)[i]? = _; rw[Vf (by omega)]; exact hp,Vb _,λ_=>rfl⟩
 imm:=by
  refine λk _ hnr=>⟨rfl,?_⟩;rintro⟨i,p,hp,hw,hρ⟩;by_cases e:i=j
  . subst e;exact hnr ⟨i,o,ho,AO.own_live hl,hρ⟩
  . refine hnr ⟨i,p,?_,hw,hρ⟩;have hp':(S.H.set j ⟨cs,o.ty,o.ver,true⟩)[i]? = some p:=hp;rw[Vf (by omega)]at hp'; exact hp'
 size:=Vb _
 shape:=λ_ _ _ h=>h
 loops:=λ_ r h=>⟨r,h⟩
 os:=rfl
 tape:=rfl
 output:=rfl
def St.lies (S:St) (j:Nat) (T:ZK) (us:ZI):Prop:=match S.ρ j with
 |none=>us=[]
 |some b=>∃ rest,S.w.heap[b]? = some (.cells (us++rest).toArray T (0,0))
theorem QnF (hS:Sim S) {j:Nat} {o:AO} (ho:S.H[j]? = some o) (hl:o.live=true) {cs:ZH} (hok:QC cs) (hc:∀ us,S.lies j o.ty us->VRs S o.cells us->∃ k,VRs S cs (us.take k)) :
 Sim ⟨S.ρ,S.H.set j ⟨cs,o.ty,o.ver,true⟩,S.w⟩:=by
 have he:=Qgv ho hl cs;have hat:∀ {i:Nat} {p:AO},(S.H.set j ⟨cs,o.ty,o.ver,true⟩)[i]? = some p->(i=j/\p=⟨cs,o.ty,o.ver,true⟩)\/(i≠j/\S.H[i]? = some p):=by
  intro i p hp;by_cases e:i=j
  . subst e; rw[Vo (Qj ho)]at hp; cases hp; exact .inl ⟨rfl,rfl⟩
  . rw[Vf (by omega)]at hp; exact .inr ⟨e,hp⟩
 have hlive:∀ (i:Nat) (p:AO),(S.H.set j ⟨cs,o.ty,o.ver,true⟩)[i]? = some p->p.live=true ->
  match S.ρ i with
  |none=>p.cells=[]
  |some b=>∃ us rest,S.w.heap[b]? = some (.cells (us++rest).toArray p.ty (0,0))/\VRs ⟨S.ρ,S.H.set j ⟨cs,o.ty,o.ver,true⟩,S.w⟩ p.cells us:=by
  intro i p hp hpl;rcases hat hp with ⟨rfl,rfl⟩|⟨hne,hp⟩
  . have h1:=hS.live i o ho hl
    cases hρ:S.ρ i with
    |none =>
     rw[hρ]at h1;obtain⟨k,h2⟩:=hc [] (by unfold St.lies; rw[hρ]) (by rw[h1]; exact VRs.nil S);exact VJ (by have:=h2.1; simpa using this.symm)
    |some b =>
     rw[hρ]at h1;obtain⟨us,rest,h2,h3⟩:=h1;obtain⟨k,h4⟩:=hc us (by unfold St.lies; rw[hρ]; exact⟨rest,h2⟩) h3;refine⟨us.take k,us.drop k++rest,?_,h4.ext he⟩;rw[<-Vz,Yk]; exact h2
  . have h1:=hS.live i p hp hpl
    cases hρ:S.ρ i with
    |none=>rw[hρ]at h1; exact h1
    |some b =>
     rw[hρ]at h1;obtain⟨us,rest,h2,h3⟩:=h1;exact⟨us,rest,h2,h3.ext he⟩
 refine⟨hlive,?_,?_,?_,hS.gl.ext he,hS.kf.ext he⟩
 . intro i p hp s hs;rcases hat hp with ⟨rfl,rfl⟩|⟨hne,hp'⟩
   . refine⟨?_,λ_=>hok s hs⟩;have h8:=hlive _ _ hp rfl;split at h8
     . rw[h8]at hs; cases hs
     . obtain⟨us,rest,h9,h10⟩:=h8;obtain⟨q,hq⟩:=Vw hs;obtain⟨u,_,h11⟩:=h10.get hq;exact h11.under
   . have:=hS.bel i p hp' s hs;exact⟨by show s.under (S.H.set j _).length=true; simpa using this.1,this.2⟩
 . intro i i' p p' b hp hp' hw hw' hρ hρ';have key:∀ {i:Nat} {p:AO},(S.H.set j ⟨cs,o.ty,o.ver,true⟩)[i]? = some p->p.own=true->∃ q,S.H[i]? = some q/\q.own=true:=by
    intro i p hp hw;rcases hat hp with ⟨rfl,rfl⟩|⟨_,hp⟩
    . exact⟨o,ho,AO.own_live hl⟩
    . exact⟨p,hp,hw⟩
   obtain⟨q,h1,h2⟩:=key hp hw;obtain⟨q',h3,h4⟩:=key hp' hw';exact hS.inj i i' q q' b h1 h3 h2 h4 hρ hρ'
 . intro i p hp hpl hne;rcases hat hp with ⟨rfl,rfl⟩|⟨_,hp⟩
   . cases hpl
   . obtain⟨l,x,m,us,env,k1,k2,k3,k4,k6⟩:=hS.lp i p hp hpl hne;exact⟨l,x,m,us,env,k1,k2,k3,k4,k6.ext he⟩
theorem Qmd (hS:Sim S) {j:Nat} {o:AO} (ho:S.H[j]? = some o) (hl:o.live=true) {cs:ZH} (hok:QC cs) (hc:∀ us,VRs S o.cells us->∃ k,VRs S cs (us.take k)) :
 Sim ⟨S.ρ,S.H.set j ⟨cs,o.ty,o.ver,true⟩,S.w⟩:=QnF hS ho hl hok λus _ h=>hc us h
end
def Qaw (env:Env) (H:ZG) (env':Env) (H':ZG):Prop :=
 ∀ (S:St) (tmps:Array Value),S.H=H->Sim S->QD S env tmps->∃ ρ',Ext S.H.length S ⟨ρ',H',S.w⟩/\Sim ⟨ρ',H',S.w⟩/\QD ⟨ρ',H',S.w⟩ env' tmps
theorem LI.tell {P:ZL} {N:Nat} {D:Array Oper->List Nat->List Ins->Bool} {i:IC} {env env':Env} {H H':ZG} {K:ZF} (ht:Qaw env H env' H')
 (h:LI P N D i env' H' K):LI P N D i env H K:=by
 intro c hc db S a hH hS he hN hd;obtain⟨ρ',h1,h2,h3⟩:=ht S a.tmps hH hS he;exact Qjo (h c hc db ⟨ρ',H',S.w⟩ a rfl h2 h3 hN (hd.ext hS h1)) λe a w hp=>Qav.trans h1 hp
theorem Qaw.own0 {env:Env} {H:ZG} {j p:Nat} {o:AO} (ho:H[j]? = some o) (hl:o.live=true) (hp:o.cells[p]? = some (.val (.slice none 0 0))) (T:ZK) (sz:Nat) :
 Qaw env H env (H.set j ⟨o.cells.set p (.own H.length 0 0 sz 0),o.ty,o.ver,true⟩++[⟨[],T,0,true⟩]):=by
 intro S tmps hH hS he;subst hH;have h1:=QgW S T;have h2:=Qj2 hS T;have hj:=Qj ho;have ho':(S.newNil T).H[j]? = some o:=by show(S.H++_)[j]? = _; rw[Vc hj]; exact ho
 have hn:(S.newNil T).H[S.H.length]? = some ⟨[],T,0,true⟩:=by show(S.H++_)[S.H.length]? = _; simp
 have hval:VR (S.newNil T) (.own S.H.length 0 0 sz 0) (.slice none 0 0):=by
  refine .own _ _ _ _ _ none 0 _ hn (Vb _) (Vb _) (λ_=>rfl) λ_ => ?_;unfold St.OwnAt;have:(S.newNil T).ρ S.H.length=none:=Qa1 _ _ _;rw[this]; exact⟨rfl,rfl⟩
 have hcell:QC (o.cells.set p (.own S.H.length 0 0 sz 0)):=by
  intro s hs;rcases YY hs with h|rfl
  . exact(hS.bel j o ho s h).2 hl
  . rfl
 have h3:=Qgv ho' hl (o.cells.set p (.own S.H.length 0 0 sz 0));have h4:=Qmd h2 ho' hl hcell (λus hus=>⟨us.length,by
  rw[VN];obtain⟨u,hu1,hu2⟩:=hus.get hp;have:u=.slice none 0 0:=by cases hu2; rfl
  subst this;have:=hus.set p hval;have e:us.set p (.slice none 0 0)=us:=by
   apply V4;intro i;rw[Yw];split
   . rename_i e; subst e;split
     . exact hu1.symm
     . rename_i hlt; rw[VL (by omega)]
   . rfl
  rw[e]at this; exact this⟩)
 have e:(S.newNil T).H.set j ⟨o.cells.set p (.own S.H.length 0 0 sz 0),o.ty,o.ver,true⟩=S.H.set j ⟨o.cells.set p (.own S.H.length 0 0 sz 0),o.ty,o.ver,true⟩++[⟨[],T,0,true⟩]:=by
  show(S.H++_).set j _=_;rw[Vl _ _ hj]
 rw[e]at h3 h4;exact⟨_,h1.trans (h3.mono (by simp[St.newNil])),h4,(he.ext h1).ext h3⟩
theorem Qaw.trunc {env:Env} {H:ZG} {j:Nat} {o:AO} (ho:H[j]? = some o) (hl:o.live=true) (k:Nat):Qaw env H env (H.set j ⟨o.cells.take k,o.ty,o.ver,true⟩):=by
 intro S tmps hH hS he;subst hH;have h3:=Qgv ho hl (o.cells.take k);exact⟨_,h3,Qmd hS ho hl (λs hs=>(hS.bel j o ho s (Ye hs)).2 hl) (λus hus=>⟨k,hus.take k⟩),he.ext h3⟩
theorem Qaw.give {env:Env} {H0 L:ZG} (hcl:closed H0) (k d:Nat) {o:AO} (ho:L[k]? = some o) (hl:o.live=true) :
 Qaw env (H0++L) (env.map λp=>(p.1,p.2.gv (H0.length+k) o.ver o.cells d)) (H0++(L.set k o.dead).map (AO.gv (H0.length+k) o.ver o.cells d)):=by
 intro S tmps hH hS he;refine⟨_,QjV hH ho,Qw2 hS hH hcl ho hl,⟨λt => ?_⟩⟩;rw[Qos env (SV.gv (H0.length+k) o.ver o.cells d) (Qo3 _ _ _ _)];exact QmK hS hH ho hl _ _ (he.get t)
end
section
variable [QN] [QG] [Qr]
def rws {α:Type} (f:α->ZH):List α->ZH
 |[]=>[]
 |x::r=>f x++rws f r
section
variable {α:Type} {f:α->ZH} {sz:Nat}
theorem Qgk (a b:List α):rws f (a++b)=rws f a++rws f b:=by
 induction a with
 |nil=>rfl
 |cons x r ih=>simp[rws,ih]
theorem QaI (hf:∀ x,(f x).length=sz) (l:List α):(rws f l).length=l.length*sz:=by
 induction l with
 |nil=>simp[rws]
 |cons x r ih=>simp only[rws,Vj,hf,ih,Vh]; rw[YD]; omega
theorem QuR (hf:∀ x,(f x).length=sz) (l:List α) (k:Nat) (hk:k<=l.length):(rws f l).take (k*sz)=rws f (l.take k):=by
 have e:rws f l=rws f (l.take k)++rws f (l.drop k):=by rw[<-Qgk,Yk]
 rw[e,YE (by rw[QaI hf,VY]; rw[Nat.min_eq_left hk]; exact Vb _),VD (by rw[QaI hf,VY,Nat.min_eq_left hk]; exact Vb _)]
theorem Qwh (hf:∀ x,(f x).length=sz) (l:List α) (k:Nat) (hk:k<=l.length):(rws f l).drop (k*sz)=rws f (l.drop k):=by
 have e:rws f l=rws f (l.take k)++rws f (l.drop k):=by rw[<-Qgk,Yk]
 have h:(rws f (l.take k)).length=k*sz:=by rw[QaI hf,VY,Nat.min_eq_left hk]
 rw[e,YU (by omega),V1 (by omega),Vx]
theorem QdR (hf:∀ x,(f x).length=sz) {l:List α} {k:Nat} (hk:k<l.length):(rws f l).drop (k*sz)=f l[k]++rws f (l.drop (k+1)):=by
 rw[Qwh hf l k (by omega),VS hk]; rfl
theorem Qe2 {n:Nat} (h:∀ x,SV.underL n (f x)=true) (l:List α):SV.underL n (rws f l)=true:=by
 induction l with
 |nil=>rfl
 |cons x r ih=>rw[rws,SV.underL_append,h,ih]; rfl
end
theorem QcI {H:ZG} {j:Nat} {o:AO} (h:H[j]? = some o):H.set j o=H:=by
 apply V4;intro i;rw[Yw]; split
 . rename_i e; subst e; rw[Zn (Qj h),h]
 . rfl
def SV.le (s s':SV):Prop:=∀ (S:St) (v:Value),VR S s v->VR S s' v
theorem SV.le.refl (s:SV):s.le s:=λ_ _ h=>h
theorem Qd4:SV.le (.val (.slice none 0 0)) (.slc [] 0):=by
 intro S v h; cases h; exact .nilslc
def leL (l l':ZH):Prop:=l.length=l'.length/\∀ (j:Nat) (s s':SV),l[j]? = some s->l'[j]? = some s'->s.le s'
theorem leL.nil:leL [] []:=⟨rfl,λj s s' h=>by simp at h⟩
theorem leL.cons {s s':SV} {l l':ZH} (h:s.le s') (hl:leL l l'):leL (s::l) (s'::l'):=by
 refine⟨by simp[hl.1],λj a b h1 h2 => ?_⟩
 cases j with
 |zero=>simp at h1 h2; subst h1 h2; exact h
 |succ j=>simp at h1 h2; exact hl.2 j a b h1 h2
theorem leL.vrs {S:St} {l l':ZH} {us:ZI} (h:leL l l') (hv:VRs S l us):VRs S l' us:=by
 refine⟨by rw[hv.1,h.1],λj s u h1 h2 => ?_⟩;have hj:j<l.length:=by rw[h.1]; rcases Vr j l'.length with h3|h3; exact h3; rw[VL h3]at h1; cases h1
 exact h.2 j _ _ (Vd hj) h1 S u (hv.2 j _ u (Vd hj) h2)
theorem Qnh {l l':ZH} (h:leL l l') (n:Nat):SV.le (.slc l n) (.slc l' n):=by
 intro S v hv
 cases hv with
 |nilslc =>
  have:l'=[]:=VJ (by rw[<-h.1]; rfl);subst this; exact .nilslc
 |slc _ _ a cap us hc hl hi hh =>
  have:=h.vrs ⟨hl,hh⟩;exact .slc _ _ a cap us hc this.1 hi this.2
theorem QfL {l l':ZH} (h:leL l l'):SV.le (.agg l) (.agg l'):=by
 intro S v hv
 cases hv with
 |agg _ us hl hh=>have:=h.vrs ⟨hl,hh⟩; exact .agg _ _ this.1 this.2
theorem OkP.le {P:ZL} {f:ZN} {args args':ZH} {H:ZG} {Pt:Out->ZG->Prop} (hle:leL args args') (h:OkP P f args' H Pt):OkP P f args H Pt :=
 ⟨h.1,λS vs hH hS hv=>h.2 S vs hH hS (hle.vrs hv)⟩
@[simp] theorem QFb (o:AO) (r:ZG) (a b k ver:Nat):Qn (o::r) (a+(b+(k+1))) ver=Qn r (a+(b+k)) ver:=QBi o r (a+(b+k)) ver
theorem LI.cong {P:ZL} {N:Nat} {D:Array Oper->List Nat->List Ins->Bool} {i:IC} {env:Env} {H H':ZG} {K:ZF} (e:H'=H) (h:LI P N D i env H' K):LI P N D i env H K:=by rw[<-e]; exact h
theorem OkP.cast {P:ZL} {f:ZN} {args args':ZH} {H H':ZG} {Pt:Out->ZG->Prop} (ha:args=args') (hH:H=H') (h:OkP P f args' H' Pt):OkP P f args H Pt:=by subst ha hH; exact h
theorem Qib {α:Type} (a b:List α) (k:Nat) (x:α):(a++b).set (a.length+k) x=a++b.set k x:=by rw[Yg _ _ (by omega)]; simp
theorem Qra {α:Type} (a b:List α) (k:Nat):(a++b)[a.length+k]? = b[k]? := by rw[Vk (by omega)]; simp
theorem Cv.le {n0:Nat} {r1 r r':SV} {H1 H':ZG} (h:Cv n0 r1 H1 r H') (hle:r.le r'):Cv n0 r1 H1 r' H':=by
 intro S v hS hsim hv;obtain⟨ρ,h1,h2,h3⟩:=h S v hS hsim hv;exact⟨ρ,h1,h2,hle _ _ h3⟩
theorem Qds.one {H0 L:ZG} {ks:List Nat} {d j:Nat} {o:AO} (hu:∀ (i:Nat) (o:AO),i≠j->H0[i]? = some o->∀ s∈o.cells,s.under H0.length=true) (ho:H0[j]? = some o) (hl:o.live=true)
 (hc:QC (o.cells.map (SV.fz H0.length ks L d))):Qds H0 (H0.set j ⟨o.cells.map (SV.fz H0.length ks L d),o.ty,o.ver,true⟩) L ks d:=by
 refine⟨by simp,λi o' h => ?_⟩;by_cases e:i=j
 . subst e;rw[Vo (Qj ho)]at h; cases h
   exact .inr ⟨o,(o.cells.map (SV.fz H0.length ks L d)).length,ho,hl,by rw[VN],hc⟩
 . rw[Vf (by omega)]at h;exact .inl ⟨h,hu i o' e h⟩
end
end Go.Ab
namespace Go.Ab
variable [QN] [QG] [Qr]
namespace IsL
variable {α:Type} {f:α->SV} {H:ZG} {x:SV} {l:List α}
end IsL
def u8 (n:Int):SV:=.val (.int .u8 n)
@[simp] theorem u8_eq (n:Int):SV.val (.int .u8 n)=u8 n:=rfl
section
variable (n:Int)
@[simp] theorem isI_u8 (k:IntKind):SV.isI k (u8 n)=decide (IntKind.u8=k):=rfl
@[simp] theorem isN_u8:SV.isN (u8 n)=true:=rfl
@[simp] theorem int_u8:SV.int (u8 n)=n:=rfl
@[simp] theorem ug_u8:SV.ug (u8 n)=u8 n:=rfl
@[simp] theorem vd_u8:SV.vd (u8 n)=true:=rfl
@[simp] theorem QFq:SV.isCell (u8 n)=true:=rfl
@[simp] theorem QGo:SV.flat (u8 n)=[u8 n]:=rfl
@[simp] theorem QC2:SV.isPt (u8 n)=false:=rfl
@[simp] theorem QFN:SV.isAg (u8 n)=false:=rfl
@[simp] theorem QBT:SV.isTu (u8 n)=false:=rfl
@[simp] theorem QDe (m:Nat):SV.under m (u8 n)=true:=rfl
@[simp] theorem gv_u8 (k ver:Nat) (cs:ZH) (d:Nat):SV.gv k ver cs d (u8 n)=u8 n:=by cases d<;>rfl
@[simp] theorem QF3:(u8 n).strip=u8 n:=rfl
end
theorem OkP.tell {P:ZL} {f:ZN} {args:ZH} {H H':ZG} {Pt:Out->ZG->Prop} (ht:Qaw [] H [] H') (hl:H.length<=H'.length) (h:OkP P f args H' Pt):OkP P f args H Pt:=by
 refine⟨h.1,?_⟩;intro S vs hH hS hvs;obtain⟨ρ',h1,h2,_⟩:=ht S #[] hH hS ⟨λt=>.any _⟩;have h3:=h.2 ⟨ρ',H',S.w⟩ vs rfl h2 (hvs.ext h1);refine h3.mono ?_;rintro en w' ⟨out,H2,v,ρ2,hp,hext,hsim,hout⟩;exact⟨out,H2,v,ρ2,hp,h1.trans (hext.mono (by subst hH; exact hl)),hsim,hout⟩
theorem QhS {P:ZL} {N:Nat} (hm:P.follows .mixedOrders=true) {i kk:Nat} {ps:List Nat} {ia ib ia' ib':IC} {env:Env} {args:ZH} {H:ZG} {Pt:Out->ZG->Prop} (hia:ia=ia') (hib:ib=ib')
 (ho:H[i]? = some (lpo P N Qf kk ps ia ib (env.vals N) .ready)) (he:(env.all λp=>decide (p.1<N))=true) (hp:(ps.all λp=>decide (p<N))=true) (hl:args.length=ps.length)
 (hx:closed H->X P N Qf ia' (env.puts ps args) H λx env1 H1=>x=.normal/\∃ cs,H1[i]? = some (lpo P N Qf kk ps ia ib cs .ready)/\X P N Qf ib' env1 (H1.set i (lpo P N Qf kk ps ia ib cs .busy)) (Qlv P N kk ps ia ib i H.length Pt)) :
 YlP P i args H Pt:=by
 subst hia hib;exact QzD hm ho he hp hl hx
theorem Qhs {n0:Nat} {v:SV} {H1 H':ZG} (h:H1=H'):Cv n0 v H1 v H':=by subst h; exact Qi
theorem Qi2 {l l':ZH} (h:leL l l'):SV.le (.tup l) (.tup l'):=by
 intro S v hv
 cases hv with
 |tup _ us hl hh=>have:=h.vrs ⟨hl,hh⟩; exact .tup _ _ this.1 this.2
@[simp] theorem Qvr (H L:ZG) (j:Nat) (o:AO) (k ver:Nat):Qn (H.set j o++L) (H.length+k) ver=Qn L k ver:=by
 have:=QfN (H:=H.set j o) (L:=L) (k:=k) (ver:=ver); simpa using this
@[simp] theorem QEg (H L:ZG) (j:Nat) (o:AO) (ver:Nat):Qn (H.set j o++L) H.length ver=Qn L 0 ver:=Qvr H L j o 0 ver
theorem QxZ (A B:ZG) (k:Nat) (f:AO->AO):setObj (A++B) (A.length+k) f=A++setObj B k f:=by
 unfold setObj;rw[Qra]
 cases h:B[k]? with
 |none=>rfl
 |some o=>simp only; rw[Qib]
@[simp] theorem QtP (H L:ZG) (j:Nat) (o:AO) (k:Nat) (f:AO->AO):setObj (H.set j o++L) (H.length+k) f=H.set j o++setObj L k f:=by
 have:=QxZ (H.set j o) L k f; simpa using this
@[simp] theorem QBR (H L:ZG) (j:Nat) (o:AO) (f:AO->AO):setObj (H.set j o++L) H.length f=H.set j o++setObj L 0 f:=QtP H L j o 0 f
@[simp] theorem QyP {α:Type} (H L:List α) (j:Nat) (o:α) (k:Nat):(H.set j o++L)[H.length+k]? = L[k]? := by
 have:=Qra (H.set j o) L k; simpa using this
@[simp] theorem QED (H L:ZG) (j:Nat) (o:AO) (k ver:Nat) (T:ZK) (m:Nat):QbB (H.set j o++L) (H.length+k) ver T m=QbB L k ver T m:=by
 unfold QbB; rw[QyP]
theorem QfH {H:ZG} (hcl:closed H) (j:Nat) {o:AO} (hu:SV.underL H.length o.cells=true):closed (H.set j o):=by
 intro i p hp s hs;rw[V8];by_cases e:j=i
 . subst e;have hj:=Qj hp;rw[Vo (by simpa using hj)]at hp
   cases hp
   exact(SV.underL_iff _ _).1 hu s hs
 . rw[Vf e]at hp;exact hcl i p hp s hs
end Go.Ab
namespace Go.Ab
section
variable [QN] [QG] [Qr]
section
variable {P:ZL}
theorem QsE {n0 D:Nat} {w w':ZM} (h1:n0<=D) (h2:w.heap[D]? = some (Obj.deferred (some []))) (ht:Qeh n0 (w.putObj D (.deferred none)) w'):Qeh n0 w w':=by
 refine⟨by rw[ht.size]; simp,λk => ?_,ht.os,ht.tape,ht.output⟩;by_cases hk:k=D
 . subst hk;right;refine⟨h1,h2,?_⟩;rcases ht.at_ k with h3|⟨_,h3,h4⟩
   . exact h3.trans (World.putObj_heap_same (QcZ h2))
   . exact h4
 . rcases ht.at_ k with h3|⟨h3,h4,h5⟩
   . exact .inl (h3.trans (World.putObj_heap_other hk))
   . exact .inr ⟨h3,(World.putObj_heap_other hk).symm.trans h4,h5⟩
theorem Qs4 (n0:Nat) (w:ZM):Qeh n0 w w:=⟨rfl,λ_=>.inl rfl,rfl,rfl,rfl⟩
theorem QqM {n0:Nat}:∀ (ms:List Nat) (w:ZM) (fr:Frame) (cs:List Frame),fr.mode≠.run->fr.defers=ms.map QcE->ms.Nodup->(∀ D∈ms,n0<=D/\w.heap[D]? = some (Obj.deferred (some []))) ->
 ∃ w',Qeh n0 w w'/\StepsIn (Machine.fenced P (Fr none)) P (lone fr cs w) (lone { fr with defers:=[] } cs w')
 |[],w,fr,cs,hm,hd,_,_=>by
  refine⟨w,Qs4 _ _,?_⟩;have:({ fr with defers:=[] }:Frame)=fr:=by cases fr; simp_all
  rw[this];exact StepsIn.refl _
 |D::ms,w,fr,cs,hm,hd,hnd,hms=>by
  rw[YW]at hnd;obtain⟨h1,h2⟩:=hms D (by simp);have hs:=step_collected (P:=P) (cs:=cs) (d:=QcE D) (ds:=ms.map QcE) hm hd rfl (run_takeDeferred h2);have i1:(lone fr cs w).fenced P (Fr none):=fenced_out (n:=0) Zo (Qgu _ _) hm hd (λg hg=>Zo);obtain⟨w',ht,hst⟩:=QqM ms (w.putObj D (.deferred none)) { fr with defers:=ms.map QcE } cs hm rfl hnd.2 (λD' hD'=>by
   refine⟨(hms D' (by simp[hD'])).1,?_⟩;have hne:D'≠D:=λe=>hnd.1 (e ▸ hD');exact(World.putObj_heap_other hne).trans (hms D' (by simp[hD'])).2)
  exact⟨w',QsE h1 h2 ht,.head i1 hs hst⟩
def MD (S:St):Option SV->FrameMode->Prop
 |none,u=>u=.returning
 |some x,u=>∃ v,u=.panicking [{ v:=v,recovered:=false }]/\VR S x v
def rvD:Option SV->SV
 |none=>.val .nilIface
 |some x=>x
def OkD (P:ZL) (f:ZN) (args:ZH) (H:ZG) (m:Option SV) (Pt:ZG->Prop):Prop :=
 (∀ (vs:Array Value) (w:ZM),(callFunc f vs).run P w=.ok (.enter f vs) w) /\
 ∀ (S:St) (vs:ZI) (u:FrameMode),S.H=H->Sim S->VRs S args vs->MD S m u ->
  CallsDIn (Fr none) 0 P f vs.toArray u S.w λe u' w'=>∃ (v:Value) (H':ZG) (ρ':Nat->Option Nat),e=.returned v/\settle u'=.returning/\Pt H'/\Ext S.H.length S ⟨ρ',H',w'⟩/\Sim ⟨ρ',H',w'⟩
theorem QuD {o:Oper} (ho:o.op=.call { callee:=.builtin .recover,args := #[],argTypes := #[] }) (ρ:Operand->Value) (w:ZM):(execOp ρ o).run P w=.ok .recover w:=by
 simp[execOp,ho,resolve,invoke,builtin]
variable {D:Array Oper->List Nat->List Ins->Bool}
theorem Qvy (hD:DOk P D) {f:ZN} {fn:Func} {rid d:Nat} {ops:Array Oper} {o:Oper} {c2:Code} {insR:List Ins} {i2:IC} {args:ZH} {H:ZG} {m:Option SV} {Pt:ZG->Prop}
 (hf : P.funcs[f]? = some fn) (hb : fn.body = some (.seq (.region rid ops false) c2)) (hname : (fn.name == "runtime.NumGoroutine") = false) (hn : args.length <= fn.ntmps) (hr : Qcx P fn.results.toList [] = true)
 (hop:ops[0]? = some o) (ho:o.op=.call { callee:=.builtin .recover,args := #[],argTypes := #[] }) (hg:o.guard=none) (hdst:o.dst=some d) (hd:d<fn.ntmps) (hnd:ndB ops=true)
 (hl:chkL P fn.ntmps ops (ops.toList.drop 1) insR=true) (hc:QW P fn.ntmps D c2 i2=true)
 (hx:closed H->QbF P insR ((Qce args).put (some d) (rvD m)) H λx env H1=>x=.normal/\X P fn.ntmps D i2 env H1 λx _ H2=>(x=.normal\/x=.ret)/\∃ H',Pt H'/\Cv H.length (.tup []) H2 (.tup []) H'):OkD P f args H m Pt:=by
 refine⟨λvs w=>Go.MuLone.run_callFunc_enter hf hname hb vs w,?_⟩;intro S vs u hH hS hvs hmd;subst hH;refine⟨Zo,λc₀ cs hu hroom => ?_⟩;obtain⟨b,hbk,hbr,hbf,henter⟩:∃ b:Frame,b.kind=.deferred/\b.roundOf=none/\b.fn=f/\Frame.enter P f vs.toArray .deferred=b.atR { tmps:=vs.toArray++Array.replicate (fn.ntmps-vs.toArray.size) undef,defers:=[] } [.code (.seq (.region rid ops false) c2)] :=
  ⟨{ (default:Frame)with fn:=f,kind:=.deferred,roundOf:=none },rfl,rfl,rfl,by simp[Frame.enter,Frame.atR,hf,hb]⟩
 rw[henter];have hlen:vs.length=args.length:=hvs.1;generalize ha0:({ tmps:=vs.toArray++Array.replicate (fn.ntmps-vs.toArray.size) undef,defers:=[] }:Act)=a0;have hN0:a0.tmps.size=fn.ntmps:=by subst ha0; simp; omega
 have hd0:a0.defers=[]:=by subst ha0; rfl
 have he0:QD S (Qce args) a0.tmps:=by subst ha0; exact Qnu hvs _
 have t1:StepsIn (Machine.fenced P (Fr none)) P (lone (b.atR a0 [.code (.seq (.region rid ops false) c2)]) (c₀::cs) S.w) (lone (b.atR a0 (.inRegion ops (List.range ops.size)::[.code c2])) (c₀::cs) S.w) :=
  .head (Qil rfl) stepR_seq (.one (Qil rfl) stepR_region)
 have hsz:0<ops.size:=by
  rcases Vr 0 ops.size with h|h
  . exact h
  . rw[VW h]at hop; cases hop
 have hrange:List.range ops.size=0::List.range' 1 (ops.size-1):=by
  rw[YS];obtain⟨k,hk⟩:∃ k,ops.size=k+1:=⟨ops.size-1,by omega⟩;rw[hk,YR]; simp
 rw[hrange]at t1;obtain⟨rv,u1,hstep,hset,hvr⟩:∃ (rv:Value) (u1:FrameMode),step P (lone (b.atR a0 (.inRegion ops (0::List.range' 1 (ops.size-1))::[.code c2])) (c₀::cs) S.w) =
  .next (lone (b.atR (a0.put o.dst rv) (.inRegion ops (List.range' 1 (ops.size-1))::[.code c2])) ({ c₀ with mode:=u1 }::cs) S.w)/\settle u1=.returning/\VR S (rvD m) rv:=by
  have hw:Region.wanted o (yielded ops a0.tmps)=true:=by simp[Region.wanted,hg]
  have hgs:=stepGR_op (P:=P) (b:=b) (a:=a0) (k:=[.code c2]) (cs:=c₀::cs) (w:=S.w) (rest:=List.range' 1 (ops.size-1)) hop hw;rw[hbr,Oper.semAt_none]at hgs;have hfin:∀ v,(b.atR a0 (.inRegion ops (0::List.range' 1 (ops.size-1))::[.code c2])).finish v=b.atR (a0.put o.dst v) (.inRegion ops (List.range' 1 (ops.size-1))::[.code c2]):=by
   intro v; rw[Frame.finish_atR,hop]; rfl
  have hk:(b.atR a0 (.inRegion ops (0::List.range' 1 (ops.size-1))::[.code c2])).kind=.deferred:=hbk;have htr:=tryRecover_deferred hk (c₀::cs);have hrun:=QuD (P:=P) ho a0.eval S.w
  cases m with
  |none =>
   have hu':u=.returning:=hmd;subst hu';refine⟨.nilIface,.returning,?_,rfl,.val _⟩;have hc0:({ c₀ with mode:=.returning }:Frame)=c₀:=by cases c₀; simp_all
   rw[hc0];have hrec:recoverD (c₀::cs)=none:=by simp[recoverD,hu]
   refine step_lone_go ?_;rw[hgs,<- hfin];simp only[Frame.atR,hbr]at htr ⊢;simp[stepG.apply,hrun,htr,hrec]
  |some x =>
   obtain⟨v,rfl,hv⟩:=hmd;refine⟨v,.panicking [{ v:=v,recovered:=true }],?_,rfl,hv⟩;have hrec:recoverD (c₀::cs)=some (v,{ c₀ with mode:=.panicking [{ v:=v,recovered:=true }] }::cs):=by simp[recoverD,hu]
   refine step_lone_go ?_;rw[hgs,<- hfin];simp only[Frame.atR,hbr]at htr ⊢;simp[stepG.apply,hrun,htr,hrec]
 have t2:=t1.trans (.one (fenced_oper (n:=0) Zo (Qgu _ _) hop (λf _=>Zo)) hstep);generalize hcc:({ c₀ with mode:=u1 }::cs:List Frame)=cc at t2;have hlt':∀ t,o.dst=some t->t<a0.tmps.size:=by intro t ht; rw[hdst]at ht; cases ht; rw[hN0]; exact hd
 have he1:QD S ((Qce args).put (some d) (rvD m)) (a0.put o.dst rv).tmps:=by
  have:=he0.put hlt' hvr
  rwa [hdst]at this ⊢
 have hdb:(⟨S.w.heap.size,[],none⟩:DB).Ok S.w (a0.put o.dst rv).defers:=by
  rw[QhT,hd0];exact⟨Vb _,⟨[],rfl,YF,λD hD=>by simp at hD⟩,λl h=>by cases h⟩
 have hwl:=QmD (d:=⟨S.w.heap.size,[],none⟩) (ops:=ops) (ops.toList.drop 1) insR hS he1 (by rw[QhP,hN0]) hdb hl (hx hS.closed);have hlen2:(ops.toList.drop 1).length=ops.size-1:=by simp
 have heq:=QqR (P:=P) (ops:=ops) (Q:=Qav S fn.ntmps ⟨S.w.heap.size,[],none⟩ λx env H1=>x=.normal/\X P fn.ntmps D i2 env H1 λx _ H2=>(x=.normal\/x=.ret)/\∃ H',Pt H'/\Cv S.H.length (.tup []) H2 (.tup []) H') (ops.toList.drop 1) 1 (λj=>by rw[VP]; simp);rw[<-heq,hlen2]at hwl;obtain⟨e1,a1,w1,hq1,harr1⟩:=wp_opsIn _ _ _ (QlA hnd none _ _ _ hwl) b [.code c2] cc hbr Zo (Qgu _ _);obtain⟨x1,env1,ρ1,H1,g1,g2,g3,g4,g5,g6,hx1,g7⟩:=hq1;subst hx1
 cases e1<;>simp only[ER]at g1
 have t3:=t2.trans harr1;obtain⟨e2,a2,w2,hq2,harr2⟩:=Qed hD i2 hc g7 ⟨S.w.heap.size,[],none⟩ ⟨ρ1,H1,w1⟩ a1 rfl g3 g4 g5 g6 b [] cc hbr Zo (Qgu _ _);obtain⟨x2,env2,ρ2,H2,k1,k2,k3,k4,k5,k6,hx2,H',hpt,hcv⟩:=hq2;obtain⟨ms,m1,m2,m3⟩:=k6.ms;simp only[VE]at m1;have hfinal:∃ todo,StepsIn (Machine.fenced P (Fr none)) P (lone (b.atR a0 [.code (.seq (.region rid ops false) c2)]) (c₀::cs) S.w) (lone { b.atR a2 todo with mode:=.returning } cc w2):=by
  rcases hx2 with rfl|rfl
  . cases e2<;>simp only[ER]at k1
    exact⟨[],t3.trans (StepsIn.trans harr2 (.one (Qil rfl) (stepR_end hbr)))⟩
  . cases e2<;>simp only[ER]at k1
    obtain⟨todo,hs⟩:=harr2.1 hbr;exact⟨todo,t3.trans hs⟩
 obtain⟨todo,t4⟩:=hfinal;obtain⟨w3,ht,t5⟩:=QqM (P:=P) (n0:=S.w.heap.size) ms w2 { b.atR a2 todo with mode:=.returning } cc (by simp) m1 m2 m3;have hS2:=QeG ht k3;have hE2:QD ⟨ρ2,H2,w3⟩ env2 a2.tmps:=⟨λt=>(k4.get t).extV (Qer ht) (.inl rfl)⟩;obtain⟨v,h3,h4⟩:=Qjl (P:=P) (S:=⟨ρ2,H2,w3⟩) (rs:=[]) hS2 hE2 hr (λs hs=>by simp at hs);obtain⟨ρ',h5,h6,_⟩:=hcv ⟨ρ2,H2,w3⟩ v rfl hS2 h4;subst hcc;refine⟨.returned v,u1,w3,_,⟨v,H',ρ',rfl,hset,hpt,?_,h6⟩,t4.trans t5,hbk,hbf,rfl,rfl,fn,by rw[show({ b.atR a2 todo with mode:=.returning,defers:=[] }:Frame).fn=f from hbf]; exact hf,h3⟩;exact(QgP ht (g2.trans (k2.mono (g2.len (Vb _)))) (Vb _)).trans h5
theorem QpO {fn:Func} {tmps:Array Value} {R:Ending->ZM->Prop} {n0:Nat} {u:FrameMode} {ds:List Deferred} (hu:u≠.run):∀ (ms:List Nat) (w:ZM),ms.Nodup->(∀ D∈ms,n0<=D/\w.heap[D]? = some (Obj.deferred (some []))) ->
 (∀ w',Qeh n0 w w'->LeavesInM (Fr none) 0 P fn tmps R ds u w')->LeavesInM (Fr none) 0 P fn tmps R (ms.map QcE++ds) u w
 |[],w,_,_,h=>h w (Qs4 _ _)
 |D::ms,w,hnd,hms,h=>by
  rw[YW]at hnd;obtain⟨h1,h2⟩:=hms D (by simp);refine⟨hu,.inl ⟨D,_,rfl,run_takeDeferred h2,?_⟩⟩;refine QpO hu ms _ hnd.2 (λD' hD'=>⟨(hms D' (by simp[hD'])).1,?_⟩) λw' ht=>h w' (QsE h1 h2 ht);have hne:D'≠D:=λe=>hnd.1 (e ▸ hD');exact(World.putObj_heap_other hne).trans (hms D' (by simp[hD'])).2
def Qg6 (P:ZL) (n0:Nat) (rs:List RS) (Pt:Out->ZG->Prop) (k:ZN) (cap:ZH) (x:XE) (env:Env) (H1:ZG):Prop :=
 match x with
 |.normal=>∃ Pd,OkD P k cap H1 none Pd/\∀ H4,Pd H4->(∀ s∈rs,s.side env H4)/\Qc4 n0 Pt (Qa2 env H4 rs) H4
 |.ret=>∃ Pd,OkD P k cap H1 none Pd/\∀ H4,Pd H4->(∀ s∈rs,s.side env H4)/\Qc4 n0 Pt (Qa2 env H4 rs) H4
 |.panic y=>∃ Pd,OkD P k cap H1 (some y) Pd/\∀ H4,Pd H4->(∀ s∈rs,s.side env H4)/\Qc4 n0 Pt (Qa2 env H4 rs) H4
 |_=>False
end
def Qja (P:ZL) (D:Array Oper->List Nat->List Ins->Bool) (fn:Func) (d:Nat) (insR:List Ins) (i2:IC):Bool :=
 (match fn.body with
  |some (.seq (.region _ ops false) c2) =>
    (match ops.toList with
     |o::r=>(match o.op with|.call { callee:=.builtin .recover,args:=as,argTypes:=ts }=>as.isEmpty&&ts.isEmpty|_=>false)&&(o.guard.isNone&&(o.dst==some d&&(decide (d<fn.ntmps)&&(ndB ops&&(chkL P fn.ntmps ops r insR&&QW P fn.ntmps D c2 i2)))))
     |_=>false)
  | _ => false) && !(fn.name == "runtime.NumGoroutine") && Qcx P fn.results.toList [] && decide (fn.params.size + fn.nfree <= fn.ntmps)
theorem QjF {P:ZL} (hm:P.follows .mixedOrders=true) {f:ZN} {fn:Func} {d:Nat} {insR:List Ins} {i2:IC} (hf:P.funcs[f]? = some fn) (hc:Qja P Qf fn d insR i2=true)
 {args:ZH} {H:ZG} {m:Option SV} {Pt:ZG->Prop} (hn:args.length=fn.params.size+fn.nfree)
 (hx:closed H->QbF P insR ((Qce args).put (some d) (rvD m)) H λx env H1=>x=.normal/\X P fn.ntmps Qf i2 env H1 λx _ H2=>(x=.normal\/x=.ret)/\∃ H',Pt H'/\Cv H.length (.tup []) H2 (.tup []) H'):OkD P f args H m Pt:=by
 unfold Qja at hc;rw[Va,Va,Va]at hc;obtain⟨⟨⟨h1,h2⟩,h3⟩,h4⟩:=hc;split at h1
 . rename_i rid ops c2 hb;split at h1
   . rename_i o r hops;simp only[Va,Zr,Zq]at h1;obtain⟨k1,k2,k3,k4,k5,k6,k7⟩:=h1;split at k1
     . rename_i as ts ho;simp only[Va,Array.isEmpty_iff]at k1;obtain⟨rfl,rfl⟩:=k1;have h0:ops[0]? = some o:=by rw[<-YV,hops]; rfl
       refine Qvy (QbW hm) hf hb (by simpa using h2) (by rw[hn]; simpa using h4) h3 h0 ho (by simpa using k2) k3 k4 k5 ?_ k7 hx;rw[hops]; exact k6
     . cases k1
   . cases h1
 . cases h1
end
section
variable [QN] [QG] [Qr]
section
variable {P:ZL} {D:Array Oper->List Nat->List Ins->Bool}
theorem Qv0 (hD:DOk P D) {fn:Func} {cb:Code} {rid:Nat} {o1 od:Oper} {f':Operand} {fo:Od} {ib:IC} {ins1:Ins} {rs:List RS} {Pt:Out->ZG->Prop}
 (hr:Qcx P fn.results.toList rs=true)
 (ho1:Qdy P fn.ntmps #[o1,od] o1 ins1=true) (hnd1:∀ c,o1.op≠.defer c) (hod:od.op=.defer { callee:=.value f',args := #[],argTypes := #[] }) (hog:od.guard=none) (hdst:od.dst=none) (hfo:Qw f' fo=true)
 (hcb:QW P fn.ntmps D cb ib=true) {S:St} {a1:Act} {w1:ZM} {env1:Env} {ρ1:Nat->Option Nat} {H1:ZG}
 (g2:Ext S.H.length S ⟨ρ1,H1,w1⟩) (g3:Sim ⟨ρ1,H1,w1⟩) (g4:QD ⟨ρ1,H1,w1⟩ env1 a1.tmps) (g5:a1.tmps.size=fn.ntmps) (g6:(⟨S.w.heap.size,[],none⟩:DB).Ok w1 a1.defers)
 (g7:xo P ins1 env1 H1 λx env2 H2=>x=.normal/\(env2.ev fo).vd=true/\∃ k cap,(env2.ev fo).ug=.fn (.func k) [] cap/\X P fn.ntmps D ib env2 H2 (Qg6 P S.H.length rs Pt k cap)) :
 (Code.seq (.region rid #[o1,od] false) cb).wpIn (Fr none) 0 P (bodyPostM (Fr none) 0 P fn (λe w'=>∃ (out:Out) (H':ZG) (v:Value) (ρ':Nat->Option Nat),Pt out H'/\Ext S.H.length S ⟨ρ',H',w'⟩/\Sim ⟨ρ',H',w'⟩ /\
  match out with
  |.ret r=>e=.returned v/\VR ⟨ρ',H',w'⟩ r v
  |.pan x=>e=.panicked [{ v:=v,recovered:=false }]/\VR ⟨ρ',H',w'⟩ x v)) a1 w1:=by
 refine wpIn_seq ?_;refine wpIn_region ?_;have hstep:=QiB (d:=⟨S.w.heap.size,[],none⟩) (N:=fn.ntmps) g3 g4 g5 g6 (ops := #[o1,od]) ho1 g7
  (next:=wpOpsIn (Fr none) 0 P #[o1,od] (Exit.then (cb.wpIn (Fr none) 0 P (bodyPostM (Fr none) 0 P fn λe w'=>∃ (out:Out) (H':ZG) (v:Value) (ρ':Nat->Option Nat),Pt out H'/\Ext S.H.length S ⟨ρ',H',w'⟩/\Sim ⟨ρ',H',w'⟩ /\
   match out with
   |.ret r=>e=.returned v/\VR ⟨ρ',H',w'⟩ r v
   |.pan x=>e=.panicked [{ v:=v,recovered:=false }]/\VR ⟨ρ',H',w'⟩ x v)) (bodyPostM (Fr none) 0 P fn λe w'=>∃ (out:Out) (H':ZG) (v:Value) (ρ':Nat->Option Nat),Pt out H'/\Ext S.H.length S ⟨ρ',H',w'⟩/\Sim ⟨ρ',H',w'⟩ /\
   match out with
   |.ret r=>e=.returned v/\VR ⟨ρ',H',w'⟩ r v
   |.pan x=>e=.panicked [{ v:=v,recovered:=false }]/\VR ⟨ρ',H',w'⟩ x v)) [1])
  (Q:=Exit.then (cb.wpIn (Fr none) 0 P (bodyPostM (Fr none) 0 P fn λe w'=>∃ (out:Out) (H':ZG) (v:Value) (ρ':Nat->Option Nat),Pt out H'/\Ext S.H.length S ⟨ρ',H',w'⟩/\Sim ⟨ρ',H',w'⟩ /\
   match out with
   |.ret r=>e=.returned v/\VR ⟨ρ',H',w'⟩ r v
   |.pan x=>e=.panicked [{ v:=v,recovered:=false }]/\VR ⟨ρ',H',w'⟩ x v)) (bodyPostM (Fr none) 0 P fn λe w'=>∃ (out:Out) (H':ZG) (v:Value) (ρ':Nat->Option Nat),Pt out H'/\Ext S.H.length S ⟨ρ',H',w'⟩/\Sim ⟨ρ',H',w'⟩ /\
   match out with
   |.ret r=>e=.returned v/\VR ⟨ρ',H',w'⟩ r v
   |.pan x=>e=.panicked [{ v:=v,recovered:=false }]/\VR ⟨ρ',H',w'⟩ x v)) ?_ ?_
 . -- the two operations
   show wpOpsIn (Fr none) 0 P #[o1,od] _ [0,1] a1 w1;simp only[wpOpsIn];have e0:(#[o1,od]:Array Oper)[0]? = some o1:=rfl;simp only[e0];unfold Qf8 at hstep;split
   . rename_i hw;rw[Zn hw]at hstep;exact⟨λ_ _=>Zo,hstep⟩
   . rename_i hw;rw[Zm hw]at hstep;exact⟨λ_ _=>Zo,hstep⟩
 . -- the deferred call is laid down; the rest
   rintro a2 w2 ⟨x2,env2,ρ2,H2,k1,k2,k3,k4,k5,k6,hx2,hvd,k,cap,hug,k7⟩;subst hx2;have hfv:=(QA hfo k4).ug hvd;rw[hug]at hfv;obtain⟨us,cs,hv,hus,hcs⟩:=hfv.fn_inv;have hus0:us=[]:=by have:=hus.1; simpa using this
   subst hus0;obtain⟨ms1,m1,m2,m3⟩:=k6.ms;simp only[VE]at m1;simp only[wpOpsIn];have e1:(#[o1,od]:Array Oper)[1]? = some od:=rfl;simp only[e1];have hw:Region.wanted od (yielded #[o1,od] a2.tmps)=true:=by simp[Region.wanted,hog]
   rw[Zn hw];refine⟨λ_ _=>Zo,?_⟩;have hrun:(od.semAt (Fr none).round a2.eval).run P w2=.ok (.defer { target:=.fn (.func k) cs.toArray,args := #[] }) w2:=by
    show(od.semAt none a2.eval).run P w2=_;rw[Oper.semAt_none];simp[execOp,hod,resolve,hv,Deferred.ofValue]
   rw[hrun,Oper.uponIn_defer];have hput:({ a2 with defers:={ target:=.fn (.func k) cs.toArray,args := #[] }::a2.defers }:Act).put od.dst undef={ a2 with defers:={ target:=.fn (.func k) cs.toArray,args := #[] }::a2.defers }:=by rw[hdst]; rfl
   rw[hput];show cb.wpIn _ _ _ _ _ _;have hwb:=Qed hD ib hcb k7 ⟨w2.heap.size,{ target:=.fn (.func k) cs.toArray,args := #[] }::ms1.map QcE,none⟩ ⟨ρ2,H2,w2⟩ { a2 with defers:={ target:=.fn (.func k) cs.toArray,args := #[] }::a2.defers } rfl k3 k4 k5 ⟨Vb _,⟨[],by simp[m1],YF,λD hD=>by simp at hD⟩,λl h=>by cases h⟩;refine wq_mono hwb ?_;rintro e3 a3 w3 ⟨x3,env3,ρ3,H3,q1,q2,q3,q4,q5,q6,q7⟩;obtain⟨ms3,n1,n2,n3⟩:=q6.ms;have hE0:Ext S.H.length S ⟨ρ3,H3,w3⟩:=(g2.trans (k2.mono (g2.len (Vb _)))).trans (q2.mono ((g2.trans (k2.mono (g2.len (Vb _)))).len (Vb _)));have hdb1:(⟨S.w.heap.size,[],none⟩:DB).Ok w2 (ms1.map QcE):=⟨k6.le,⟨ms1,by simp,m2,m3⟩,λl h=>by cases h⟩;have main:∀ (m:Option SV) (u:FrameMode) (Pd:ZG->Prop),u≠.run->MD ⟨ρ3,H3,w3⟩ m u->OkD P k cap H3 m Pd->(∀ H4,Pd H4->(∀ s∈rs,s.side env3 H4)/\Qc4 S.H.length Pt (Qa2 env3 H4 rs) H4) ->
    LeavesInM (Fr none) 0 P fn a3.tmps (λe w'=>∃ (out:Out) (H':ZG) (v:Value) (ρ':Nat->Option Nat),Pt out H'/\Ext S.H.length S ⟨ρ',H',w'⟩/\Sim ⟨ρ',H',w'⟩ /\
     match out with
     |.ret r=>e=.returned v/\VR ⟨ρ',H',w'⟩ r v
     |.pan x=>e=.panicked [{ v:=v,recovered:=false }]/\VR ⟨ρ',H',w'⟩ x v) a3.defers u w3:=by
    intro m u Pd hu hmd hok hres;rw[n1];refine QpO hu ms3 w3 n2 n3 λw4 ht => ?_;have hS4:=QeG ht q3;have hE4:=QgP ht hE0 (g2.trans (k2.mono (g2.len (Vb _)))).size;have hcs4:VRs ⟨ρ3,H3,w4⟩ cap cs:=⟨hcs.1,λj s u h1 h2=>((hcs.2 j s u h1 h2).extV q2.v (.inl rfl)).extV (Qer ht) (.inl rfl)⟩;have hmd4:MD ⟨ρ3,H3,w4⟩ m u:=by
     cases m with
     |none=>exact hmd
     |some y=>obtain⟨v,h1,h2⟩:=hmd; exact⟨v,h1,h2.extV (Qer ht) (.inl rfl)⟩
    refine⟨hu,.inr ⟨Qj5,.func k,cs.toArray,k,cs.toArray,rfl,?_,λg hg=>Zo,?_⟩⟩
    . simp only[invoke];have:=hok.1 cs.toArray w4;simpa using this
    . refine(hok.2 ⟨ρ3,H3,w4⟩ cs u rfl hS4 hcs4 hmd4).mono ?_;rintro e5 u5 w5 ⟨v5,H5,ρ5,rfl,hset,hpd,hext5,hsim5⟩;obtain⟨r1,r2⟩:=hres H5 hpd;show LeavesInM _ _ _ _ _ _ (ms1.map QcE) (settle u5) w5;rw[hset];have hdb3:=hdb1.ext (S:=⟨ρ2,H2,w2⟩) (S':=⟨ρ3,H3,w3⟩) k3 q2;have hdb4:(⟨S.w.heap.size,[],none⟩:DB).Ok w4 (ms1.map QcE):=by
       refine⟨by rw[ht.size]; exact hdb3.le,⟨ms1,by simp,m2,λD hD=>⟨(m3 D hD).1,?_⟩⟩,λl h=>by cases h⟩;have h1:=QcZ (m3 D hD).2;have h2:w3.heap[D]? = some (Obj.deferred (some [])):=by
        have h4:=(m3 D hD).2;refine((q2.imm D (QcZ h4) ?_).1).trans h4;rintro⟨i,o,ho,hl,hρ⟩;rcases k3.own ho hl hρ with ⟨c,h5⟩|⟨r,h5⟩|⟨es,cl,h5⟩<;>(rw[h4]at h5; cases h5)
       rcases ht.at_ D with h3|⟨h3,_,_⟩
       . exact h3.trans h2
       . exact absurd (YL h1 h3) (Nat.lt_irrefl _)
      have hdb5:=hdb4.ext (S:=⟨ρ3,H3,w4⟩) (S':=⟨ρ5,H5,w5⟩) hS4 hext5;obtain⟨ms5,j1,j2,j3⟩:=hdb5.ms;have hE5:Ext S.H.length S ⟨ρ5,H5,w5⟩:=hE4.trans (hext5.mono (hE4.len (Vb _)));have hEnv5:QD ⟨ρ5,H5,w5⟩ env3 a3.tmps:=QD.ext (S:=⟨ρ3,H3,w4⟩) ⟨λt=>(q4.get t).extV (Qer ht) (.inl rfl)⟩ hext5;rw[j1];simp only[VE];refine Qic (by simp) ms5 w5 j2 j3 λw6 ht6 => ?_;obtain⟨v,h3,h4⟩:=Qjl (P:=P) (S:=⟨ρ5,H5,w6⟩) (QeG ht6 hsim5) ⟨λt=>(hEnv5.get t).extV (Qer ht6) (.inl rfl)⟩ hr r1;obtain⟨r,H',hp,h2⟩:=r2;obtain⟨ρ',h5,h6,h7⟩:=h2 ⟨ρ5,H5,w6⟩ v rfl (QeG ht6 hsim5) h4;exact⟨v,h3,.ret r,H',v,ρ',hp,(QgP ht6 hE5 (Vb _)).trans h5,h6,rfl,h7⟩
   cases x3<;>cases e3<;>simp only[ER]at q1
   . obtain⟨Pd,y1,y2⟩:=q7;exact main none .returning Pd (by simp) rfl y1 y2
   . exact q7.elim
   . exact q7.elim
   . obtain⟨Pd,y1,y2⟩:=q7;exact main none .returning Pd (by simp) rfl y1 y2
   . obtain⟨Pd,y1,y2⟩:=q7;obtain⟨v,rfl,hv⟩:=q1;exact main (some _) (.panicking [{ v:=v,recovered:=false }]) Pd (by simp) ⟨v,rfl,hv⟩ y1 y2
 . rintro ch a' w' ⟨x2,env2,ρ2,H2,k1,k2,k3,k4,k5,k6,hx2,_⟩;subst hx2;simp[ER]at k1
def XL (P:ZL) (N:Nat) (D:Array Oper->List Nat->List Ins->Bool):List IC->Env->ZG->(ZF)->Prop
 |[],env,H,K=>K .normal env H
 |i::r,env,H,K=>X P N D i env H λx env H=>match x with
  |.normal=>XL P N D r env H K
  |x=>K x env H
def Qlf (P:ZL) (N:Nat) (D:Array Oper->List Nat->List Ins->Bool) (k:Code->Bool):List IC->Code->Bool
 |[],c=>k c
 |i::r,.seq a b=>QW P N D a i&&Qlf P N D k r b
 |_,_=>false
def QgY (P:ZL) (n0:Nat) (rs:List RS) (Pt:Out->ZG->Prop) (nx:Env->ZG->Prop) (x:XE) (env:Env) (H:ZG):Prop :=
 match x with
 |.normal=>nx env H
 |.ret=>(∀ s∈rs,s.side env H)/\Qc4 n0 Pt (Qa2 env H rs) H
 |_=>False
theorem QwM (hD:DOk P D) {fn:Func} {rs:List RS} {Pt:Out->ZG->Prop} (hr:Qcx P fn.results.toList rs=true) {kk:Code->Bool} {nx:Env->ZG->Prop} {S:St}
 (hk:∀ c,kk c=true->∀ (a1:Act) (w1:ZM) (env1:Env) (ρ1:Nat->Option Nat) (H1:ZG),Ext S.H.length S ⟨ρ1,H1,w1⟩->Sim ⟨ρ1,H1,w1⟩->QD ⟨ρ1,H1,w1⟩ env1 a1.tmps->a1.tmps.size=fn.ntmps->(⟨S.w.heap.size,[],none⟩:DB).Ok w1 a1.defers->nx env1 H1 ->
  c.wpIn (Fr none) 0 P (bodyPostM (Fr none) 0 P fn (λe w'=>∃ (out:Out) (H':ZG) (v:Value) (ρ':Nat->Option Nat),Pt out H'/\Ext S.H.length S ⟨ρ',H',w'⟩/\Sim ⟨ρ',H',w'⟩ /\
  match out with
  |.ret r=>e=.returned v/\VR ⟨ρ',H',w'⟩ r v
  |.pan x=>e=.panicked [{ v:=v,recovered:=false }]/\VR ⟨ρ',H',w'⟩ x v)) a1 w1) :
 ∀ (ias:List IC) (c:Code) (a1:Act) (w1:ZM) (env1:Env) (ρ1:Nat->Option Nat) (H1:ZG),Qlf P fn.ntmps D kk ias c=true->Ext S.H.length S ⟨ρ1,H1,w1⟩->Sim ⟨ρ1,H1,w1⟩->QD ⟨ρ1,H1,w1⟩ env1 a1.tmps->a1.tmps.size=fn.ntmps ->
  (⟨S.w.heap.size,[],none⟩:DB).Ok w1 a1.defers->XL P fn.ntmps D ias env1 H1 (QgY P S.H.length rs Pt nx) ->
  c.wpIn (Fr none) 0 P (bodyPostM (Fr none) 0 P fn (λe w'=>∃ (out:Out) (H':ZG) (v:Value) (ρ':Nat->Option Nat),Pt out H'/\Ext S.H.length S ⟨ρ',H',w'⟩/\Sim ⟨ρ',H',w'⟩ /\
  match out with
  |.ret r=>e=.returned v/\VR ⟨ρ',H',w'⟩ r v
  |.pan x=>e=.panicked [{ v:=v,recovered:=false }]/\VR ⟨ρ',H',w'⟩ x v)) a1 w1:=by
 intro ias
 induction ias with
 |nil=>exact λc a1 w1 env1 ρ1 H1 hc g2 g3 g4 g5 g6 hx=>hk c hc a1 w1 env1 ρ1 H1 g2 g3 g4 g5 g6 hx
 |cons i r ih =>
  intro c a1 w1 env1 ρ1 H1 hc g2 g3 g4 g5 g6 hx
  cases c<;>simp only[Qlf,Vt,Va]at hc
  rename_i ca cb;have hwa:=Qed hD i hc.1 hx ⟨S.w.heap.size,[],none⟩ ⟨ρ1,H1,w1⟩ a1 rfl g3 g4 g5 g6;refine wpIn_seq (wq_mono hwa ?_);rintro e2 a2 w2 ⟨x,env2,ρ2,H2,k1,k2,k3,k4,k5,k6,k7⟩;have hE:Ext S.H.length S ⟨ρ2,H2,w2⟩:=g2.trans (k2.mono (g2.len (Vb _)))
  cases x<;>cases e2<;>simp only[ER]at k1
  . exact ih cb a2 w2 env2 ρ2 H2 hc.2 hE k3 k4 k5 k6 k7
  all_goals first|exact k7.elim|skip
  obtain⟨r1,r2⟩:=k7;obtain⟨ms,m1,m2,m3⟩:=k6.ms;simp only[VE]at m1;show LeavesInM (Fr none) 0 P fn a2.tmps _ a2.defers .returning w2;rw[m1];refine Qic (by simp) ms w2 m2 m3 λw6 ht6 => ?_;obtain⟨v,h3,h4⟩:=Qjl (P:=P) (S:=⟨ρ2,H2,w6⟩) (QeG ht6 k3) ⟨λt=>(k4.get t).extV (Qer ht6) (.inl rfl)⟩ hr r1;obtain⟨r,H',hp,h2⟩:=r2;obtain⟨ρ',h5,h6,h7⟩:=h2 ⟨ρ2,H2,w6⟩ v rfl (QeG ht6 k3) h4;exact⟨v,h3,.ret r,H',v,ρ',hp,(QgP ht6 hE (Vb _)).trans h5,h6,rfl,h7⟩
def QnC (P:ZL) (D:Array Oper->List Nat->List Ins->Bool) (fn:Func) (ins1:Ins) (fo:Od) (ib:IC):Code->Bool
 |.seq (.region _ ops false) cb =>
  (match ops.toList with
   |[o1,od]=>Qdy P fn.ntmps ops o1 ins1&&((match o1.op with|.defer _=>false|_=>true)&&((match od.op with|.defer { callee:=.value f',args:=as,argTypes:=ts }=>as.isEmpty&&(ts.isEmpty&&Qw f' fo)|_=>false) &&
    (od.guard.isNone&&(od.dst.isNone&&QW P fn.ntmps D cb ib))))
   |_=>false)
 |_=>false
def Qjk (P:ZL) (D:Array Oper->List Nat->List Ins->Bool) (fn:Func) (ias:List IC) (ins1:Ins) (fo:Od) (ib:IC) (rs:List RS):Bool :=
 (match fn.body with
  |some c=>Qlf P fn.ntmps D (QnC P D fn ins1 fo ib) ias c
  | none => false) && !(fn.name == "runtime.NumGoroutine") && Qcx P fn.results.toList rs && decide (fn.params.size + fn.nfree <= fn.ntmps)
theorem Qsh {P:ZL} (hm:P.follows .mixedOrders=true) {f:ZN} {fn:Func} {ias:List IC} {ib:IC} {ins1:Ins} {fo:Od} {rs:List RS} (hf:P.funcs[f]? = some fn) (hc:Qjk P Qf fn ias ins1 fo ib rs=true)
 {args:ZH} {H:ZG} {Pt:Out->ZG->Prop} (hn:args.length=fn.params.size+fn.nfree)
 (hx:closed H->XL P fn.ntmps Qf ias (Qce args) H (QgY P H.length rs Pt λenv1 H1=>xo P ins1 env1 H1 λx env2 H2=>x=.normal/\(env2.ev fo).vd=true/\∃ k cap,(env2.ev fo).ug=.fn (.func k) [] cap/\X P fn.ntmps Qf ib env2 H2 (Qg6 P H.length rs Pt k cap))):OkP P f args H Pt:=by
 unfold Qjk at hc;rw[Va,Va,Va]at hc;obtain⟨⟨⟨h1,h2⟩,h3⟩,h4⟩:=hc;split at h1
 . rename_i c hb;refine⟨λvs w=>Go.MuLone.run_callFunc_enter hf (by simpa using h2) hb vs w,?_⟩;intro S vs hH hS hvs;subst hH;refine callsIn_wide.1 (callsIn_of_wp_marks (F:=Fr none) (n:=0) hf hb Zo ?_);have hl:vs.length=args.length:=hvs.1;have h4:args.length<=fn.ntmps:=by rw[hn]; simpa using h4
   refine QwM (QbW hm) h3 (kk:=QnC P Qf fn ins1 fo ib) (nx:=_) ?_ ias c ⟨vs.toArray++Array.replicate (fn.ntmps-vs.toArray.size) undef,[]⟩ S.w (Qce args) S.ρ S.H h1 (Ext.refl _ _) hS (Qnu hvs _) (by simp; omega) ⟨Vb _,⟨[],rfl,YF,λD hD=>by simp at hD⟩,λl h=>by cases h⟩ (hx hS.closed);intro c hc a1 w1 env1 ρ1 H1 g2 g3 g4 g5 g6 g7;unfold QnC at hc;split at hc
   . rename_i rid ops cb;split at hc
     . rename_i o1 od hops;simp only[Va]at hc;obtain⟨k2,k3,k4,k5,k6,k7⟩:=hc;have e:ops = #[o1,od]:=by apply Yo; simpa using hops
       subst e;split at k4
       . rename_i f' as ts hod;simp only[Va,Array.isEmpty_iff]at k4;obtain⟨rfl,rfl,k4⟩:=k4;exact Qv0 (QbW hm) h3 k2 (λc e=>by rw[e]at k3; cases k3) hod (by simpa using k5) (by simpa using k6) k4 k7 g2 g3 g4 g5 g6 g7
       . cases k4
     . cases hc
   . cases hc
 . cases h1
end
end
section
variable [QN] [QG] [Qr]
set_option linter.unusedSectionVars false
section
variable {P:ZL} {N:Nat} {D:Array Oper->List Nat->List Ins->Bool}
theorem WI.of_X (hD:DOk P D) {i:IC} {env:Env} {H:ZG} {K:ZF} (h:X P N D i env H K):WI P N D i env H K:=λ_ hc=>Qed hD i hc h
theorem WI.seq (hD:DOk P D) {a b:IC} {env:Env} {H:ZG} {K:ZF} (h:X P N D a env H λx env H=>match x with|.normal=>WI P N D b env H K|x=>K x env H):WI P N D (.seq a b) env H K:=by
 intro c hc
 cases c<;>simp only[QW,Vt,Va]at hc
 refine W.seq ((Qed hD a hc.1 h).mono ?_);intro x env H hk
 cases x<;>first|exact hk|exact hk _ hc.2
theorem WI.tell {i:IC} {env env':Env} {H H':ZG} {K:ZF} (ht:Qaw env H env' H') (h:WI P N D i env' H' K):WI P N D i env H K:=by
 intro c hc db S a hH hS he hN hd;obtain⟨ρ',h1,h2,h3⟩:=ht S a.tmps hH hS he;exact wq_mono (h c hc db ⟨ρ',H',S.w⟩ a rfl h2 h3 hN (hd.ext hS h1)) λe a w h=>Qav.trans h1 h
theorem WI.cong {i:IC} {env:Env} {H H':ZG} {K:ZF} (e:H'=H) (h:WI P N D i env H' K):WI P N D i env H K:=by rw[<-e]; exact h
theorem Qkf {P:ZL} (hm:P.follows .mixedOrders=true) {f:ZN} {fn:Func} {i:IC} {rs:List RS} (hf:P.funcs[f]? = some fn) (hc:Qdv P Qf fn i rs=true)
 {args:ZH} {H:ZG} {out:Out} {H':ZG} (hn:args.length=fn.params.size+fn.nfree)
 (hx:closed H->WI P fn.ntmps Qf i (Qce args) H (Fin H.length rs out H')):Ok P f args H out H':=by
 unfold Qdv at hc;rw[Va,Va,Va]at hc;obtain⟨⟨⟨h1,h2⟩,h3⟩,h4⟩:=hc;split at h1
 . rename_i c hb;exact(QkQ hf hb (by simpa using h2) (by rw[hn]; simpa using h4) h3 λhcl=>(hx hcl c h1).mono λx env H h=>Qrz h).toOk
 . cases h1
end
end
def IC.tl:Nat->IC->IC
 |0,a=>a
 |k+1,.seq _ b=>IC.tl k b
 |_,a=>a
def IC.nth:Nat->IC->IC
 |0,.seq a _=>a
 |k+1,.seq _ b=>IC.nth k b
 |_,a=>a
section
variable [QN] [QG]
theorem Sim.to (G0 G:Qr) {S:St} (h : @Sim _ _ G0 S) (hk : @St.KF _ G S) : @Sim _ _ G S := @Sim.mk _ _ G S (@Sim.live _ _ G0 S h) (@Sim.bel _ _ G0 S h) (@Sim.inj _ _ G0 S h) (@Sim.lp _ _ G0 S h) (@Sim.gl _ _ G0 S h) hk
variable [G0:Qr]
theorem LI.learn {P:ZL} {N:Nat} {D:Array Oper->List Nat->List Ins->Bool} {i:IC} {env:Env} {H:ZG} {K:ZF} (j p:Nat) {o:AO} {cells:ZH} {len:Nat}
 (ho:H[j]? = some o) (hl:o.live=true) (hp:o.cells[p]? = some (.slc cells len)) (hne:cells≠[]) (hu:SV.underL 0 cells=true)
 (h:∀ (a:Addr) (cap:Nat),@LI _ _ ⟨(.slc cells len,.slice (some a) len cap)::Qr.kn⟩ P N D i env (H.set j ⟨o.cells.set p (.val (.slice (some a) len cap)),o.ty,o.ver,true⟩) K) :
 LI P N D i env H K:=by
 intro c hc db S a hH hS he hN hd;subst hH;have h1:=hS.live j o ho hl
 cases hρ:S.ρ j with
 |none=>rw[hρ]at h1; rw[h1]at hp; simp at hp
 |some b =>
  rw[hρ]at h1;obtain⟨us,rest,h2,h3⟩:=h1;obtain⟨u,hu1,hu2⟩:=h3.get hp;obtain⟨ad,cap,rfl⟩:∃ ad cap,u=.slice (some ad) len cap:=by
   cases hu2 with
   |nilslc=>exact absurd rfl hne
   |slc cells len a cap us hc hl hi h=>exact⟨a,cap,rfl⟩
  have hS':Sim ⟨S.ρ,S.H.set j ⟨o.cells.set p (.val (.slice (some ad) len cap)),o.ty,o.ver,true⟩,S.w⟩:=by
   refine QnF hS ho hl ?_ ?_
   . intro s hs;rcases YY hs with hs|rfl
     . exact(hS.bel j o ho s hs).2 hl
     . rfl
   . intro us' hl' hv';have e:us'.length=us.length:=hv'.1.trans h3.1.symm;have:us'=us:=by
      unfold St.lies at hl';rw[hρ]at hl';obtain⟨rest',h4⟩:=hl';rw[h2]at h4;have h5:us++rest=us'++rest':=by simpa using h4
      exact(List.append_inj h5 e.symm).1.symm
     subst this;refine⟨us'.length,?_⟩;rw[VN];refine⟨by simpa using h3.1,λk s v hs hv => ?_⟩;by_cases hk:k=p
     . subst hk;rw[hu1]at hv; cases hv
       rw[Vo (Qj hp)]at hs; cases hs
       exact .val _
     . rw[Vf (by omega)]at hs;exact h3.2 k s v hs hv
  have hx:=Qgv ho hl (o.cells.set p (.val (.slice (some ad) len cap)));have hkf : @St.KF _ ⟨(.slc cells len,.slice (some ad) len cap)::Qr.kn⟩ ⟨S.ρ,S.H.set j ⟨o.cells.set p (.val (.slice (some ad) len cap)),o.ty,o.ver,true⟩,S.w⟩:=by
   intro q hq;rcases Ve.1 hq with rfl|hq
   . exact⟨by simpa[SV.under]using hu,hu2.ext hx⟩
   . exact hS'.kf q hq
  have hd':=hd.ext hS hx;refine Qjo (h ad cap c hc db ⟨S.ρ,S.H.set j ⟨o.cells.set p (.val (.slice (some ad) len cap)),o.ty,o.ver,true⟩,S.w⟩ a rfl (Sim.to G0 ⟨(.slc cells len,.slice (some ad) len cap)::Qr.kn⟩ hS' hkf) (he.ext hx) hN hd') λe a' w hp => ?_;obtain⟨x,env',ρ,H',k1,k2,k3,k4,k5,k6,k7⟩:=hp;refine⟨x,env',ρ,H',k1,hx.trans (k2.mono (hx.len (Vb _))),Sim.to ⟨(.slc cells len,.slice (some ad) len cap)::Qr.kn⟩ G0 k3 (λq hq => @Sim.kf _ _ ⟨(.slc cells len,.slice (some ad) len cap)::Qr.kn⟩ _ k3 q (VQ _ hq)),k4,k5,k6,k7⟩
theorem Qaw.known {env:Env} {H:ZG} {j p:Nat} {o:AO} (ho:H[j]? = some o) (hl:o.live=true) {a:Addr} {len cap:Nat} (hp:o.cells[p]? = some (.val (.slice (some a) len cap))) {cells:ZH} (hk:(SV.slc cells len,Value.slice (some a) len cap)∈Qr.kn) :
 Qaw env H env (H.set j ⟨o.cells.set p (.slc cells len),o.ty,o.ver,true⟩):=by
 intro S tmps hH hS he;subst hH;have hx:=Qgv ho hl (o.cells.set p (.slc cells len));refine⟨S.ρ,hx,Qmd hS ho hl ?_ (λus h=>⟨us.length,?_⟩),he.ext hx⟩
 . intro s hs;rcases YY hs with hs|rfl
   . exact(hS.bel j o ho s hs).2 hl
   . rfl
 . rw[VN];refine⟨by simpa using h.1,λk s v hs hv => ?_⟩;by_cases hk':k=p
   . subst hk';rw[Vo (Qj hp)]at hs; cases hs
     have:=h.2 _ _ _ hp hv
     cases this
     exact(hS.kf _ hk).2
   . rw[Vf (by omega)]at hs;exact h.2 k s v hs hv
end
section
variable [QN] [QG] [Qr] [QeV] [QfG]
open Go.ChangeShapes Go.WideShapes Go.ChangeAt Go.RowKit
mutual
def Sh.by:Sh->Nat
 |.int k=>k.bits / 8
 |.bool=>1
 |.str=>16
 |.sl _=>24
 |.st l=>Sh.byL l
def Sh.byL:List Sh->Nat
 |[]=>0
 |s::r=>s.by+Sh.byL r
end
section
variable {H:Type} {enc:ZK×Value->H} {P:ZL} {W:ZM} {base:Nat} {spare:Nat->Bool} {held:Bool}
def wOk (l:List Nat):Prop:=∀ n∈l,n<=reachBytes
theorem Qj6 {a b:List Nat}:wOk (a++b)↔wOk a/\wOk b:=by
 unfold wOk;constructor
 . intro h; exact⟨λn hn=>h n (by simp[hn]),λn hn=>h n (by simp[hn])⟩
 . rintro⟨h1,h2⟩ n hn;rcases Vq.1 hn with hn|hn
   . exact h1 n hn
   . exact h2 n hn
theorem Qr0 {t:ZK}:∀ {l:List (DataW H)},wOk (DataW.weightsAll P t l)->∀ d∈l,wOk (d.weights P t)
 |[],_,d,hd=>by simp at hd
 |x::r,h,d,hd=>by
  rw[DataW.weightsAll,Qj6]at h;rcases Ve.1 hd with rfl|hd
  . exact h.1
  . exact Qr0 h.2 d hd
theorem QrJ:∀ {ts:List ZK} {l:List (DataW H)},wOk (DataW.weightsEach P ts l)->∀ (i:Nat) (t:ZK) (d:DataW H),ts[i]? = some t->l[i]? = some d->wOk (d.weights P t)
 |[],_,_,i,t,d,ht,_=>by simp at ht
 |_::_,[],_,i,t,d,_,hd=>by simp at hd
 |t0::ts,d0::l,h,i,t,d,ht,hd=>by
  rw[DataW.weightsEach,Qj6]at h
  cases i with
  |zero=>simp at ht hd; subst ht hd; exact h.1
  |succ i=>simp at ht hd; exact QrJ h.2 i t d ht hd
end
end
section
variable [QN] [QG] [Qr] [QeV] [QfG]
open Go.ChangeShapes Go.WideShapes Go.ChangeAt Go.RowKit
mutual
def Dt.ty (P:ZL):Dt->ZK->Prop
 |.int k n,t=>P.underlying t=some (.int k)/\(Lit.int k n).wf=true
 |.bool _,t=>P.underlying t=some .bool
 |.str s,t=>P.underlying t=some .string/\s.size<=reachBytes
 |.sl l,t=>∃ e,P.underlying t=some (.slice e)/\l.length<=reachBytes/\Dt.tyA P l e
 |.agg l,t=>∃ fs,P.underlying t=some (.struct fs)/\Dt.tyL P l (fs.toList.map (·.type))
def Dt.tyA (P:ZL):List Dt->ZK->Prop
 |[],_=>True
 |d::r,t=>d.ty P t/\Dt.tyA P r t
def Dt.tyL (P:ZL):List Dt->List ZK->Prop
 |[],ts=>ts=[]
 |d::r,ts=>match ts with|[]=>False|t::ts=>d.ty P t/\Dt.tyL P r ts
end
def Qh6 (P:ZL):List Field->Nat->Nat->Bool
 |[],off,tot=>off==tot
 |f::fs,off,tot=>f.offset==off&&Qh6 P fs (off+P.cellsOf f.type) tot
def Qiu (P:ZL) (S:List ZK) (t:ZK):Bool:=match P.underlying t with
 |some (.int _)=>true
 |some .bool=>true
 |some .string=>true
 |some (.slice e)=>S.contains e&&decide (1<=P.bytesOf e)
 |some (.struct fs)=>fs.toList.all (λf=>S.contains f.type)&&Qh6 P fs.toList 0 (P.cellsOf t)
 |_=>false
theorem Qr2 {P:ZL} {t:ZK}:∀ {l:List Dt},Dt.tyA P l t↔∀ x∈l,x.ty P t
 |[]=>by simp[Dt.tyA]
 |d::r=>by simp[Dt.tyA,Qr2 (l:=r)]
mutual
def Qda {H:Type}:DataW H->Nat
 |.lit (.string bytes)=>bytes.length+1
 |.lit _=>1
 |.nil=>1
 |.ptr d=>Qda d+1
 |.slice elems spare=>Qde elems+Qde spare+1
 |.agg parts=>Qde parts+1
 |.iface _ d=>Qda d+1
 |.map entries=>blkE entries+1
 |.held _=>1
def Qde {H:Type}:List (DataW H)->Nat
 |[]=>0
 |d::r=>Qda d+Qde r
def blkE {H:Type}:List (Lit×DataW H)->Nat
 |[]=>0
 |x::r=>blkX x+blkE r
def blkX {H:Type}:Lit×DataW H->Nat
 | (.string bytes,d)=>bytes.length+Qda d+1
 | (_,d)=>Qda d+1
end
theorem Qni {H:Type} (d:DataW H):1<=Qda d:=by
 unfold Qda; split<;>omega
theorem QsG {H:Type}:∀ a b:List (DataW H),Qde (a++b)=Qde a+Qde b
 |[],b=>by simp[Qde]
 |x::a,b=>by simp[Qde,QsG a b]; omega
mutual
def Dt.blk:Dt->Nat
 |.int _ _=>1
 |.bool _=>1
 |.str s=>s.size+1
 |.sl l=>Dt.blkL l+1
 |.agg l=>Dt.blkL l+1
def Dt.blkL:List Dt->Nat
 |[]=>0
 |d::r=>d.blk+Dt.blkL r
end
theorem Qqg:∀ a b:List Dt,Dt.blkL (a++b)=Dt.blkL a+Dt.blkL b
 |[],b=>by simp[Dt.blkL]
 |x::a,b=>by simp[Dt.blkL,Qqg a b]; omega
section
variable {H:Type} {enc:ZK×Value->H} {P:ZL} {W:ZM} {base:Nat} {spare:Nat->Bool} {held:Bool}
theorem QxW {e:ZK} {n:Nat} {a:Addr} {elems:List (DataW H×List MemPlace)} (hw:∀ x∈elems,wOk (x.1.weights P e))
 (ih:∀ cs x,DataW.trod enc P W base spare held n e cs=some x->wOk (x.1.weights P e)->∃ d:Dt,d.ty P e/\VRs (st0 W) d.cells cs/\d.blk<=Qda x.1) :
 ∀ k,k<=elems.length->(∀ i,i<k->(W.cells? base (a.add (i*P.cellsOf e)) (P.cellsOf e)).bind (DataW.trod enc P W base spare held n e)=elems[i]?) ->
  ∃ (ds:List Dt) (us:ZI),ds.length=k/\(∀ x∈ds,x.ty P e)/\VRs (st0 W) (Dt.cellsL ds) us/\us.length=k*P.cellsOf e/\(∀ j u,us[j]? = some u->W.cell? (a.add j)=some u)/\Dt.blkL ds<=Qde ((elems.take k).map (·.1)):=by
 intro k
 induction k with
 |zero=>intro _ _; exact⟨[],[],rfl,by simp,VRs.nil _,by simp,by simp,by simp[Dt.blkL]⟩
 |succ k ihk =>
  intro hk hel;obtain⟨ds,us,h1,h2,h3,h4,h5,hbk⟩:=ihk (by omega) (λi hi=>hel i (by omega));have h6:=hel k (by omega);rw[Vd (by omega),Option.bind_eq_some_iff]at h6;obtain⟨cs,hcs,ht⟩:=h6;obtain⟨d,hd,hv,hdb⟩:=ih cs _ ht (hw _ (Vu _));obtain⟨_,hlen,hc⟩:=World.cells?_some hcs;refine⟨ds++[d],us++cs,by simp[h1],?_,?_,?_,?_,?_⟩
  . intro x hx;rcases Vq.1 hx with hx|hx
    . exact h2 x hx
    . simp at hx; subst hx; exact hd
  . rw[Qrv]; simpa[Dt.cellsL]using h3.append hv
  . simp[h4,hlen,Yj]
  . intro j u hj;by_cases hlt:j<us.length
    . rw[Vc hlt]at hj; exact h5 j u hj
    . rw[Vk (by omega)]at hj;have hj':j-us.length<cs.length:=Qj hj;have:=hc (j-us.length) (by omega);rw[hj,Qg3]at this;rw[<-this]; congr 2; omega
  . rw[YH (by omega),YZ,QsG,Qqg];simp only[Dt.blkL,Qde,Vn,VU]; omega
theorem Qrx {S:List ZK} {n:Nat} (ih:∀ (t:ZK) (cs:ZI) (x:DataW H×List MemPlace),DataW.trod enc P W base spare held n t cs=some x->wOk (x.1.weights P t)->t∈S->∃ d:Dt,d.ty P t/\VRs (st0 W) d.cells cs/\d.blk<=Qda x.1) :
 ∀ {fs:List Field} {off tot:Nat} {cs:ZI} {ys:List (DataW H)},Qh6 P fs off tot=true->(∀ f∈fs,f.type∈S) ->
 (∀ (i:Nat) (f:Field),fs[i]? = some f->∃ x,DataW.trod enc P W base spare held n f.type ((cs.drop f.offset).take (P.cellsOf f.type))=some x/\wOk (x.1.weights P f.type)/\ys[i]? = some x.1)->cs.length=tot ->
 ∃ m,Dt.tyL P m (fs.map (·.type))/\VRs (st0 W) (Dt.cellsL m) (cs.drop off)/\Dt.blkL m<=Qde ys
 |[],off,tot,cs,ys,hc,_,_,hl=>by
  simp only[Qh6,Zr]at hc;refine⟨[],rfl,?_,by simp[Dt.blkL]⟩;rw[V1 (by omega)];exact VRs.nil _
 |f::fs,off,tot,cs,ys,hc,hS,hf,hl=>by
  simp only[Qh6,Va,Zr]at hc;obtain⟨h1,h3⟩:=hc;obtain⟨x,hx,hwx,hy⟩:=hf 0 f rfl;obtain⟨d,hd,hv,hdb⟩:=ih _ _ _ hx hwx (hS f (by simp));obtain⟨y,ys',rfl⟩:∃ y ys',ys=y::ys':=by cases ys with
   |nil=>simp at hy
   |cons y ys'=>exact⟨y,ys',rfl⟩
  have hy:y=x.1:=by simpa using hy
  obtain⟨m,hm,hv',hmb⟩:=Qrx ih (fs:=fs) (cs:=cs) (ys:=ys') h3 (λg hg=>hS g (by simp[hg])) (λi f hi=>hf (i+1) f (by simpa using hi)) hl;refine⟨d::m,⟨hd,hm⟩,?_,by simp only[Dt.blkL,Qde]; rw[hy]; omega⟩;have:=hv.append hv';rw[h1,<- List.drop_drop,Yk]at this;simpa[Dt.cellsL]using this
theorem Qw8 {S:List ZK} (hS:∀ t∈S,Qiu P S t=true):∀ (fuel:Nat) (t:ZK) (cs:ZI) (x:DataW H×List MemPlace),DataW.trod enc P W base spare held fuel t cs=some x->wOk (x.1.weights P t)->t∈S ->
 ∃ d:Dt,d.ty P t/\VRs (st0 W) d.cells cs/\d.blk<=Qda x.1:=by
 intro fuel
 induction fuel with
 |zero=>intro t cs x h; simp[DataW.trod]at h
 |succ n ih =>
  intro t cs x h hw htS;have hc:=hS t htS;unfold Qiu at hc;split at hc
  . rename_i k ht;obtain⟨m,rfl,_,hwf⟩:=DataW.trod_int ht h;exact⟨.int k m,⟨ht,hwf⟩,VRs.cons (.val _) (VRs.nil _),Qni _⟩
  . rename_i ht;obtain⟨b,rfl⟩:∃ b,cs=[.bool b]:=by
     unfold DataW.trod at h;rw[ht]at h;split at h<;>simp_all
    exact⟨.bool b,ht,VRs.cons (.val _) (VRs.nil _),Qni _⟩
  . rename_i ht;obtain⟨s,rfl,rfl,hs⟩:=DataW.trod_string ht h;refine⟨.str s,⟨ht,?_⟩,VRs.cons (.val _) (VRs.nil _),by simp[Dt.blk,Qda]⟩;have:=hw s.data.toList.length (by simp[DataW.weights]);simpa using this
  . rename_i e ht;simp only[Va,Zq,List.contains_iff_mem]at hc;rcases DataW.trod_slice ht h with ⟨rfl,_⟩|⟨a,len,cap,elems,rest,m,hm',rfl,rfl,_,hl,hm,hlen,hel,_,_⟩
    . exact⟨.sl [],⟨e,ht,by simp,by simp[Dt.tyA]⟩,VRs.cons .nilslc (VRs.nil _),Qni _⟩
    . cases hm'
      simp only[DataW.weights,ht]at hw;have hw0:=hw _ (Yx ..);have hwa:wOk (DataW.weightsAll P e (elems.map (·.1))++DataW.weightsAll P e (rest.map (·.1))):=λn hn=>hw n (VQ _ hn);rw[Qj6]at hwa;have hwe:∀ x∈elems,wOk (x.1.weights P e):=λx hx=>Qr0 hwa.1 _ (List.mem_map_of_mem hx);obtain⟨ds,us,h1,h2,h3,h4,h5,hbk⟩:=QxW hwe (λcs x hx hwx=>ih e cs x hx hwx hc.1) len (by omega) hel;refine⟨.sl ds,⟨e,ht,?_,Qr2.2 h2⟩,VRs.cons ?_ (VRs.nil _),by
       rw[VD (by omega)]at hbk;simp only[Dt.blk,Qda]; omega⟩
      . simp only[Yf]at hw0;have k1:ds.length*1<=ds.length*P.bytesOf e:=Nat.mul_le_mul_left _ hc.2;have k2:ds.length*P.bytesOf e<=(elems.length+rest.length)*P.bytesOf e:=Zc _ (by omega);omega
      . have:ds.length=len:=h1;subst this;exact .slc _ _ a cap us hl h3.1 ⟨h5,λ_=>rw0 W _,λhf=>absurd (QfG.old.symm.trans hf) (by decide)⟩ h3.2
  . rename_i fs ht;simp only[Va,Vm,List.contains_iff_mem]at hc;obtain⟨xs,m,hm',rfl,hl,hlen,hf⟩:=DataW.trod_struct ht h
    cases hm'
    simp only[DataW.weights,ht]at hw;have hwe:=QrJ hw;obtain⟨m,hm,hv,hmb⟩:=Qrx (S:=S) (n:=n) ih (fs:=fs.toList) (off:=0) (cs:=cs) (ys:=xs.map (·.1)) hc.2 hc.1 (λi f hi=>by
     have hlt:i<xs.length:=by rw[hlen]; simpa using Qj hi
     refine⟨xs[i],?_,hwe i f.type _ (by simp[hi]) (by simp[hlt]),by simp[hlt]⟩;rw[hf i f (by simpa using hi),Vd hlt]) hl
    exact⟨.agg m,⟨fs,ht,hm⟩,by rw[Dt.cells]; simpa using hv,by simp only[Dt.blk,Qda]; omega⟩
  . cases hc
end
end
end Go.Ab
namespace Go.Ab
open Go.ChangeShapes Go.WideShapes Go.ChangeAt Go.RowKit
section
theorem QpX {a b:List Nat}:wOk (a++b)↔wOk a/\wOk b:=by
 letI:QN:=⟨λ_=>none⟩
 exact Qj6
variable {H:Type} {enc:ZK×Value->H} {P:ZL} {W:ZM} {base:Nat} {spare:Nat->Bool} {held:Bool}
theorem QrS {ts:List ZK} {vs:ZI} {ds:List (DataW H)} {p:List MemPlace} (h:DataW.TrodAll enc P W base spare held ts vs ds p):ds.length=ts.length:=by
 letI:QN:=⟨λ_=>none⟩
 exact Qql h
theorem QxI (hl:laidOutB P=true) {W':ZM} (hb:Below W.heap.size W W') {ts:List ZK} {vs:ZI} {ds:List (DataW H)} {p:List MemPlace}
 (hr:∀ t∈ts,P.readableRec t=true/\t<P.types.size) (h:DataW.TrodAll enc P W 0 (λ_=>true) true ts vs ds p):DataW.TrodAll enc P W' 0 (λb=>decide (b<W.heap.size)) true ts vs ds p:=by
 letI:QN:=⟨λ_=>none⟩
 exact QqE hl hb hr h
end
section
variable [QN] [QG] [Qr]
theorem Qwt {F F':QG} {W:ZM} {l:List Int} {v:Value} (h : @VR F (st0 W) (.slc (QE l) l.length) v) : @VR F' (st0 W) (.slc (QE l) l.length) v:=by
 have hi:∀ (j:Nat) (s:SV),(QE l)[j]? = some s->∃ n,s=i64 n:=by
  intro j s hs;simp only[QE,Vp,VZ]at hs;obtain⟨n,_,rfl⟩:=hs; exact⟨n,rfl⟩
 generalize QE l=cs at *;generalize l.length=n at *
 cases h with
 |nilslc=>exact .nilslc
 |slc cells len a cap us hc hl hm hh =>
  have hv:∀ (j:Nat) (s:SV) (u:Value),cs[j]? = some s->us[j]? = some u->∃ n,s=i64 n/\u=.int .i64 n:=by
   intro j s u hs hu;obtain⟨n,rfl⟩:=hi j s hs;have:=hh j _ u hs hu
   cases this
   exact⟨n,rfl,rfl⟩
  refine .slc _ _ a cap us hc hl ⟨hm.1,λ_=>rw0 W _,λ_ _=>.inr ?_⟩ λj s u hs hu => ?_
  . rw[Vm];intro u hu;obtain⟨j,hj,rfl⟩:=Y0 hu;obtain⟨n,_,h2⟩:=hv j _ us[j] (Vd (by omega)) (Vd hj);rw[h2]; rfl
  . obtain⟨n,rfl,rfl⟩:=hv j s u hs hu;exact .val _
def QiH (P:ZL) (t:ZK):Bool:=match P.underlying t with
 |some (.int _)=>true
 |some .bool=>true
 |some .string=>true
 |some (.slice e)=>(match P.underlying e with|some (.int .i64)=>decide (1<=P.bytesOf e)|_=>false)
 |_=>false
theorem QmH {P:ZL} {e:ZK} (he:P.underlying e=some (.int .i64)):∀ zs:List Dt,Dt.tyA P zs e->∃ l:List Int,Dt.cellsL zs=QE l/\l.length=zs.length
 |[],_=>⟨[],rfl,rfl⟩
 |y::r,hty=>by
  rw[Dt.tyA]at hty;obtain⟨l,g1,g2⟩:=QmH he r hty.2;have h:=hty.1
  cases y with
  |int k n =>
   simp only[Dt.ty,he,Option.some.injEq,TypeDesc.int.injEq]at h;obtain⟨rfl,_⟩:=h;exact⟨n::l,by simp only[Dt.cellsL,g1,Dt.cells]; rfl,by simp[g2]⟩
  |bool b=>simp[Dt.ty,he]at h
  |str s=>simp[Dt.ty,he]at h
  |sl l=>simp[Dt.ty,he]at h
  |agg l=>simp[Dt.ty,he]at h
variable {H:Type} {enc:ZK×Value->H} {P:ZL} {W:ZM} {base b0:Nat} {spare:Nat->Bool} {held:Bool} {r:Reach}
theorem Qyb {t:ZK} (hc:QiH P t=true) {v:Value} {d:DataW H} {p:List MemPlace} (hval:Value.okWide P W r b0 t v) (hd:DataW.Trod enc P W base spare held t v d p) (hw:wOk (d.weights P t)) :
 ∃ dt:Dt,dt.ty P t/\VR (st0 W) dt.sv v:=by
 obtain⟨fuel,h⟩:=hd;unfold QiH at hc;split at hc
 . rename_i k ht;obtain⟨n,rfl⟩:=okWide_int ht hval;obtain⟨m,he,_,hwf⟩:=DataW.trod_int ht h;have he:n=m:=by simpa[Value.cells]using he
   subst he;exact⟨.int k n,⟨ht,hwf⟩,.val _⟩
 . rename_i ht;obtain⟨b,rfl⟩:=okWide_bool ht hval;exact⟨.bool b,ht,.val _⟩
 . rename_i ht;obtain⟨s,rfl⟩:=okWide_string ht hval;obtain⟨s',he,hd,hs⟩:=DataW.trod_string ht h;have he:s=s':=by simpa[Value.cells]using he
   subst he;have hd:d=.lit (.string s.data.toList):=by simpa using Zp Prod.fst hd
   subst hd;refine⟨.str s,⟨ht,?_⟩,.val _⟩;have:=hw s.data.toList.length (by simp[DataW.weights]);simpa using this
 . rename_i e ht;split at hc
   . rename_i he;obtain⟨a,len,cap,rfl⟩:=okWide_slice ht hval;have hS:∀ u∈[t,e],Qiu P [t,e] u=true:=by
      intro u hu;simp only[Ve,VC,Zu]at hu;rcases hu with rfl|rfl
      . unfold Qiu; rw[ht]; simpa using hc
      . unfold Qiu; rw[he]
     obtain⟨dt,k1,k2,_⟩ := @Qw8 (⟨λ_=>none⟩) frNone knNone (@QeV.mk knNone rfl) (@QfG.mk frNone rfl) H enc P W base spare held [t,e] hS fuel t _ _ h hw (by simp)
     cases dt with
     |sl l =>
      have k1':=k1;simp only[Dt.ty,ht,Option.some.injEq,TypeDesc.slice.injEq]at k1;obtain⟨e',rfl,_,k3⟩:=k1;obtain⟨zs,z1,z2⟩:=QmH he l k3;refine⟨.sl l,k1',?_⟩;have hc1:(Dt.sl l).cells=[.slc (QE zs) zs.length]:=by rw[Dt.cells,z1,z2]
      have hsv:(Dt.sl l).sv=.slc (QE zs) zs.length:=by simp only[Dt.sv,hc1]; rfl
      rw[hc1]at k2;rw[hsv];exact Qwt (k2.2 0 _ _ rfl rfl)
     |int k n=>simp[Dt.ty,ht]at k1
     |bool b=>simp[Dt.ty,ht]at k1
     |str s=>simp[Dt.ty,ht]at k1
     |agg l=>simp[Dt.ty,ht]at k1
   . cases hc
 . cases hc
theorem Qo4:∀ {ts:List ZK} {vs:ZI} {ds:List (DataW H)} {p:List MemPlace},(∀ t∈ts,QiH P t=true) ->
 (∀ (j:Nat) t v,ts[j]? = some t->vs[j]? = some v->Value.okWide P W r b0 t v)->DataW.TrodAll enc P W base spare held ts vs ds p->wOk (DataW.weightsEach P ts ds) ->
 ∃ dts,Dt.tyL P dts ts/\VRs (st0 W) (dts.map Dt.sv) vs
 |[],vs,ds,p,hb,hval,h,hw=>by
  obtain⟨rfl,_,_⟩:=trodAll_nil h; exact⟨[],rfl,VRs.nil _⟩
 |t::ts,vs,ds,p,hb,hval,h,hw=>by
  obtain⟨v,vs',d,ds',p,q,rfl,rfl,rfl,h1,h2⟩:=trodAll_cons h;rw[DataW.weightsEach,QpX]at hw;obtain⟨dt,g1,g2⟩:=Qyb (hb t (by simp)) (hval 0 t v rfl rfl) h1 hw.1;obtain⟨dts,g3,g4⟩:=Qo4 (λt ht=>hb t (by simp[ht])) (λj t v ht hv=>hval (j+1) t v (by simpa using ht) (by simpa using hv)) h2 hw.2;exact⟨dt::dts,⟨g1,g3⟩,VRs.cons g2 g4⟩
theorem law_contract_flat [QeV] {f:ZN} {fn:Func} {s:ChangeSpec} (hS:(fn.params.toList.all λt=>QiH P t)=true) (hg:(st0 W).GL) (hl:laidOutB P=true) (hr:∀ t∈fn.params.toList,P.readableRec t=true/\t<P.types.size)
 (hvars:s.vars=[]) (hfn:∀ ds:List (DataW H),ds.length=fn.params.size->s.fn H ds={ results:=[.lit (.bool true)],args:=ds }) {tb:ZK} (hres:fn.resultTypes = #[tb]) (htb:P.underlying tb=some .bool)
 (hok:∀ dts,Dt.tyL P dts fn.params.toList->Ok P f (dts.map Dt.sv) [] (.ret (bl true)) [])
 (args:Array Value) (ds gs:List (DataW H)) (before:List MemPlace)
 (hval:∀ (j:Nat) t v,fn.params[j]? = some t->args[j]? = some v->Value.okWide P W r b0 t v) (hW:DataW.Whole enc P fn.params.toList s.vars false W args.toList ds gs before)
 (hsz:(DataW.weightsEach P (fn.params.toList++s.plain.varTypes P) (ds++gs)).all (· <= reachBytes)=true) :
 Calls P f args W λe W'=>∃ v,e=.returned v/\s.post enc P fn false true false false W args v W':=by
 have hW':=hW;obtain⟨p,q,hA,hV,rfl,hfz,hnd⟩:=hW;rw[hvars]at hV;obtain⟨rfl,rfl⟩:=trodVars_none hV;have hwk:∀ (ts:List ZK) (us:List ZK) (ds:List (DataW H)),ds.length=ts.length->(DataW.weightsEach P (ts++us) (ds++[])).all (· <= reachBytes)=true->wOk (DataW.weightsEach P ts ds):=by
  intro ts us ds
  induction ts generalizing ds with
  |nil=>intro h _; cases ds with|nil=>intro n hn; simp[DataW.weightsEach]at hn|cons d r=>simp at h
  |cons t ts ih =>
   intro h h2
   cases ds with
   |nil=>simp at h
   |cons d r =>
    simp only[Vv,DataW.weightsEach,List.all_append,Va]at h2;rw[DataW.weightsEach,QpX];exact⟨λn hn=>by simpa using Vm.1 h2.1 n hn,ih r (by simpa using h) h2.2⟩
 have hS':∀ t∈fn.params.toList,QiH P t=true:=λt ht=>Vm.1 hS t ht;obtain⟨dts,h1,h2⟩:=Qo4 hS' (λj t v ht hv=>hval j t v (by simpa using ht) (by simpa using hv)) hA (hwk _ _ _ (QrS hA) hsz);have h3:=Qw4 (hok dts h1) hg h2;refine h3.mono λe W' ⟨he,bel⟩ => ?_;subst he;have hlen:ds.length=fn.params.size:=by rw[QrS hA]; simp
 have hf2:=hfn (ds++[]) (by simpa using hlen);refine⟨_,rfl,ds,[],_,[],p,[],hW',?_,?_,?_,bel.frame _,λh=>by cases h⟩
 . rw[hres,hf2];exact trodAll_mk1 (shut_bool htb true)
 . rw[hf2];simpa using QxI hl bel hr hA
 . rw[hf2,hvars]; rfl
end
end Go.Ab
