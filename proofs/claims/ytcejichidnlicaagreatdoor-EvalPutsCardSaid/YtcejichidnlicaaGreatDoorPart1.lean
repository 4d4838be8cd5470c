/-
  Steps of the proof: contracts of functions and plain facts that the statement rests on.
-/
import Derived.Test.YtcejichidnlicaaGreatDoorIr09
import Derived.Test.YtcejichidnlicaaGreatDoorCore5
import Derived.LaidEql
import Derived.Stop.Asserts
import Derived.RowKitTokens
import Derived.Shelf.Abstract
set_option linter.all false
namespace Go.Ab
open Go.RowKit
variable [FrEnv]
variable [GlobEnv]
variable {P:Program}
theorem VRs.two {S:St} {a b:Value} {vs:List Value} (h:VRs S [.val a,.val b] vs):vs=[a,b]:=by
 obtain⟨h1,h2⟩:=h
 match vs,h1 with
 | [x,y],_ =>
  have hx:=h2 0 _ x rfl rfl
  have hy:=h2 1 _ y rfl rfl
  cases hx; cases hy; rfl
end Go.Ab
namespace Go.Proofs.YtcejichidnlicaaGreatDoor
open Go.Ab Go.RowKit
variable [FrEnv]
theorem hm:Tryz.prog.follows .mixedOrders=true:=Tryz.checked.mixed
abbrev B (l:List UInt8):ByteArray:=⟨l.toArray⟩
@[simp] theorem B_size (l:List UInt8):(B l).size=l.length:=by simp[B,ByteArray.size]
theorem B_of (s:ByteArray):s=B s.data.toList:=by obtain⟨⟨l⟩⟩:=s; rfl
@[simp] theorem B_ext (l:List UInt8) (a b:Nat):(B l).extract a b=B ((l.drop a).take (b-a)):=by
 have h:((B l).extract a b).data.toList=(l.drop a).take (b-a):=by
  simp[B,ByteArray.extract,ByteArray.copySlice,List.extract_eq_take_drop]
 rw[B_of ((B l).extract a b),h]
@[simp] theorem B_app (a b:List UInt8):B a++B b=B (a++b):=by
 rw[B_of (B a++B b)]
 simp[B]
end Go.Proofs.YtcejichidnlicaaGreatDoor
namespace Go.Proofs.YtcejichidnlicaaGreatDoor
open Go.Ab
variable [FrEnv]
def fltV (e p:Int):SV:=.agg [i64 e,i64 p]
def blkB (c:Nat):Bool:=blanksL.getD c false
def sgnB (c:Nat):Bool:=signsL.getD c false
def ltrB (c:Nat):Bool:=decide (97≤c∧c≤122∨65≤c∧c≤90∨c=95)
def dgtB (c:Nat):Bool:=decide (48≤c∧c≤57)
def cls (c:Nat):Int:=if c<33∧blkB c=true then 1 else if ltrB c=true then 2 else if dgtB c=true then 3 else if c<126∧sgnB c=true then 4 else 0
set_option maxRecDepth 100000
end Go.Proofs.YtcejichidnlicaaGreatDoor
namespace Go.Proofs.YtcejichidnlicaaGreatDoor
open Go.Ab
variable [FrEnv]
theorem wrap_suc {i:Nat} (h:i<9223372036854775807):IntKind.i64.wrap ((i:Int)+1)=((i+1:Nat):Int):=wrap_succ (by omega)
def cAt (l:List UInt8) (i:Nat):Int:=cls (l.getD i 0).toNat
def runN (l:List UInt8) (cs:List Int):Nat->Nat->Nat
 | 0,e=>e
 | n+1,e=>if e<l.length∧cAt l e∈cs then runN l cs n (e+1)else e
def runE (l:List UInt8) (cs:List Int) (e:Nat):Nat:=runN l cs (l.length-e) e
theorem runE_step {l:List UInt8} {cs:List Int} {e:Nat} (h:e<l.length) (hc:cAt l e∈cs):runE l cs e=runE l cs (e+1):=by
 unfold runE
 rw[show l.length-e=(l.length-(e+1))+1 by omega]
 simp[runN,h,hc]
theorem runE_stop {l:List UInt8} {cs:List Int} {e:Nat} (h:¬ (e<l.length∧cAt l e∈cs)):runE l cs e=e:=by
 unfold runE
 cases l.length-e with
 | zero=>rfl
 | succ n=>simp[runN]; intro h1 h2; exact absurd ⟨h1,h2⟩ h
theorem runN_le {l:List UInt8} {cs:List Int}:∀ (n e:Nat),e≤runN l cs n e
 | 0,e=>Nat.le_refl _
 | n+1,e=>by
  simp only[runN]; split
  · exact Nat.le_trans (by omega) (runN_le n (e+1))
  · exact Nat.le_refl _
theorem runE_le {l:List UInt8} {cs:List Int} (e:Nat):e≤runE l cs e:=runN_le _ _
theorem runN_len {l:List UInt8} {cs:List Int}:∀ (n e:Nat),e≤l.length->runN l cs n e≤l.length
 | 0,e,h=>h
 | n+1,e,h=>by
  simp only[runN]; split
  · exact runN_len n (e+1) (by omega)
  · exact h
theorem runE_len {l:List UInt8} {cs:List Int} {e:Nat} (h:e≤l.length):runE l cs e≤l.length:=runN_len _ _ h
end Go.Proofs.YtcejichidnlicaaGreatDoor
namespace Go.Proofs.YtcejichidnlicaaGreatDoor
open Go.Ab
variable [FrEnv]
def dbls:List (List UInt8):=[[61,61],[33,61],[60,61],[62,61],[46,46]]
def isDbl (r:List UInt8):Bool:=dbls.any fun p=>p.isPrefixOf r
def signE (l:List UInt8) (e:Nat):Nat:=if isDbl (l.drop e)=true then e+2 else if l.getD e 0=33∨l.getD e 0=46 then e else e+1
def comE:List UInt8->Nat
 | []=>0
 | c::r=>if c=10 then 0 else comE r+1
theorem comE_le:∀ l:List UInt8,comE l≤l.length
 | []=>Nat.le_refl _
 | c::r=>by
  have:=comE_le r
  simp only[comE,List.length_cons]
  split<;>omega
theorem u8i (c d:UInt8):((c.toNat:Int)=(d.toNat:Int))↔c=d:=⟨fun h=>UInt8.toNat_inj.1 (by omega),fun h=>by rw[h]⟩
end Go.Proofs.YtcejichidnlicaaGreatDoor
namespace Go.Proofs.YtcejichidnlicaaGreatDoor
open Go.Ab
variable [FrEnv]
def numR:List UInt8->Int->Int×Int
 | [],n=>(0,n)
 | c::r,n=>if 1000000000<10*n+((c.toNat:Int)-48)then(2,10*n+((c.toNat:Int)-48))else numR r (10*n+((c.toNat:Int)-48))
def whE (l:List UInt8) (k:Int) (tx:List UInt8) (p:Nat):Int×Int :=
 if tx=[]∨(k=1∧0<p∧cAt l (p-1)=3)then(11,0)else if k=1∧40<tx.length then(4,0)else if k≠2 then(0,0)else if 1<tx.length∧tx.getD 0 0=48 then(3,0)else numR tx 0
section
variable {H A L:List AO} {l tx:List UInt8}
theorem st_u8 (n:Int):[SV.gd true (u8 n)].map SV.strip=[u8 n]:=by simp only[List.map_cons,List.map_nil,SV.strip,u8]
end
end Go.Proofs.YtcejichidnlicaaGreatDoor
namespace Go.Proofs.YtcejichidnlicaaGreatDoor
open Go.Ab
variable [FrEnv]
structure Tok where
 k:Int
 tx:List UInt8
 n:Int
 p:Nat
def Tok.c (t:Tok):List SV:=[i64 t.k,st (B t.tx),i64 t.n,i64 t.p]
def Tok.v (t:Tok):SV:=.agg t.c
inductive Stp where
 | skip (q:Nat)
 | tok (t:Tok) (q:Nat)
 | flt (e:Int)
def cut (l:List UInt8) (p q:Nat):List UInt8:=(l.drop p).take (q-p)
def mkStp (l:List UInt8) (p:Nat) (k:Int) (q:Nat):Stp :=
 if(whE l k (cut l p q) p).1≠0 then .flt (whE l k (cut l p q) p).1 else .tok ⟨k,cut l p q,(whE l k (cut l p q) p).2,p⟩ q
def stepT (l:List UInt8) (p:Nat):Stp :=
 if cAt l p=1 then .skip (p+1)else if cAt l p=2 then mkStp l p 1 (runE l [2,3] p)else if cAt l p=3 then mkStp l p 2 (runE l [3] p)
 else if cAt l p=4 then mkStp l p 3 (signE l p)else if l.getD p 0=35 then .skip (p+comE (l.drop p))else mkStp l p 0 p
inductive Ev where
 | tok (t:Tok)
 | flt (e:Int) (p:Nat)
def evs (l:List UInt8):Nat->Nat->List Ev
 | 0,_=>[]
 | n+1,p=>if p<l.length then(match stepT l p with
  | .skip q=>evs l n q
  | .tok t q=>.tok t::evs l n q
  | .flt e=>[.flt e p])else []
def zT:SV:=.agg [i64 0,st (B []),i64 0,i64 0]
section
variable {l:List UInt8}
theorem cut_len {p q:Nat} (h:p≤q) (hq:q≤l.length):(cut l p q).length=q-p:=by simp[cut]; omega
end
end Go.Proofs.YtcejichidnlicaaGreatDoor
namespace Go.Proofs.YtcejichidnlicaaGreatDoor
open Go.Ab
variable [FrEnv]
theorem cAt_digit {l:List UInt8} {i:Nat} (h:i<l.length) (hc:cAt l i=3):48≤l[i].toNat∧l[i].toNat≤57:=by
 have e:cls l[i].toNat=3:=by simpa[cAt,h]using hc
 unfold cls at e
 by_cases hd:dgtB l[i].toNat=true
 · simpa[dgtB]using hd
 · rw[if_neg hd]at e
   by_cases h1:l[i].toNat<33∧blkB l[i].toNat=true
   · rw[if_pos h1]at e; cases e
   · rw[if_neg h1]at e
     split at e
     · cases e
     · split at e<;>cases e
theorem runN_all {l:List UInt8} {cs:List Int}:∀ (n e i:Nat),e≤i->i<runN l cs n e->i<l.length∧cAt l i∈cs
 | 0,e,i,h1,h2=>by simp[runN]at h2; omega
 | n+1,e,i,h1,h2=>by
  simp only[runN]at h2
  split at h2
  · rename_i h
    by_cases hi:i=e
    · subst hi; exact h
    · exact runN_all n (e+1) i (by omega) h2
  · omega
theorem run_digits {l:List UInt8} {p:Nat}:∀ c∈cut l p (runE l [3] p),48≤c.toNat∧c.toNat≤57:=by
 intro c hc
 obtain⟨j,hj,rfl⟩:=List.mem_iff_getElem.1 hc
 simp only[cut,List.length_take,List.length_drop]at hj
 have h1:=runN_all (l:=l) (cs:=[3]) (l.length-p) p (p+j) (by omega) (by unfold runE at hj; omega)
 have h2:=cAt_digit h1.1 (by simpa using h1.2)
 simpa[cut]using h2
section
variable {l:List UInt8}
theorem comE_pos {p:Nat} (h:p<l.length) (hc:l.getD p 0=35):0<comE (l.drop p):=by
 rw[List.drop_eq_getElem_cons h]
 have:l[p]=35:=by simpa[h]using hc
 simp[comE,this]
theorem signE_rng {p:Nat} (hp:p<l.length):p≤signE l p∧signE l p≤l.length:=by
 unfold signE
 split
 · rename_i h
   obtain⟨d,hd,hpre⟩:=List.any_eq_true.1 h
   have h2:d.length=2:=by
    have:∀ p∈dbls,p.length=2:=by decide
    exact this _ hd
   have:=(List.isPrefixOf_iff_prefix.1 hpre).length_le
   simp at this
   omega
 · split<;>omega
theorem mkStp_lt {p q:Nat} {k:Int} {t:Tok} (h:mkStp l p k q=.tok t q):p<q:=by
 unfold mkStp at h
 by_cases hc:cut l p q=[]
 · have:(whE l k (cut l p q) p).1=11:=by unfold whE; rw[if_pos (.inl hc)]
   rw[this,if_pos (by decide)]at h
   cases h
 · rcases Nat.lt_or_ge p q with h1 | h1
   · exact h1
   · exfalso; apply hc; simp[cut]; omega
end
end Go.Proofs.YtcejichidnlicaaGreatDoor
namespace Go.Proofs.YtcejichidnlicaaGreatDoor
open Go.Ab
variable [FrEnv]
theorem fz_fn {n:Nat} {ks:List Nat} {L:List AO} {d:Nat} (f:Fn) (a b:List SV):SV.fz n ks L (d+2) (.fn f a b)=.fn f (a.map (SV.fz n ks L (d+1))) (b.map (SV.fz n ks L (d+1))):=by
 conv=>lhs; unfold SV.fz
 split
 · rename_i h
   rw[SV.under,Bool.and_eq_true]at h
   rw[map_fz_under _ _ _ _ h.1,map_fz_under _ _ _ _ h.2]
 · rfl
def toks:List Ev->List Tok
 | []=>[]
 | .tok t::r=>t::toks r
 | .flt _ _::r=>toks r
def fltE:Nat->List Ev->Int×Int
 | _,[]=>(0,0)
 | i,.tok t::r=>if i=5000 then(12,t.p)else fltE (i+1) r
 | _,.flt e p::_=>(e,p)
def rwT (ts:List Tok):AO:=⟨ts.flatMap Tok.c,105,ts.length,true⟩
@[simp] theorem if1:(SV.val Value.nilIface).isIf=true:=rfl
@[simp] theorem if2:(SV.val Value.nilIface).ifNil=true:=rfl
@[simp] theorem if3 (t:TypeId) (x:SV):(SV.ifc t x).isIf=true:=rfl
@[simp] theorem if4 (t:TypeId) (x:SV):(SV.ifc t x).ifNil=false:=rfl
theorem sum4 {α:Type} (ts:List α):(List.map (fun _=>4) ts).sum=ts.length*4:=by
 induction ts with
 | nil=>rfl
 | cons t r ih=>simp only[List.map_cons,List.sum_cons,ih,List.length_cons]; omega
section
variable {H:List AO} {l:List UInt8}
theorem fm_len (ts:List Tok):(ts.flatMap Tok.c).length=4*ts.length:=by
 induction ts with
 | nil=>rfl
 | cons t r ih=>simp only[List.flatMap_cons,List.length_append,ih,List.length_cons]; simp[Tok.c]; omega
end
end Go.Proofs.YtcejichidnlicaaGreatDoor
namespace Go.Proofs.YtcejichidnlicaaGreatDoor
open Go.Ab
variable [FrEnv]
def evsT (l:List UInt8):List Ev:=evs l l.length 0
def scanG (l:List UInt8):List Tok×Int×Int :=
 if 20000<l.length then([],4,20000)else if(fltE 0 (evsT l)).1=0 then(toks (evsT l),0,0)else([],fltE 0 (evsT l))
def tksV (ts:List Tok):SV:=.slc (ts.flatMap Tok.c) ts.length
theorem toks_app:∀ a b:List Ev,toks (a++b)=toks a++toks b
 | [],b=>rfl
 | .tok t::a,b=>by simp[toks,toks_app a b]
 | .flt e p::a,b=>by simp[toks,toks_app a b]
theorem evs_flt {l:List UInt8}:∀ (n p:Nat) {e:Int} {q:Nat},Ev.flt e q∈evs l n p->e≠0
 | 0,p,e,q,h=>by simp[evs]at h
 | n+1,p,e,q,h=>by
  simp only[evs]at h
  split at h
  · split at h
    · exact evs_flt n _ h
    · rcases List.mem_cons.1 h with h | h
      · cases h
      · exact evs_flt n _ h
    · rename_i e' he
      rw[List.mem_singleton]at h
      cases h
      have key:∀ k q,mkStp l p k q=.flt e->e≠0:=by
       intro k q hm
       unfold mkStp at hm
       split at hm
       · rename_i hne; cases hm; exact hne
       · cases hm
      unfold stepT at he
      split at he
      · cases he
      · split at he
        · exact key _ _ he
        · split at he
          · exact key _ _ he
          · split at he
            · exact key _ _ he
            · split at he
              · cases he
              · exact key _ _ he
  · simp at h
theorem und_toks (n:Nat):∀ ts:List Tok,SV.underL n (ts.flatMap Tok.c)=true
 | []=>rfl
 | t::r=>by rw[List.flatMap_cons,SV.underL_append,und_toks n r]; rfl
theorem tk_take (ts:List Tok):(ts.flatMap Tok.c).take (ts.length*4)=ts.flatMap Tok.c:=List.take_of_length_le (by rw[fm_len]; omega)
end Go.Proofs.YtcejichidnlicaaGreatDoor
namespace Go.Proofs.YtcejichidnlicaaGreatDoor
open Go.Ab
variable [FrEnv]
def whtB (c:Nat):Bool:=decide (c=32∨c=9∨c=10)
theorem cls_all:((List.range 256).all fun n=>(decide (cls n=2)==ltrB n)&&(decide (cls n=3)==dgtB n)&&(decide (cls n=1)==whtB n)&&(decide (cls n=4)==(decide (n=33∨n=46)||(([123,125,40,41,58,59,44,43,45,42,47,37,60,62,61]:List Nat).contains n))))=true:=by kernel_rfl
theorem cls_at {n:Nat} (h:n<256):(cls n=2↔ltrB n=true)∧(cls n=3↔dgtB n=true)∧(cls n=1↔whtB n=true)∧(cls n=4↔((n=33∨n=46)∨n∈([123,125,40,41,58,59,44,43,45,42,47,37,60,62,61]:List Nat))):=by
 have:=List.all_eq_true.1 cls_all n (List.mem_range.2 h)
 simp only[Bool.and_eq_true,beq_iff_eq]at this
 obtain⟨⟨⟨h1,h2⟩,h3⟩,h4⟩:=this
 refine⟨?_,?_,?_,?_⟩
 · rw[←h1]; simp
 · rw[←h2]; simp
 · rw[←h3]; simp
 · have h5:(cls n=4)↔(decide (cls n=4)=true):=by simp
   rw[h5,h4]; simp
section
variable {H:List AO}
theorem ok85 (n:Nat) (hn:n<256):Ok Tryz.prog 85 [u8 n] H (.ret (bl (whtB n))) H:=by
 refine ok_fn hm Tryz.func85 c85 (by simp) fun hcl => ?_
 simp -implicitDefEqProofs[i85,r85]
 have e:((decide ((n:Int)=32)||decide ((n:Int)=9))||decide ((n:Int)=10))=whtB n:=by rw[Bool.eq_iff_iff]; simp[whtB]; omega
 rw[e]; exact cv_id
theorem ok105 (n:Nat) (hn:n<256):Ok Tryz.prog 105 [u8 n] H (.ret (bl (dgtB n))) H:=by
 refine ok_fn hm Tryz.func105 c105 (by simp) fun hcl => ?_
 simp -implicitDefEqProofs[i105,r105]
 have e:(decide (48≤(n:Int))&&decide ((n:Int)≤57))=dgtB n:=by rw[Bool.eq_iff_iff]; simp[dgtB]; omega
 rw[e]; exact cv_id
theorem ok87 (n:Nat) (hn:n<256):Ok Tryz.prog 87 [u8 n] H (.ret (bl (ltrB n))) H:=by
 refine ok_fn hm Tryz.func87 c87 (by simp) fun hcl => ?_
 simp -implicitDefEqProofs[i87,r87]
 have e:(decide (65≤(n:Int))&&decide ((n:Int)≤90)||decide (97≤(n:Int))&&decide ((n:Int)≤122)||decide ((n:Int)=95))=ltrB n:=by rw[Bool.eq_iff_iff]; simp[ltrB]; omega
 refine⟨by omega,by omega,by omega,?_⟩
 rw[e]; exact cv_id
theorem ok107 (s:List UInt8):Ok Tryz.prog 107 [st (B s)] H (.ret (bl (decide (s∈dbls)))) H:=by
 refine ok_fn hm Tryz.func107 c107 (by simp) fun hcl => ?_
 simp -implicitDefEqProofs[i107,r107]
 have e:(decide (s=[61,61])||decide (s=[33,61])||decide (s=[60,61])||decide (s=[62,61])||decide (s=[46,46]))=decide (s∈dbls):=by rw[Bool.eq_iff_iff]; simp[dbls,or_assoc]
 rw[e]; exact cv_id
def sgls:List UInt8:=[123,125,40,41,58,59,44,43,45,42,47,37,60,62,61]
theorem loop108 {c:UInt8} {N:Nat} {K:XE->Env->List AO->Prop} (hyes:c∈sgls->∀ env,env.get 2=bl true->K .ret env H) (hno:c∉sgls->∀ env,K (.exit 0) env H) :
 ∀ (k i:Nat) (env:Env),i+k=sgls.length->c∉sgls.take i->env.get 0=u8 c.toNat->env.get 3=st (B sgls)->env.get 4=i64 i->LI Tryz.prog N drawB l108_0 env H K:=by
 intro k
 induction k with
 | zero =>
  intro i env hi hn h0 h3 h4
  refine li_go hm l108_0.eq_1 ?_
  have e:i=sgls.length:=by omega
  subst e
  rw[List.take_length]at hn
  simp -implicitDefEqProofs[h0,h3,h4]
  exact hno hn _
 | succ k ih =>
  intro i env hi hn h0 h3 h4
  refine li_go hm l108_0.eq_1 ?_
  have hlt:i<sgls.length:=by omega
  have hl15:sgls.length=15:=rfl
  have htk:sgls.take (i+1)=sgls.take i++[sgls[i]]:=List.take_succ_eq_append_getElem hlt
  have hmem:sgls[i]∈sgls:=List.getElem_mem hlt
  have f1:=u8i sgls[i] c
  simp -implicitDefEqProofs[h0,h3,h4,hlt]
  split
  · rename_i h
    exact hyes (by rw[←f1.1 h]; exact hmem) _ (by simp)
  · rename_i h
    refine ih (i+1) _ (by omega) ?_ (by simp[h0]) (by simp[h3]) (by simp[wrap_suc (show i<9223372036854775807 by omega)])
    rw[htk]
    intro hm
    rcases List.mem_append.1 hm with h2 | h2
    · exact hn h2
    · exact h (f1.2 (List.mem_singleton.1 h2).symm)
theorem ok108 (c:UInt8):Ok Tryz.prog 108 [u8 c.toNat] H (.ret (bl (decide (c∈sgls)))) H:=by
 refine ok_fn hm Tryz.func108 c108 (by simp) fun hcl => ?_
 simp -implicitDefEqProofs[i108,r108]
 refine loop108 (c:=c) (fun h env h2 => ?_) (fun h env => ?_) sgls.length 0 _ (by omega) (by simp) (by simp) (by simp[sgls]) (by simp)
 · simp -implicitDefEqProofs[h2,h]
   exact cv_id
 · simp -implicitDefEqProofs[h]
   exact cv_id
end
end Go.Proofs.YtcejichidnlicaaGreatDoor
namespace Go.Proofs.YtcejichidnlicaaGreatDoor
open Go.Ab
variable [FrEnv]
def valF:List UInt8->Int->Int
 | [],m=>m
 | c::r,m=>valF r (10*m+((c.toNat:Int)-48))
def numW (tx:List UInt8):Int×Int:=if 1<tx.length∧tx.getD 0 0=48 then(3,0)else numR tx 0
theorem valF_ge {tx:List UInt8}:∀ {m:Int},(∀ c∈tx,48≤c.toNat∧c.toNat≤57)->0≤m->m*10 ^ tx.length≤valF tx m∧valF tx m<(m+1)*10 ^ tx.length:=by
 induction tx with
 | nil=>intro m _ _; simp[valF]; omega
 | cons c r ih =>
  intro m hd hm
  have h1:=hd c (by simp)
  have h2:=ih (m:=10*m+((c.toNat:Int)-48)) (fun x hx=>hd x (by simp[hx])) (by omega)
  simp only[valF,List.length_cons]
  have e:(10:Int) ^ (r.length+1)=10*10 ^ r.length:=by rw[Int.pow_succ]; omega
  have hp:(0:Int)≤10 ^ r.length:=Int.pow_nonneg (by omega)
  rw[e]
  generalize (10:Int) ^ r.length=t at h2 hp
  constructor
  · have:m*(10*t)≤(10*m+((c.toNat:Int)-48))*t:=by
     have e2:m*(10*t)=(10*m)*t:=by rw[Int.mul_comm 10 m,Int.mul_assoc]
     rw[e2]; exact Int.mul_le_mul_of_nonneg_right (by omega) hp
    omega
  · have:(10*m+((c.toNat:Int)-48)+1)*t≤(m+1)*(10*t):=by
     have e2:(m+1)*(10*t)=(10*(m+1))*t:=by rw[Int.mul_comm 10 (m+1),Int.mul_assoc]
     rw[e2]; exact Int.mul_le_mul_of_nonneg_right (by omega) hp
    omega
theorem valF_le {tx:List UInt8}:∀ {m:Int},(∀ c∈tx,48≤c.toNat∧c.toNat≤57)->0≤m->m≤valF tx m:=by
 induction tx with
 | nil=>intro m _ _; simp[valF]
 | cons c r ih =>
  intro m hd hm
  have h1:=hd c (by simp)
  have h2:=ih (m:=10*m+((c.toNat:Int)-48)) (fun x hx=>hd x (by simp[hx])) (by omega)
  simp only[valF]; omega
theorem numR_val {tx:List UInt8}:∀ {m:Int},(∀ c∈tx,48≤c.toNat∧c.toNat≤57)->0≤m->m≤1000000000->(valF tx m≤1000000000->numR tx m=(0,valF tx m))∧(1000000000<valF tx m->(numR tx m).1=2):=by
 induction tx with
 | nil=>intro m _ _ h1; simp only[valF,numR]; exact⟨fun _=>trivial,fun h=>by omega⟩
 | cons c r ih =>
  intro m hd hm h1
  have h2:=hd c (by simp)
  have hr:∀ x∈r,48≤x.toNat∧x.toNat≤57:=fun x hx=>hd x (by simp[hx])
  simp only[valF,numR]
  by_cases h:1000000000<10*m+((c.toNat:Int)-48)
  · rw[if_pos h]
    have:=valF_le (m:=10*m+((c.toNat:Int)-48)) hr (by omega)
    exact⟨fun h3=>by omega,fun _=>rfl⟩
  · rw[if_neg h]
    exact ih hr (by omega) (by omega)
theorem numW_long {tx:List UInt8} (hd:∀ c∈tx,48≤c.toNat∧c.toNat≤57) (h10:10<tx.length) (h0:tx.getD 0 0≠48):1000000000<valF tx 0:=by
 match tx,h10 with
 | c::r,h10 =>
  have h1:=hd c (by simp)
  have hne:c.toNat≠48:=fun h=>h0 (by simp; exact UInt8.toNat_inj.1 h)
  have h2:=(valF_ge (tx:=r) (m:=10*0+((c.toNat:Int)-48)) (fun x hx=>hd x (by simp[hx])) (by omega)).1
  simp only[valF]
  have h3:(10:Int) ^ 10≤10 ^ r.length:=by
   have:(10:Nat) ^ 10≤10 ^ r.length:=Nat.pow_le_pow_right (by omega) (by simp at h10; omega)
   exact_mod_cast this
  have h4:(1:Int)*10 ^ r.length≤(10*0+((c.toNat:Int)-48))*10 ^ r.length:=Int.mul_le_mul_of_nonneg_right (by omega) (Int.pow_nonneg (by omega))
  have:(10:Int) ^ 10=10000000000:=by decide
  omega
theorem valF_snoc (c:UInt8):∀ (tx:List UInt8) (m:Int),valF (tx++[c]) m=10*valF tx m+((c.toNat:Int)-48)
 | [],m=>rfl
 | d::r,m=>by simp only[List.cons_append,valF]; exact valF_snoc c r _
section
variable {H:List AO}
theorem loop106 {tx:List UInt8} (hd:∀ c∈tx,48≤c.toNat∧c.toNat≤57) (h10:tx.length≤10) {N:Nat} {K:XE->Env->List AO->Prop} (hexit:∀ env,env.get 4=i64 (valF tx 0)->K (.exit 0) env H) :
 ∀ (k i:Nat) (env:Env),i+k=tx.length->env.get 0=st (B tx)->env.get 4=i64 (valF (tx.take i) 0)->env.get 5=i64 i->LI Tryz.prog N drawB l106_0 env H K:=by
 intro k
 induction k with
 | zero =>
  intro i env hi h0 h4 h5
  refine li_go hm l106_0.eq_1 ?_
  have e:i=tx.length:=by omega
  subst e
  rw[List.take_length]at h4
  simp -implicitDefEqProofs[h0,h4,h5]
  exact hexit _ (by simp[h4])
 | succ k ih =>
  intro i env hi h0 h4 h5
  refine li_go hm l106_0.eq_1 ?_
  have hlt:i<tx.length:=by omega
  have hc:=hd tx[i] (List.getElem_mem hlt)
  have e2:=valF_snoc tx[i] (tx.take i) 0
  rw[←List.take_succ_eq_append_getElem hlt]at e2
  have hb:=valF_ge (tx:=tx.take i) (m:=0) (fun c hc=>hd c (List.mem_of_mem_take hc)) (by omega)
  have h3:(10:Int) ^ (tx.take i).length≤10 ^ 10:=by
   have:(10:Nat) ^ (tx.take i).length≤10 ^ 10:=Nat.pow_le_pow_right (by omega) (by simp; omega)
   exact_mod_cast this
  have h10':(10:Int) ^ 10=10000000000:=by decide
  generalize valF (tx.take i) 0=m at h4 e2 hb
  have w1:IntKind.i64.wrap (10*m)=10*m:=wrap_id (by omega) (by omega)
  have w2:IntKind.u8.wrap ((tx[i].toNat:Int)-48)=(tx[i].toNat:Int)-48:=by unfold IntKind.wrap; simp[IntKind.signed,IntKind.bits]; omega
  have w3:IntKind.i64.wrap ((tx[i].toNat:Int)-48)=(tx[i].toNat:Int)-48:=wrap_id (by omega) (by omega)
  have w4:IntKind.i64.wrap (10*m+((tx[i].toNat:Int)-48))=10*m+((tx[i].toNat:Int)-48):=wrap_id (by omega) (by omega)
  simp -implicitDefEqProofs[h0,h4,h5,hlt,w1,w2,w3,w4]
  exact ih (i+1) _ (by omega) (by simp[h0]) (by simp[e2]) (by simp[wrap_suc (show i<9223372036854775807 by omega)])
theorem ok106 {tx:List UInt8} (hd:∀ c∈tx,48≤c.toNat∧c.toNat≤57) (hne:tx≠[]) (hl:tx.length<4611686018427387904) :
 Ok Tryz.prog 106 [st (B tx)] H (.ret (.tup [i64 (if(numW tx).1=0 then(numW tx).2 else 0),i64 (numW tx).1])) H:=by
 refine ok_fn hm Tryz.func106 c106 (by simp) fun hcl => ?_
 have hpos:0<tx.length:=List.length_pos_iff.2 hne
 have hg:tx.getD 0 0=tx[0]:=by simp[hpos]
 have f1:((tx[0].toNat:Int)=48)↔tx[0]=48:=u8i tx[0] 48
 by_cases h1:1<tx.length∧tx[0]=48
 · have hw:numW tx=(3,0):=by unfold numW; rw[hg,if_pos h1]
   have h1':(1:Int)<tx.length:=by omega
   rw[hw]
   simp -implicitDefEqProofs[i106,r106,hpos,h1',f1.2 h1.2]
   exact cv_id
 · have hw:numW tx=numR tx 0:=by unfold numW; rw[hg,if_neg h1]
   rw[hw]
   have hn:=numR_val (tx:=tx) (m:=0) hd (by omega) (by omega)
   by_cases h10:10<tx.length
   · have hbig:=numW_long hd h10 (by rw[hg]; intro h; exact h1 ⟨by omega,h⟩)
     rw[hn.2 hbig]
     have h10':(10:Int)<tx.length:=by omega
     have hx:¬ tx[0]=48:=fun h=>h1 ⟨by omega,h⟩
     simp -implicitDefEqProofs[i106,r106,hpos,h10',f1,hx]
     exact cv_id
   · simp -implicitDefEqProofs[i106,r106,hpos,f1]
     rw[if_neg (fun h=>h1 ⟨by omega,h.2⟩),if_neg (by omega)]
     refine loop106 hd (by omega) (fun env h4 => ?_) tx.length 0 _ (by omega) (by simp) (by simp[valF]) (by simp)
     by_cases hv:1000000000<valF tx 0
     · rw[hn.2 hv]
       simp -implicitDefEqProofs[h4,hv]
       exact cv_id
     · rw[hn.1 (by omega)]
       simp -implicitDefEqProofs[h4,hv]
       exact cv_id
end
end Go.Proofs.YtcejichidnlicaaGreatDoor
namespace Go.Proofs.YtcejichidnlicaaGreatDoor
open Go.Ab
variable [FrEnv]
section
variable {H:List AO} {l:List UInt8}
theorem cAt_get {e:Nat} (he:e<l.length):cAt l e=cls l[e].toNat:=by simp[cAt,he]
theorem loop86_0 (hl:l.length<4611686018427387904) {N:Nat} {K:XE->Env->List AO->Prop} {p:Nat} {x4 x6:SV}
 (hexit:∀ env,env.get 0=st (B l)->env.get 1=i64 p->env.get 4=x4->env.get 6=x6->env.get 7=i64 (runE l [2,3] p)->K (.exit 0) env H) :
 ∀ (k e:Nat) (env:Env),e+k=l.length->runE l [2,3] e=runE l [2,3] p->env.get 0=st (B l)->env.get 1=i64 p->env.get 4=x4->env.get 6=x6->env.get 7=i64 e->LI Tryz.prog N drawB l86_0 env H K:=by
 intro k
 induction k with
 | zero =>
  intro e env he hr h0 h1 h4 h6 h7
  refine li_go hm l86_0.eq_1 ?_
  have hlt:¬ e<l.length:=by omega
  have hs:=runE_stop (l:=l) (cs:=[2,3]) (e:=e) (by omega)
  rw[hs]at hr
  simp -implicitDefEqProofs[h0,h1,h4,h6,h7,hlt]
  refine callq_go (r:=bl false) (fun h=>by cases h) ?_
  simp -implicitDefEqProofs[h0,h1,h4,h6,h7,hlt]
  refine callq_go (r:=bl false) (fun h=>by cases h) ?_
  simp -implicitDefEqProofs[h0,h1,h4,h6,h7,hlt]
  exact hexit _ (by simp[h0]) (by simp[h1]) (by simp[h4]) (by simp[h6]) (by simp[h7]; rw[←hr])
 | succ k ih =>
  intro e env he hr h0 h1 h4 h6 h7
  refine li_go hm l86_0.eq_1 ?_
  have hlt:e<l.length:=by omega
  have hb:l[e].toNat<256:=l[e].toNat_lt
  obtain⟨q2,q3,_,_⟩:=cls_at hb
  simp -implicitDefEqProofs[h0,h1,h4,h6,h7,hlt]
  refine callq_st (r:=bl (ltrB l[e].toNat)) (fun _=>by rw[st_u8]; exact ok87 _ hb) ?_
  by_cases hL:ltrB l[e].toNat=true
  · have hc:cAt l e∈[(2:Int),3]:=by rw[cAt_get hlt,q2.2 hL]; simp
    simp -implicitDefEqProofs[h0,h1,h4,h6,h7,hlt,hL]
    refine callq_off _ _ _ _ ?_
    simp -implicitDefEqProofs[h0,h1,h4,h6,h7,hlt,hL]
    exact ih (e+1) _ (by omega) (by rw[←hr]; exact(runE_step hlt hc).symm) (by simp[h0]) (by simp[h1]) (by simp[h4]) (by simp[h6]) (by simp[wrap_suc (show e<9223372036854775807 by omega)])
  · rw[Bool.not_eq_true]at hL
    simp -implicitDefEqProofs[h0,h1,h4,h6,h7,hlt,hL]
    refine callq_st (r:=bl (dgtB l[e].toNat)) (fun _=>by rw[st_u8]; exact ok105 _ hb) ?_
    by_cases hD:dgtB l[e].toNat=true
    · have hc:cAt l e∈[(2:Int),3]:=by rw[cAt_get hlt,q3.2 hD]; simp
      simp -implicitDefEqProofs[h0,h1,h4,h6,h7,hlt,hD]
      exact ih (e+1) _ (by omega) (by rw[←hr]; exact(runE_step hlt hc).symm) (by simp[h0]) (by simp[h1]) (by simp[h4]) (by simp[h6]) (by simp[wrap_suc (show e<9223372036854775807 by omega)])
    · rw[Bool.not_eq_true]at hD
      have hc:cAt l e∉[(2:Int),3]:=by
       rw[cAt_get hlt]
       intro hm
       rcases List.mem_cons.1 hm with h | h
       · rw[q2.1 h]at hL; cases hL
       · rw[q3.1 (List.mem_singleton.1 h)]at hD; cases hD
      have hs:=runE_stop (l:=l) (cs:=[2,3]) (e:=e) (fun h=>hc h.2)
      rw[hs]at hr
      simp -implicitDefEqProofs[h0,h1,h4,h6,h7,hlt,hD]
      exact hexit _ (by simp[h0]) (by simp[h1]) (by simp[h4]) (by simp[h6]) (by simp[h7]; rw[←hr])
theorem loop86_1 (hl:l.length<4611686018427387904) {N:Nat} {K:XE->Env->List AO->Prop} {p:Nat} {x4 x6:SV}
 (hexit:∀ env,env.get 0=st (B l)->env.get 1=i64 p->env.get 4=x4->env.get 6=x6->env.get 7=i64 (runE l [3] p)->K (.exit 2) env H) :
 ∀ (k e:Nat) (env:Env),e+k=l.length->runE l [3] e=runE l [3] p->env.get 0=st (B l)->env.get 1=i64 p->env.get 4=x4->env.get 6=x6->env.get 7=i64 e->LI Tryz.prog N drawB l86_1 env H K:=by
 intro k
 induction k with
 | zero =>
  intro e env he hr h0 h1 h4 h6 h7
  refine li_go hm l86_1.eq_1 ?_
  have hlt:¬ e<l.length:=by omega
  have hs:=runE_stop (l:=l) (cs:=[3]) (e:=e) (by omega)
  rw[hs]at hr
  simp -implicitDefEqProofs[h0,h1,h4,h6,h7,hlt]
  refine callq_go (r:=bl false) (fun h=>by cases h) ?_
  simp -implicitDefEqProofs[h0,h1,h4,h6,h7,hlt]
  exact hexit _ (by simp[h0]) (by simp[h1]) (by simp[h4]) (by simp[h6]) (by simp[h7]; rw[←hr])
 | succ k ih =>
  intro e env he hr h0 h1 h4 h6 h7
  refine li_go hm l86_1.eq_1 ?_
  have hlt:e<l.length:=by omega
  have hb:l[e].toNat<256:=l[e].toNat_lt
  obtain⟨q2,q3,_,_⟩:=cls_at hb
  simp -implicitDefEqProofs[h0,h1,h4,h6,h7,hlt]
  refine callq_st (r:=bl (dgtB l[e].toNat)) (fun _=>by rw[st_u8]; exact ok105 _ hb) ?_
  by_cases hD:dgtB l[e].toNat=true
  · have hc:cAt l e∈[(3:Int)]:=by rw[cAt_get hlt,q3.2 hD]; simp
    simp -implicitDefEqProofs[h0,h1,h4,h6,h7,hlt,hD]
    exact ih (e+1) _ (by omega) (by rw[←hr]; exact(runE_step hlt hc).symm) (by simp[h0]) (by simp[h1]) (by simp[h4]) (by simp[h6]) (by simp[wrap_suc (show e<9223372036854775807 by omega)])
  · rw[Bool.not_eq_true]at hD
    have hc:cAt l e∉[(3:Int)]:=by
     rw[cAt_get hlt]
     intro hm
     rw[q3.1 (List.mem_singleton.1 hm)]at hD; cases hD
    have hs:=runE_stop (l:=l) (cs:=[3]) (e:=e) (fun h=>hc h.2)
    rw[hs]at hr
    simp -implicitDefEqProofs[h0,h1,h4,h6,h7,hlt,hD]
    exact hexit _ (by simp[h0]) (by simp[h1]) (by simp[h4]) (by simp[h6]) (by simp[h7]; rw[←hr])
end
end Go.Proofs.YtcejichidnlicaaGreatDoor
namespace Go.Proofs.YtcejichidnlicaaGreatDoor
open Go.Ab
variable [FrEnv]
def nxV (l:List UInt8) (p:Nat):SV :=
 match stepT l p with
 | .tok t q=>.tup [t.v,i64 q,fltV 0 0]
 | .flt e=>.tup [zT,i64 p,fltV e p]
 | .skip _=>.any
def okP (l:List UInt8) (p:Nat):Prop:=¬ (cAt l p=2∧0<p∧cAt l (p-1)=3)
section
variable {H:List AO} {l:List UInt8}
theorem cut_ne {p q:Nat} (h:p<q) (hq:q≤l.length):cut l p q≠[]:=fun e=>by have:=cut_len (l:=l) (Nat.le_of_lt h) hq; rw[e,List.length_nil]at this; omega
theorem dbl_iff (r:List UInt8):isDbl r=true↔r.take 2∈dbls:=by
 have h2:∀ p∈dbls,p.length=2:=by decide
 unfold isDbl
 rw[List.any_eq_true]
 constructor
 · rintro⟨d,hd,hp⟩
   have:=List.prefix_iff_eq_take.1 (List.isPrefixOf_iff_prefix.1 hp)
   rw[h2 d hd]at this
   rw[←this]; exact hd
 · intro h
   exact⟨_,h,List.isPrefixOf_iff_prefix.2 (List.take_prefix 2 r)⟩
theorem mk0 {p:Nat} {k:Int}:mkStp l p k p=.flt 11:=by
 have hc:cut l p p=[]:=by simp[cut]
 have:whE l k (cut l p p) p=(11,0):=by unfold whE; rw[if_pos (.inl hc)]
 unfold mkStp
 rw[this]; simp
theorem mk3 {p q:Nat} (h:p<q) (hq:q≤l.length):mkStp l p 3 q=.tok ⟨3,cut l p q,0,p⟩ q:=by
 have:whE l 3 (cut l p q) p=(0,0):=by
  unfold whE
  rw[if_neg (by rintro(h1 | h1); exact cut_ne h hq h1; exact absurd h1.1 (by decide)),if_neg (fun h=>absurd h.1 (by decide)),if_pos (by decide)]
 unfold mkStp
 rw[this]; simp
theorem st_st (s:ByteArray):[SV.gd true (st s)].map SV.strip=[st s]:=by simp only[List.map_cons,List.map_nil,SV.strip,st]
theorem ok86 (hl:l.length<4611686018427387904) {p:Nat} (hp:p<l.length) (hw:cAt l p≠1) (hc:l.getD p 0≠35) (ho:okP l p):Ok Tryz.prog 86 [st (B l),i64 p] H (.ret (nxV l p)) H:=by
 refine ok_fn hm Tryz.func86 c86 (by simp) fun hcl => ?_
 have hb:l[p].toNat<256:=l[p].toNat_lt
 have hg:l.getD p 0=l[p]:=by simp[hp]
 obtain⟨q2,q3,q1,q4⟩:=cls_at hb
 rw[←cAt_get hp]at q1 q2 q3 q4
 simp -implicitDefEqProofs[i86,r86,hp]
 refine call_go (ok87 _ hb) ?_
 by_cases c2:cAt l p=2
 · have hL:=q2.1 c2
   have hs:stepT l p=mkStp l p 1 (runE l [2,3] p):=by simp[stepT,c2]
   have hlt:p<runE l [2,3] p:=by rw[runE_step hp (by rw[c2]; simp)]; have:=runE_le (l:=l) (cs:=[2,3]) (p+1); omega
   have hle:runE l [2,3] p≤l.length:=runE_len (by omega)
   generalize hq:runE l [2,3] p=q at hs hlt hle
   have hne:=cut_ne hlt hle
   have hlen:=cut_len (l:=l) (Nat.le_of_lt hlt) hle
   have hwh:whE l 1 (cut l p q) p=if 40<q-p then(4,0)else(0,0):=by
    unfold whE
    rw[if_neg (by rintro(h | h); exact hne h; exact ho ⟨c2,h.2⟩),hlen]
    split
    · rename_i h; rw[if_pos h.2]
    · rename_i h; rw[if_neg (fun h2=>h ⟨rfl,h2⟩),if_pos (by decide)]
   have w:IntKind.i64.wrap ((q:Int)-(p:Int))=((q-p:Nat):Int):=by rw[wrap_id (by omega) (by omega)]; omega
   simp -implicitDefEqProofs[hL]
   refine loop86_0 hl (p:=p) (x4:=.ptr (.own H.length 0 0 0 0) 0) (x6:=.ptr (.own (H.length+1) 0 0 0 0) 0) (fun env h0 h1 h4 h6 h7 => ?_) (l.length-p) p _ (by omega) rfl (by simp) (by simp) (by simp) (by simp) (by simp)
   rw[hq]at h7
   simp -implicitDefEqProofs[h0,h1,h4,h6,h7,w]
   split
   · rename_i h40
     have hr:nxV l p=.tup [zT,i64 p,fltV 4 p]:=by unfold nxV; rw[hs]; unfold mkStp; rw[show whE l 1 (cut l p q) p=(4,0)by rw[hwh,if_pos (by omega)]]; simp
     rw[hr]
     exact cv_fz 4 hcl rfl (by simp[zT,fltV])
   · rename_i h40
     have hr:nxV l p=.tup [.agg [i64 1,st (B (cut l p q)),i64 0,i64 p],i64 q,fltV 0 0]:=by unfold nxV; rw[hs]; unfold mkStp; rw[show whE l 1 (cut l p q) p=(0,0)by rw[hwh,if_neg (by omega)]]; simp[Tok.v,Tok.c]
     rw[hr]
     exact⟨⟨by omega,by omega⟩,cv_fz 4 hcl rfl (by simp[cut,fltV])⟩
 · have hL:ltrB l[p].toNat=false:=by rw[←Bool.not_eq_true]; exact fun h=>c2 (q2.2 h)
   simp -implicitDefEqProofs[hL,hp]
   refine call_go (ok105 _ hb) ?_
   by_cases c3:cAt l p=3
   · have hD:=q3.1 c3
     have hs:stepT l p=mkStp l p 2 (runE l [3] p):=by simp[stepT,c3]
     have hlt:p<runE l [3] p:=by rw[runE_step hp (by rw[c3]; simp)]; have:=runE_le (l:=l) (cs:=[3]) (p+1); omega
     have hle:runE l [3] p≤l.length:=runE_len (by omega)
     have hdg:=run_digits (l:=l) (p:=p)
     generalize hq:runE l [3] p=q at hs hlt hle hdg
     have hne:=cut_ne hlt hle
     have hlen:=cut_len (l:=l) (Nat.le_of_lt hlt) hle
     have hwh:whE l 2 (cut l p q) p=numW (cut l p q):=by
      unfold whE numW
      rw[if_neg (by rintro(h | h); exact hne h; exact absurd h.1 (by decide)),if_neg (fun h=>absurd h.1 (by decide)),if_neg (by decide)]
     simp -implicitDefEqProofs[hD]
     refine loop86_1 hl (p:=p) (x4:=.ptr (.own H.length 0 0 0 0) 0) (x6:=.ptr (.own (H.length+1) 0 0 0 0) 0) (fun env h0 h1 h4 h6 h7 => ?_) (l.length-p) p _ (by omega) rfl (by simp) (by simp) (by simp) (by simp) (by simp)
     rw[hq]at h7
     have hcut:(l.drop p).take (q-p)=cut l p q:=rfl
     simp -implicitDefEqProofs[h0,h1,h4,h6,h7,hcut]
     refine⟨⟨by omega,by omega⟩,call_go (ok106 hdg hne (by omega)) ?_⟩
     by_cases he:(numW (cut l p q)).1=0
     · have hr:nxV l p=.tup [.agg [i64 2,st (B (cut l p q)),i64 (numW (cut l p q)).2,i64 p],i64 q,fltV 0 0]:=by unfold nxV; rw[hs]; unfold mkStp; rw[hwh,if_neg (by omega)]; simp[Tok.v,Tok.c]
       rw[hr]
       simp -implicitDefEqProofs[h0,h1,h4,h6,h7,he,hcut]
       exact⟨⟨by omega,by omega⟩,cv_fz 4 hcl rfl (by simp[fltV])⟩
     · have hr:nxV l p=.tup [zT,i64 p,fltV (numW (cut l p q)).1 p]:=by unfold nxV; rw[hs]; unfold mkStp; rw[hwh,if_pos he]
       rw[hr]
       simp -implicitDefEqProofs[h0,h1,h4,h6,h7,he]
       exact cv_fz 4 hcl rfl (by simp[zT,fltV])
   · have hD:dgtB l[p].toNat=false:=by rw[←Bool.not_eq_true]; exact fun h=>c3 (q3.2 h)
     have w2:IntKind.i64.wrap ((p:Int)+2)=((p+2:Nat):Int):=by rw[wrap_id (by omega) (by omega)]; rfl
     have w1:IntKind.i64.wrap ((p:Int)+1)=((p+1:Nat):Int):=by rw[wrap_id (by omega) (by omega)]; rfl
     have tn2:((p:Int)+2).toNat=p+2:=by omega
     have tn1:((p:Int)+1).toNat=p+1:=by omega
     have hdb:=dbl_iff (l.drop p)
     have hc2l:(l.drop p).take 2∈dbls->p+2≤l.length:=by
      intro h
      have h2:∀ p∈dbls,p.length=2:=by decide
      have:=h2 _ h
      simp at this; omega
     have single:¬ (l.drop p).take 2∈dbls->nxV l p=(if l[p]∈sgls then .tup [.agg [i64 3,st (B (cut l p (p+1))),i64 0,i64 p],i64 ((p+1:Nat):Int),fltV 0 0]else .tup [zT,i64 p,fltV 11 p]):=by
      intro hnd
      have hnb:isDbl (l.drop p)=false:=by rw[←Bool.not_eq_true]; exact fun h=>hnd (hdb.1 h)
      have hsg:l[p]∈sgls↔l[p].toNat∈([123,125,40,41,58,59,44,43,45,42,47,37,60,62,61]:List Nat):=by
       have e:([123,125,40,41,58,59,44,43,45,42,47,37,60,62,61]:List Nat)=sgls.map UInt8.toNat:=by decide
       rw[e,List.mem_map]
       exact⟨fun h=>⟨_,h,rfl⟩,fun⟨c,h1,h2⟩=>by rw[←UInt8.toNat_inj.1 h2]; exact h1⟩
      by_cases c4:cAt l p=4
      · have hs:stepT l p=mkStp l p 3 (signE l p):=by simp[stepT,c4]
        by_cases h33:l[p]=33∨l[p]=46
        · have hse:signE l p=p:=by unfold signE; rw[hnb,if_neg (by simp),hg,if_pos h33]
          have hns:l[p]∉sgls:=by rcases h33 with h | h<;>rw[h]<;>decide
          unfold nxV
          rw[hs,hse,mk0,if_neg hns]
        · have hse:signE l p=p+1:=by unfold signE; rw[hnb,if_neg (by simp),hg,if_neg h33]
          have hys:l[p]∈sgls:=by
           rcases q4.1 c4 with h | h
           · exact absurd (h.imp (fun h=>UInt8.toNat_inj.1 h) (fun h=>UInt8.toNat_inj.1 h)) h33
           · exact hsg.2 h
          unfold nxV
          rw[hs,hse,mk3 (by omega) (by omega),if_pos hys]; rfl
      · have hs:stepT l p=mkStp l p 0 p:=by unfold stepT; rw[if_neg hw,if_neg c2,if_neg c3,if_neg c4,if_neg hc]
        have hns:l[p]∉sgls:=fun h=>c4 (q4.2 (.inr (hsg.1 h)))
        unfold nxV
        rw[hs,mk0,if_neg hns]
     by_cases hp2:p+2≤l.length
     · have hp2':(p:Int)+2≤l.length:=by omega
       simp -implicitDefEqProofs[hD,w2,w1,tn2,hp2',hp2]
       refine⟨by omega,callq_st (r:=bl (decide ((l.drop p).take 2∈dbls))) (fun _=>by rw[st_st]; exact ok107 _) ?_⟩
       by_cases hd:(l.drop p).take 2∈dbls
       · have hr:nxV l p=.tup [.agg [i64 3,st (B (cut l p (p+2))),i64 0,i64 p],i64 ((p+2:Nat):Int),fltV 0 0]:=by
          have c4:cAt l p=4:=by
           have:∀ d∈dbls,cls (d.getD 0 0).toNat=4:=by decide
           have h:=this _ hd
           rw[cAt_get hp]
           have e:((l.drop p).take 2).getD 0 0=l[p]:=by rw[List.drop_eq_getElem_cons hp]; rfl
           rw[e]at h; exact h
          have hs:stepT l p=mkStp l p 3 (signE l p):=by simp[stepT,c4]
          have hse:signE l p=p+2:=by unfold signE; rw[if_pos (hdb.2 hd)]
          unfold nxV
          rw[hs,hse,mk3 (by omega) (by omega)]; rfl
         rw[hr]
         simp -implicitDefEqProofs[hd,hp2',hp2,w2,tn2]
         exact⟨by omega,cv_fz 4 hcl rfl (by simp[cut,fltV])⟩
       · rw[single hd]
         simp -implicitDefEqProofs[hd]
         refine call_go (ok108 l[p]) ?_
         simp -implicitDefEqProofs[w1,tn1]
         split
         · exact⟨⟨by omega,by omega⟩,cv_fz 4 hcl rfl (by simp[cut,fltV, *])⟩
         · exact cv_fz 4 hcl rfl (by simp[zT,fltV, *])
     · have hp2':¬ (p:Int)+2≤l.length:=by omega
       have hd:¬ (l.drop p).take 2∈dbls:=fun h=>hp2 (hc2l h)
       simp -implicitDefEqProofs[hD,w2,w1,tn2,hp2',hp2]
       refine callq_go (r:=bl false) (fun h=>by cases h) ?_
       rw[single hd]
       simp -implicitDefEqProofs
       refine call_go (ok108 l[p]) ?_
       simp -implicitDefEqProofs[w1,tn1]
       split
       · exact⟨⟨by omega,by omega⟩,cv_fz 4 hcl rfl (by simp[cut,fltV, *])⟩
       · exact cv_fz 4 hcl rfl (by simp[zT,fltV, *])
end
end Go.Proofs.YtcejichidnlicaaGreatDoor
namespace Go.Proofs.YtcejichidnlicaaGreatDoor
open Go.Ab
variable [FrEnv]
section
variable {H:List AO} {l:List UInt8}
theorem comE_step {e:Nat} (h:e<l.length) (hc:l[e]≠10):e+comE (l.drop e)=(e+1)+comE (l.drop (e+1)):=by
 rw[List.drop_eq_getElem_cons h]; simp[comE,hc]; omega
theorem comE_stop {e:Nat} (h:e<l.length) (hc:l[e]=10):e+comE (l.drop e)=e:=by
 rw[List.drop_eq_getElem_cons h]; simp[comE,hc]
theorem comE_nl:∀ {r:List UInt8} (h:comE r<r.length),r[comE r]=10
 | [],h=>by simp at h
 | c::r,h=>by
  by_cases hc:c=10
  · simp[comE,hc]
  · simp only[comE,hc,if_false,List.length_cons]at h ⊢
    have:=comE_nl (r:=r) (by omega)
    simpa using this
theorem loop66_1 (hl:l.length<4611686018427387904) {N:Nat} {K:XE->Env->List AO->Prop} {p:Nat} {x3 x4:SV}
 (hexit:∀ env,env.get 0=st (B l)->env.get 3=x3->env.get 4=x4->env.get 5=i64 ((p+comE (l.drop p):Nat):Int)->K (.exit 2) env H) :
 ∀ (k e:Nat) (env:Env),e+k=l.length->e+comE (l.drop e)=p+comE (l.drop p)->env.get 0=st (B l)->env.get 3=x3->env.get 4=x4->env.get 5=i64 e->LI Tryz.prog N drawB l66_1 env H K:=by
 intro k
 induction k with
 | zero =>
  intro e env he hr h0 h3 h4 h5
  refine li_go hm l66_1.eq_1 ?_
  have hlt:¬ e<l.length:=by omega
  have hz:comE (l.drop e)=0:=by rw[List.drop_eq_nil_of_le (by omega)]; rfl
  simp -implicitDefEqProofs[h0,h3,h4,h5,hlt]
  exact hexit _ (by simp[h0]) (by simp[h3]) (by simp[h4]) (by simp[h5]; rw[←Int.natCast_add,<- hr,hz]; rfl)
 | succ k ih =>
  intro e env he hr h0 h3 h4 h5
  refine li_go hm l66_1.eq_1 ?_
  have hlt:e<l.length:=by omega
  have f1:((l[e].toNat:Int)=10)↔l[e]=10:=u8i l[e] 10
  by_cases hc:l[e]=10
  · have hz:=comE_stop hlt hc
    simp -implicitDefEqProofs[h0,h3,h4,h5,hlt,hc]
    exact hexit _ (by simp[h0]) (by simp[h3]) (by simp[h4]) (by simp[h5]; rw[←Int.natCast_add,<- hr,hz])
  · have hc':¬ ((l[e].toNat:Int)=10):=fun h=>hc (f1.1 h)
    simp -implicitDefEqProofs[h0,h3,h4,h5,hlt,hc']
    exact ih (e+1) _ (by omega) (by rw[←hr]; exact(comE_step hlt hc).symm) (by simp[h0]) (by simp[h3]) (by simp[h4]) (by simp[wrap_suc (show e<9223372036854775807 by omega)])
theorem cAt_out {p:Nat} (h:l.length≤p):cAt l p=0:=by
 have:l.getD p 0=0:=by simp[h]
 unfold cAt; rw[this]; rfl
theorem mkStp_tok {p q q':Nat} {k:Int} {t:Tok} (h:mkStp l p k q=.tok t q'):q'=q∧t.k=k∧t.p=p:=by
 unfold mkStp at h
 split at h
 · cases h
 · cases h; exact⟨rfl,rfl,rfl⟩
theorem runN_stop {cs:List Int}:∀ (n e:Nat),l.length≤e+n->¬ (runN l cs n e<l.length∧cAt l (runN l cs n e)∈cs)
 | 0,e,h=>by simp only[runN]; omega
 | n+1,e,h=>by
  simp only[runN]
  split
  · exact runN_stop n (e+1) (by omega)
  · rename_i hc; exact hc
theorem okP_next {p q:Nat} {t:Tok} (hp:p<l.length) (h:stepT l p=.tok t q) (hn:t.k=2->cAt l q≠2):okP l q∧q≤l.length∧p<q:=by
 have run_stop:∀ cs e,cAt l (runE l cs e)∉cs∨l.length≤runE l cs e:=by
  intro cs e
  have:=runN_stop (l:=l) (cs:=cs) (l.length-e) e (by omega)
  by_cases h:l.length≤runE l cs e
  · exact .inr h
  · exact .inl fun h2=>this ⟨by unfold runE at h; omega,h2⟩
 unfold stepT at h
 split at h
 · cases h
 · split at h
   · obtain⟨rfl,hk,_⟩:=mkStp_tok h
     have h3:=mkStp_lt h
     refine⟨fun⟨h1,_⟩ => ?_,runE_len (by omega),h3⟩
     rcases run_stop [2,3] p with h2 | h2
     · exact h2 (by rw[h1]; simp)
     · rw[cAt_out h2]at h1; cases h1
   · split at h
     · obtain⟨rfl,hk,_⟩:=mkStp_tok h
       exact⟨fun⟨h1,_⟩=>hn hk h1,runE_len (by omega),mkStp_lt h⟩
     · split at h
       · rename_i c4
         obtain⟨rfl,hk,_⟩:=mkStp_tok h
         have h3:=mkStp_lt h
         refine⟨fun⟨_,_,h2⟩ => ?_,(signE_rng hp).2,h3⟩
         unfold signE at h2 h3
         split at h2
         · rename_i hd
           rw[if_pos hd]at h3
           have hm:=(dbl_iff _).1 hd
           have hlen:p+2≤l.length:=by
            have h2:∀ p∈dbls,p.length=2:=by decide
            have:=h2 _ hm
            simp at this; omega
           have hcl:∀ d∈dbls,cls (d.getD 1 0).toNat=4:=by decide
           have h4:=hcl _ hm
           have e:((l.drop p).take 2).getD 1 0=l.getD (p+1) 0:=by simp
           rw[e]at h4
           have:p+2-1=p+1:=by omega
           rw[this]at h2
           unfold cAt at h2
           rw[h2]at h4; cases h4
         · rename_i hd
           rw[if_neg hd]at h3
           split at h2
           · rename_i h33; rw[if_pos h33]at h3; omega
           · have:p+1-1=p:=by omega
             rw[this,c4]at h2; cases h2
       · split at h
         · cases h
         · obtain⟨rfl,_,_⟩:=mkStp_tok h
           have:=mkStp_lt h
           omega
theorem stepT_p {p q:Nat} {t:Tok} (h:stepT l p=.tok t q):t.p=p:=by
 unfold stepT at h
 split at h
 · cases h
 · split at h
   · exact(mkStp_tok h).2.2
   · split at h
     · exact(mkStp_tok h).2.2
     · split at h
       · exact(mkStp_tok h).2.2
       · split at h
         · cases h
         · exact(mkStp_tok h).2.2
theorem mkq {p q:Nat} {t:Tok} (h:stepT l p=.tok t q) (hp:p<l.length):p<q∧q≤l.length:=by
 unfold stepT at h
 split at h
 · cases h
 · split at h
   · have:=(mkStp_tok h).1; subst this; exact⟨mkStp_lt h,runE_len (by omega)⟩
   · split at h
     · have:=(mkStp_tok h).1; subst this; exact⟨mkStp_lt h,runE_len (by omega)⟩
     · split at h
       · have:=(mkStp_tok h).1; subst this; exact⟨mkStp_lt h,(signE_rng hp).2⟩
       · split at h
         · cases h
         · have:=(mkStp_tok h).1; subst this; exact⟨mkStp_lt h,by omega⟩
theorem num_next {p q:Nat} {t:Tok} (hp:p<l.length) (h:stepT l p=.tok t q) (hk:t.k=2) (hq:q<l.length) (hc:cAt l q=2):stepT l q=.flt 11:=by
 have h2:q=runE l [3] p∧p<q:=by
  unfold stepT at h
  split at h
  · cases h
  · split at h
    · have:=(mkStp_tok h).2.1; omega
    · split at h
      · exact⟨(mkStp_tok h).1,by have:=(mkStp_tok h).1; subst this; exact mkStp_lt h⟩
      · split at h
        · have:=(mkStp_tok h).2.1; omega
        · split at h
          · cases h
          · have:=(mkStp_tok h).2.1; omega
 obtain⟨rfl,hlt⟩:=h2
 have hd:=(runN_all (l:=l) (cs:=[3]) (l.length-p) p (runE l [3] p-1) (by omega) (by unfold runE at hlt ⊢; omega)).2
 have h3:cAt l (runE l [3] p-1)=3:=by simpa using hd
 generalize runE l [3] p=q at *
 have hs:stepT l q=mkStp l q 1 (runE l [2,3] q):=by simp[stepT,hc]
 have hw:(whE l 1 (cut l q (runE l [2,3] q)) q)=(11,0):=by unfold whE; rw[if_pos (.inr ⟨rfl,by omega,h3⟩)]
 rw[hs]; unfold mkStp; rw[hw]; simp
end
end Go.Proofs.YtcejichidnlicaaGreatDoor
namespace Go.Proofs.YtcejichidnlicaaGreatDoor
open Go.Ab
variable [FrEnv]
def sR (H:List AO) (f:Int×Int) (ts:List Tok) (L:List AO):List AO:=H++⟨[i64 f.1,i64 f.2],59,0,true⟩::rwT ts::L
section
variable {H:List AO} {l:List UInt8}
theorem loop66_0 (hl:l.length<4611686018427387904) {es:List Ev} (hes:∀ e p,Ev.flt e p∈es->e≠0) {N:Nat} {K:XE->Env->List AO->Prop}
 (hret:(fltE 0 es).1≠0->∀ env ts L,env.get 2=.val (.slice none 0 0)->env.get 3=.ptr (.own H.length 0 0 0 0) 0->K .ret env (sR H (fltE 0 es) ts L))
 (hexit:fltE 0 es=(0,0)->∀ env L,env.get 3=.ptr (.own H.length 0 0 0 0) 0->env.get 4=.own (H.length+1) 0 (toks es).length 4 (toks es).length->K (.exit 0) env (sR H (0,0) (toks es) L)) :
 ∀ (n p i:Nat) (env:Env) (L:List AO),l.length≤p+n->evs l n p=es.drop i->(toks (es.take i)).length=i->i≤es.length->i≤5000->fltE 0 es=fltE i (es.drop i)->okP l p->env.get 0=st (B l) →
  env.get 3=.ptr (.own H.length 0 0 0 0) 0->env.get 4=.own (H.length+1) 0 i 4 i->env.get 5=i64 p->LI Tryz.prog N drawB l66_0 env (sR H (0,0) (toks (es.take i)) L) K:=by
 intro n
 induction n with
 | zero =>
  intro p i env L hn he ht hi h5k hf ho h0 h3 h4 h5
  refine li_go hm l66_0.eq_1 ?_
  have hp:¬ p<l.length:=by omega
  have e:i=es.length:=by
   have:=congrArg List.length he
   simp[evs]at this; omega
  subst e
  rw[List.drop_length]at hf
  rw[List.take_length]at ht ⊢
  simp -implicitDefEqProofs[h0,h3,h4,h5,hp]
  exact hexit hf _ _ (by simp[h3]) (by simp[h4,ht])
 | succ n ih =>
  intro p i env L hn he ht hi h5k hf ho h0 h3 h4 h5
  refine li_go hm l66_0.eq_1 ?_
  by_cases hp:p<l.length
  · have hb:l[p].toNat<256:=l[p].toNat_lt
    obtain⟨q2,q3,q1,q4⟩:=cls_at hb
    rw[←cAt_get hp]at q1 q2 q3 q4
    have hg:l.getD p 0=l[p]:=by simp[hp]
    have f1:((l[p].toNat:Int)=35)↔l[p]=35:=u8i l[p] 35
    simp only[evs,if_pos hp]at he
    simp -implicitDefEqProofs[h0,h3,h4,h5,hp]
    refine call_go (ok85 _ hb) ?_
    by_cases c1:cAt l p=1
    · have hW:=q1.1 c1
      have hs:stepT l p=.skip (p+1):=by simp[stepT,c1]
      rw[hs]at he
      simp -implicitDefEqProofs[h0,h3,h4,h5,hp,hW]
      exact ih (p+1) i _ _ (by omega) he ht hi h5k hf (fun⟨_,_,h2⟩=>by rw[show p+1-1=p by omega,c1]at h2; cases h2) (by simp[h0]) (by simp[h3]) (by simp[h4]) (by simp[wrap_suc (show p<9223372036854775807 by omega)])
    · have hW:whtB l[p].toNat=false:=by rw[←Bool.not_eq_true]; exact fun h=>c1 (q1.2 h)
      by_cases c5:l[p]=35
      · have hcl:cAt l p=0:=by rw[cAt_get hp,c5]; decide
        have hs:stepT l p=.skip (p+comE (l.drop p)):=by simp[stepT,hcl,hp,c5]
        rw[hs]at he
        have hpos:=comE_pos hp (by rw[hg,c5])
        have hcl2:=comE_le (l.drop p)
        simp -implicitDefEqProofs[h0,h3,h4,h5,hp,hW,f1.2 c5]
        refine loop66_1 hl (p:=p) (x3:=.ptr (.own H.length 0 0 0 0) 0) (x4:=.own (H.length+1) 0 i 4 i) (fun env g0 g3 g4 g5 => ?_) (l.length-p) p _ (by omega) rfl (by simp[h0]) (by simp[h3]) (by simp[h4]) (by simp[h5])
        simp -implicitDefEqProofs
        refine ih (p+comE (l.drop p)) i _ _ (by omega) he ht hi h5k hf (fun⟨h1,_⟩ => ?_) (by simp[g0]) (by simp[g3]) (by simp[g4]) (by simp[g5])
        by_cases hlt:comE (l.drop p)<(l.drop p).length
        · have:=comE_nl hlt
          rw[List.getElem_drop]at this
          have hlt2:p+comE (l.drop p)<l.length:=by simp at hlt; omega
          rw[cAt_get hlt2,this]at h1
          exact absurd h1 (by decide)
        · rw[cAt_out (by simp at hlt; omega)]at h1; cases h1
      · have hc':¬ ((l[p].toNat:Int)=35):=fun h=>c5 (f1.1 h)
        simp -implicitDefEqProofs[h0,h3,h4,h5,hp,hW,hc']
        refine call_go (ok86 hl hp c1 (by rw[hg]; exact c5) ho) ?_
        cases hst:stepT l p with
        | skip q =>
         exfalso
         unfold stepT at hst
         rw[if_neg c1]at hst
         have key:∀ k q',mkStp l p k q'≠.skip q:=by intro k q' h; unfold mkStp at h; split at h<;>cases h
         split at hst
         · exact key _ _ hst
         · split at hst
           · exact key _ _ hst
           · split at hst
             · exact key _ _ hst
             · rw[if_neg (by rw[hg]; exact c5)]at hst
               exact key _ _ hst
        | flt e =>
         have hnx:nxV l p=.tup [zT,i64 p,fltV e p]:=by unfold nxV; rw[hst]
         rw[hst]at he
         have hd:es.drop i=[.flt e p]:=he.symm
         have he0:e≠0:=hes e p (List.mem_of_mem_drop (by rw[hd]; simp))
         rw[hd]at hf
         simp only[fltE]at hf
         rw[hnx]
         simp -implicitDefEqProofs[h0,h3,h4,h5,zT,fltV,sR,he0]
         have hr:=hret (by rw[hf]; exact he0)
         rw[hf]at hr
         exact hr _ _ _ (by simp) (by simp[h3])
        | tok t q =>
         have hnx:nxV l p=.tup [t.v,i64 q,fltV 0 0]:=by unfold nxV; rw[hst]
         rw[hst]at he
         have hd:es.drop i=.tok t::evs l n q:=he.symm
         have hlt:i<es.length:=by
          have:=congrArg List.length hd
          simp at this; omega
         have hei:es[i]=.tok t:=by rw[List.drop_eq_getElem_cons hlt]at hd; exact(List.cons.inj hd).1
         have hd2:evs l n q=es.drop (i+1):=by rw[List.drop_eq_getElem_cons hlt]at hd; exact(List.cons.inj hd).2.symm
         have htk:es.take (i+1)=es.take i++[.tok t]:=by rw[List.take_succ_eq_append_getElem hlt,hei]
         have hto:toks (es.take (i+1))=toks (es.take i)++[t]:=by rw[htk,toks_app]; rfl
         have htp:=stepT_p hst
         rw[hd]at hf
         simp only[fltE]at hf
         rw[hnx]
         by_cases h5i:i=5000
         · rw[if_pos h5i]at hf
           subst h5i
           simp -implicitDefEqProofs[h0,h3,h4,h5,fltV,sR,Tok.v,Tok.c]
           have hr:=hret (by rw[hf]; exact(by decide:(12:Int)≠0))
           rw[hf,htp]at hr
           exact hr _ _ _ (by simp) (by simp[h3])
         · rw[if_neg h5i]at hf
           have h5i':¬ ((i:Int)=5000):=by omega
           have hrow:(toks (es.take i)).length=i:=ht
           have fin:∀ env:Env,okP l q->env.get 0=st (B l)->env.get 3=.ptr (.own H.length 0 0 0 0) 0->env.get 4=.own (H.length+1) 0 (i+1) 4 (i+1)->env.get 5=i64 q->∀ L,LI Tryz.prog N drawB l66_0 env (sR H (0,0) (toks (es.take i)++[t]) L) K:=by
            intro env ho' g0 g3 g4 g5 L
            have:=ih q (i+1) env L (by have:=(mkq hst hp).1; omega) hd2 (by rw[hto]; simp[hrow]) (by omega) (by omega) (by rw[hf,hd2]) ho' g0 g3 g4 g5
            rw[hto]at this
            exact this
           by_cases hk:t.k=2∧q<l.length
           · have hbq:l[q].toNat<256:=l[q].toNat_lt
             have hkd:(decide (t.k=2)&&decide (q<l.length))=true:=by simp[hk]
             simp -implicitDefEqProofs[h0,h3,h4,h5,fltV,sR,h5i',Tok.v,Tok.c,hkd,hk.2,hk.1]
             refine callq_st (r:=bl (ltrB l[q].toNat)) (fun _=>by rw[st_u8]; exact ok87 _ hbq) ?_
             by_cases hL:ltrB l[q].toNat=true
             · have hc2:cAt l q=2:=by rw[cAt_get hk.2]; exact(cls_at hbq).1.2 hL
               have hnn:=num_next hp hst hk.1 hk.2 hc2
               have hq:=(mkq hst hp)
               obtain⟨m,rfl⟩:∃ m,n=m+1:=⟨n-1,by omega⟩
               simp only[evs,if_pos hk.2,hnn,fltE]at hf
               simp -implicitDefEqProofs[hL]
               rw[if_pos hk.2]
               have hr:=hret (by rw[hf]; exact(by decide:(11:Int)≠0))
               rw[hf]at hr
               exact hr _ _ _ (by simp) (by simp[h3])
             · rw[Bool.not_eq_true]at hL
               have hk1:=hk.1
               have hok:=(okP_next hp hst (fun _ hc=>by rw[cAt_get hk.2]at hc; rw[(cls_at hbq).1.1 hc]at hL; cases hL)).1
               simp -implicitDefEqProofs[hL]
               refine⟨by omega,by omega,⟨rfl,hrow,rfl,by show((toks (es.take i)).flatMap Tok.c).length=_; rw[fm_len]; omega⟩,?_⟩
               exact LI.cong (H':=sR H (0,0) (toks (es.take i)++[t]) (L++[⟨t.c,105,0,true⟩,⟨[i64 0,i64 0],59,0,true⟩,⟨t.c,105,0,true⟩])) (by simp[sR,rwT,Tok.c,hrow,hk1]) (fin _ hok (by simp[h0]) (by simp[h3]) (by simp) (by simp) _)
           · have hk':(decide (t.k=2)&&decide (q<l.length))=false:=by simp; omega
             simp -implicitDefEqProofs[h0,h3,h4,h5,fltV,sR,h5i',Tok.v,Tok.c,hk']
             refine⟨fun h1 h2=>⟨h1,h2⟩,callq_go (r:=bl false) (fun h=>by cases h) ?_⟩
             have hk1:True:=trivial
             have hok:=(okP_next hp hst (fun h hc=>by rw[cAt_out (by omega)]at hc; cases hc)).1
             simp -implicitDefEqProofs
             refine⟨by omega,by omega,⟨rfl,hrow,rfl,by show((toks (es.take i)).flatMap Tok.c).length=_; rw[fm_len]; omega⟩,?_⟩
             exact LI.cong (H':=sR H (0,0) (toks (es.take i)++[t]) (L++[⟨t.c,105,0,true⟩,⟨[i64 0,i64 0],59,0,true⟩,⟨t.c,105,0,true⟩])) (by simp[sR,rwT,Tok.c,hrow,hk1]) (fin _ hok (by simp[h0]) (by simp[h3]) (by simp) (by simp) _)
  · have e:i=es.length:=by
     simp only[evs,if_neg hp]at he
     have:=congrArg List.length he
     simp at this; omega
    subst e
    rw[List.drop_length]at hf
    rw[List.take_length]at ht ⊢
    simp -implicitDefEqProofs[h0,h3,h4,h5,hp]
    exact hexit hf _ _ (by simp[h3]) (by simp[h4,ht])
end
end Go.Proofs.YtcejichidnlicaaGreatDoor
namespace Go.Proofs.YtcejichidnlicaaGreatDoor
open Go.Ab
variable [FrEnv]
section
variable {H:List AO} {l:List UInt8}
theorem ok66 (hl:l.length<4611686018427387904):Ok Tryz.prog 66 [st (B l)] H (.ret (.tup [tksV (scanG l).1,fltV (scanG l).2.1 (scanG l).2.2])) H:=by
 refine ok_fn hm Tryz.func66 c66 (by simp) fun hcl => ?_
 by_cases hs:20000<l.length
 · have hs':(20000:Int)<l.length:=by omega
   have hr:scanG l=([],4,20000):=by simp[scanG,hs]
   simp -implicitDefEqProofs[i66,r66,hs']
   rw[hr]
   refine Cv.le (cv_fz 4 hcl rfl rfl) ?_
   simp[tksV,fltV]
   exact le_tup (leL.cons le_nil (leL.cons (SV.le.refl _) leL.nil))
 · have hs':¬ (20000:Int)<l.length:=by omega
   generalize hes:evsT l=es
   have hmem:∀ e p,Ev.flt e p∈es->e≠0:=fun e p h=>by rw[←hes]at h; exact evs_flt _ _ h
   simp -implicitDefEqProofs[i66,r66,hs']
   refine LI.cong (H':=sR H (0,0) (toks (es.take 0)) []) (by simp[sR,rwT,toks]) ?_
   refine loop66_0 (H:=H) hl (es:=es) hmem (fun hf env ts L g2 g3 => ?_) (fun hf env L g3 g4 => ?_) l.length 0 0 _ _ (by omega) (by rw[←hes]; rfl) (by simp[toks]) (by omega) (by omega) rfl (fun h=>by omega) (by simp) (by simp) (by simp) (by simp)
   · have hr:scanG l=([],fltE 0 es):=by simp[scanG,hs,hes,hf]
     rw[hr]
     simp -implicitDefEqProofs[g2,g3,sR]
     refine Cv.le (cv_fz 4 hcl rfl rfl) ?_
     simp[tksV,fltV]
     exact le_tup (leL.cons le_nil (leL.cons (SV.le.refl _) leL.nil))
   · have hr:scanG l=(toks es,0,0):=by simp[scanG,hs,hes,hf]
     rw[hr]
     simp -implicitDefEqProofs[g3,g4,sR]
     refine cv_fz 4 hcl rfl ?_
     have e4:(List.map (fun a=>a.c.length) (toks es)).sum=(toks es).length*4:=by
      have:(fun a:Tok=>a.c.length)=fun _=>4:=by funext a; rfl
      rw[this,sum4]
     simp[tksV,fltV,rwT,e4,und_toks,map_fz_under _ _ _ _ (und_toks _ _),tk_take]
end
end Go.Proofs.YtcejichidnlicaaGreatDoor
namespace Go.Proofs.YtcejichidnlicaaGreatDoor
open Go.Ab
variable [FrEnv]
structure Cx where
 ts:List Tok
 en:Nat
structure Rd where
 a:Nat
 v:Int
 e:Int
 p:Int
def rdO (c:Cx) (r:Rd):AO:=⟨[tksV c.ts,i64 c.en,i64 r.a,i64 r.v,i64 r.e,i64 r.p],88,0,true⟩
def rp (j:Nat):SV:=.ptr (.own j 0 0 0 0) 0
def hereR (c:Cx) (r:Rd):Int:=if h:r.a<c.ts.length then(c.ts[r.a].p:Int)else(c.en:Int)
def failR (c:Cx) (e:Int) (r:Rd):Rd:=if r.e=0 then { r with e:=e,p:=hereR c r } else r
def tokB (c:Cx) (r:Rd) (f:Tok->Bool):Bool:=decide (r.e=0)&&(if h:r.a<c.ts.length then f c.ts[r.a]else false)
def peekR (c:Cx) (s:List UInt8) (r:Rd):Bool:=tokB c r fun t => !decide (t.k=2)&&decide (t.tx=s)
def nextR (r:Rd):Rd:={ r with a:=r.a+1 }
def takeR (c:Cx) (s:List UInt8) (r:Rd):Int×Rd:=(hereR c r,if peekR c s r then nextR r else failR c 11 r)
theorem peek_lt {c:Cx} {s:List UInt8} {r:Rd} (h:peekR c s r=true):r.a<c.ts.length:=by
 unfold peekR tokB at h
 split at h
 · assumption
 · simp at h
theorem tk_at {ts:List Tok} {i k:Nat} (h:i<ts.length) (hk:k<4):(ts.flatMap Tok.c)[i*4+k]? = (ts[i].c)[k]? := by
 induction ts generalizing i with
 | nil=>simp at h
 | cons t r ih =>
  cases i with
  | zero =>
   rw[List.flatMap_cons,List.getElem?_append_left (by simp[Tok.c]; omega)]; simp
  | succ i =>
   have e:(i+1)*4+k=t.c.length+(i*4+k):=by simp[Tok.c]; omega
   rw[List.flatMap_cons,e,List.getElem?_append_right (by omega)]
   simp only[List.getElem_cons_succ,Nat.add_sub_cancel_left]
   exact ih (by simpa using h)
theorem oc_set {H:List AO} {j:Nat} (hj:j<H.length) (cs:List SV) (t:TypeId):objCells (H.set j ⟨cs,t,0,true⟩) j 0=cs:=objCells_of (o:=⟨cs,t,0,true⟩) (by simp[hj]) rfl
theorem so_set {H:List AO} {j:Nat} (hj:j<H.length) (o:AO) (f:AO->AO):Ab.setObj (H.set j o) j f=H.set j (f o):=by rw[setObj_some (o:=o) (by simp[hj])]; simp
theorem tkG0 {ts:List Tok} {i:Nat} (h:i<ts.length) (h':i*4<(ts.flatMap Tok.c).length):(ts.flatMap Tok.c)[i*4]'(h')=i64 ts[i].k:=by
 have:=tk_at (k:=0) h (by omega)
 rw[Nat.add_zero,List.getElem?_eq_getElem h']at this
 simpa[Tok.c]using this
section
variable {H:List AO} {c:Cx} {r:Rd} {j:Nat}
theorem ok69 (ho:H[j]? = some (rdO c r)):Ok Tryz.prog 69 [rp j] H (.ret (bl (!decide (r.e=0)))) H:=by
 have hj:=getElem?_lt ho
 have e1:objCells H j 0=(rdO c r).cells:=objCells_of (o:=rdO c r) ho rfl
 refine ok_fn hm Tryz.func69 c69 (by simp[rp,SV.under,hj]) fun hcl => ?_
 simp -implicitDefEqProofs[i69,r69,rp,e1,rdO]
 exact cv_id
theorem ok92 (ho:H[j]? = some (rdO c r)):Ok Tryz.prog 92 [rp j] H (.ret (i64 (hereR c r))) H:=by
 have hj:=getElem?_lt ho
 have e1:objCells H j 0=(rdO c r).cells:=objCells_of (o:=rdO c r) ho rfl
 refine ok_fn hm Tryz.func92 c92 (by simp[rp,SV.under,hj]) fun hcl => ?_
 unfold hereR
 by_cases h:r.a<c.ts.length
 · have k3:=tk_at (k:=3) h (by omega)
   simp -implicitDefEqProofs[i92,r92,rp,e1,rdO,h,tksV,k3,Tok.c]
   exact⟨by simp[sum4]; omega,cv_id⟩
 · simp -implicitDefEqProofs[i92,r92,rp,e1,rdO,h,tksV]
   exact cv_id
theorem ok68 (ho:H[j]? = some (rdO c r)) (e:Int):Ok Tryz.prog 68 [rp j,i64 e] H (.ret (.tup [])) (H.set j (rdO c (failR c e r))):=by
 have hj:=getElem?_lt ho
 have e1:objCells H j 0=(rdO c r).cells:=objCells_of (o:=rdO c r) ho rfl
 have e2:∀ f:AO->AO,Ab.setObj H j f=H.set j (f (rdO c r)):=fun f=>setObj_some ho f
 have h41:=ok69 ho
 have h40:=ok92 ho
 refine ok_fn hm Tryz.func68 c68 (by simp[rp,SV.under,hj]) fun hcl => ?_
 unfold failR
 by_cases he:r.e=0
 · rw[if_pos he]
   simp -implicitDefEqProofs[i68,r68]
   refine call_go h41 ?_
   simp -implicitDefEqProofs[he]
   refine call_go h40 ?_
   simp -implicitDefEqProofs[rp,e1,e2,rdO]
   exact cv_id
 · rw[if_neg he,set_same ho]
   simp -implicitDefEqProofs[i68,r68]
   refine call_go h41 ?_
   simp -implicitDefEqProofs[he]
   exact cv_id
theorem ok89 (ho:H[j]? = some (rdO c r)) (s:List UInt8):Ok Tryz.prog 89 [rp j,st (B s)] H (.ret (bl (peekR c s r))) H:=by
 have hj:=getElem?_lt ho
 have e1:objCells H j 0=(rdO c r).cells:=objCells_of (o:=rdO c r) ho rfl
 have h41:=ok69 ho
 refine ok_fn hm Tryz.func89 c89 (by simp[rp,SV.under,hj]) fun hcl => ?_
 unfold peekR tokB
 simp -implicitDefEqProofs[i89,r89]
 refine callq_go (fun _=>h41) ?_
 by_cases he:r.e=0
 · by_cases h:r.a<c.ts.length
   · have k0:=tk_at (k:=0) h (by omega)
     have k1:=tk_at (k:=1) h (by omega)
     have g0:=fun h'=>tkG0 h h'
     by_cases h2:c.ts[r.a].k=2
     · simp -implicitDefEqProofs[rp,e1,rdO,h,tksV,g0,k0,k1,Tok.c,he,h2,sum4]
       exact⟨by omega,cv_id⟩
     · simp -implicitDefEqProofs[rp,e1,rdO,h,tksV,g0,k0,k1,Tok.c,he,h2,sum4]
       exact⟨by omega,by omega,cv_id⟩
   · simp -implicitDefEqProofs[rp,e1,rdO,h,tksV,he]
     exact cv_id
 · simp -implicitDefEqProofs[rp,e1,rdO,tksV,he]
   exact cv_id
theorem ok90 (ho:H[j]? = some (rdO c r)) (hl:c.ts.length<4611686018427387904) (s:List UInt8):Ok Tryz.prog 90 [rp j,st (B s)] H (.ret (i64 (takeR c s r).1)) (H.set j (rdO c (takeR c s r).2)):=by
 have hj:=getElem?_lt ho
 have e1:objCells H j 0=(rdO c r).cells:=objCells_of (o:=rdO c r) ho rfl
 have e2:∀ f:AO->AO,Ab.setObj H j f=H.set j (f (rdO c r)):=fun f=>setObj_some ho f
 have h40:=ok92 ho
 have h39:=ok68 ho 11
 have h37:=ok89 ho s
 refine ok_fn hm Tryz.func90 c90 (by simp[rp,SV.under,hj]) fun hcl => ?_
 have ht:takeR c s r=(hereR c r,if peekR c s r then nextR r else failR c 11 r):=rfl
 rw[ht]
 simp -implicitDefEqProofs[i90,r90]
 refine call_go h40 ?_
 simp -implicitDefEqProofs
 refine call_go h37 ?_
 by_cases hp:peekR c s r=true
 · have hlt:=peek_lt hp
   simp -implicitDefEqProofs[hp,rp,e1,e2,rdO,wrap_succ (show r.a<9223372036854775807 by omega)]
   exact cv_idq (by simp[rdO,nextR])
 · rw[Bool.not_eq_true]at hp
   simp -implicitDefEqProofs[hp]
   refine call_go h39 ?_
   simp -implicitDefEqProofs[hp]
   exact cv_id
end
end Go.Proofs.YtcejichidnlicaaGreatDoor
namespace Go.Proofs.YtcejichidnlicaaGreatDoor
open Go.Ab
variable [FrEnv]
def resv:List (List UInt8):=[[103,97,109,101],[112,108,97,121,101,114,115],[118,97,114],[100,101,97,108],[105,110],[119,101,105,103,104,116],[115,101,101,110],[98,121],[97,108,108],[116,117,114,110],[97,99,116,105,111,110],[119,104,101,110],[104,105,100,100,101,110],[103,111,116,111],[101,110,100],[112,97,121],[111,114],[97,110,100],[110,111,116],[109,105,110],[109,97,120],[105,102]]
def freeR (c:Cx) (r:Rd):Bool:=tokB c r fun t=>decide (t.k=1) && !decide (t.tx∈resv)
def wordR (c:Cx) (r:Rd):List UInt8×Rd:=if freeR c r then((c.ts.getD r.a ⟨0,[],0,0⟩).tx,nextR r)else([],failR c 11 r)
def isNum (c:Cx) (r:Rd):Bool:=tokB c r fun t=>decide (t.k=2)
def nmR (c:Cx) (r:Rd):Int×Rd:=if isNum c r then((c.ts.getD r.a ⟨0,[],0,0⟩).n,nextR r)else(0,failR c 11 r)
def upR (r:Rd):Rd:={ r with v:=IntKind.i64.wrap (r.v+1) }
def dnR (r:Rd):Rd:={ r with v:=IntKind.i64.wrap (r.v-1) }
def openR (c:Cx) (s:List UInt8) (r:Rd):Int×Rd:=takeR c s (upR (if peekR c s r=true∧r.v=40 then failR c 5 r else r))
theorem tokB_lt {c:Cx} {r:Rd} {f:Tok->Bool} (h:tokB c r f=true):r.e=0∧∃ h:r.a<c.ts.length,f c.ts[r.a]=true:=by
 unfold tokB at h
 split at h
 · rename_i h2; simp at h; exact⟨h.1,h2,h.2⟩
 · simp at h
section
variable {H:List AO} {c:Cx} {r:Rd} {j:Nat}
def rvC:List SV:=resv.map fun w=>st (B w)
abbrev rvS (H:List AO):List AO:=H++[⟨rvC,9,0,true⟩]
theorem rv_at {i:Nat} (h:i<22):rvC[i]? = some (st (B (resv[i]'h))):=by
 have:i<resv.length:=h
 simp[rvC,this]; rfl
theorem rvG {i:Nat} (h:i<22) (h':i<rvC.length):rvC[i]'(h')=st (B (resv[i]'h)):=by
 have:=rv_at h
 rw[List.getElem?_eq_getElem h']at this
 exact Option.some.inj this
theorem loop94 {s:List UInt8} {N:Nat} {K:XE->Env->List AO->Prop} (hyes:s∈resv->∀ env,env.get 2=bl true->K .ret env (rvS H)) (hno:s∉resv->∀ env,K (.exit 0) env (rvS H)) :
 ∀ (k i:Nat) (env:Env),i+k=22->s∉resv.take i->env.get 0=st (B s)->env.get 3=.own H.length 0 22 1 0->env.get 4=i64 i->LI Tryz.prog N drawB l94_0 env (rvS H) K:=by
 have hc22:rvC.length=22:=rfl
 intro k
 induction k with
 | zero =>
  intro i env hi hn h0 h3 h4
  refine li_go hm l94_0.eq_1 ?_
  have e:i=22:=by omega
  subst e
  have hn:s∉resv:=hn
  simp -implicitDefEqProofs[h0,h3,h4]
  exact hno hn _
 | succ k ih =>
  intro i env hi hn h0 h3 h4
  refine li_go hm l94_0.eq_1 ?_
  have hlt:i<22:=by omega
  have hlt':(i:Int)<22:=by omega
  have htk:resv.take (i+1)=resv.take i++[resv[i]'hlt]:=List.take_succ_eq_append_getElem (l:=resv) hlt
  have hmem:resv[i]'hlt∈resv:=List.getElem_mem (l:=resv) hlt
  have hat:=fun h'=>rvG hlt h'
  simp -implicitDefEqProofs[h0,h3,h4,hlt,hlt',hat,hc22]
  refine⟨by omega,?_⟩
  split
  · rename_i h
    exact hyes (by rw[←h]; exact hmem) _ (by simp)
  · rename_i h
    refine ih (i+1) _ (by omega) ?_ (by simp[h0]) (by simp[h3]) (by simp[wrap_suc (show i<9223372036854775807 by omega)])
    rw[htk]
    intro hm
    rcases List.mem_append.1 hm with h2 | h2
    · exact hn h2
    · exact h (List.mem_singleton.1 h2).symm
theorem ok94 (s:List UInt8):Ok Tryz.prog 94 [st (B s)] H (.ret (bl (decide (s∈resv)))) H:=by
 refine ok_fn hm Tryz.func94 c94 (by simp) fun hcl => ?_
 simp -implicitDefEqProofs[i94,r94]
 refine LI.cong (H':=rvS H) (by simp[rvS,rvC,resv,B]) ?_
 refine loop94 (s:=s) (fun h env h2 => ?_) (fun h env => ?_) 22 0 _ (by omega) (by simp) (by simp) (by simp) (by simp)
 · simp -implicitDefEqProofs[h2,h]
   exact cv_fz 1 hcl rfl rfl
 · simp -implicitDefEqProofs[h]
   exact cv_fz 1 hcl rfl rfl
theorem ok131 (ho:H[j]? = some (rdO c r)):Ok Tryz.prog 131 [rp j] H (.ret (bl (freeR c r))) H:=by
 have hj:=getElem?_lt ho
 have e1:objCells H j 0=(rdO c r).cells:=objCells_of (o:=rdO c r) ho rfl
 have h41:=ok69 ho
 refine ok_fn hm Tryz.func131 c131 (by simp[rp,SV.under,hj]) fun hcl => ?_
 unfold freeR tokB
 simp -implicitDefEqProofs[i131,r131]
 refine callq_go (fun _=>h41) ?_
 by_cases he:r.e=0
 · by_cases h:r.a<c.ts.length
   · have k1:=tk_at (k:=1) h (by omega)
     have g0:=fun h'=>tkG0 h h'
     by_cases h2:c.ts[r.a].k=1
     · simp -implicitDefEqProofs[rp,e1,rdO,h,tksV,g0,k1,Tok.c,he,h2,sum4]
       refine⟨by omega,by omega,callq_st (r:=bl (decide (c.ts[r.a].tx∈resv))) (fun _=>ok94 c.ts[r.a].tx) ?_⟩
       simp -implicitDefEqProofs[he,h,h2]
       exact cv_id
     · simp -implicitDefEqProofs[rp,e1,rdO,h,tksV,g0,k1,Tok.c,he,h2,sum4]
       refine⟨by omega,callq_go (r:=bl false) (fun h=>by cases h) ?_⟩
       simp -implicitDefEqProofs[he,h,h2]
       exact cv_id
   · simp -implicitDefEqProofs[rp,e1,rdO,h,tksV,he]
     refine callq_go (r:=bl false) (fun h=>by cases h) ?_
     simp -implicitDefEqProofs[he,h]
     exact cv_id
 · simp -implicitDefEqProofs[rp,e1,rdO,tksV,he]
   refine callq_go (r:=bl false) (fun h=>by cases h) ?_
   simp -implicitDefEqProofs[he]
   exact cv_id
theorem ok132 (ho:H[j]? = some (rdO c r)) (hl:c.ts.length<4611686018427387904):Ok Tryz.prog 132 [rp j] H (.ret (st (B (wordR c r).1))) (H.set j (rdO c (wordR c r).2)):=by
 have hj:=getElem?_lt ho
 have e1:objCells H j 0=(rdO c r).cells:=objCells_of (o:=rdO c r) ho rfl
 have e2:∀ f:AO->AO,Ab.setObj H j f=H.set j (f (rdO c r)):=fun f=>setObj_some ho f
 have h39:=ok68 ho 11
 have h38:=ok131 ho
 by_cases hp:freeR c r=true
 · obtain⟨_,hlt,_⟩:=tokB_lt hp
   have k1:=tk_at (k:=1) hlt (by omega)
   have hw:wordR c r=(c.ts[r.a].tx,nextR r):=by unfold wordR; rw[if_pos hp]; simp[hlt]
   have w1:IntKind.i64.wrap ((r.a:Int)+1)=((r.a+1:Nat):Int):=wrap_succ (by omega)
   have w2:IntKind.i64.wrap (r.a:Int)=(r.a:Int):=wrap_nat (by omega)
   have e3:=oc_set hj
   rw[hw]
   refine ok_fn hm Tryz.func132 c132 (by simp[rp,SV.under,hj]) fun hcl => ?_
   simp -implicitDefEqProofs[i132,r132]
   refine call_go h38 ?_
   simp -implicitDefEqProofs[hp,rp,e1,e2,rdO,w1]
   simp -implicitDefEqProofs[hp,rp,e3,rdO,tksV,hlt,k1,Tok.c,w2,sum4,hj]
   exact⟨by omega,cv_idq (by simp[nextR])⟩
 · have hw:wordR c r=([],failR c 11 r):=by unfold wordR; rw[if_neg hp]
   rw[hw]
   rw[Bool.not_eq_true]at hp
   refine ok_fn hm Tryz.func132 c132 (by simp[rp,SV.under,hj]) fun hcl => ?_
   simp -implicitDefEqProofs[i132,r132]
   refine call_go h38 ?_
   simp -implicitDefEqProofs[hp]
   refine call_go h39 ?_
   simp -implicitDefEqProofs[hp]
   exact cv_id
theorem ok133 (ho:H[j]? = some (rdO c r)) (hl:c.ts.length<4611686018427387904):Ok Tryz.prog 133 [rp j] H (.ret (i64 (nmR c r).1)) (H.set j (rdO c (nmR c r).2)):=by
 have hj:=getElem?_lt ho
 have e1:objCells H j 0=(rdO c r).cells:=objCells_of (o:=rdO c r) ho rfl
 have e2:∀ f:AO->AO,Ab.setObj H j f=H.set j (f (rdO c r)):=fun f=>setObj_some ho f
 have h39:=ok68 ho 11
 have h41:=ok69 ho
 by_cases hp:isNum c r=true
 · obtain⟨he,hlt,h2⟩:=tokB_lt hp
   have h2:c.ts[r.a].k=2:=by simpa using h2
   have k2:=tk_at (k:=2) hlt (by omega)
   have g0:=fun h'=>tkG0 hlt h'
   have hw:nmR c r=(c.ts[r.a].n,nextR r):=by unfold nmR; rw[if_pos hp]; simp[hlt]
   have w1:IntKind.i64.wrap ((r.a:Int)+1)=((r.a+1:Nat):Int):=wrap_succ (by omega)
   have w2:IntKind.i64.wrap (r.a:Int)=(r.a:Int):=wrap_nat (by omega)
   have e3:=oc_set hj
   have hnlt:¬ (c.ts.length:Int)≤r.a:=by omega
   rw[hw]
   refine ok_fn hm Tryz.func133 c133 (by simp[rp,SV.under,hj]) fun hcl => ?_
   simp -implicitDefEqProofs[i133,r133]
   refine callq_go (fun _=>h41) ?_
   simp -implicitDefEqProofs[rp,e1,e2,rdO,w1,he,hlt,hnlt,tksV,g0,Tok.c,h2,sum4]
   simp -implicitDefEqProofs[rp,e3,rdO,tksV,hlt,k2,Tok.c,w2,sum4,hj]
   exact⟨by omega,by omega,cv_idq (by simp[nextR,he])⟩
 · have hw:nmR c r=(0,failR c 11 r):=by unfold nmR; rw[if_neg hp]
   rw[hw]
   refine ok_fn hm Tryz.func133 c133 (by simp[rp,SV.under,hj]) fun hcl => ?_
   simp -implicitDefEqProofs[i133,r133]
   refine callq_go (fun _=>h41) ?_
   by_cases he:r.e=0
   · by_cases hlt:r.a<c.ts.length
     · have h2:¬ c.ts[r.a].k=2:=fun h=>hp (by simp[isNum,tokB,he,hlt,h])
       have g0:=fun h'=>tkG0 hlt h'
       have hnlt:¬ (c.ts.length:Int)≤r.a:=by omega
       simp -implicitDefEqProofs[rp,e1,rdO,he,hlt,hnlt,tksV,g0,Tok.c,h2,sum4]
       refine⟨by omega,call_go (by simpa[rp,rdO,tksV]using h39) ?_⟩
       simp -implicitDefEqProofs
       exact cv_id
     · have hnlt:(c.ts.length:Int)≤r.a:=by omega
       simp -implicitDefEqProofs[rp,e1,rdO,he,hlt,hnlt,tksV]
       refine call_go (by simpa[rp,rdO,tksV]using h39) ?_
       simp -implicitDefEqProofs
       exact cv_id
   · simp -implicitDefEqProofs[rp,e1,rdO,he,tksV]
     refine call_go (by simpa[rp,rdO,tksV]using h39) ?_
     simp -implicitDefEqProofs
     exact cv_id
end
end Go.Proofs.YtcejichidnlicaaGreatDoor
namespace Go.Proofs.YtcejichidnlicaaGreatDoor
open Go.Ab
variable [FrEnv]
inductive Ex where
 | mk (op n:Int) (nm:List UInt8) (l:List Ex) (p:Int)
mutual
def Ex.c:Ex->List SV
 | .mk op n nm l p=>[i64 op,i64 n,st (B nm),.slc (Ex.cL l) l.length,i64 p]
def Ex.cL:List Ex->List SV
 | []=>[]
 | e::r=>e.c++Ex.cL r
end
def Ex.v (e:Ex):SV:=.agg e.c
def zE:Ex:=.mk 0 0 [] [] 0
@[simp] theorem Ex.c_len (e:Ex):e.c.length=5:=by cases e; rfl
theorem exL_rws:∀ l:List Ex,Ex.cL l=rws Ex.c l
 | []=>by simp[Ex.cL,rws]
 | e::r=>by rw[Ex.cL,exL_rws r,rws]
mutual
theorem Ex.und (n:Nat):∀ e:Ex,SV.underL n e.c=true
 | .mk op k nm l p=>by simp[Ex.c,SV.underL,SV.under,Ex.undL n l]
theorem Ex.undL (n:Nat):∀ l:List Ex,SV.underL n (Ex.cL l)=true
 | []=>by simp[Ex.cL,SV.underL]
 | e::r=>by rw[Ex.cL,SV.underL_append,Ex.und n e,Ex.undL n r]; rfl
end
theorem Ex.und_v (n:Nat) (e:Ex):e.v.under n=true:=by simp[Ex.v,SV.under,Ex.und]
@[simp] theorem Ex.c_take (e:Ex):List.take 5 e.c=e.c:=List.take_of_length_le (by simp)
@[simp] theorem Ex.c_drop10 (e:Ex) (l:List SV):List.drop 10 (e.c++l)=List.drop 5 l:=by
 rw[show 10=e.c.length+5 by simp,List.drop_append]; simp
@[simp] theorem Ex.c_drop5' (e:Ex):List.drop 5 e.c=[]:=List.drop_of_length_le (by simp)
theorem Ex.ok (e:Ex):cellsOk e.c:=by
 cases e
 intro s hs
 simp[Ex.c]at hs
 rcases hs with rfl | rfl | rfl | rfl | rfl<;>rfl
@[simp] theorem Ex.okT (e:Ex):cellsOk e.c=True:=eq_true e.ok
@[simp] theorem Ex.fzm (n:Nat) (ks:List Nat) (L:List AO) (d:Nat) (e:Ex):e.c.map (SV.fz n ks L (d+1))=e.c:=map_fz_under _ _ _ _ (Ex.und _ e)
section
variable {H:List AO} {c:Cx} {r:Rd} {j:Nat}
theorem ok91 (op p:Int) (a b:Ex):Ok Tryz.prog 91 [i64 op,i64 p,a.v,b.v] H (.ret (Ex.mk op 0 [] [a,b] p).v) H:=by
 refine ok_fn hm Tryz.func91 c91 (by simp[Ex.und_v]) fun hcl => ?_
 simp -implicitDefEqProofs[i91,r91,Ex.v]
 refine cv_fz 3 hcl rfl ?_
 simp[Ex.c,Ex.cL]
 exact List.take_of_length_le (by simp)
theorem ok119 (ho:H[j]? = some (rdO c r)) (hl:c.ts.length<4611686018427387904) (s:List UInt8):Ok Tryz.prog 119 [rp j,st (B s)] H (.ret (i64 (openR c s r).1)) (H.set j (rdO c (openR c s r).2)):=by
 have hj:=getElem?_lt ho
 have e1:objCells H j 0=(rdO c r).cells:=objCells_of (o:=rdO c r) ho rfl
 have e2:∀ f:AO->AO,Ab.setObj H j f=H.set j (f (rdO c r)):=fun f=>setObj_some ho f
 have h39:=ok68 ho 5
 have h37:=ok89 ho s
 have h34:∀ r,Ok Tryz.prog 90 [rp j,st (B s)] (H.set j (rdO c r)) (.ret (i64 (takeR c s r).1)) (H.set j (rdO c (takeR c s r).2)):=fun r=>by
  have:=ok90 (H:=H.set j (rdO c r)) (c:=c) (r:=r) (j:=j) (by simp[hj]) hl s
  simpa using this
 generalize hr1:(if peekR c s r=true∧r.v=40 then failR c 5 r else r)=r1
 have hop:openR c s r=takeR c s (upR r1):=by rw[←hr1]; rfl
 rw[hop]
 have e3:=oc_set hj
 have e4:=so_set hj
 refine ok_fn hm Tryz.func119 c119 (by simp[rp,SV.under,hj]) fun hcl => ?_
 simp -implicitDefEqProofs[i119,r119]
 refine call_go h37 ?_
 have fin:∀ r2:Rd,r2=r1->Cv H.length (i64 (takeR c s (upR r2)).1) (H.set j (rdO c (takeR c s (upR r2)).2)) (i64 (takeR c s (upR r1)).1) (H.set j (rdO c (takeR c s (upR r1)).2)):=fun r2 h=>by subst h; exact cv_id
 by_cases hp:peekR c s r=true
 · by_cases hv:r.v=40
   · rw[if_pos ⟨hp,hv⟩]at hr1
     simp -implicitDefEqProofs[hp,hv,rp,e1,rdO]
     refine call_go (by simpa[rp,rdO]using h39) ?_
     simp -implicitDefEqProofs[hp,hv,rp,e3,e4,rdO]
     refine call_go (by simpa[rp,rdO,upR]using h34 (upR (failR c 5 r))) ?_
     simp -implicitDefEqProofs
     exact fin _ hr1
   · rw[if_neg (fun h=>hv h.2)]at hr1
     simp -implicitDefEqProofs[hp,hv,rp,e1,e2,rdO]
     refine call_go (by simpa[rp,rdO,upR]using h34 (upR r)) ?_
     simp -implicitDefEqProofs
     exact fin _ hr1
 · rw[if_neg (fun h=>hp h.1)]at hr1
   rw[Bool.not_eq_true]at hp
   simp -implicitDefEqProofs[hp,rp,e1,e2,rdO]
   refine call_go (by simpa[rp,rdO,upR]using h34 (upR r)) ?_
   simp -implicitDefEqProofs
   exact fin _ hr1
end
end Go.Proofs.YtcejichidnlicaaGreatDoor
namespace Go.Proofs.YtcejichidnlicaaGreatDoor
open Go.Ab
variable [FrEnv]
structure Gd (c:Cx) (d:Nat) (r:Rd):Prop where
 a:r.a≤c.ts.length
 v:r.e≠0∨r.v+d=40
def Kp {α:Type} (c:Cx) (d:Nat) (F:Rd->α×Rd):Prop:=∀ r,Gd c d r->Gd c d (F r).2∧r.a≤(F r).2.a
theorem closed_rd {H:List AO} {j:Nat} {c:Cx} {r r':Rd} (h:closed (H.set j (rdO c r))):closed (H.set j (rdO c r')):=by
 have:=closed_set h j (o:=rdO c r') (by simp[rdO,SV.underL,SV.under,tksV,und_toks])
 simpa using this
def opAt (c:Cx) (ops:List (List UInt8×Int)) (r:Rd):Option Int:=(ops.find? fun o=>peekR c o.1 r).map (·.2)
def binL (c:Cx) (ops:List (List UInt8×Int)) (f:Rd->Ex×Rd):Nat->Ex->Rd->Ex×Rd
 | 0,e,r=>(e,r)
 | n+1,e,r=>match opAt c ops r with
  | some op=>binL c ops f n (.mk op 0 [] [e,(f (nextR r)).1] (hereR c r)) (f (nextR r)).2
  | none=>(e,r)
def binF (c:Cx) (ops:List (List UInt8×Int)) (f:Rd->Ex×Rd) (r:Rd):Ex×Rd:=binL c ops f c.ts.length (f r).1 (f r).2
def orO:List (List UInt8×Int):=[([111,114],17)]
def andO:List (List UInt8×Int):=[([97,110,100],16)]
def cmpO:List (List UInt8×Int):=[([61,61],10),([33,61],11),([60],12),([60,61],13),([62],14),([62,61],15)]
def sumO:List (List UInt8×Int):=[([43],8),([45],9)]
def mulO:List (List UInt8×Int):=[([42],5),([47],6),([37],7)]
def cmpF (c:Cx) (f:Rd->Ex×Rd) (r:Rd):Ex×Rd:=match opAt c cmpO (f r).2 with
 | some op=>(.mk op 0 [] [(f r).1,(f (nextR (f r).2)).1] (hereR c (f r).2),(f (nextR (f r).2)).2)
 | none=>f r
theorem peek_tok {c:Cx} {s:List UInt8} {r:Rd} (h:peekR c s r=true):r.e=0∧∃ h:r.a<c.ts.length,c.ts[r.a].k≠2∧c.ts[r.a].tx=s:=by
 obtain⟨h1,h2,h3⟩:=tokB_lt h
 simp at h3
 exact⟨h1,h2,h3.1,h3.2⟩
theorem peek_ne {c:Cx} {s t:List UInt8} {r:Rd} (h:peekR c s r=true) (hn:s≠t):peekR c t r=false:=by
 rw[←Bool.not_eq_true]
 intro h2
 obtain⟨_,_,_,h3⟩:=peek_tok h
 obtain⟨_,_,_,h4⟩:=peek_tok h2
 exact hn (h3.symm.trans h4)
theorem opAt_lt {c:Cx} {ops:List (List UInt8×Int)} {r:Rd} {op:Int} (h:opAt c ops r=some op):r.e=0∧r.a<c.ts.length:=by
 unfold opAt at h
 rw[Option.map_eq_some_iff]at h
 obtain⟨o,h1,_⟩:=h
 have:=List.find?_some h1
 obtain⟨h2,h3,_⟩:=peek_tok this
 exact⟨h2,h3⟩
theorem Gd.next {c:Cx} {d:Nat} {r:Rd} (h:Gd c d r) (hl:r.a<c.ts.length):Gd c d (nextR r):=⟨hl,h.v⟩
theorem binL_keep {c:Cx} {ops:List (List UInt8×Int)} {f:Rd->Ex×Rd} {d:Nat} (hf:Kp c d f):∀ (n:Nat) (e:Ex) (r:Rd),Gd c d r->Gd c d (binL c ops f n e r).2∧r.a≤(binL c ops f n e r).2.a
 | 0,e,r,h=>⟨h,Nat.le_refl _⟩
 | n+1,e,r,h=>by
  rw[binL]
  split
  · rename_i op ho
    obtain⟨_,hl⟩:=opAt_lt ho
    obtain⟨h1,h2⟩:=hf _ (h.next hl)
    obtain⟨h3,h4⟩:=binL_keep hf n (.mk op 0 [] [e,(f (nextR r)).1] (hereR c r)) _ h1
    exact⟨h3,by have:r.a+1≤_:=h2; omega⟩
  · exact⟨h,Nat.le_refl _⟩
theorem binF_keep {c:Cx} {ops:List (List UInt8×Int)} {f:Rd->Ex×Rd} {d:Nat} (hf:Kp c d f):Kp c d (binF c ops f):=by
 intro r h
 obtain⟨h1,h2⟩:=hf r h
 obtain⟨h3,h4⟩:=binL_keep (ops:=ops) hf c.ts.length (f r).1 _ h1
 exact⟨h3,Nat.le_trans h2 h4⟩
theorem cmpF_keep {c:Cx} {f:Rd->Ex×Rd} {d:Nat} (hf:Kp c d f):Kp c d (cmpF c f):=by
 intro r h
 obtain⟨h1,h2⟩:=hf r h
 unfold cmpF
 split
 · rename_i op ho
   obtain⟨_,hl⟩:=opAt_lt ho
   obtain⟨h3,h4⟩:=hf _ (h1.next hl)
   exact⟨h3,by have:(f r).2.a+1≤_:=h4; simp only; omega⟩
 · exact⟨h1,h2⟩
def RdC (c:Cx) (k:FuncId) (F:Rd->Ex×Rd) (d:Nat):Prop :=
 ∀ {H:List AO} {j:Nat} {r:Rd},j<H.length->Gd c d r->Ok Tryz.prog k [rp j] (H.set j (rdO c r)) (.ret (F r).1.v) (H.set j (rdO c (F r).2))
theorem RdC.app {c:Cx} {k:FuncId} {F:Rd->Ex×Rd} {d:Nat} (h:RdC c k F d) {H:List AO} {j:Nat} {r:Rd} (hj:j<H.length) (hr:Gd c d r) (L:List AO) :
 Ok Tryz.prog k [rp j] (H.set j (rdO c r)++L) (.ret (F r).1.v) (H.set j (rdO c (F r).2)++L):=by
 have:=h (H:=H++L) (j:=j) (r:=r) (by simp; omega) hr
 rwa [List.set_append_left _ _ hj,List.set_append_left _ _ hj]at this
section
variable {H:List AO} {c:Cx} {r:Rd} {j:Nat}
theorem ok89a (hj:j<H.length) (r:Rd) (L:List AO) (s:List UInt8):Ok Tryz.prog 89 [rp j,st (B s)] (H.set j (rdO c r)++L) (.ret (bl (peekR c s r))) (H.set j (rdO c r)++L) :=
 ok89 (by rw[List.getElem?_append_left (by simpa using hj)]; simp[hj]) s
theorem ok90a (hl:c.ts.length<4611686018427387904) (hj:j<H.length) (r:Rd) (L:List AO) (s:List UInt8):Ok Tryz.prog 90 [rp j,st (B s)] (H.set j (rdO c r)++L) (.ret (i64 (takeR c s r).1)) (H.set j (rdO c (takeR c s r).2)++L):=by
 have:=ok90 (H:=H.set j (rdO c r)++L) (c:=c) (r:=r) (j:=j) (by rw[List.getElem?_append_left (by simpa using hj)]; simp[hj]) hl s
 rwa [List.set_append_left _ _ (by simpa using hj),List.set_set]at this
def zO:AO:=⟨[i64 0,i64 0,st (B []),.val (.slice none 0 0),i64 0],24,0,true⟩
def eO (e:Ex):AO:=⟨e.c,24,0,true⟩
theorem loop67 (hl:c.ts.length<4611686018427387904) (hj:j<H.length) {d:Nat} {F:Rd->Ex×Rd} (hF:RdC c 88 F d) (hk:Kp c d F) {N:Nat} {K:XE->Env->List AO->Prop} {res:Ex×Rd}
 (hexit:∀ env,env.get 2=.ptr (.own H.length 0 0 0 0) 0->env.get 3=.ptr (.own (H.length+1) 0 0 0 0) 0->K (.exit 0) env (H.set j (rdO c res.2)++[zO,eO res.1])) :
 ∀ (n:Nat) (e:Ex) (r:Rd) (env:Env),c.ts.length≤r.a+n->binL c orO F n e r=res->Gd c d r->env.get 0=rp j->env.get 2=.ptr (.own H.length 0 0 0 0) 0->env.get 3=.ptr (.own (H.length+1) 0 0 0 0) 0 →
  LI Tryz.prog N drawB l67_0 env (H.set j (rdO c r)++[zO,eO e]) K:=by
 intro n
 induction n with
 | zero =>
  intro e r env hn hr hg h0 h2 h3
  refine li_go hm l67_0.eq_1 ?_
  have hp:peekR c [111,114] r=false:=by rw[←Bool.not_eq_true]; intro h; have:=peek_lt h; omega
  simp -implicitDefEqProofs[h0,h2,h3]
  refine call_go (ok89a hj r _ [111,114]) ?_
  simp -implicitDefEqProofs[h0,h2,h3,hp]
  rw[←hr]at hexit
  exact hexit _ (by simp[h2]) (by simp[h3])
 | succ n ih =>
  intro e r env hn hr hg h0 h2 h3
  refine li_go hm l67_0.eq_1 ?_
  simp -implicitDefEqProofs[h0,h2,h3]
  refine call_go (ok89a hj r _ [111,114]) ?_
  rw[binL]at hr
  by_cases hp:peekR c [111,114] r=true
  · have ho:opAt c orO r=some 17:=by simp[opAt,orO,hp]
    rw[ho]at hr
    have hlt:=peek_lt hp
    have ht:takeR c [111,114] r=(hereR c r,nextR r):=by simp[takeR,hp]
    have hg2:=hg.next hlt
    obtain⟨k1,k2⟩:=hk _ hg2
    simp -implicitDefEqProofs[h0,h2,h3,hp]
    refine call_go (ok90a hl hj r _ [111,114]) ?_
    rw[ht]
    simp -implicitDefEqProofs[h0,h2,h3,eO]
    refine call_go (hF.app hj hg2 _) ?_
    simp -implicitDefEqProofs[h0,h2,h3,hp,Ex.v]
    refine callq_go (fun _=>ok91 17 _ e (F (nextR r)).1) ?_
    simp -implicitDefEqProofs[h0,h2,h3,hp,Ex.v]
    exact LI.cong (by simp[eO]) (ih _ _ _ (by have:r.a+1≤_:=k2; omega) hr k1 (by simp) (by simp[h2]) (by simp[h3]))
  · rw[Bool.not_eq_true]at hp
    have ho:opAt c orO r=none:=by simp[opAt,orO,hp]
    rw[ho]at hr
    simp -implicitDefEqProofs[h0,h2,h3,hp]
    rw[←hr]at hexit
    exact hexit _ (by simp[h2]) (by simp[h3])
theorem ok67 (hl:c.ts.length<4611686018427387904) {d:Nat} {F:Rd->Ex×Rd} (hF:RdC c 88 F d) (hk:Kp c d F):RdC c 67 (binF c orO F) d:=by
 intro H j r hj hr
 refine ok_fn hm Tryz.func67 c67 (by simp[rp,SV.under,hj]) fun hcl => ?_
 simp -implicitDefEqProofs[i67,r67]
 refine call_go (hF.app hj hr _) ?_
 simp -implicitDefEqProofs[Ex.v]
 obtain⟨k1,k2⟩:=hk _ hr
 refine LI.cong (H':=H.set j (rdO c (F r).2)++[zO,eO (F r).1]) (by simp[eO,zO]) ?_
 refine loop67 hl hj hF hk (fun env h2 h3 => ?_) c.ts.length (F r).1 (F r).2 _ (by omega) rfl k1 (by simp) (by simp) (by simp)
 simp -implicitDefEqProofs[h2,h3,eO,zO]
 exact cv_fz 3 (closed_rd hcl) (by simp) (by simp[binF,Ex.v])
theorem loop88 (hl:c.ts.length<4611686018427387904) (hj:j<H.length) {d:Nat} {F:Rd->Ex×Rd} (hF:RdC c 109 F d) (hk:Kp c d F) {N:Nat} {K:XE->Env->List AO->Prop} {res:Ex×Rd}
 (hexit:∀ env,env.get 2=.ptr (.own H.length 0 0 0 0) 0->env.get 3=.ptr (.own (H.length+1) 0 0 0 0) 0->K (.exit 0) env (H.set j (rdO c res.2)++[zO,eO res.1])) :
 ∀ (n:Nat) (e:Ex) (r:Rd) (env:Env),c.ts.length≤r.a+n->binL c andO F n e r=res->Gd c d r->env.get 0=rp j->env.get 2=.ptr (.own H.length 0 0 0 0) 0->env.get 3=.ptr (.own (H.length+1) 0 0 0 0) 0 →
  LI Tryz.prog N drawB l88_0 env (H.set j (rdO c r)++[zO,eO e]) K:=by
 intro n
 induction n with
 | zero =>
  intro e r env hn hr hg h0 h2 h3
  refine li_go hm l88_0.eq_1 ?_
  have hp:peekR c [97,110,100] r=false:=by rw[←Bool.not_eq_true]; intro h; have:=peek_lt h; omega
  simp -implicitDefEqProofs[h0,h2,h3]
  refine call_go (ok89a hj r _ [97,110,100]) ?_
  simp -implicitDefEqProofs[h0,h2,h3,hp]
  rw[←hr]at hexit
  exact hexit _ (by simp[h2]) (by simp[h3])
 | succ n ih =>
  intro e r env hn hr hg h0 h2 h3
  refine li_go hm l88_0.eq_1 ?_
  simp -implicitDefEqProofs[h0,h2,h3]
  refine call_go (ok89a hj r _ [97,110,100]) ?_
  rw[binL]at hr
  by_cases hp:peekR c [97,110,100] r=true
  · have ho:opAt c andO r=some 16:=by simp[opAt,andO,hp]
    rw[ho]at hr
    have hlt:=peek_lt hp
    have ht:takeR c [97,110,100] r=(hereR c r,nextR r):=by simp[takeR,hp]
    have hg2:=hg.next hlt
    obtain⟨k1,k2⟩:=hk _ hg2
    simp -implicitDefEqProofs[h0,h2,h3,hp]
    refine call_go (ok90a hl hj r _ [97,110,100]) ?_
    rw[ht]
    simp -implicitDefEqProofs[h0,h2,h3,eO]
    refine call_go (hF.app hj hg2 _) ?_
    simp -implicitDefEqProofs[h0,h2,h3,hp,Ex.v]
    refine callq_go (fun _=>ok91 16 _ e (F (nextR r)).1) ?_
    simp -implicitDefEqProofs[h0,h2,h3,hp,Ex.v]
    exact LI.cong (by simp[eO]) (ih _ _ _ (by have:r.a+1≤_:=k2; omega) hr k1 (by simp) (by simp[h2]) (by simp[h3]))
  · rw[Bool.not_eq_true]at hp
    have ho:opAt c andO r=none:=by simp[opAt,andO,hp]
    rw[ho]at hr
    simp -implicitDefEqProofs[h0,h2,h3,hp]
    rw[←hr]at hexit
    exact hexit _ (by simp[h2]) (by simp[h3])
theorem ok88 (hl:c.ts.length<4611686018427387904) {d:Nat} {F:Rd->Ex×Rd} (hF:RdC c 109 F d) (hk:Kp c d F):RdC c 88 (binF c andO F) d:=by
 intro H j r hj hr
 refine ok_fn hm Tryz.func88 c88 (by simp[rp,SV.under,hj]) fun hcl => ?_
 simp -implicitDefEqProofs[i88,r88]
 refine call_go (hF.app hj hr _) ?_
 simp -implicitDefEqProofs[Ex.v]
 obtain⟨k1,k2⟩:=hk _ hr
 refine LI.cong (H':=H.set j (rdO c (F r).2)++[zO,eO (F r).1]) (by simp[eO,zO]) ?_
 refine loop88 hl hj hF hk (fun env h2 h3 => ?_) c.ts.length (F r).1 (F r).2 _ (by omega) rfl k1 (by simp) (by simp) (by simp)
 simp -implicitDefEqProofs[h2,h3,eO,zO]
 exact cv_fz 3 (closed_rd hcl) (by simp) (by simp[binF,Ex.v])
end
end Go.Proofs.YtcejichidnlicaaGreatDoor
namespace Go.Proofs.YtcejichidnlicaaGreatDoor
open Go.Ab
variable [FrEnv]
section
variable {H:List AO} {c:Cx} {r:Rd} {j:Nat}
theorem ok92a (hj:j<H.length) (r:Rd) (L:List AO):Ok Tryz.prog 92 [rp j] (H.set j (rdO c r)++L) (.ret (i64 (hereR c r))) (H.set j (rdO c r)++L) :=
 ok92 (by rw[List.getElem?_append_left (by simpa using hj)]; simp[hj])
theorem ocL (hj:j<H.length) (cs:List SV) (t:TypeId) (L:List AO):objCells (H.set j ⟨cs,t,0,true⟩++L) j 0=cs:=by
 have:(H.set j ⟨cs,t,0,true⟩++L)[j]? = some ⟨cs,t,0,true⟩:=by rw[List.getElem?_append_left (by simpa using hj)]; simp[hj]
 exact objCells_of this rfl
theorem soL (hj:j<H.length) (o:AO) (L:List AO) (f:AO->AO):Ab.setObj (H.set j o++L) j f=H.set j (f o)++L:=by
 rw[setObj_some (o:=o) (by rw[List.getElem?_append_left (by simpa using hj)]; simp[hj]),List.set_append_left _ _ (by simpa using hj),List.set_set]
theorem opAt2 {a b:List UInt8} {x y:Int} (h:peekR c a r=true∨peekR c b r=true) (hab:a≠b):opAt c [(a,x),(b,y)] r=some (if peekR c b r=true then y else x):=by
 unfold opAt
 rcases h with h | h
 · have:=peek_ne h hab
   simp[h,this]
 · have:=peek_ne h (Ne.symm hab)
   simp[h,this]
theorem loop125 (hl:c.ts.length<4611686018427387904) (hj:j<H.length) {d:Nat} {F:Rd->Ex×Rd} (hF:RdC c 129 F d) (hk:Kp c d F) {N:Nat} {K:XE->Env->List AO->Prop} {res:Ex×Rd}
 (hexit:∀ env,env.get 2=.ptr (.own H.length 0 0 0 0) 0->env.get 3=.ptr (.own (H.length+1) 0 0 0 0) 0->K (.exit 0) env (H.set j (rdO c res.2)++[zO,eO res.1])) :
 ∀ (n:Nat) (e:Ex) (r:Rd) (env:Env),c.ts.length≤r.a+n->binL c sumO F n e r=res->Gd c d r->env.get 0=rp j->env.get 2=.ptr (.own H.length 0 0 0 0) 0->env.get 3=.ptr (.own (H.length+1) 0 0 0 0) 0 →
  LI Tryz.prog N drawB l125_0 env (H.set j (rdO c r)++[zO,eO e]) K:=by
 intro n
 induction n with
 | zero =>
  intro e r env hn hr hg h0 h2 h3
  refine li_go hm l125_0.eq_1 ?_
  have hp:∀ s,peekR c s r=false:=fun s=>by rw[←Bool.not_eq_true]; intro h; have:=peek_lt h; omega
  simp -implicitDefEqProofs[h0,h2,h3]
  refine call_go (ok89a hj r _ [43]) ?_
  simp -implicitDefEqProofs[h0,h2,h3,hp]
  refine callq_st (r:=bl (peekR c [45] r)) (fun _=>ok89a hj r _ [45]) ?_
  simp -implicitDefEqProofs[h0,h2,h3,hp]
  rw[←hr]at hexit
  exact hexit _ (by simp[h2]) (by simp[h3])
 | succ n ih =>
  intro e r env hn hr hg h0 h2 h3
  refine li_go hm l125_0.eq_1 ?_
  rw[binL]at hr
  by_cases hp:peekR c [43] r=true∨peekR c [45] r=true
  · have ho:=opAt2 (x:=8) (y:=9) hp (by decide)
    have hlt:r.a<c.ts.length:=by rcases hp with h | h<;>exact peek_lt h
    have hg2:=hg.next hlt
    obtain⟨k1,k2⟩:=hk _ hg2
    have e1:=ocL hj
    have e2:=soL hj
    have w1:IntKind.i64.wrap ((r.a:Int)+1)=(r.a:Int)+1:=wrap_suc (by omega)
    have fin:∀ (op:Int) (env:Env),opAt c sumO r=some op->env.get 0=rp j->env.get 2=.ptr (.own H.length 0 0 0 0) 0->env.get 3=.ptr (.own (H.length+1) 0 0 0 0) 0->LI Tryz.prog N drawB l125_0 env (H.set j (rdO c (F (nextR r)).2)++[zO,eO (.mk op 0 [] [e,(F (nextR r)).1] (hereR c r))]) K:=by
     intro op env ho g0 g2 g3
     rw[ho]at hr
     exact ih _ _ _ (by have:r.a+1≤_:=k2; omega) hr k1 g0 g2 g3
    have hc:=fun L=>hF.app hj hg2 L
    by_cases hm:peekR c [45] r=true
    · have hpl:=peek_ne hm (show([45]:List UInt8)≠[43]by decide)
      simp -implicitDefEqProofs[h0,h2,h3]
      refine call_go (ok89a hj r _ [43]) ?_
      simp -implicitDefEqProofs[h0,h2,h3,hpl]
      refine callq_st (r:=bl (peekR c [45] r)) (fun _=>ok89a hj r _ [45]) ?_
      simp -implicitDefEqProofs[h0,h2,h3,hm]
      refine call_go (ok89a hj r _ [45]) ?_
      simp -implicitDefEqProofs[h0,h2,h3,hm]
      refine call_go (ok92a hj r _) ?_
      simp -implicitDefEqProofs[h0,h2,h3,hm,rp,e1,e2,rdO,eO,zO,w1]
      refine call_go (hc [zO,eO e]) ?_
      simp -implicitDefEqProofs[h0,h2,h3,hm,eO,zO,Ex.v]
      refine callq_go (fun _=>ok91 9 _ e (F (nextR r)).1) ?_
      simp -implicitDefEqProofs[Ex.v]
      exact LI.cong (by simp[eO,zO]) (fin 9 _ (by rw[show sumO=[([43],8),([45],9)]from rfl,ho,if_pos hm]) (by simp[rp]) (by simp[h2]) (by simp[h3]))
    · have hpl:peekR c [43] r=true:=hp.resolve_right hm
      rw[Bool.not_eq_true]at hm
      simp -implicitDefEqProofs[h0,h2,h3]
      refine call_go (ok89a hj r _ [43]) ?_
      simp -implicitDefEqProofs[h0,h2,h3,hpl]
      refine callq_go (r:=bl false) (fun h=>by cases h) ?_
      simp -implicitDefEqProofs[h0,h2,h3,hm,hpl]
      refine call_go (ok89a hj r _ [45]) ?_
      simp -implicitDefEqProofs[h0,h2,h3,hm]
      refine call_go (ok92a hj r _) ?_
      simp -implicitDefEqProofs[h0,h2,h3,hm,rp,e1,e2,rdO,eO,zO,w1]
      refine call_go (hc [zO,eO e]) ?_
      simp -implicitDefEqProofs[h0,h2,h3,hm,eO,zO,Ex.v]
      refine callq_go (fun _=>ok91 8 _ e (F (nextR r)).1) ?_
      simp -implicitDefEqProofs[Ex.v]
      exact LI.cong (by simp[eO,zO]) (fin 8 _ (by rw[show sumO=[([43],8),([45],9)]from rfl,ho,if_neg (by simp[hm])]) (by simp[rp]) (by simp[h2]) (by simp[h3]))
  · rw[not_or,Bool.not_eq_true,Bool.not_eq_true]at hp
    have ho:opAt c sumO r=none:=by simp[opAt,sumO,hp.1,hp.2]
    rw[ho]at hr
    simp -implicitDefEqProofs[h0,h2,h3]
    refine call_go (ok89a hj r _ [43]) ?_
    simp -implicitDefEqProofs[h0,h2,h3,hp.1]
    refine callq_st (r:=bl (peekR c [45] r)) (fun _=>ok89a hj r _ [45]) ?_
    simp -implicitDefEqProofs[h0,h2,h3,hp.1,hp.2]
    rw[←hr]at hexit
    exact hexit _ (by simp[h2]) (by simp[h3])
theorem ok125 (hl:c.ts.length<4611686018427387904) {d:Nat} {F:Rd->Ex×Rd} (hF:RdC c 129 F d) (hk:Kp c d F):RdC c 125 (binF c sumO F) d:=by
 intro H j r hj hr
 refine ok_fn hm Tryz.func125 c125 (by simp[rp,SV.under,hj]) fun hcl => ?_
 simp -implicitDefEqProofs[i125,r125]
 refine call_go (hF.app hj hr _) ?_
 simp -implicitDefEqProofs[Ex.v]
 obtain⟨k1,k2⟩:=hk _ hr
 refine LI.cong (H':=H.set j (rdO c (F r).2)++[zO,eO (F r).1]) (by simp[eO,zO]) ?_
 refine loop125 hl hj hF hk (fun env h2 h3 => ?_) c.ts.length (F r).1 (F r).2 _ (by omega) rfl k1 (by simp) (by simp) (by simp)
 simp -implicitDefEqProofs[h2,h3,eO,zO]
 exact cv_fz 3 (closed_rd hcl) (by simp) (by simp[binF,Ex.v])
end
end Go.Proofs.YtcejichidnlicaaGreatDoor
namespace Go.Proofs.YtcejichidnlicaaGreatDoor
open Go.Ab
variable [FrEnv]
section
variable {H:List AO} {c:Cx} {r:Rd} {j:Nat}
theorem loop129 (hl:c.ts.length<4611686018427387904) (hj:j<H.length) {d:Nat} {F:Rd->Ex×Rd} (hF:RdC c 130 F d) (hk:Kp c d F) {N:Nat} {K:XE->Env->List AO->Prop} {res:Ex×Rd}
 (hexit:∀ env,env.get 2=.ptr (.own H.length 0 0 0 0) 0->env.get 3=.ptr (.own (H.length+1) 0 0 0 0) 0->K (.exit 0) env (H.set j (rdO c res.2)++[zO,eO res.1])) :
 ∀ (n:Nat) (e:Ex) (r:Rd) (env:Env),c.ts.length≤r.a+n->binL c mulO F n e r=res->Gd c d r->env.get 0=rp j->env.get 2=.ptr (.own H.length 0 0 0 0) 0->env.get 3=.ptr (.own (H.length+1) 0 0 0 0) 0 →
  LI Tryz.prog N drawB l129_0 env (H.set j (rdO c r)++[zO,eO e]) K:=by
 intro n
 have none_ok:∀ (e:Ex) (r:Rd) (env:Env),(∀ s,s∈([[42],[47],[37]]:List (List UInt8))->peekR c s r=false)->(e,r)=res->env.get 0=rp j->env.get 2=.ptr (.own H.length 0 0 0 0) 0->env.get 3=.ptr (.own (H.length+1) 0 0 0 0) 0 →
  LI Tryz.prog N drawB l129_0 env (H.set j (rdO c r)++[zO,eO e]) K:=by
  intro e r env hp hr h0 h2 h3
  have p1:=hp [42] (by simp)
  have p2:=hp [47] (by simp)
  have p3:=hp [37] (by simp)
  refine li_go hm l129_0.eq_1 ?_
  simp -implicitDefEqProofs[h0,h2,h3]
  refine call_go (ok89a hj r _ [42]) ?_
  simp -implicitDefEqProofs[h0,h2,h3,p1]
  refine callq_st (r:=bl (peekR c [47] r)) (fun _=>ok89a hj r _ [47]) ?_
  simp -implicitDefEqProofs[h0,h2,h3,p1,p2]
  refine callq_st (r:=bl (peekR c [37] r)) (fun _=>ok89a hj r _ [37]) ?_
  simp -implicitDefEqProofs[h0,h2,h3,p1,p2,p3]
  rw[←hr]at hexit
  exact hexit _ (by simp[h2]) (by simp[h3])
 induction n with
 | zero =>
  intro e r env hn hr hg h0 h2 h3
  exact none_ok e r env (fun s _=>by rw[←Bool.not_eq_true]; intro h; have:=peek_lt h; omega) hr h0 h2 h3
 | succ n ih =>
  intro e r env hn hr hg h0 h2 h3
  rw[binL]at hr
  have fin:∀ (op:Int) (env:Env),r.a<c.ts.length->opAt c mulO r=some op->env.get 0=rp j->env.get 2=.ptr (.own H.length 0 0 0 0) 0->env.get 3=.ptr (.own (H.length+1) 0 0 0 0) 0->LI Tryz.prog N drawB l129_0 env (H.set j (rdO c (F (nextR r)).2)++[zO,eO (.mk op 0 [] [e,(F (nextR r)).1] (hereR c r))]) K:=by
   intro op env hlt ho g0 g2 g3
   rw[ho]at hr
   obtain⟨k1,k2⟩:=hk _ (hg.next hlt)
   exact ih _ _ _ (by have:r.a+1≤_:=k2; omega) hr k1 g0 g2 g3
  have e1:=ocL hj
  have e2:=soL hj
  by_cases hp0:peekR c [42] r=true
  · skip
    have hlt:=peek_lt hp0
    have hp1:=peek_ne hp0 (show([42]:List UInt8)≠[47]by decide)
    have hp2:=peek_ne hp0 (show([42]:List UInt8)≠[37]by decide)
    have ho:opAt c mulO r=some 5:=by simp[opAt,mulO,hp0,hp1,hp2]
    have w1:IntKind.i64.wrap ((r.a:Int)+1)=(r.a:Int)+1:=wrap_suc (by omega)
    have hc:=fun L=>hF.app hj (hg.next hlt) L
    refine li_go hm l129_0.eq_1 ?_
    simp -implicitDefEqProofs[h0,h2,h3]
    refine call_go (ok89a hj r _ [42]) ?_
    simp -implicitDefEqProofs[h0,h2,h3,hp0,hp1,hp2]
    refine callq_go (r:=bl false) (fun h=>by cases h) ?_
    simp -implicitDefEqProofs[h0,h2,h3,hp0,hp1,hp2]
    refine callq_go (r:=bl false) (fun h=>by cases h) ?_
    simp -implicitDefEqProofs[h0,h2,h3,hp0,hp1,hp2]
    refine call_go (ok89a hj r _ [47]) ?_
    simp -implicitDefEqProofs[h0,h2,h3,hp0,hp1,hp2]
    refine call_go (ok89a hj r _ [37]) ?_
    simp -implicitDefEqProofs[h0,h2,h3,hp0,hp1,hp2]
    refine call_go (ok92a hj r _) ?_
    simp -implicitDefEqProofs[h0,h2,h3,rp,e1,e2,rdO,eO,zO,w1]
    refine call_go (hc [zO,eO e]) ?_
    simp -implicitDefEqProofs[h0,h2,h3,eO,zO,Ex.v]
    refine callq_go (fun _=>ok91 5 _ e (F (nextR r)).1) ?_
    simp -implicitDefEqProofs[Ex.v]
    exact LI.cong (by simp[eO,zO]) (fin 5 _ hlt ho (by simp[rp]) (by simp[h2]) (by simp[h3]))
  by_cases hp1:peekR c [47] r=true
  · skip
    have hlt:=peek_lt hp1
    rw[Bool.not_eq_true]at hp0
    have hp2:=peek_ne hp1 (show([47]:List UInt8)≠[37]by decide)
    have ho:opAt c mulO r=some 6:=by simp[opAt,mulO,hp0,hp1,hp2]
    have w1:IntKind.i64.wrap ((r.a:Int)+1)=(r.a:Int)+1:=wrap_suc (by omega)
    have hc:=fun L=>hF.app hj (hg.next hlt) L
    refine li_go hm l129_0.eq_1 ?_
    simp -implicitDefEqProofs[h0,h2,h3]
    refine call_go (ok89a hj r _ [42]) ?_
    simp -implicitDefEqProofs[h0,h2,h3,hp0,hp1,hp2]
    refine callq_st (r:=bl (peekR c [47] r)) (fun _=>ok89a hj r _ [47]) ?_
    simp -implicitDefEqProofs[h0,h2,h3,hp0,hp1,hp2]
    refine callq_go (r:=bl false) (fun h=>by cases h) ?_
    simp -implicitDefEqProofs[h0,h2,h3,hp0,hp1,hp2]
    refine call_go (ok89a hj r _ [47]) ?_
    simp -implicitDefEqProofs[h0,h2,h3,hp0,hp1,hp2]
    refine call_go (ok89a hj r _ [37]) ?_
    simp -implicitDefEqProofs[h0,h2,h3,hp0,hp1,hp2]
    refine call_go (ok92a hj r _) ?_
    simp -implicitDefEqProofs[h0,h2,h3,rp,e1,e2,rdO,eO,zO,w1]
    refine call_go (hc [zO,eO e]) ?_
    simp -implicitDefEqProofs[h0,h2,h3,eO,zO,Ex.v]
    refine callq_go (fun _=>ok91 6 _ e (F (nextR r)).1) ?_
    simp -implicitDefEqProofs[Ex.v]
    exact LI.cong (by simp[eO,zO]) (fin 6 _ hlt ho (by simp[rp]) (by simp[h2]) (by simp[h3]))
  by_cases hp2:peekR c [37] r=true
  · skip
    have hlt:=peek_lt hp2
    rw[Bool.not_eq_true]at hp0
    rw[Bool.not_eq_true]at hp1
    have ho:opAt c mulO r=some 7:=by simp[opAt,mulO,hp0,hp1,hp2]
    have w1:IntKind.i64.wrap ((r.a:Int)+1)=(r.a:Int)+1:=wrap_suc (by omega)
    have hc:=fun L=>hF.app hj (hg.next hlt) L
    refine li_go hm l129_0.eq_1 ?_
    simp -implicitDefEqProofs[h0,h2,h3]
    refine call_go (ok89a hj r _ [42]) ?_
    simp -implicitDefEqProofs[h0,h2,h3,hp0,hp1,hp2]
    refine callq_st (r:=bl (peekR c [47] r)) (fun _=>ok89a hj r _ [47]) ?_
    simp -implicitDefEqProofs[h0,h2,h3,hp0,hp1,hp2]
    refine callq_st (r:=bl (peekR c [37] r)) (fun _=>ok89a hj r _ [37]) ?_
    simp -implicitDefEqProofs[h0,h2,h3,hp0,hp1,hp2]
    refine call_go (ok89a hj r _ [47]) ?_
    simp -implicitDefEqProofs[h0,h2,h3,hp0,hp1,hp2]
    refine call_go (ok89a hj r _ [37]) ?_
    simp -implicitDefEqProofs[h0,h2,h3,hp0,hp1,hp2]
    refine call_go (ok92a hj r _) ?_
    simp -implicitDefEqProofs[h0,h2,h3,rp,e1,e2,rdO,eO,zO,w1]
    refine call_go (hc [zO,eO e]) ?_
    simp -implicitDefEqProofs[h0,h2,h3,eO,zO,Ex.v]
    refine callq_go (fun _=>ok91 7 _ e (F (nextR r)).1) ?_
    simp -implicitDefEqProofs[Ex.v]
    exact LI.cong (by simp[eO,zO]) (fin 7 _ hlt ho (by simp[rp]) (by simp[h2]) (by simp[h3]))
  rw[Bool.not_eq_true]at hp0 hp1 hp2
  have ho:opAt c mulO r=none:=by simp[opAt,mulO,hp0,hp1,hp2]
  rw[ho]at hr
  exact none_ok e r env (fun s hs=>by simp at hs; rcases hs with rfl | rfl | rfl<;>assumption) hr h0 h2 h3
theorem ok129 (hl:c.ts.length<4611686018427387904) {d:Nat} {F:Rd->Ex×Rd} (hF:RdC c 130 F d) (hk:Kp c d F):RdC c 129 (binF c mulO F) d:=by
 intro H j r hj hr
 refine ok_fn hm Tryz.func129 c129 (by simp[rp,SV.under,hj]) fun hcl => ?_
 simp -implicitDefEqProofs[i129,r129]
 refine call_go (hF.app hj hr _) ?_
 simp -implicitDefEqProofs[Ex.v]
 obtain⟨k1,k2⟩:=hk _ hr
 refine LI.cong (H':=H.set j (rdO c (F r).2)++[zO,eO (F r).1]) (by simp[eO,zO]) ?_
 refine loop129 hl hj hF hk (fun env h2 h3 => ?_) c.ts.length (F r).1 (F r).2 _ (by omega) rfl k1 (by simp) (by simp) (by simp)
 simp -implicitDefEqProofs[h2,h3,eO,zO]
 exact cv_fz 3 (closed_rd hcl) (by simp) (by simp[binF,Ex.v])
end
end Go.Proofs.YtcejichidnlicaaGreatDoor
namespace Go.Proofs.YtcejichidnlicaaGreatDoor
open Go.Ab
variable [FrEnv]
def sgs:List (List UInt8):=[[61,61],[33,61],[60],[60,61],[62],[62,61]]
def sgC:List SV:=sgs.map fun w=>st (B w)
abbrev sgO:AO:=⟨sgC,9,0,true⟩
theorem sgG {i:Nat} (h:i<6) (h':i<sgC.length):sgC[i]'(h')=st (B (sgs[i]'h)):=by
 simp[sgC]; rfl
theorem opAt_cmp {c:Cx} {r:Rd} {i:Nat} (hi:i<6) (hp:∀ (k:Nat) (h:k<6),k<i->peekR c (sgs[k]'h) r=false) (h:peekR c (sgs[i]'hi) r=true):opAt c cmpO r=some (10+(i:Int)):=by
 have p:=fun k h1 h2=>hp k h1 h2
 match i,hi with
 | 0,_=>simp[sgs]at h; simp[opAt,cmpO,h]
 | 1,_=>simp[sgs]at h; have p0:=hp 0 (by omega) (by omega); simp[sgs]at p0; simp[opAt,cmpO,h,p0]
 | 2,_=>simp[sgs]at h; have p0:=hp 0 (by omega) (by omega); have p1:=hp 1 (by omega) (by omega); simp[sgs]at p0 p1; simp[opAt,cmpO,h,p0,p1]
 | 3,_ =>
  have p0:=hp 0 (by omega) (by omega); have p1:=hp 1 (by omega) (by omega); have p2:=hp 2 (by omega) (by omega)
  simp[sgs]at h p0 p1 p2; simp[opAt,cmpO,h,p0,p1,p2]
 | 4,_ =>
  have p0:=hp 0 (by omega) (by omega); have p1:=hp 1 (by omega) (by omega); have p2:=hp 2 (by omega) (by omega); have p3:=hp 3 (by omega) (by omega)
  simp[sgs]at h p0 p1 p2 p3; simp[opAt,cmpO,h,p0,p1,p2,p3]
 | 5,_ =>
  have p0:=hp 0 (by omega) (by omega); have p1:=hp 1 (by omega) (by omega); have p2:=hp 2 (by omega) (by omega); have p3:=hp 3 (by omega) (by omega); have p4:=hp 4 (by omega) (by omega)
  simp[sgs]at h p0 p1 p2 p3 p4; simp[opAt,cmpO,h,p0,p1,p2,p3,p4]
theorem opAt_cmp_none {c:Cx} {r:Rd} (hp:∀ (k:Nat) (h:k<6),peekR c (sgs[k]'h) r=false):opAt c cmpO r=none:=by
 have p0:=hp 0 (by omega); have p1:=hp 1 (by omega); have p2:=hp 2 (by omega); have p3:=hp 3 (by omega); have p4:=hp 4 (by omega); have p5:=hp 5 (by omega)
 simp[sgs]at p0 p1 p2 p3 p4 p5; simp[opAt,cmpO,p0,p1,p2,p3,p4,p5]
section
variable {H:List AO} {c:Cx} {r:Rd} {j:Nat}
theorem loop118 (hl:c.ts.length<4611686018427387904) (hj:j<H.length) {d:Nat} {F:Rd->Ex×Rd} (hF:RdC c 125 F d) {e:Ex} (hg:Gd c d r) {N:Nat} {K:XE->Env->List AO->Prop}
 (hret:∀ op,opAt c cmpO r=some op->∀ env,env.get 2=.ptr (.own H.length 0 0 0 0) 0->K .ret env (H.set j (rdO c (F (nextR r)).2)++[eO (.mk op 0 [] [e,(F (nextR r)).1] (hereR c r)),eO e,sgO]))
 (hexit:opAt c cmpO r=none->∀ env,env.get 2=.ptr (.own H.length 0 0 0 0) 0->env.get 3=.ptr (.own (H.length+1) 0 0 0 0) 0->K (.exit 0) env (H.set j (rdO c r)++[zO,eO e,sgO])) :
 ∀ (n i:Nat) (env:Env),i+n=6->(∀ (k:Nat) (h:k<6),k<i->peekR c (sgs[k]'h) r=false)->env.get 0=rp j->env.get 2=.ptr (.own H.length 0 0 0 0) 0->env.get 3=.ptr (.own (H.length+1) 0 0 0 0) 0 →
  env.get 4=.own (H.length+2) 0 6 1 0->env.get 5=i64 i->LI Tryz.prog N drawB l118_0 env (H.set j (rdO c r)++[zO,eO e,sgO]) K:=by
 intro n
 have hc6:sgC.length=6:=rfl
 induction n with
 | zero =>
  intro i env hi hp h0 h2 h3 h4 h5
  have e:i=6:=by omega
  subst e
  refine li_go hm l118_0.eq_1 ?_
  simp -implicitDefEqProofs[h0,h2,h3,h4,h5]
  exact hexit (opAt_cmp_none fun k h=>hp k h h) _ (by simp[h2]) (by simp[h3])
 | succ n ih =>
  intro i env hi hp h0 h2 h3 h4 h5
  have hlt:i<6:=by omega
  have hlt':(i:Int)<6:=by omega
  have hat:=fun h'=>sgG hlt h'
  refine li_go hm l118_0.eq_1 ?_
  by_cases hpk:peekR c (sgs[i]'hlt) r=true
  · have ho:=opAt_cmp hlt hp hpk
    have hlt2:=peek_lt hpk
    have ht:takeR c (sgs[i]'hlt) r=(hereR c r,nextR r):=by simp[takeR,hpk]
    have w1:IntKind.i64.wrap (10+(i:Int))=10+(i:Int):=wrap_id (by omega) (by omega)
    simp -implicitDefEqProofs[h0,h2,h3,h4,h5,hlt,hlt',hat,hc6]
    refine⟨by omega,call_go (ok89a hj r _ (sgs[i]'hlt)) ?_⟩
    simp -implicitDefEqProofs[h0,h2,h3,h4,h5,hlt,hlt',hat,hc6,hpk]
    refine⟨by omega,call_go (ok90a hl hj r _ (sgs[i]'hlt)) ?_⟩
    rw[ht]
    simp -implicitDefEqProofs[h0,h2,h3,h4,h5,eO,zO,w1]
    refine call_go (hF.app hj (hg.next hlt2) [zO,eO e,sgO]) ?_
    simp -implicitDefEqProofs[h0,h2,h3,h4,h5,eO,zO,w1,Ex.v]
    refine callq_go (fun _=>ok91 (10+i) _ e (F (nextR r)).1) ?_
    simp -implicitDefEqProofs[h0,h2,h3,h4,h5,Ex.v]
    exact hret _ ho _ (by simp[h2])
  · rw[Bool.not_eq_true]at hpk
    simp -implicitDefEqProofs[h0,h2,h3,h4,h5,hlt,hlt',hat,hc6]
    refine⟨by omega,call_go (ok89a hj r _ (sgs[i]'hlt)) ?_⟩
    simp -implicitDefEqProofs[h0,h2,h3,h4,h5,hlt,hlt',hat,hc6,hpk]
    refine ih (i+1) _ (by omega) (fun k h hk => ?_) (by simp[h0]) (by simp[h2]) (by simp[h3]) (by simp[h4]) (by simp[wrap_suc (show i<9223372036854775807 by omega)])
    by_cases hki:k=i
    · subst hki; exact hpk
    · exact hp k h (by omega)
theorem ok118 (hl:c.ts.length<4611686018427387904) {d:Nat} {F:Rd->Ex×Rd} (hF:RdC c 125 F d) (hk:Kp c d F):RdC c 118 (cmpF c F) d:=by
 intro H j r hj hr
 refine ok_fn hm Tryz.func118 c118 (by simp[rp,SV.under,hj]) fun hcl => ?_
 simp -implicitDefEqProofs[i118,r118]
 refine call_go (hF.app hj hr _) ?_
 simp -implicitDefEqProofs[Ex.v]
 obtain⟨k1,k2⟩:=hk _ hr
 refine LI.cong (H':=H.set j (rdO c (F r).2)++[zO,eO (F r).1,sgO]) (by simp[eO,zO,sgO,sgC,sgs,B]) ?_
 refine loop118 hl hj hF k1 (fun op ho env h2 => ?_) (fun ho env h2 h3 => ?_) 6 0 _ (by omega) (by omega) (by simp) (by simp) (by simp) (by simp) (by simp)
 · have hc:cmpF c F r=(.mk op 0 [] [(F r).1,(F (nextR (F r).2)).1] (hereR c (F r).2),(F (nextR (F r).2)).2):=by unfold cmpF; rw[ho]
   rw[hc]
   simp -implicitDefEqProofs[h2,eO,zO]
   exact cv_fz 3 (closed_rd hcl) (by simp) (by simp[Ex.v])
 · have hc:cmpF c F r=F r:=by unfold cmpF; rw[ho]
   rw[hc]
   simp -implicitDefEqProofs[h2,h3,eO,zO]
   exact cv_fz 3 (closed_rd hcl) (by simp) (by simp[Ex.v])
end
end Go.Proofs.YtcejichidnlicaaGreatDoor
namespace Go.Proofs.YtcejichidnlicaaGreatDoor
open Go.Ab
variable [FrEnv]
def notG (c:Cx) (cmp ntP:Rd->Ex×Rd) (r:Rd):Ex×Rd :=
 if peekR c [110,111,116] r=true then
  if(openR c [110,111,116] r).2.e≠0 then(zE,(openR c [110,111,116] r).2)
  else(.mk 4 0 [] [(ntP (openR c [110,111,116] r).2).1] (openR c [110,111,116] r).1,dnR (ntP (openR c [110,111,116] r).2).2)
 else cmp r
def argsG (c:Cx) (orP:Rd->Ex×Rd):Nat->List Ex->Rd->Option (List Ex)×Rd
 | 0,l,r=>(some l,r)
 | n+1,l,r=>if(takeR c [44] r).2.e≠0 then(none,(takeR c [44] r).2)else argsG c orP n (l++[(orP (takeR c [44] r).2).1]) (orP (takeR c [44] r).2).2
def callG (c:Cx) (orP:Rd->Ex×Rd) (s:List UInt8) (op:Int) (m:Nat) (p:Int) (r:Rd):Ex×Rd :=
 let r2:=(openR c [40] (takeR c s r).2).2
 if r2.e≠0 then(zE,r2)else
 match argsG c orP m [(orP r2).1] (orP r2).2 with
 | (none,r3)=>(zE,r3)
 | (some l,r3)=>(.mk op 0 [] l p,dnR (takeR c [41] r3).2)
def wrdO:List (List UInt8×Int×Nat):=[([109,105,110],18,1),([109,97,120],19,1),([105,102],20,2)]
def facG (c:Cx) (orP facP:Rd->Ex×Rd) (r:Rd):Ex×Rd :=
 if r.e≠0 then(zE,r)
 else if freeR c r=true then(.mk 2 0 (wordR c r).1 [] (hereR c r),(wordR c r).2)
 else if peekR c [45] r=true then
  if(openR c [45] r).2.e≠0 then(zE,(openR c [45] r).2)
  else(.mk 3 0 [] [(facP (openR c [45] r).2).1] (hereR c r),dnR (facP (openR c [45] r).2).2)
 else if peekR c [40] r=true then
  if(openR c [40] r).2.e≠0 then(zE,(openR c [40] r).2)
  else((orP (openR c [40] r).2).1,dnR (takeR c [41] (orP (openR c [40] r).2).2).2)
 else match wrdO.find? (fun w=>peekR c w.1 r)with
  | some w=>callG c orP w.1 w.2.1 w.2.2 (hereR c r) r
  | none=>(.mk 1 (nmR c r).1 [] [] (hereR c r),(nmR c r).2)
structure Lv where
 fac:Rd->Ex×Rd
 nt:Rd->Ex×Rd
def orOf (c:Cx) (L:Lv):Rd->Ex×Rd:=binF c orO (binF c andO L.nt)
def cmpOf (c:Cx) (fac:Rd->Ex×Rd):Rd->Ex×Rd:=cmpF c (binF c sumO (binF c mulO fac))
def lvS (c:Cx) (orP facP ntP:Rd->Ex×Rd):Lv:=⟨facG c orP facP,notG c (cmpOf c (facG c orP facP)) ntP⟩
def lv (c:Cx):Nat->Lv
 | 0=>lvS c (fun r=>(zE,r)) (fun r=>(zE,r)) (fun r=>(zE,r))
 | d+1=>lvS c (orOf c (lv c d)) (lv c d).fac (lv c d).nt
theorem fail_keep {c:Cx} {d:Nat} {r:Rd} {e:Int} (he:e≠0) (h:Gd c d r):Gd c d (failR c e r)∧(failR c e r).a=r.a∧(failR c e r).e≠0:=by
 unfold failR
 split
 · exact⟨⟨h.a,.inl he⟩,rfl,he⟩
 · rename_i h2; exact⟨h,rfl,h2⟩
theorem take_keep {c:Cx} {d:Nat} (s:List UInt8):Kp c d (takeR c s):=by
 intro r h
 unfold takeR
 split
 · rename_i hp
   exact⟨h.next (peek_lt hp),Nat.le_succ _⟩
 · obtain⟨h1,h2,_⟩:=fail_keep (e:=11) (by decide) h
   exact⟨h1,Nat.le_of_eq h2.symm⟩
theorem word_keep {c:Cx} {d:Nat}:Kp c d (wordR c):=by
 intro r h
 unfold wordR
 split
 · rename_i hp
   exact⟨h.next (tokB_lt hp).2.1,Nat.le_succ _⟩
 · obtain⟨h1,h2,_⟩:=fail_keep (e:=11) (by decide) h
   exact⟨h1,Nat.le_of_eq h2.symm⟩
theorem num_keep {c:Cx} {d:Nat}:Kp c d (nmR c):=by
 intro r h
 unfold nmR
 split
 · rename_i hp
   exact⟨h.next (tokB_lt hp).2.1,Nat.le_succ _⟩
 · obtain⟨h1,h2,_⟩:=fail_keep (e:=11) (by decide) h
   exact⟨h1,Nat.le_of_eq h2.symm⟩
theorem open_keep {c:Cx} {d:Nat} (hd:d≤40) {s:List UInt8} {r:Rd} (h:Gd c d r) :
 (openR c s r).2.a≤c.ts.length∧r.a≤(openR c s r).2.a∧((openR c s r).2.e=0->∃ d',d=d'+1∧Gd c d' (openR c s r).2):=by
 unfold openR
 by_cases hp:peekR c s r=true∧r.v=40
 · rw[if_pos hp]
   obtain⟨h1,h2,h3⟩:=fail_keep (e:=5) (by decide) h
   have hb:Gd c d (upR (failR c 5 r)):=⟨h1.a,.inl h3⟩
   obtain⟨k1,k2⟩:=take_keep s _ hb
   refine⟨k1.a,by rw[←h2]; exact k2,fun he => ?_⟩
   exfalso
   have:peekR c s (upR (failR c 5 r))=false:=by
    rw[←Bool.not_eq_true]; intro h4
    exact h3 (peek_tok h4).1
   unfold takeR at he
   rw[this]at he
   simp only[Bool.false_eq_true,if_false]at he
   unfold failR at he
   rw[if_neg (by exact h3)]at he
   exact h3 he
 · rw[if_neg hp]
   have hb:Gd c d (upR r)∨True:=.inr trivial
   by_cases hpk:peekR c s r=true
   · have hv:r.v≠40:=fun h=>hp ⟨hpk,h⟩
     obtain⟨he0,hlt,_⟩:=peek_tok hpk
     have hpu:peekR c s (upR r)=true:=hpk
     have ht:takeR c s (upR r)=(hereR c (upR r),nextR (upR r)):=by unfold takeR; rw[if_pos hpu]
     rw[ht]
     have hv2:=h.v.resolve_left (fun h=>h he0)
     refine⟨hlt,Nat.le_succ _,fun _=>⟨d-1,by omega,hlt,.inr ?_⟩⟩
     have:IntKind.i64.wrap (r.v+1)=r.v+1:=wrap_id (by omega) (by omega)
     simp only[nextR,upR,this]
     omega
   · have hpu:peekR c s (upR r)=false:=by rw[←Bool.not_eq_true]; exact hpk
     have ht:takeR c s (upR r)=(hereR c (upR r),failR c 11 (upR r)):=by unfold takeR; rw[hpu]; rfl
     rw[ht]
     have hf:(failR c 11 (upR r)).a=r.a∧(failR c 11 (upR r)).e≠0:=by
      unfold failR
      split
      · exact⟨rfl,show(11:Int)≠0 by decide⟩
      · rename_i h2; exact⟨rfl,h2⟩
     exact⟨by rw[hf.1]; exact h.a,by rw[hf.1]; exact Nat.le_refl _,fun he=>absurd he hf.2⟩
theorem Gd.dn {c:Cx} {d:Nat} (hd:d+1≤40) {r:Rd} (h:Gd c d r):Gd c (d+1) (dnR r):=by
 refine⟨h.a,?_⟩
 rcases h.v with h1 | h1
 · exact .inl h1
 · right
   have:IntKind.i64.wrap (r.v-1)=r.v-1:=wrap_id (by omega) (by omega)
   simp only[dnR,this]; omega
theorem Gd.bad {c:Cx} {d d':Nat} {r:Rd} (h:r.a≤c.ts.length) (he:r.e≠0):Gd c d r:=⟨h,.inl he⟩
theorem notG_keep {c:Cx} {d:Nat} (hd:d≤40) {cmp ntP:Rd->Ex×Rd} (h1:Kp c d cmp) (h2:∀ d',d=d'+1->Kp c d' ntP):Kp c d (notG c cmp ntP):=by
 intro r h
 unfold notG
 split
 · obtain⟨k1,k2,k3⟩:=open_keep hd (s:=[110,111,116]) h
   split
   · rename_i he
     exact⟨⟨k1,.inl he⟩,k2⟩
   · rename_i he
     obtain⟨d',rfl,hg⟩:=k3 (by simpa using he)
     obtain⟨k4,k5⟩:=h2 d' rfl _ hg
     exact⟨k4.dn hd,Nat.le_trans k2 k5⟩
 · exact h1 r h
theorem argsG_keep {c:Cx} {d:Nat} {orP:Rd->Ex×Rd} (hk:Kp c d orP):∀ (n:Nat) (l:List Ex) (r:Rd),Gd c d r->Gd c d (argsG c orP n l r).2∧r.a≤(argsG c orP n l r).2.a∧((argsG c orP n l r).1=none->(argsG c orP n l r).2.e≠0)
 | 0,l,r,h=>⟨h,Nat.le_refl _,fun h=>by cases h⟩
 | n+1,l,r,h=>by
  rw[argsG]
  obtain⟨k1,k2⟩:=take_keep [44] r h
  split
  · rename_i he
    exact⟨k1,k2,fun _=>he⟩
  · obtain⟨k3,k4⟩:=hk _ k1
    obtain⟨k5,k6,k7⟩:=argsG_keep hk n (l++[(orP (takeR c [44] r).2).1]) _ k3
    exact⟨k5,Nat.le_trans k2 (Nat.le_trans k4 k6),k7⟩
theorem callG_keep {c:Cx} {d:Nat} (hd:d≤40) {orP:Rd->Ex×Rd} (hk:∀ d',d=d'+1->Kp c d' orP) (s:List UInt8) (op:Int) (m:Nat) (p:Int):Kp c d (callG c orP s op m p):=by
 intro r h
 obtain⟨k1,k2⟩:=take_keep s r h
 obtain⟨k3,k4,k5⟩:=open_keep hd (s:=[40]) k1
 unfold callG
 dsimp only
 split
 · rename_i he
   exact⟨⟨k3,.inl he⟩,Nat.le_trans k2 k4⟩
 · rename_i he
   obtain⟨d',rfl,hg⟩:=k5 (by simpa using he)
   obtain⟨k6,k7⟩:=hk d' rfl _ hg
   obtain⟨k8,k9,k10⟩:=argsG_keep (hk d' rfl) m [(orP (openR c [40] (takeR c s r).2).2).1] _ k6
   split
   · rename_i r3 hr
     rw[hr]at k8 k9 k10
     exact⟨⟨k8.a,.inl (k10 rfl)⟩,Nat.le_trans k2 (Nat.le_trans k4 (Nat.le_trans k7 k9))⟩
   · rename_i l r3 hr
     rw[hr]at k8 k9 k10
     obtain⟨k11,k12⟩:=take_keep [41] r3 k8
     exact⟨k11.dn hd,Nat.le_trans k2 (Nat.le_trans k4 (Nat.le_trans k7 (Nat.le_trans k9 k12)))⟩
theorem facG_keep {c:Cx} {d:Nat} (hd:d≤40) {orP facP:Rd->Ex×Rd} (h1:∀ d',d=d'+1->Kp c d' orP) (h2:∀ d',d=d'+1->Kp c d' facP):Kp c d (facG c orP facP):=by
 intro r h
 unfold facG
 split
 · exact⟨h,Nat.le_refl _⟩
 split
 · exact word_keep r h
 split
 · obtain⟨k1,k2,k3⟩:=open_keep hd (s:=[45]) h
   split
   · rename_i he
     exact⟨⟨k1,.inl he⟩,k2⟩
   · rename_i he
     obtain⟨d',rfl,hg⟩:=k3 (by simpa using he)
     obtain⟨k4,k5⟩:=h2 d' rfl _ hg
     exact⟨k4.dn hd,Nat.le_trans k2 k5⟩
 split
 · obtain⟨k1,k2,k3⟩:=open_keep hd (s:=[40]) h
   split
   · rename_i he
     exact⟨⟨k1,.inl he⟩,k2⟩
   · rename_i he
     obtain⟨d',rfl,hg⟩:=k3 (by simpa using he)
     obtain⟨k4,k5⟩:=h1 d' rfl _ hg
     obtain⟨k6,k7⟩:=take_keep [41] _ k4
     exact⟨k6.dn hd,Nat.le_trans k2 (Nat.le_trans k5 k7)⟩
 split
 · exact callG_keep hd h1 _ _ _ _ r h
 · exact num_keep r h
theorem lv_keep (c:Cx):∀ d:Nat,d≤40->Kp c d (lv c d).fac∧Kp c d (lv c d).nt∧Kp c d (orOf c (lv c d))
 | 0,hd=>by
  have h1:Kp c 0 (lv c 0).fac:=facG_keep hd (fun d' h=>by omega) (fun d' h=>by omega)
  have h2:Kp c 0 (lv c 0).nt:=notG_keep hd (cmpF_keep (binF_keep (binF_keep h1))) (fun d' h=>by omega)
  exact⟨h1,h2,binF_keep (binF_keep h2)⟩
 | d+1,hd=>by
  obtain⟨p1,p2,p3⟩:=lv_keep c d (by omega)
  have h1:Kp c (d+1) (lv c (d+1)).fac:=facG_keep hd (fun d' h=>by cases h; exact p3) (fun d' h=>by cases h; exact p1)
  have h2:Kp c (d+1) (lv c (d+1)).nt:=notG_keep hd (cmpF_keep (binF_keep (binF_keep h1))) (fun d' h=>by cases h; exact p2)
  exact⟨h1,h2,binF_keep (binF_keep h2)⟩
end Go.Proofs.YtcejichidnlicaaGreatDoor
namespace Go.Proofs.YtcejichidnlicaaGreatDoor
open Go.Ab
variable [FrEnv]
section
variable {H:List AO} {c:Cx} {r:Rd} {j:Nat}
theorem ok119a (hl:c.ts.length<4611686018427387904) (hj:j<H.length) (r:Rd) (L:List AO) (s:List UInt8):Ok Tryz.prog 119 [rp j,st (B s)] (H.set j (rdO c r)++L) (.ret (i64 (openR c s r).1)) (H.set j (rdO c (openR c s r).2)++L):=by
 have:=ok119 (H:=H.set j (rdO c r)++L) (c:=c) (r:=r) (j:=j) (by rw[List.getElem?_append_left (by simpa using hj)]; simp[hj]) hl s
 rwa [List.set_append_left _ _ (by simpa using hj),List.set_set]at this
theorem ok69a (hj:j<H.length) (r:Rd) (L:List AO):Ok Tryz.prog 69 [rp j] (H.set j (rdO c r)++L) (.ret (bl (!decide (r.e=0)))) (H.set j (rdO c r)++L) :=
 ok69 (c:=c) (r:=r) (by rw[List.getElem?_append_left (by simpa using hj)]; simp[hj])
theorem ok131a (hj:j<H.length) (r:Rd) (L:List AO):Ok Tryz.prog 131 [rp j] (H.set j (rdO c r)++L) (.ret (bl (freeR c r))) (H.set j (rdO c r)++L) :=
 ok131 (c:=c) (r:=r) (by rw[List.getElem?_append_left (by simpa using hj)]; simp[hj])
theorem ok132a (hl:c.ts.length<4611686018427387904) (hj:j<H.length) (r:Rd) (L:List AO):Ok Tryz.prog 132 [rp j] (H.set j (rdO c r)++L) (.ret (st (B (wordR c r).1))) (H.set j (rdO c (wordR c r).2)++L):=by
 have:=ok132 (H:=H.set j (rdO c r)++L) (c:=c) (r:=r) (j:=j) (by rw[List.getElem?_append_left (by simpa using hj)]; simp[hj]) hl
 rwa [List.set_append_left _ _ (by simpa using hj),List.set_set]at this
theorem ok133a (hl:c.ts.length<4611686018427387904) (hj:j<H.length) (r:Rd) (L:List AO):Ok Tryz.prog 133 [rp j] (H.set j (rdO c r)++L) (.ret (i64 (nmR c r).1)) (H.set j (rdO c (nmR c r).2)++L):=by
 have:=ok133 (H:=H.set j (rdO c r)++L) (c:=c) (r:=r) (j:=j) (by rw[List.getElem?_append_left (by simpa using hj)]; simp[hj]) hl
 rwa [List.set_append_left _ _ (by simpa using hj),List.set_set]at this
theorem leaf_le (op n:Int) (nm:List UInt8) (p:Int):SV.le (.agg [i64 op,i64 n,st (B nm),.val (.slice none 0 0),i64 p]) (Ex.mk op n nm [] p).v:=by
 simp only[Ex.v,Ex.c,Ex.cL,List.length_nil]
 exact le_agg (leL.cons (SV.le.refl _) (leL.cons (SV.le.refl _) (leL.cons (SV.le.refl _) (leL.cons le_nil (leL.cons (SV.le.refl _) leL.nil)))))
theorem cv_leaf {o:AO} (hcl:closed (H.set j o)) (op n:Int) (nm:List UInt8) (p:Int) (L:List AO):Cv H.length (.agg [i64 op,i64 n,st (B nm),.val (.slice none 0 0),i64 p]) (H.set j o++L) (Ex.mk op n nm [] p).v (H.set j o) :=
 Cv.le (cv_fz (r1:=.agg [i64 op,i64 n,st (B nm),.val (.slice none 0 0),i64 p]) (r:=.agg [i64 op,i64 n,st (B nm),.val (.slice none 0 0),i64 p]) (n0:=H.length) 3 hcl (by simp) (by simp)) (leaf_le op n nm p)
theorem ok109 (hl:c.ts.length<4611686018427387904) {d:Nat} (hd:d≤40) {cmp ntP:Rd->Ex×Rd} (h1:RdC c 118 cmp d) (h2:∀ d',d=d'+1->RdC c 109 ntP d'):RdC c 109 (notG c cmp ntP) d:=by
 intro H j r hj hr
 have e1:=ocL hj
 have e2:=soL hj
 refine ok_fn hm Tryz.func109 c109 (by simp[rp,SV.under,hj]) fun hcl => ?_
 simp -implicitDefEqProofs[i109,r109]
 refine call_go (ok89a hj r _ [110,111,116]) ?_
 by_cases hp:peekR c [110,111,116] r=true
 · obtain⟨k1,k2,k3⟩:=open_keep hd (s:=[110,111,116]) hr
   simp -implicitDefEqProofs[hp]
   refine call_go (ok119a hl hj r _ [110,111,116]) ?_
   have hn:notG c cmp ntP r=if(openR c [110,111,116] r).2.e≠0 then(zE,(openR c [110,111,116] r).2)
    else(.mk 4 0 [] [(ntP (openR c [110,111,116] r).2).1] (openR c [110,111,116] r).1,dnR (ntP (openR c [110,111,116] r).2).2):=by unfold notG; rw[if_pos hp]
   rw[hn]
   generalize openR c [110,111,116] r=o at k1 k2 k3 ⊢
   simp -implicitDefEqProofs
   refine call_go (ok69a hj o.2 _) ?_
   by_cases he:o.2.e=0
   · rw[if_neg (by simp[he])]
     obtain⟨d',rfl,hg⟩:=k3 he
     simp -implicitDefEqProofs[he]
     refine call_go (RdC.app (h2 d' rfl) hj hg _) ?_
     simp -implicitDefEqProofs[rp,rdO,e1,e2,Ex.v]
     exact cv_fz 3 (closed_rd (r':=dnR (ntP o.2).2) hcl) (by simp) (by simp[Ex.v,Ex.c,Ex.cL])
   · rw[if_pos he]
     simp -implicitDefEqProofs[he]
     exact⟨rfl,cv_leaf (closed_rd (r':=o.2) hcl) 0 0 [] 0 _⟩
 · have hn:notG c cmp ntP r=cmp r:=by unfold notG; rw[if_neg hp]
   rw[hn]
   rw[Bool.not_eq_true]at hp
   simp -implicitDefEqProofs[hp]
   refine call_go (h1.app hj hr _) ?_
   simp -implicitDefEqProofs[Ex.v]
   exact cv_fz 3 (closed_rd hcl) (by simp) (by simp[Ex.v])
end
end Go.Proofs.YtcejichidnlicaaGreatDoor
namespace Go.Proofs.YtcejichidnlicaaGreatDoor
open Go.Ab
variable [FrEnv]
def opC:List SV:=[i64 18,i64 19,i64 20]
def nmC:List SV:=[st (B [109,105,110]),st (B [109,97,120]),st (B [105,102])]
abbrev opO:AO:=⟨opC,3,0,true⟩
abbrev nmO:AO:=⟨nmC,9,0,true⟩
section
variable {H:List AO} {c:Cx} {r:Rd} {j:Nat}
abbrev aH (n:Nat) (op p:Int) (l:List Ex) (X:AO) (G:List AO):List AO :=
 zO::opO::nmO::⟨[i64 op,i64 0,st (B []),.own (n+5) 0 l.length 5 l.length,i64 p],24,0,true⟩::X::⟨Ex.cL l,24,l.length,true⟩::G
theorem exL_app:∀ a b:List Ex,Ex.cL (a++b)=Ex.cL a++Ex.cL b
 | [],b=>rfl
 | x::a,b=>by rw[List.cons_append,Ex.cL,exL_app a b,Ex.cL,List.append_assoc]
theorem exL_len:∀ a:List Ex,(Ex.cL a).length=a.length*5
 | []=>rfl
 | x::a=>by rw[Ex.cL,List.length_append,exL_len a]; simp; omega
theorem loop130_1 (hl:c.ts.length<4611686018427387904) (hj:j<H.length) {d:Nat} {orP:Rd->Ex×Rd} (h1:RdC c 67 orP d) (hk:Kp c d orP) {N:Nat} {K:XE->Env->List AO->Prop} {op p:Int} {i m:Nat} (hi:i<3) (him:i / 2+1=m) {X:AO} {res:Option (List Ex)×Rd}
 (hret:res.1=none->∀ env G,env.get 2=.ptr (.own H.length 0 0 0 0) 0->K .ret env (H.set j (rdO c res.2)++zO::G))
 (hexit:∀ l,res.1=some l->∀ env G,env.get 0=rp j->env.get 2=.ptr (.own H.length 0 0 0 0) 0->env.get 9=.ptr (.own (H.length+3) 0 0 0 0) 0->K (.exit 2) env (H.set j (rdO c res.2)++aH H.length op p l X G)) :
 ∀ (q k:Nat) (l:List Ex) (r:Rd) (G:List AO) (env:Env),k+q=m->l.length=k+1->argsG c orP q l r=res->Gd c d r->env.get 0=rp j->env.get 2=.ptr (.own H.length 0 0 0 0) 0->env.get 8=i64 i->env.get 9=.ptr (.own (H.length+3) 0 0 0 0) 0->env.get 10=i64 k →
  LI Tryz.prog N drawB l130_1 env (H.set j (rdO c r)++aH H.length op p l X G) K:=by
 have hq:Int.tdiv (i:Int) 2=((i / 2:Nat):Int):=by rw[Int.tdiv_eq_ediv_of_nonneg (by omega)]; omega
 have hw:IntKind.i64.wrap ((i / 2:Nat):Int)=((i / 2:Nat):Int):=wrap_nat (by omega)
 intro q
 induction q with
 | zero =>
  intro k l r G env hkq hll hr hg h0 h2 h8 h9 h10
  refine li_go hm l130_1.eq_1 ?_
  have hn:¬ (k:Int)≤((i / 2:Nat):Int):=by omega
  simp only[Int.natCast_ediv,Int.cast_ofNat_Int]at hq hw hn
  simp -implicitDefEqProofs[h0,h2,h8,h9,h10,hq,hw,hn]
  simp only[argsG]at hr
  subst hr
  refine hexit l rfl _ G ?_ ?_ ?_<;>simp[h0,h2,h9]
 | succ q ih =>
  intro k l r G env hkq hll hr hg h0 h2 h8 h9 h10
  refine li_go hm l130_1.eq_1 ?_
  have hn:(k:Int)≤((i / 2:Nat):Int):=by omega
  simp only[Int.natCast_ediv,Int.cast_ofNat_Int]at hq hw hn
  rw[argsG]at hr
  obtain⟨k1,k2⟩:=take_keep [44] r hg
  simp -implicitDefEqProofs[h0,h2,h8,h9,h10,hq,hw,hn]
  refine call_go (ok90a hl hj r _ [44]) ?_
  generalize takeR c [44] r=o at k1 k2 hr ⊢
  simp -implicitDefEqProofs[h0,h2,h8,h9,h10]
  refine call_go (ok69a hj o.2 _) ?_
  by_cases he:o.2.e=0
  · rw[if_neg (by simp[he])]at hr
    simp -implicitDefEqProofs[h0,h2,h8,h9,h10,he]
    refine call_go (RdC.app h1 hj k1 _) ?_
    obtain⟨k3,k4⟩:=hk _ k1
    simp -implicitDefEqProofs[h0,h2,h8,h9,h10,he,Ex.v]
    have hl2:l.length≤2:=by omega
    refine⟨by omega,by omega,exL_len l,?_⟩
    have hlen:(l++[(orP o.2).1]).length=l.length+1:=by simp
    refine LI.cong ?_ (ih (k+1) (l++[(orP o.2).1]) _ (G++[eO (orP o.2).1]) _ (by omega) (by rw[hlen]; omega) hr k3 ?_ ?_ ?_ ?_ ?_)
    · rw[aH,hlen,exL_app]; simp[eO,Ex.cL]
    all_goals simp[h0,h2,h8,h9,wrap_suc (show k<9223372036854775807 by omega)]
  · rw[if_pos he]at hr
    subst hr
    simp -implicitDefEqProofs[h0,h2,h8,h9,h10,he,zO]
    refine⟨rfl,?_⟩
    refine hret rfl _ _ ?_
    simp[h2]
def RetC (H:List AO) (c:Cx) (j:Nat) (K:XE->Env->List AO->Prop) (x:Ex×Rd):Prop :=
 (∀ env G,env.get 2=.ptr (.own H.length 0 0 0 0) 0->x.1=zE->K .ret env (H.set j (rdO c x.2)++zO::G)) ∧
 ∀ env op p l X G,env.get 2=.ptr (.own H.length 0 0 0 0) 0->x.1=.mk op 0 [] l p->K .ret env (H.set j (rdO c x.2)++⟨[i64 op,i64 0,st (B []),.own (H.length+5) 0 l.length 5 l.length,i64 p],24,0,true⟩::opO::nmO ::
  ⟨[i64 op,i64 0,st (B []),.own (H.length+5) 0 l.length 5 l.length,i64 p],24,0,true⟩::X::⟨Ex.cL l,24,l.length,true⟩::G)
theorem loop130_0 (hl:c.ts.length<4611686018427387904) (hj:j<H.length) {d:Nat} (hd:d≤40) {orP:Rd->Ex×Rd} (h1:∀ d',d=d'+1->RdC c 67 orP d') (hk:∀ d',d=d'+1->Kp c d' orP) (hg:Gd c d r) {N:Nat} {K:XE->Env->List AO->Prop} {p:Int}
 {i:Nat} (hi:i<3) {env:Env} {x:Ex×Rd} (hx:callG c orP (wrdO[i]'hi).1 (wrdO[i]'hi).2.1 (wrdO[i]'hi).2.2 p r=x) (hK:RetC H c j K x) (hpk:peekR c (wrdO[i]'hi).1 r=true) (h0:env.get 0=rp j) (h2:env.get 2=.ptr (.own H.length 0 0 0 0) 0) (h3:env.get 3=i64 p) (h6:env.get 6=.own (H.length+1) 0 3 1 0) (h7:env.get 7=.own (H.length+2) 0 3 1 0) (h8:env.get 8=i64 i) :
 LI Tryz.prog N drawB l130_0 env (H.set j (rdO c r)++[zO,opO,nmO]) K:=by
 subst hx
 have e1:=ocL hj
 have e2:=soL hj
 have hi':(i:Int)<3:=by omega
 have hnm:∀ h',nmC[i]'(h')=st (B (wrdO[i]'hi).1):=by
  intro h'
  match i,hi with
  | 0,_=>rfl
  | 1,_=>rfl
  | 2,_=>rfl
 have hop:∀ h',opC[i]'(h')=i64 (wrdO[i]'hi).2.1:=by
  intro h'
  match i,hi with
  | 0,_=>rfl
  | 1,_=>rfl
  | 2,_=>rfl
 have hcn:nmC.length=3:=rfl
 have hco:opC.length=3:=rfl
 have ht:takeR c (wrdO[i]'hi).1 r=(hereR c r,nextR r):=by simp[takeR,hpk]
 refine li_go hm l130_0.eq_1 ?_
 simp -implicitDefEqProofs[h0,h2,h3,h6,h7,h8,hi,hi',hnm,hcn]
 refine⟨by omega,call_go (ok89a hj r _ (wrdO[i]'hi).1) ?_⟩
 simp -implicitDefEqProofs[h0,h2,h3,h6,h7,h8,hi,hi',hnm,hcn,hpk]
 refine⟨by omega,call_go (ok90a hl hj r _ (wrdO[i]'hi).1) ?_⟩
 rw[ht]
 simp -implicitDefEqProofs[h0,h2,h3,h6,h7,h8]
 refine call_go (ok119a hl hj (nextR r) _ [40]) ?_
 have hop3:=open_keep hd (s:=[40]) (hg.next (peek_lt hpk))
 generalize ho:openR c [40] (nextR r)=o at hop3 ⊢
 simp -implicitDefEqProofs[h0,h2,h3,h6,h7,h8]
 refine call_go (ok69a hj o.2 _) ?_
 by_cases he:o.2.e=0
 · simp -implicitDefEqProofs[h0,h2,h3,h6,h7,h8,he,hi,hi',hop,hco]
   obtain⟨_,_,hop3⟩:=hop3
   obtain⟨d',rfl,hg'⟩:=hop3 he
   refine⟨by omega,rfl,call_go (RdC.app (h1 d' rfl) hj hg' _) ?_⟩
   simp -implicitDefEqProofs[h0,h2,h3,h6,h7,h8,he,Ex.v]
   obtain⟨k3,k4⟩:=hk d' rfl _ hg'
   generalize hres:argsG c orP (wrdO[i]'hi).2.2 [(orP o.2).1] (orP o.2).2=res
   refine LI.cong (H':=H.set j (rdO c (orP o.2).2)++aH H.length (wrdO[i]'hi).2.1 p [(orP o.2).1] (eO (orP o.2).1) []) (by simp[eO,Ex.cL]) ?_
   refine loop130_1 hl hj (h1 d' rfl) (hk d' rfl) (op:=(wrdO[i]'hi).2.1) (p:=p) (m:=(wrdO[i]'hi).2.2) hi ?_ (X:=eO (orP o.2).1) (res:=res) (fun hn env G g2 => ?_) (fun l hs env G g0 g2 g9 => ?_) (wrdO[i]'hi).2.2 0 [(orP o.2).1] (orP o.2).2 [] _ (by omega) rfl hres k3 ?_ ?_ ?_ ?_ ?_
   · match i,hi with
     | 0,_=>rfl
     | 1,_=>rfl
     | 2,_=>rfl
   · have hc:callG c orP (wrdO[i]'hi).1 (wrdO[i]'hi).2.1 (wrdO[i]'hi).2.2 p r=(zE,res.2):=by
      unfold callG; rw[ht]; dsimp only; rw[ho,if_neg (by simp[he]),hres]
      obtain⟨x,y⟩:=res
      cases hn; rfl
     simp -implicitDefEqProofs
     rw[hc]at hK
     exact hK.1 _ _ g2 rfl
   · have hc:callG c orP (wrdO[i]'hi).1 (wrdO[i]'hi).2.1 (wrdO[i]'hi).2.2 p r=(.mk (wrdO[i]'hi).2.1 0 [] l p,dnR (takeR c [41] res.2).2):=by
      unfold callG; rw[ht]; dsimp only; rw[ho,if_neg (by simp[he]),hres]
      obtain⟨x,y⟩:=res
      cases hs; rfl
     rw[hc]at hK
     simp -implicitDefEqProofs[g0,g2,g9]
     refine call_go (ok90a hl hj res.2 _ [41]) ?_
     simp -implicitDefEqProofs[g0,g2,g9,rp,rdO,e1,e2,zO]
     exact hK.2 _ _ _ _ _ _ (by simp[g2]) rfl
   all_goals simp[h0,h2,h8]
 · obtain⟨k1,k2,_⟩:=hop3
   have hc:callG c orP (wrdO[i]'hi).1 (wrdO[i]'hi).2.1 (wrdO[i]'hi).2.2 p r=(zE,o.2):=by
    unfold callG; rw[ht]; dsimp only; rw[ho,if_pos he]
   rw[hc]at hK
   simp -implicitDefEqProofs[h0,h2,h3,h6,h7,h8,he,zO]
   refine⟨rfl,?_⟩
   exact hK.1 _ _ (by simp[h2]) rfl
end
end Go.Proofs.YtcejichidnlicaaGreatDoor
namespace Go.Proofs.YtcejichidnlicaaGreatDoor
open Go.Ab
variable [FrEnv]
section
variable {H:List AO} {c:Cx} {r:Rd} {j:Nat}
theorem loop76_0n (hj:j<H.length) {N:Nat} {K:XE->Env->List AO->Prop} {p:Int} {i:Nat} (hi:i<3) {env:Env} (hpk:peekR c (wrdO[i]'hi).1 r=false)
 (hn:∀ env,env.get 0=rp j->env.get 2=.ptr (.own H.length 0 0 0 0) 0->env.get 3=i64 p->env.get 6=.own (H.length+1) 0 3 1 0->env.get 7=.own (H.length+2) 0 3 1 0->env.get 8=i64 ((i+1:Nat):Int)->LI Tryz.prog N drawB l130_0 env (H.set j (rdO c r)++[zO,opO,nmO]) K)
 (h0:env.get 0=rp j) (h2:env.get 2=.ptr (.own H.length 0 0 0 0) 0) (h3:env.get 3=i64 p) (h6:env.get 6=.own (H.length+1) 0 3 1 0) (h7:env.get 7=.own (H.length+2) 0 3 1 0) (h8:env.get 8=i64 i) :
 LI Tryz.prog N drawB l130_0 env (H.set j (rdO c r)++[zO,opO,nmO]) K:=by
 have hi':(i:Int)<3:=by omega
 have hnm:∀ h',nmC[i]'(h')=st (B (wrdO[i]'hi).1):=by
  intro h'
  match i,hi with
  | 0,_=>rfl
  | 1,_=>rfl
  | 2,_=>rfl
 have hcn:nmC.length=3:=rfl
 refine li_go hm l130_0.eq_1 ?_
 simp -implicitDefEqProofs[h0,h2,h3,h6,h7,h8,hi,hi',hnm,hcn]
 refine⟨by omega,call_go (ok89a hj r _ (wrdO[i]'hi).1) ?_⟩
 simp -implicitDefEqProofs[h0,h2,h3,h6,h7,h8,hpk]
 refine hn _ ?_ ?_ ?_ ?_ ?_ ?_<;>simp[h0,h2,h3,h6,h7,wrap_suc (show i<9223372036854775807 by omega)]
theorem loop76_0e (hj:j<H.length) {N:Nat} {K:XE->Env->List AO->Prop} {p:Int} {env:Env} (hK:∀ env,env.get 0=rp j->env.get 2=.ptr (.own H.length 0 0 0 0) 0->env.get 3=i64 p->K (.exit 0) env (H.set j (rdO c r)++[zO,opO,nmO]))
 (h0:env.get 0=rp j) (h2:env.get 2=.ptr (.own H.length 0 0 0 0) 0) (h3:env.get 3=i64 p) (h8:env.get 8=i64 3) :
 LI Tryz.prog N drawB l130_0 env (H.set j (rdO c r)++[zO,opO,nmO]) K:=by
 refine li_go hm l130_0.eq_1 ?_
 simp -implicitDefEqProofs[h0,h2,h3,h8]
 refine hK _ ?_ ?_ ?_<;>simp[h0,h2,h3]
@[simp] theorem exL_fzm (n:Nat) (ks:List Nat) (L:List AO) (d:Nat) (l:List Ex):(Ex.cL l).map (SV.fz n ks L (d+1))=Ex.cL l:=map_fz_under _ _ _ _ (Ex.undL _ l)
theorem take_cL (l:List Ex):List.take (l.length*5) (Ex.cL l)=Ex.cL l:=List.take_of_length_le (by rw[exL_len]; exact Nat.le_refl _)
theorem ok130 (hl:c.ts.length<4611686018427387904) {d:Nat} (hd:d≤40) {orP facP:Rd->Ex×Rd} (h1:∀ d',d=d'+1->RdC c 67 orP d') (hk:∀ d',d=d'+1->Kp c d' orP) (h2:∀ d',d=d'+1->RdC c 130 facP d'):RdC c 130 (facG c orP facP) d:=by
 intro H j r hj hr
 have e1:=ocL hj
 have e2:=soL hj
 generalize hx:facG c orP facP r=x
 unfold facG at hx
 refine ok_fn hm Tryz.func130 c130 (by simp[rp,SV.under,hj]) fun hcl => ?_
 simp -implicitDefEqProofs[i130,r130]
 refine call_go (ok69a hj r _) ?_
 by_cases he:r.e=0
 · rw[if_neg (by simp[he])]at hx
   simp -implicitDefEqProofs[he]
   refine call_go (ok92a hj r _) ?_
   simp -implicitDefEqProofs
   refine call_go (ok131a hj r _) ?_
   by_cases hf:freeR c r=true
   · rw[if_pos hf]at hx
     subst hx
     simp -implicitDefEqProofs[hf]
     refine call_go (ok132a hl hj r _) ?_
     simp -implicitDefEqProofs
     exact⟨rfl,cv_leaf (closed_rd hcl) _ _ _ _ _⟩
   · rw[if_neg hf]at hx
     rw[Bool.not_eq_true]at hf
     simp -implicitDefEqProofs[hf]
     refine call_go (ok89a hj r _ [45]) ?_
     by_cases hm1:peekR c [45] r=true
     · rw[if_pos hm1]at hx
       simp -implicitDefEqProofs[hm1]
       refine call_go (ok119a hl hj r _ [45]) ?_
       obtain⟨_,_,hop⟩:=open_keep hd (s:=[45]) hr
       generalize openR c [45] r=o at hop hx ⊢
       simp -implicitDefEqProofs
       refine call_go (ok69a hj o.2 _) ?_
       by_cases ho:o.2.e=0
       · obtain⟨d',rfl,hg⟩:=hop ho
         rw[if_neg (by simp[ho])]at hx
         subst hx
         simp -implicitDefEqProofs[ho]
         refine call_go (RdC.app (h2 d' rfl) hj hg _) ?_
         simp -implicitDefEqProofs[rp,rdO,e1,e2,Ex.v]
         exact cv_fz 3 (closed_rd (r':=dnR (facP o.2).2) hcl) (by simp) (by simp[Ex.v,Ex.c,Ex.cL])
       · rw[if_pos ho]at hx
         subst hx
         simp -implicitDefEqProofs[ho]
         exact⟨rfl,cv_leaf (closed_rd hcl) 0 0 [] 0 _⟩
     · rw[if_neg hm1]at hx
       rw[Bool.not_eq_true]at hm1
       simp -implicitDefEqProofs[hm1]
       refine call_go (ok89a hj r _ [40]) ?_
       by_cases hm2:peekR c [40] r=true
       · rw[if_pos hm2]at hx
         simp -implicitDefEqProofs[hm2]
         refine call_go (ok119a hl hj r _ [40]) ?_
         obtain⟨_,_,hop⟩:=open_keep hd (s:=[40]) hr
         generalize openR c [40] r=o at hop hx ⊢
         simp -implicitDefEqProofs
         refine call_go (ok69a hj o.2 _) ?_
         by_cases ho:o.2.e=0
         · obtain⟨d',rfl,hg⟩:=hop ho
           rw[if_neg (by simp[ho])]at hx
           subst hx
           simp -implicitDefEqProofs[ho]
           refine call_go (RdC.app (h1 d' rfl) hj hg _) ?_
           simp -implicitDefEqProofs[Ex.v]
           refine call_go (ok90a hl hj _ _ [41]) ?_
           simp -implicitDefEqProofs[rp,rdO,e1,e2,Ex.v]
           exact cv_fz 3 (closed_rd (r':=dnR (takeR c [41] (orP o.2).2).2) hcl) (by simp) (by simp[Ex.v])
         · rw[if_pos ho]at hx
           subst hx
           simp -implicitDefEqProofs[ho]
           exact⟨rfl,cv_leaf (closed_rd hcl) 0 0 [] 0 _⟩
       · rw[if_neg hm2]at hx
         rw[Bool.not_eq_true]at hm2
         simp -implicitDefEqProofs[hm2]
         refine LI.cong (H':=H.set j (rdO c r)++[zO,opO,nmO]) (by simp[zO,opC,nmC,B]) ?_
         by_cases p0:peekR c [109,105,110] r=true
         · have hw:wrdO.find? (fun w=>peekR c w.1 r)=some ([109,105,110],18,1):=by simp[wrdO,p0]
           rw[hw]at hx
           have hx:callG c orP (wrdO[0]).1 (wrdO[0]).2.1 (wrdO[0]).2.2 (hereR c r) r=x:=hx
           refine loop130_0 hl hj hd h1 hk hr (i:=0) (by omega) (p:=hereR c r) (x:=x) hx ⟨fun env G g2 hz => ?_,fun env op p l X G g2 hz => ?_⟩ p0 ?_ ?_ ?_ ?_ ?_ ?_
           · skip
             simp -implicitDefEqProofs[g2,hz,zO]
             exact cv_leaf (closed_rd hcl) 0 0 [] 0 _
           · skip
             simp -implicitDefEqProofs[g2,hz]
             exact cv_fz 3 (closed_rd hcl) (by simp) (by simp[Ex.v,Ex.c,exL_len,take_cL])
           all_goals simp
         rw[Bool.not_eq_true]at p0
         refine loop76_0n (i:=0) hj (by omega) p0 (p:=hereR c r) (fun env g0 g2 g3 g6 g7 g8 => ?_) ?_ ?_ ?_ ?_ ?_ ?_
         rotate_left
         all_goals try (simp; done)
         by_cases p1:peekR c [109,97,120] r=true
         · have hw:wrdO.find? (fun w=>peekR c w.1 r)=some ([109,97,120],19,1):=by simp[wrdO,p0,p1]
           rw[hw]at hx
           have hx:callG c orP (wrdO[1]).1 (wrdO[1]).2.1 (wrdO[1]).2.2 (hereR c r) r=x:=hx
           refine loop130_0 hl hj hd h1 hk hr (i:=1) (by omega) (p:=hereR c r) (x:=x) hx ⟨fun env G g2' hz => ?_,fun env op p l X G g2' hz => ?_⟩ p1 ?_ ?_ ?_ ?_ ?_ ?_
           · skip
             simp -implicitDefEqProofs[g2',hz,zO]
             exact cv_leaf (closed_rd hcl) 0 0 [] 0 _
           · skip
             simp -implicitDefEqProofs[g2',hz]
             exact cv_fz 3 (closed_rd hcl) (by simp) (by simp[Ex.v,Ex.c,exL_len,take_cL])
           all_goals simp[g0,g2,g3,g6,g7,g8]
         rw[Bool.not_eq_true]at p1
         refine loop76_0n (i:=1) hj (by omega) p1 (p:=hereR c r) (fun env g0 g2 g3 g6 g7 g8 => ?_) g0 g2 g3 g6 g7 g8
         by_cases p2:peekR c [105,102] r=true
         · have hw:wrdO.find? (fun w=>peekR c w.1 r)=some ([105,102],20,2):=by simp[wrdO,p0,p1,p2]
           rw[hw]at hx
           have hx:callG c orP (wrdO[2]).1 (wrdO[2]).2.1 (wrdO[2]).2.2 (hereR c r) r=x:=hx
           refine loop130_0 hl hj hd h1 hk hr (i:=2) (by omega) (p:=hereR c r) (x:=x) hx ⟨fun env G g2' hz => ?_,fun env op p l X G g2' hz => ?_⟩ p2 ?_ ?_ ?_ ?_ ?_ ?_
           · skip
             simp -implicitDefEqProofs[g2',hz,zO]
             exact cv_leaf (closed_rd hcl) 0 0 [] 0 _
           · skip
             simp -implicitDefEqProofs[g2',hz]
             exact cv_fz 3 (closed_rd hcl) (by simp) (by simp[Ex.v,Ex.c,exL_len,take_cL])
           all_goals simp[g0,g2,g3,g6,g7,g8]
         rw[Bool.not_eq_true]at p2
         refine loop76_0n (i:=2) hj (by omega) p2 (p:=hereR c r) (fun env g0 g2 g3 g6 g7 g8 => ?_) g0 g2 g3 g6 g7 g8
         refine loop76_0e hj (p:=hereR c r) (fun env g0 g2 g3 => ?_) g0 g2 g3 g8
         have hw:wrdO.find? (fun w=>peekR c w.1 r)=none:=by simp[wrdO,p0,p1,p2]
         rw[hw]at hx
         subst hx
         simp -implicitDefEqProofs[g0,g2,g3]
         refine call_go (ok133a hl hj r _) ?_
         simp -implicitDefEqProofs[g0,g2,g3,zO]
         exact⟨rfl,cv_leaf (closed_rd hcl) _ _ _ _ _⟩
 · rw[if_pos he]at hx
   subst hx
   simp -implicitDefEqProofs[he]
   exact⟨rfl,cv_leaf (closed_rd hcl) 0 0 [] 0 _⟩
theorem ok_lv (hl:c.ts.length<4611686018427387904):∀ d:Nat,d≤40->RdC c 130 (lv c d).fac d∧RdC c 109 (lv c d).nt d∧RdC c 67 (orOf c (lv c d)) d
 | 0,hd=>by
  obtain⟨k1,k2,_⟩:=lv_keep c 0 hd
  have h1:RdC c 130 (lv c 0).fac 0:=ok130 hl hd (fun d' h=>by omega) (fun d' h=>by omega) (fun d' h=>by omega)
  have h2:RdC c 109 (lv c 0).nt 0:=ok109 hl hd (ok118 hl (ok125 hl (ok129 hl h1 k1) (binF_keep k1)) (binF_keep (binF_keep k1))) (fun d' h=>by omega)
  exact⟨h1,h2,ok67 hl (ok88 hl h2 k2) (binF_keep k2)⟩
 | d+1,hd=>by
  obtain⟨p1,p2,p3⟩:=ok_lv hl d (by omega)
  obtain⟨q1,q2,q3⟩:=lv_keep c d (by omega)
  obtain⟨k1,k2,_⟩:=lv_keep c (d+1) hd
  have h1:RdC c 130 (lv c (d+1)).fac (d+1):=ok130 hl hd (fun d' h=>by cases h; exact p3) (fun d' h=>by cases h; exact q3) (fun d' h=>by cases h; exact p1)
  have h2:RdC c 109 (lv c (d+1)).nt (d+1):=ok109 hl hd (ok118 hl (ok125 hl (ok129 hl h1 k1) (binF_keep k1)) (binF_keep (binF_keep k1))) (fun d' h=>by cases h; exact p2)
  exact⟨h1,h2,ok67 hl (ok88 hl h2 k2) (binF_keep k2)⟩
end
end Go.Proofs.YtcejichidnlicaaGreatDoor
namespace Go.Proofs.YtcejichidnlicaaGreatDoor
open Go.Ab
variable [FrEnv]
def orT (c:Cx):Rd->Ex×Rd:=orOf c (lv c 40)
def exprT (c:Cx):Ex×Int×Int :=
 let x:=orT c ⟨0,0,0,0⟩
 let r:=if x.2.a<c.ts.length then failR c 11 x.2 else x.2
 if r.e≠0 then(zE,r.e,r.p)else(x.1,0,0)
def exprR (l:List UInt8):Ex×Int×Int :=
 if(scanG l).2.1≠0 then(zE,(scanG l).2)else exprT ⟨(scanG l).1,l.length⟩
theorem RdC.at {c:Cx} {k:FuncId} {F:Rd->Ex×Rd} {d:Nat} (h:RdC c k F d) {G:List AO} {j:Nat} {r:Rd} (ho:G[j]? = some (rdO c r)) (hr:Gd c d r) :
 Ok Tryz.prog k [rp j] G (.ret (F r).1.v) (G.set j (rdO c (F r).2)):=by
 have:=h (H:=G) (getElem?_lt ho) hr
 rwa [set_same ho]at this
theorem toks_len (l:List Ev):(toks l).length≤l.length:=by
 induction l with
 | nil=>simp[toks]
 | cons x r ih=>cases x<;>simp[toks]<;>omega
theorem evs_len (l:List UInt8):∀ (n p:Nat),(evs l n p).length≤n
 | 0,p=>by simp[evs]
 | n+1,p=>by
  simp only[evs]
  have:=evs_len l n
  split
  · split<;>simp<;>first | omega | (have:=this ‹_›; omega) | skip
  · simp
theorem scan_len (l:List UInt8):(scanG l).1.length≤20000:=by
 unfold scanG
 split
 · simp
 · rename_i h
   split
   · refine Nat.le_trans (toks_len _) (Nat.le_trans (evs_len l l.length 0) (by omega))
   · simp
theorem get_mid (H A L:List AO) (o:AO):(H++(A++o::L))[H.length+A.length]? = some o:=by
 rw[List.getElem?_append_right (by omega)]; simp
theorem set_mid (H A L:List AO) (o o':AO):(H++(A++o::L)).set (H.length+A.length) o'=H++(A++o'::L):=by
 rw[List.set_append_right _ _ (by omega)]; simp
section
variable (H A L:List AO) {c:Cx} (r:Rd)
theorem ok69m:Ok Tryz.prog 69 [rp (H.length+A.length)] (H++(A++rdO c r::L)) (.ret (bl (!decide (r.e=0)))) (H++(A++rdO c r::L)):=ok69 (c:=c) (get_mid H A L _)
theorem ok68m (e:Int):Ok Tryz.prog 68 [rp (H.length+A.length),i64 e] (H++(A++rdO c r::L)) (.ret (.tup [])) (H++(A++rdO c (failR c e r)::L)):=by
 have:=ok68 (c:=c) (get_mid H A L (rdO c r)) e
 rwa [set_mid]at this
theorem RdC.mid {k:FuncId} {F:Rd->Ex×Rd} {d:Nat} (h:RdC c k F d) {r:Rd} (hr:Gd c d r):Ok Tryz.prog k [rp (H.length+A.length)] (H++(A++rdO c r::L)) (.ret (F r).1.v) (H++(A++rdO c (F r).2::L)):=by
 have:=h.at (get_mid H A L (rdO c r)) hr
 rwa [set_mid]at this
end
section
variable {H:List AO} {l:List UInt8}
theorem ok31 (hl:l.length<4611686018427387904):Ok Tryz.prog 31 [st (B l)] H (.ret (.tup [(exprR l).1.v,fltV (exprR l).2.1 (exprR l).2.2])) H:=by
 refine ok_fn hm Tryz.func31 c31 (by simp) fun hcl => ?_
 simp -implicitDefEqProofs[i31,r31]
 refine call_go (ok66 hl) ?_
 have hlen:=scan_len l
 unfold exprR
 generalize scanG l=s at hlen ⊢
 obtain⟨ts,fe,fp⟩:=s
 by_cases hs:fe=0
 · subst hs
   rw[if_neg (by simp)]
   simp -implicitDefEqProofs[fltV,tksV]
   have hlc:ts.length<4611686018427387904:=by have:ts.length≤20000:=hlen; omega
   have hg:Gd ⟨ts,l.length⟩ 40 ⟨0,0,0,0⟩:=⟨Nat.zero_le _,.inr rfl⟩
   have hor:RdC ⟨ts,l.length⟩ 67 (orT ⟨ts,l.length⟩) 40:=(ok_lv hlc 40 (by omega)).2.2
   refine call_go (RdC.mid H [zO,⟨[i64 0,i64 0],59,0,true⟩,⟨[i64 0,i64 fp],59,0,true⟩] [] hor hg) ?_
   generalize hw:exprT ⟨ts,l.length⟩=w
   unfold exprT at hw
   generalize orT ⟨ts,l.length⟩ ⟨0,0,0,0⟩=x at hw ⊢
   obtain⟨ex,r⟩:=x
   dsimp only at hw
   simp -implicitDefEqProofs[rdO,tksV,Ex.v]
   by_cases hlt:r.a<ts.length
   · simp -implicitDefEqProofs[rdO,tksV,hlt]
     refine call_go (ok68m H [zO,⟨[i64 0,i64 0],59,0,true⟩,⟨[i64 0,i64 fp],59,0,true⟩] [eO ex] (c:=⟨ts,l.length⟩) r 11) ?_
     rw[if_pos hlt]at hw
     generalize failR ⟨ts,l.length⟩ 11 r=r1 at hw ⊢
     simp -implicitDefEqProofs
     refine call_go (ok69m H [zO,⟨[i64 0,i64 0],59,0,true⟩,⟨[i64 0,i64 fp],59,0,true⟩] [eO ex] (c:=⟨ts,l.length⟩) r1) ?_
     by_cases he:r1.e=0
     · rw[if_neg (by simp[he])]at hw
       subst hw
       simp -implicitDefEqProofs[he,eO,zO]
       exact cv_fz 3 hcl rfl (by simp[Ex.v,fltV])
     · rw[if_pos he]at hw
       subst hw
       simp -implicitDefEqProofs[he,eO,zO,rdO]
       exact⟨rfl,Cv.le (cv_fz (n0:=H.length) (r1:=.tup [.agg [i64 0,i64 0,st (B []),.val (.slice none 0 0),i64 0],.agg [i64 r1.e,i64 r1.p]]) (r:=.tup [.agg [i64 0,i64 0,st (B []),.val (.slice none 0 0),i64 0],.agg [i64 r1.e,i64 r1.p]]) 3 hcl rfl (by simp)) (le_tup (leL.cons (leaf_le 0 0 [] 0) (leL.cons (SV.le.refl _) leL.nil)))⟩
   · simp -implicitDefEqProofs[rdO,tksV,hlt]
     rw[if_neg hlt]at hw
     generalize r=r1 at hw ⊢
     refine call_go (ok69m H [zO,⟨[i64 0,i64 0],59,0,true⟩,⟨[i64 0,i64 fp],59,0,true⟩] [eO ex] (c:=⟨ts,l.length⟩) r1) ?_
     by_cases he:r1.e=0
     · rw[if_neg (by simp[he])]at hw
       subst hw
       simp -implicitDefEqProofs[he,eO,zO]
       exact cv_fz 3 hcl rfl (by simp[Ex.v,fltV])
     · rw[if_pos he]at hw
       subst hw
       simp -implicitDefEqProofs[he,eO,zO,rdO]
       exact⟨rfl,Cv.le (cv_fz (n0:=H.length) (r1:=.tup [.agg [i64 0,i64 0,st (B []),.val (.slice none 0 0),i64 0],.agg [i64 r1.e,i64 r1.p]]) (r:=.tup [.agg [i64 0,i64 0,st (B []),.val (.slice none 0 0),i64 0],.agg [i64 r1.e,i64 r1.p]]) 3 hcl rfl (by simp)) (le_tup (leL.cons (leaf_le 0 0 [] 0) (leL.cons (SV.le.refl _) leL.nil)))⟩
 · rw[if_pos (by simpa using hs)]
   simp -implicitDefEqProofs[fltV,hs,tksV]
   refine⟨rfl,Cv.le (cv_fz (n0:=H.length) (r1:=.tup [.agg [i64 0,i64 0,st (B []),.val (.slice none 0 0),i64 0],.agg [i64 fe,i64 fp]]) (r:=.tup [.agg [i64 0,i64 0,st (B []),.val (.slice none 0 0),i64 0],.agg [i64 fe,i64 fp]]) 3 hcl rfl (by simp)) (le_tup (leL.cons (leaf_le 0 0 [] 0) (leL.cons (SV.le.refl _) leL.nil)))⟩
end
end Go.Proofs.YtcejichidnlicaaGreatDoor
namespace Go.Proofs.YtcejichidnlicaaGreatDoor
open Go.RowKit Go.Extern.Stop Go.Stop Go.Extern Go.Ab
variable [FrEnv]
abbrev tH (t:Nat):Value:=.pointer (some ⟨1,t,none⟩)
theorem valueOf85 (t:Addr) (w:World):(ReflectliteValue.unpack (.iface 137 (.pointer (some t)))).run Tryz.prog w
 = .ok (.agg #[tH 137,.pointer (some ⟨w.heap.size,0,none⟩),.int .u64 150]) (w.alloc (.cells #[.pointer (some t)] 137)):=by kernel_rfl
theorem type85 (a : Addr) (w : World) : (ReflectliteValue.methodAny (ReflectliteValue.valueError "reflectlite.Value.Type" 0) (fun t _ _ _ => ReflectliteType.toType t) #[.agg #[tH 137, .pointer (some a), .int .u64 150]]).run Tryz.prog w
 = .ok (.iface 153 (.agg #[tH 137])) w:=by kernel_rfl
theorem methodKind (h : Value) (w : World) : (Go.method 295 153 (.agg #[h]) "Kind").run Tryz.prog w = .ok (148, h) w := by kernel_rfl
theorem kind85 (w:World):((ReflectliteType.abiMethod fun t=>(fun a:Nat=>Value.int IntKind.u8 (a:Int)) <$> Rtype.kind t) #[tH 137]).run Tryz.prog w=.ok (.int .u8 22) w:=by kernel_rfl
theorem kind62 (w:World):((ReflectliteType.abiMethod fun t=>(fun a:Nat=>Value.int IntKind.u8 (a:Int)) <$> Rtype.kind t) #[tH 135]).run Tryz.prog w=.ok (.int .u8 25) w:=by kernel_rfl
theorem rlm (z:Sem Value) (f:TypeId->Addr->Nat->Nat->Sem Value) (v:Value) :
 ReflectliteValue.method z f #[v]=(do match <- ReflectliteValue.parts v with | none=>z | some (t,a,fl)=>f t a fl (fl % 32)):=rfl
theorem parts85 (a:Addr) (w:World):(ReflectliteValue.parts (.agg #[tH 137,.pointer (some a),.int .u64 150])).run Tryz.prog w=.ok (some (137,a,150)) w:=by kernel_rfl
theorem isNil85 (a p:Addr) (W:World) (ha:W.cell? a=some (.pointer (some p))) :
 (ReflectliteValue.method (ReflectliteValue.valueError "reflectlite.Value.IsNil" 0) ReflectliteValue.isNil #[.agg #[tH 137, .pointer (some a), .int .u64 150]]).run Tryz.prog W = .ok (.bool false) W := by
 rw[rlm]
 simp only[Sem.run_bind,parts85,Result.andThen]
 simp[ReflectliteValue.isNil,loadVar,isAgg,underlying,Tryz.underlying137,ha,Result.andThen]
theorem methodElem (h : Value) (w : World) : (Go.method 295 153 (.agg #[h]) "Elem").run Tryz.prog w = .ok (159, .agg #[h]) w := by kernel_rfl
theorem methodImplements (h : Value) (w : World) : (Go.method 295 153 (.agg #[h]) "Implements").run Tryz.prog w = .ok (160, .agg #[h]) w := by kernel_rfl
theorem methodAssignableTo (h : Value) (w : World) : (Go.method 295 153 (.agg #[h]) "AssignableTo").run Tryz.prog w = .ok (157, .agg #[h]) w := by kernel_rfl
theorem elem85 (w:World):(ReflectliteType.method ReflectliteType.elem #[.agg #[tH 137]]).run Tryz.prog w=.ok (.iface 153 (.agg #[tH 135])) w:=by kernel_rfl
theorem implements62 (w : World) : (ReflectliteType.relation "Implements" ReflectliteType.implements_ #[.agg #[tH 135], .iface 153 (.agg #[tH 117])]).run Tryz.prog w = .ok (.bool true) w := by kernel_rfl
theorem typeOf62 (v:Value) (w:World):(ReflectliteType.typeOf #[.iface 135 v]).run Tryz.prog w=.ok (.iface 153 (.agg #[tH 135])) w:=by kernel_rfl
theorem assignable62 (w : World) : (ReflectliteType.relation "AssignableTo" ReflectliteType.assignableTo #[.agg #[tH 135], .iface 153 (.agg #[tH 135])]).run Tryz.prog w = .ok (.bool true) w := by kernel_rfl
theorem valueOf62 (x y:Value) (w:World):(ReflectliteValue.unpack (.iface 135 (.agg #[x,y]))).run Tryz.prog w
 = .ok (.agg #[tH 135,.pointer (some ⟨w.heap.size,0,none⟩),.int .u64 153]) (w.alloc (.cells #[x,y] 135)):=by kernel_rfl
theorem elemOf85 (w:World):(Rtype.elem? 137).run Tryz.prog w=.ok (some 135) w:=by kernel_rfl
theorem mk62 (p:Addr) (w:World):(ReflectliteValue.mk 135 p ReflectliteValue.flagAddr).run Tryz.prog w=.ok (.agg #[tH 135,.pointer (some p),.int .u64 409]) w:=by kernel_rfl
theorem elemV85 (a p:Addr) (W:World) (ha:W.cell? a=some (.pointer (some p))) :
 (ReflectliteValue.method (ReflectliteValue.valueError "reflectlite.Value.Elem" 0) ReflectliteValue.elem #[.agg #[tH 137, .pointer (some a), .int .u64 150]]).run Tryz.prog W
  = .ok (.agg #[tH 135,.pointer (some p),.int .u64 409]) W:=by
 rw[rlm]
 simp only[Sem.run_bind,parts85,Result.andThen]
 simp[ReflectliteValue.elem,loadVar,isAgg,underlying,Tryz.underlying137,ha,Result.andThen,elemOf85,mk62]
theorem rls (v x:Value):ReflectliteValue.set #[v,x]=(do
 let (some (dst,a,fl),some (src,b,_)):=(← ReflectliteValue.parts v,<- ReflectliteValue.parts x)
  | unsupported (.noEntry "extern/(internal/reflectlite.Value).Set.zeroValue")
 if fl / ReflectliteValue.flagAddr % 2 == 0 then unsupported (.noEntry "extern/(internal/reflectlite.Value).Set.unaddressable")
 let val <- loadVar src b
 if <- Rtype.directlyAssignable dst src then storeVar dst a val
 else if <- Rtype.implements dst src then
  if(← Rtype.kind src)==20 then
   match val with
   | .nilIface => unsupported (.noEntry "extern/reflectlite: a nil value of one interface type handed on as a value of another")
   | _=>storeVar dst a val
  else storeVar dst a (.iface src val)
 else panicString ("reflectlite.Set: value of type " ++ (← Rtype.spelt src) ++ " is not assignable to type " ++ (← Rtype.spelt dst))
 pure (.tuple #[])):=rfl
theorem parts62a (a:Addr) (w:World):(ReflectliteValue.parts (.agg #[tH 135,.pointer (some a),.int .u64 409])).run Tryz.prog w=.ok (some (135,a,409)) w:=by kernel_rfl
theorem parts62 (a:Addr) (w:World):(ReflectliteValue.parts (.agg #[tH 135,.pointer (some a),.int .u64 153])).run Tryz.prog w=.ok (some (135,a,153)) w:=by kernel_rfl
theorem direct62 (w:World):(Rtype.directlyAssignable 135 135).run Tryz.prog w=.ok true w:=by kernel_rfl
end Go.Proofs.YtcejichidnlicaaGreatDoor
namespace Go.Proofs.YtcejichidnlicaaGreatDoor
open Go.RowKit Go.Extern.Stop Go.Stop Go.Extern Go.Ab
variable [FrEnv]
theorem set62 (bt:Nat) (b:Nat) (x y:Value) (W:World) (c:Array Value) (hb0:W.cell? ⟨b,0,none⟩=some x) (hb1:W.cell? ⟨b,1,none⟩=some y)
 (ht:W.heap[bt]? = some (.cells c 135 (0,0))) (hc:2≤c.size) (hx:x.oneCell'=true) (hy:y.oneCell'=true) :
 (ReflectliteValue.set #[.agg #[tH 135,.pointer (some ⟨bt,0,none⟩),.int .u64 409],.agg #[tH 135,.pointer (some ⟨b,0,none⟩),.int .u64 153]]).run Tryz.prog W
  = .ok (.tuple #[]) { W with heap:=W.heap.setIfInBounds bt (.cells ([x,y]++c.toList.drop 2).toArray 135 (0,0)) }:=by
 have hl:=run_loadCells_list (P:=Tryz.prog) W ⟨b,0,none⟩ [x,y] (by
  intro j v hj
  match j with
  | 0=>simp at hj; subst hj; simpa[Addr.add]using hb0
  | 1=>simp at hj; subst hj; simpa[Addr.add]using hb1
  | j+2=>simp at hj)
 have hs:=run_storeCells_at Tryz.prog bt 0 135 [x,y] 0 c W ht (by simpa using hc) (by
  intro v hv
  simp at hv
  rcases hv with rfl | rfl
  · exact hx
  · exact hy)
 rw[setRow_eq W bt _ _ 135 (0,0) ht]at hs
 rw[rls]
 simp only[Sem.run_bind,parts62a,parts62,Result.andThen]
 have hag:(isAgg 135).run Tryz.prog W=.ok true W:=by simp[isAgg,underlying,Tryz.underlying135]
 have hsz:(sizeOf 135).run Tryz.prog W=.ok 2 W:=Tryz.sizeOf135 W
 simp only[List.length_cons,List.length_nil]at hl
 simp[ReflectliteValue.flagAddr,loadVar,hag,hsz,hl,Result.andThen,direct62,storeVar,Value.cells,hs]
def asW (w:World) (t:Addr) (x y:Value):World :=
 (((w.alloc (.cells #[.pointer (some t)] 137)).alloc (.cells #[tH 137,.pointer (some ⟨w.heap.size,0,none⟩),.int .u64 150] 143)).alloc (.cells #[tH 137,.pointer (some ⟨w.heap.size,0,none⟩),.int .u64 150] 143)).alloc (.cells #[x,y] 135)
set_option maxRecDepth 100000 in
set_option maxHeartbeats 4000000 in
theorem as_hit (bt:Nat) (x y:Value) (c:Array Value) (w:World) (hg:w.cell? ⟨0,0,none⟩=some (.iface 153 (.agg #[tH 117]))) (ht:w.heap[bt]? = some (.cells c 135 (0,0))) (hc:2≤c.size)
 (hx:x.oneCell'=true) (hy:y.oneCell'=true) :
 Calls Tryz.prog 115 #[.iface 135 (.agg #[x,y]),.iface 137 (.pointer (some ⟨bt,0,none⟩))] w fun ev w'=>ev=.returned (.bool true) ∧
  w'={ asW w ⟨bt,0,none⟩ x y with heap:=(asW w ⟨bt,0,none⟩ x y).heap.setIfInBounds bt (.cells ([x,y]++c.toList.drop 2).toArray 135 (0,0)) }:=by
 have h6 := @run_callFunc_extern Tryz.prog 121 _ (fun args=>ReflectliteValue.unpack (args.getD 0 (.tuple #[]))) Tryz.func121 (by kernel_rfl) (by kernel_rfl) (by kernel_rfl) (by kernel_rfl)
 have h7 := @run_callFunc_extern Tryz.prog 122 _ (ReflectliteValue.methodAny (ReflectliteValue.valueError "reflectlite.Value.Type" 0) (fun t _ _ _ => ReflectliteType.toType t)) Tryz.func122 (by kernel_rfl) (by kernel_rfl) (by kernel_rfl) (by kernel_rfl)
 have h8 := @run_callFunc_extern Tryz.prog 123 _ (ReflectliteValue.method (ReflectliteValue.valueError "reflectlite.Value.IsNil" 0) ReflectliteValue.isNil) Tryz.func123 (by kernel_rfl) (by kernel_rfl) (by kernel_rfl) (by kernel_rfl)
 have h27 := @run_callFunc_extern Tryz.prog 148 _ (ReflectliteType.abiMethod fun t=>do pure (.int .u8 (← Rtype.kind t))) Tryz.func148 (by kernel_rfl) (by kernel_rfl) (by kernel_rfl) (by kernel_rfl)
 have h37 := @run_callFunc_extern Tryz.prog 159 _ (ReflectliteType.method ReflectliteType.elem) Tryz.func159 (by kernel_rfl) (by kernel_rfl) (by kernel_rfl) (by kernel_rfl)
 have h38 := @run_callFunc_extern Tryz.prog 160 _ (ReflectliteType.relation "Implements" ReflectliteType.implements_) Tryz.func160 (by kernel_rfl) (by kernel_rfl) (by kernel_rfl) (by kernel_rfl)
 have h10 := @run_callFunc_extern Tryz.prog 126 _ ReflectliteType.typeOf Tryz.func126 (by kernel_rfl) (by kernel_rfl) (by kernel_rfl) (by kernel_rfl)
 have h35 := @run_callFunc_extern Tryz.prog 157 _ (ReflectliteType.relation "AssignableTo" ReflectliteType.assignableTo) Tryz.func157 (by kernel_rfl) (by kernel_rfl) (by kernel_rfl) (by kernel_rfl)
 have h11 := @run_callFunc_extern Tryz.prog 127 _ (ReflectliteValue.method (ReflectliteValue.valueError "reflectlite.Value.Elem" 0) ReflectliteValue.elem) Tryz.func127 (by kernel_rfl) (by kernel_rfl) (by kernel_rfl) (by kernel_rfl)
 have h12 := @run_callFunc_extern Tryz.prog 128 _ ReflectliteValue.set Tryz.func128 (by kernel_rfl) (by kernel_rfl) (by kernel_rfl) (by kernel_rfl)
 have tO:=typeOf62
 have mA:=methodAssignableTo
 have a25:=assignable62
 have v25:=valueOf62
 have f6:=valueOf85
 have f7:=type85
 have mK:=methodKind
 have mE:=methodElem
 have mI:=methodImplements
 have k27:=kind85
 have k25:=kind62
 have e27:=elem85
 have i25:=implements62
 have hbt:bt<w.heap.size:=lt_heap ht
 have n8:=isNil85 ⟨w.heap.size,0,none⟩ ⟨bt,0,none⟩ ((w.alloc (.cells #[.pointer (some ⟨bt,0,none⟩)] 137)).alloc (.cells #[tH 137,.pointer (some ⟨w.heap.size,0,none⟩),.int .u64 150] 143)) (by simp)
 have hlt:0<w.heap.size:=by
  rcases Nat.lt_or_ge 0 w.heap.size with h | h
  · exact h
  · simp[World.cell?,Array.getElem?_eq_none h]at hg
 have hg2:((w.alloc (.cells #[.pointer (some ⟨bt,0,none⟩)] 137)).alloc (.cells #[tH 137,.pointer (some ⟨w.heap.size,0,none⟩),.int .u64 150] 143)).cell? ⟨0,0,none⟩=some (.iface 153 (.agg #[tH 117])):=by
  rw[World.cell?_alloc_lt _ _ ⟨0,0,none⟩ (by simp),World.cell?_alloc_lt _ _ ⟨0,0,none⟩ hlt]; exact hg
 have el:=elemV85 ⟨w.heap.size,0,none⟩ ⟨bt,0,none⟩ (((w.alloc (.cells #[.pointer (some ⟨bt,0,none⟩)] 137)).alloc (.cells #[tH 137,.pointer (some ⟨w.heap.size,0,none⟩),.int .u64 150] 143)).alloc (.cells #[tH 137,.pointer (some ⟨w.heap.size,0,none⟩),.int .u64 150] 143)) (by rw[World.cell?_alloc_lt _ _ ⟨w.heap.size,0,none⟩ (by simp; omega)]; simp)
 have hold:∀ (o1 o2 o3 o4:Obj),((((w.alloc o1).alloc o2).alloc o3).alloc o4).heap[bt]? = some (.cells c 135 (0,0)):=by
  intro o1 o2 o3 o4
  rw[heap_alloc_lt _ _ (by simp; omega),heap_alloc_lt _ _ (by simp; omega),heap_alloc_lt _ _ (by simp; omega),heap_alloc_lt _ _ hbt]; exact ht
 have st:=set62 bt (w.heap.size+1+1+1) x y (asW w ⟨bt,0,none⟩ x y) c
  (by unfold asW; rw[World.cell?_alloc_at _ _ _ _ (by simp)]; rfl) (by unfold asW; rw[World.cell?_alloc_at _ _ _ _ (by simp)]; rfl) (hold _ _ _ _) hc hx hy
 unfold asW at st ⊢
 go_enter Tryz.func115,Tryz.ntmps115
 go_wp2
 refine wp_loop_rounds 1 ?_
 rw[rounds_succ]
 go_wp2
 go_ret
 exact⟨rfl,rfl⟩
end Go.Proofs.YtcejichidnlicaaGreatDoor
namespace Go.Proofs.YtcejichidnlicaaGreatDoor
open Go.RowKit Go.Ab Go.Shelf
variable [FrEnv]
theorem ext_alloc' {S:St} {w:World} {o:Obj} (h:Ext S.H.length S ⟨S.ρ,S.H,w⟩):Ext S.H.length S ⟨S.ρ,S.H,w.alloc o⟩:=h.trans (ext_alloc (S:=⟨S.ρ,S.H,w⟩) o)
section
variable {H:List AO}
theorem ok115 {j:Nat} {a b:SV} (ho:H[j]? = some ⟨[a,b],135,0,true⟩) (e p:Int) :
 Ok Tryz.prog 115 [.ifc 135 (.agg [i64 e,i64 p]),.ifc 137 (.ptr (.own j 0 0 0 0) 0)] H (.ret (bl true)) (H.set j ⟨[i64 e,i64 p],135,0,true⟩):=by
 refine⟨enters_of Tryz.func115 (by kernel_rfl) rfl,fun S vs hH hS hv => ?_⟩
 subst hH
 obtain⟨h1,h2⟩:=hv
 match vs,h1 with
 | [x,y],_ =>
  have hx:=h2 0 _ x rfl rfl
  have hy:=h2 1 _ y rfl rfl
  cases hx with
  | ifc _ _ v hv =>
  cases hy with
  | ifc _ _ u hu =>
  obtain⟨us,rfl,hus⟩:=hv.agg_inv
  cases hu with
  | ptrO _ _ _ _ _ _ ad o ho' hvl hat =>
  rw[ho]at ho'; cases ho'
  obtain⟨bt,hb,had⟩:=hat rfl
  obtain⟨h3,h4⟩:=hus
  match us,h3 with
  | [x,y],_ =>
   have hx:=h4 0 _ x rfl rfl
   have hy:=h4 1 _ y rfl rfl
   cases hx; cases hy
   have hlv:=hS.live j _ ho rfl
   rw[hb]at hlv
   obtain⟨us0,rest,hh,hvr⟩:=hlv
   have hl2:us0.length=2:=hvr.1
   have hg:S.w.cell? ⟨0,0,none⟩=some (.iface 153 (.agg #[tH 117])):=by
    have:=(hS.gl 0 _ rfl).1.1 0 _ rfl
    simpa[Addr.add]using this
   subst had
   refine(as_hit bt (.int .i64 e) (.int .i64 p) _ S.w hg hh (by simp; omega) rfl rfl).mono ?_
   rintro ev w' ⟨rfl,rfl⟩
   have s1:=sim_alloc (sim_alloc (sim_alloc (sim_alloc hS (.cells #[.pointer (some ⟨bt,0,none⟩)] 137)) (.cells #[tH 137,.pointer (some ⟨S.w.heap.size,0,none⟩),.int .u64 150] 143)) (.cells #[tH 137,.pointer (some ⟨S.w.heap.size,0,none⟩),.int .u64 150] 143)) (.cells #[.int .i64 e,.int .i64 p] 135)
   have e1:Ext S.H.length S ⟨S.ρ,S.H,asW S.w ⟨bt,0,none⟩ (.int .i64 e) (.int .i64 p)⟩:=ext_alloc' (ext_alloc' (ext_alloc' (ext_alloc _)))
   have hbt:bt<S.w.heap.size:=lt_heap hh
   have hold:(asW S.w ⟨bt,0,none⟩ (.int .i64 e) (.int .i64 p)).heap[bt]? = some (.cells (us0++rest).toArray 135 (0,0)):=by
    unfold asW
    rw[heap_alloc_lt _ _ (by simp; omega),heap_alloc_lt _ _ (by simp; omega),heap_alloc_lt _ _ (by simp; omega),heap_alloc_lt _ _ hbt]; exact hh
   have hd:(us0++rest).toArray.toList.drop 2=rest:=by simp[←hl2]
   obtain⟨s2,e2⟩:=sim_put (S:=⟨S.ρ,S.H,asW S.w ⟨bt,0,none⟩ (.int .i64 e) (.int .i64 p)⟩) s1 (i:=j) (o:=⟨[a,b],135,0,true⟩) (b:=bt) ho rfl hb (cells:=[i64 e,i64 p]) (ver:=0) (Nat.le_refl _)
    (us:=[.int .i64 e,.int .i64 p]) (rest:=rest) hold (by simp; omega) (VRs.cons (.val _) (VRs.cons (.val _) (VRs.nil _))) (by
     intro s hs
     simp at hs
     rcases hs with rfl | rfl<;>exact⟨rfl,rfl⟩) (w':=_) rfl
   exact⟨.bool true,S.ρ,e1.trans (by simpa[hd]using e2),by simpa[hd]using s2,rfl,.val _⟩
end
end Go.Proofs.YtcejichidnlicaaGreatDoor
namespace Go.Proofs.YtcejichidnlicaaGreatDoor
open Go.Ab
variable [FrEnv]
@[simp] theorem ug_mpf (ks:List Value) (vs:List SV):(SV.mpf ks vs).ug=.mpf ks vs:=rfl
@[simp] theorem vd_mpf (ks:List Value) (vs:List SV):(SV.mpf ks vs).vd=true:=rfl
@[simp] theorem ug_mp (i ver:Nat):(SV.mp i ver).ug=.mp i ver:=rfl
@[simp] theorem vd_mp (i ver:Nat):(SV.mp i ver).vd=true:=rfl
@[simp] theorem mapOf_mpf (H:List AO) (ks:List Value) (vs:List SV):SV.mapOf H (.mpf ks vs)=some (ks,vs):=rfl
@[simp] theorem isK_st (s:ByteArray):SV.isK KK.s (st s)=true:=rfl
@[simp] theorem key_st (s:ByteArray):SV.key KK.s (st s)=.string s:=rfl
@[simp] theorem isK_i64 (n:Int):SV.isK (KK.i .i64) (i64 n)=true:=rfl
@[simp] theorem key_i64 (n:Int):SV.key (KK.i .i64) (i64 n)=.int .i64 n:=rfl
@[simp] theorem flat_mp (i ver:Nat):(SV.mp i ver).flat=[.mp i ver]:=rfl
@[simp] theorem flat_mpf (ks:List Value) (vs:List SV):(SV.mpf ks vs).flat=[.mpf ks vs]:=rfl
@[simp] theorem cell_mp (i ver:Nat):(SV.mp i ver).isCell=true:=rfl
@[simp] theorem cell_mpf (ks:List Value) (vs:List SV):(SV.mpf ks vs).isCell=true:=rfl
@[simp] theorem part_mp (n i ver:Nat):partOk n (.mp i ver)=(n=1):=by simp[partOk,SV.ug,SV.vd,SV.isCell]
@[simp] theorem fz_mp (n d k ver:Nat) (L:List AO):SV.fz n [] L (d+1) (.mp (n+k) ver)=(match L[k]? with
 | some o=>if o.live=false∧o.ver=ver then(match o.cells with | .mk kk::vs=>.mpf kk (vs.map (SV.fz n [] L d)) | _=>.any)else .any
 | none=>.any):=by
 conv=>lhs; unfold SV.fz
 rw[if_neg (by simp[SV.under])]
 have e:n+k-n=k:=by omega
 simp only[e]
 cases L[k]? with
 | none=>rfl
 | some o=>rfl
def errV (e p:Int):SV:=if e=0 then .val .nilIface else .ifc 135 (fltV e p)
theorem errV_of {e:Int} (h:e≠0) (p:Int):errV e p=.ifc 135 (fltV e p):=by unfold errV; rw[if_neg h]
section
variable {H:List AO}
theorem ok113 {e:Int} (he:e≠0) (p:Int):Ok Tryz.prog 113 [i64 e,i64 p] H (.ret (errV e p)) H:=by
 rw[errV_of he]
 refine ok_fn hm Tryz.func113 c113 (by simp) fun hcl => ?_
 simp -implicitDefEqProofs[i113,r113,fltV]
 exact cv_id
theorem ok99 {e:Int} (he:e≠0) (p:Int):Ok Tryz.prog 99 [errV e p] H (.ret (fltV e p)) H:=by
 rw[errV_of he]
 refine ok_fn hm Tryz.func99 c99 (by simp[SV.under,fltV,SV.underL]) fun hcl => ?_
 simp -implicitDefEqProofs[i99,r99,fltV]
 refine call_go (ok115 (j:=H.length+1) (a:=i64 0) (b:=i64 0) (by simp) e p) ?_
 simp -implicitDefEqProofs[set_app]
 refine cv_fz 4 hcl rfl ?_
 simp
end
def sks (l:List (List UInt8)):List Value:=l.map fun s=>.string (B s)
def addS (l:List (List UInt8)) (s:List UInt8):List (List UInt8):=if s∈l then l else l++[s]
def nubS:List (List UInt8)->List (List UInt8)->List (List UInt8)
 | acc,[]=>acc
 | acc,s::r=>nubS (addS acc s) r
def trues (n:Nat):List SV:=List.replicate n (bl true)
theorem vkeq_s (a b:List UInt8):vkeq (.string (B a)) (.string (B b))=decide (a=b):=by simp[vkeq]
theorem setK_s (s:List UInt8):∀ l:List (List UInt8),msetK (.string (B s)) (sks l)=sks (addS l s)
 | []=>by simp[sks,msetK,addS]
 | x::l=>by
  simp only[sks,List.map_cons,msetK,vkeq_s]
  by_cases h:s=x
  · subst h; simp[addS]
  · have ih:=setK_s s l
    simp only[sks]at ih
    rw[if_neg (by simpa using h),ih]
    unfold addS
    by_cases h2:s∈l
    · rw[if_pos h2,if_pos (by simp[h2])]; simp
    · rw[if_neg h2,if_neg (by simp[h,h2])]; simp
theorem setV_s (s:List UInt8):∀ l:List (List UInt8),msetV (.string (B s)) (bl true) (sks l) (trues l.length)=trues (addS l s).length
 | []=>by simp[sks,msetV,addS,trues]
 | x::l=>by
  simp only[sks,List.map_cons,List.length_cons,trues,List.replicate_succ,msetV,vkeq_s]
  by_cases h:s=x
  · subst h; simp[addS,List.replicate_succ]
  · have ih:=setV_s s l
    simp only[sks,trues]at ih
    rw[if_neg (by simpa using h),ih]
    unfold addS
    by_cases h2:s∈l
    · rw[if_pos h2,if_pos (by simp[h2])]; simp[List.replicate_succ]
    · rw[if_neg h2,if_neg (by simp[h,h2])]; simp[List.replicate_succ]
theorem lkm_s (s:List UInt8):∀ l:List (List UInt8),lkm (.string (B s)) (sks l) (trues l.length)=if s∈l then some (bl true)else none
 | []=>by simp[sks,trues,lkm]
 | x::l=>by
  simp only[sks,List.map_cons,List.length_cons,trues,List.replicate_succ,lkm,vkeq_s]
  by_cases h:s=x
  · subst h; simp
  · have ih:=lkm_s s l
    simp only[sks,trues]at ih
    rw[if_neg (by simpa using h),ih]
    simp[h]
theorem mem_add (l:List (List UInt8)) (s t:List UInt8):t∈addS l s↔t∈l∨t=s:=by
 unfold addS; split
 · rename_i h; constructor
   · exact .inl
   · rintro(h2 | rfl); exact h2; exact h
 · simp
theorem mem_nub:∀ (r acc:List (List UInt8)) (t:List UInt8),t∈nubS acc r↔t∈acc∨t∈r
 | [],acc,t=>by simp[nubS]
 | s::r,acc,t=>by rw[nubS,mem_nub r,mem_add]; simp[or_assoc]
theorem sks_all (l:List (List UInt8)):(sks l).all KK.s.is=true:=by simp[sks,KK.is]
def varsM (vs:List (List UInt8)):SV:=.mpf (sks (nubS [] vs)) (trues (nubS [] vs).length)
def tyO (m1 m2:SV) (rest:List SV) (T:TypeId):AO:=⟨m1::m2::rest,T,0,true⟩
theorem oc_app {H:List AO} {j:Nat} {o:AO} (ho:H[j]? = some o) (hv:o.ver=0) (hl:o.live=true) (L:List AO):objCells (H++L) j 0=o.cells:=by
 have:(H++L)[j]? = some o:=by rw[List.getElem?_append_left (getElem?_lt ho)]; exact ho
 rw[←hv]; exact objCells_of this hl
theorem get_app_l {H:List AO} {j:Nat} {o:AO} (ho:H[j]? = some o) (L:List AO):(H++L)[j]? = some o:=by
 rw[List.getElem?_append_left (getElem?_lt ho)]; exact ho
theorem trues_und (n k:Nat):SV.underL n (trues k)=true:=(SV.underL_iff _ _).2 fun s hs=>by
 have:=List.eq_of_mem_replicate hs; subst this; rfl
section
variable {H:List AO}
theorem ok114 {j:Nat} {vs:List (List UInt8)} {m2:SV} {rest:List SV} {T:TypeId} (ho:H[j]? = some (tyO (varsM vs) m2 rest T)) (nm:List UInt8) :
 Ok Tryz.prog 114 [rp j,st (B nm)] H (.ret (bl (decide (nm∈vs)))) H:=by
 have hj:=getElem?_lt ho
 have e1:objCells H j 0=varsM vs::m2::rest:=objCells_of (o:=tyO (varsM vs) m2 rest T) ho rfl
 refine ok_fn hm Tryz.func114 c114 (by simp[rp]) fun hcl => ?_
 have hal:=sks_all (nubS [] vs)
 have hal':∀ v∈sks (nubS [] vs),KK.s.is v=true:=fun v hv=>List.all_eq_true.1 hal v hv
 have hl:=lkm_s nm (nubS [] vs)
 simp -implicitDefEqProofs[i114,r114,rp,e1,varsM,hl]
 refine⟨hal',?_⟩
 have hmem:nm∈nubS [] vs↔nm∈vs:=by rw[mem_nub]; simp
 by_cases h:nm∈vs
 · rw[if_pos (hmem.2 h)]; simp[h]; exact cv_id
 · rw[if_neg (fun h2=>h (hmem.1 h2))]; simp[h]; exact cv_id
end
end Go.Proofs.YtcejichidnlicaaGreatDoor
namespace Go.Proofs.YtcejichidnlicaaGreatDoor
open Go.Ab
variable [FrEnv]
abbrev MapV:=List Value×List SV
def setM (v:SV) (m:MapV) (k:Int):MapV:=(msetK (.int .i64 k) m.1,msetV (.int .i64 k) v m.1 m.2)
def mpO (T:TypeId) (m:MapV):AO:=⟨.mk m.1::m.2,T,0,false⟩
def iK (m:MapV):Prop:=m.1.all (KK.i .i64).is=true
theorem iK_set {v:SV} {m:MapV} {k:Int} (h:iK m):iK (setM v m k):=by
 obtain⟨ks,vs⟩:=m
 unfold iK setM at *
 simp only at *
 induction ks with
 | nil=>simp[msetK,KK.is]
 | cons x r ih =>
  simp only[List.all_cons,Bool.and_eq_true]at h
  simp only[msetK]
  split
  · simp only[List.all_cons,Bool.and_eq_true]; exact h
  · simp only[List.all_cons,Bool.and_eq_true]; exact⟨h.1,ih h.2⟩
theorem und_set {n:Nat} {v:SV} {k:Value} (hv:v.under n=true):∀ (ks:List Value) (vs:List SV),SV.underL n vs=true->SV.underL n (msetV k v ks vs)=true
 | [],vs,h=>by simp[msetV,SV.underL,hv]
 | x::ks,[],h=>by simp[msetV,SV.underL,hv]
 | x::ks,y::vs,h=>by
  simp only[SV.underL,Bool.and_eq_true]at h
  simp only[msetV]
  split
  · simp[SV.underL,hv,h.2]
  · simp[SV.underL,h.1,und_set hv ks vs h.2]
section
variable {H:List AO} {k j a b:Nat} {l:List Int} {tk mf:SV} {ow:Int} {m:MapV}
theorem mapOf_at {G:List AO} {T:TypeId} (hb:G[b]? = some (mpO T m)):SV.mapOf G (.mp b 0)=some m:=by
 simp only[SV.mapOf,hb]; simp[mpO]
theorem loop110 (hll:l.length<4611686018427387904) (hk:H[k]? = some ⟨ints l,3,0,true⟩) (hj:H[j]? = some ⟨[.mp a 0,.mp b 0],114,0,true⟩) (hbl:b<H.length) (hkb:k≠b) (hjb:j≠b) (htk:tk.isCell=true) (hmf:mf.isCell=true) {N:Nat} {K:XE->Env->List AO->Prop} {res:MapV}
 (hexit:∀ env,K (.exit 0) env (H.set b (mpO 112 res)++[⟨[tk,i64 ow,mf],127,0,true⟩])) :
 ∀ (n i:Nat) (m:MapV) (env:Env),i+n=l.length->iK m->(l.drop i).foldl (setM (.agg [tk,i64 ow,mf])) m=res->env.get 2=.ptr (.own j 0 0 0 0) 0->env.get 3=.ptr (.own H.length 0 0 0 0) 0->env.get 7=.own k 0 l.length 1 0->env.get 8=i64 l.length->env.get 9=i64 i →
  LI Tryz.prog N drawB l110_0 env (H.set b (mpO 112 m)++[⟨[tk,i64 ow,mf],127,0,true⟩]) K:=by
 intro n
 induction n with
 | zero =>
  intro i m env hi hm hr h2 h3 h7 h8 h9
  refine li_go Go.Proofs.YtcejichidnlicaaGreatDoor.hm l110_0.eq_1 ?_
  have e:i=l.length:=by omega
  subst e
  rw[List.drop_length]at hr
  have hr:m=res:=hr
  subst hr
  simp -implicitDefEqProofs[h2,h3,h7,h8,h9]
  exact hexit _
 | succ n ih =>
  intro i m env hi hm hr h2 h3 h7 h8 h9
  refine li_go Go.Proofs.YtcejichidnlicaaGreatDoor.hm l110_0.eq_1 ?_
  have hlt:i<l.length:=by omega
  have hlt':(i:Int)<l.length:=by omega
  rw[List.drop_eq_getElem_cons hlt,List.foldl_cons]at hr
  have hkl:=getElem?_lt hk
  have hjl:=getElem?_lt hj
  have gk:(H.set b (mpO 112 m)++[⟨[tk,i64 ow,mf],127,0,true⟩])[k]? = some ⟨ints l,3,0,true⟩:=by
   rw[List.getElem?_append_left (by simpa using hkl),List.getElem?_set_ne (Ne.symm hkb)]; exact hk
  have gj:(H.set b (mpO 112 m)++[⟨[tk,i64 ow,mf],127,0,true⟩])[j]? = some ⟨[.mp a 0,.mp b 0],114,0,true⟩:=by
   rw[List.getElem?_append_left (by simpa using hjl),List.getElem?_set_ne (Ne.symm hjb)]; exact hj
  have gb:(H.set b (mpO 112 m)++[⟨[tk,i64 ow,mf],127,0,true⟩])[b]? = some (mpO 112 m):=by
   rw[List.getElem?_append_left (by simpa using hbl),List.getElem?_set_self hbl]
  have ck:=objCells_of gk rfl
  have cj:=objCells_of gj rfl
  have mo:=mapOf_at gb
  have sb:∀ f:AO->AO,Ab.setObj (H.set b (mpO 112 m)++[⟨[tk,i64 ow,mf],127,0,true⟩]) b f=H.set b (f (mpO 112 m))++[⟨[tk,i64 ow,mf],127,0,true⟩]:=fun f=>by
   rw[setObj_some gb,List.set_append_left _ _ (by simpa using hbl),List.set_set]
  simp only at ck cj
  simp -implicitDefEqProofs[h2,h3,h7,h8,h9,hlt,hlt',ck,cj]
  refine⟨by omega,s_mup_go (x:=m) mo rfl rfl hm ?_⟩
  simp -implicitDefEqProofs[sb,h2,h3,h7,h8,h9]
  refine LI.cong ?_ (ih (i+1) (setM (.agg [tk,i64 ow,mf]) m l[i]) _ (by omega) (iK_set hm) hr ?_ ?_ ?_ ?_ ?_)
  · simp[mpO,setM]
  all_goals simp[h2,h3,h7,h8,wrap_suc (show i<9223372036854775807 by omega)]
theorem und_fold {n:Nat} {v:SV} (hv:v.under n=true):∀ (l:List Int) (m:MapV),SV.underL n m.2=true->SV.underL n (l.foldl (setM v) m).2=true
 | [],m,h=>h
 | x::l,m,h=>und_fold hv l _ (und_set hv m.1 m.2 h)
theorem mpO_und {n:Nat} {T:TypeId} {m:MapV} (h:SV.underL n m.2=true):SV.underL n (mpO T m).cells=true:=by
 simp[mpO,SV.underL,SV.under,h]
theorem ok110 (hll:l.length<4611686018427387904) (hk:H[k]? = some ⟨ints l,3,0,true⟩) (hj:H[j]? = some ⟨[.mp a 0,.mp b 0],114,0,true⟩) (hb:H[b]? = some (mpO 112 m)) (hkb:k≠b) (hjb:j≠b) (htk:tk.isCell=true) (hmf:mf.isCell=true) (hm:iK m)
 (hu:SV.underL H.length m.2=true∧tk.under H.length=true∧mf.under H.length=true) :
 Ok Tryz.prog 110 [.agg [tk,i64 ow,mf],.own k 0 l.length 1 0,.ptr (.own j 0 0 0 0) 0] H (.ret (.tup [])) (H.set b (mpO 112 (l.foldl (setM (.agg [tk,i64 ow,mf])) m))):=by
 have hkl:=getElem?_lt hk
 have hjl:=getElem?_lt hj
 have hbl:=getElem?_lt hb
 refine ok_fn Go.Proofs.YtcejichidnlicaaGreatDoor.hm Tryz.func110 c110 (by simp) fun hcl => ?_
 simp -implicitDefEqProofs[i110,r110,htk,hmf]
 refine LI.cong (H':=H.set b (mpO 112 m)++[⟨[tk,i64 ow,mf],127,0,true⟩]) (by rw[set_same hb]) ?_
 refine loop110 hll hk hj hbl hkb hjb htk hmf (fun env => ?_) l.length 0 m _ (by omega) hm rfl ?_ ?_ ?_ ?_ ?_
 · simp -implicitDefEqProofs
   have hu2:SV.underL H.length (l.foldl (setM (.agg [tk,i64 ow,mf])) m).2=true:=und_fold (by simp[SV.under,SV.underL,hu.2.1,hu.2.2]) l m hu.1
   exact cv_fz 2 (closed_set hcl b (mpO_und hu2)) (by simp) (by simp)
 all_goals simp
end
end Go.Proofs.YtcejichidnlicaaGreatDoor
namespace Go.Proofs.YtcejichidnlicaaGreatDoor
open Go.Ab
variable [FrEnv]
abbrev Vr:=Except Int (Int×Int)
def outV:Vr->Out
 | .ok v=>.ret (.agg [i64 v.1,i64 v.2])
 | .error e=>.pan (.ifc 31 (i64 e))
def numF (n:Int):Vr:=if n < -1000000000000∨1000000000000<n then .error 5 else .ok (1,n)
def tru (b:Bool):Int:=if b=true then 1 else 0
def boolF (b:Bool):Vr:=.ok (2,tru b)
def Sm (n:Int):Prop := -1000000000000≤n∧n≤1000000000000
def opN (op:Int):Int:=if op=1∨op=2 then 0 else if op=3∨op=4 then 1 else if op=20 then 3 else if 4<op∧op<20 then 2 else -1
section
variable {H:List AO}
theorem ok58 (n:Int):Ok Tryz.prog 58 [i64 n] H (outV (numF n)) H:=by
 refine ok_fn hm Tryz.func58 c58 (by simp) fun hcl => ?_
 unfold numF
 by_cases h1:n < -1000000000000
 · simp -implicitDefEqProofs[i58,r58,h1,outV]
   exact cv_fz 2 hcl rfl rfl
 · by_cases h2:1000000000000<n
   · simp -implicitDefEqProofs[i58,r58,h1,h2,outV]
     exact cv_fz 2 hcl rfl rfl
   · simp -implicitDefEqProofs[i58,r58,h1,h2,outV]
     exact cv_fz 2 hcl rfl rfl
theorem ok46 (b:Bool):Ok Tryz.prog 46 [bl b] H (.ret (i64 (tru b))) H:=by
 refine ok_fn hm Tryz.func46 c46 (by simp) fun hcl => ?_
 cases b<;>(simp -implicitDefEqProofs[i46,r46,tru]; exact cv_id)
theorem ok83 (b:Bool):Ok Tryz.prog 83 [bl b] H (outV (boolF b)) H:=by
 refine ok_fn hm Tryz.func83 c83 (by simp) fun hcl => ?_
 simp -implicitDefEqProofs[i83,r83]
 refine call_go (ok46 b) ?_
 simp -implicitDefEqProofs[outV,boolF]
 exact cv_fz 2 hcl rfl rfl
theorem ok57 (op:Int):Ok Tryz.prog 57 [i64 op] H (.ret (i64 (opN op))) H:=by
 refine ok_fn hm Tryz.func57 c57 (by simp) fun hcl => ?_
 generalize hk:opN op=k
 unfold opN at hk
 by_cases h1:op=1
 · subst h1; simp at hk; subst hk
   simp -implicitDefEqProofs[i57,r57]; exact cv_id
 by_cases h2:op=2
 · subst h2; simp at hk; subst hk
   simp -implicitDefEqProofs[i57,r57]; exact cv_id
 by_cases h3:op=3
 · subst h3; simp at hk; subst hk
   simp -implicitDefEqProofs[i57,r57]; exact cv_id
 by_cases h4:op=4
 · subst h4; simp at hk; subst hk
   simp -implicitDefEqProofs[i57,r57]; exact cv_id
 by_cases h5:op=20
 · subst h5; simp at hk; subst hk
   simp -implicitDefEqProofs[i57,r57]; exact cv_id
 rw[if_neg (by omega),if_neg (by omega),if_neg h5]at hk
 by_cases h6:4<op
 · by_cases h7:op<20
   · rw[if_pos ⟨h6,h7⟩]at hk
     subst hk
     simp -implicitDefEqProofs[i57,r57,h1,h2,h3,h4,h5,h6,h7]; exact cv_id
   · rw[if_neg (by omega)]at hk
     subst hk
     simp -implicitDefEqProofs[i57,r57,h1,h2,h3,h4,h5,h6,h7]; exact cv_id
 · rw[if_neg (by omega)]at hk
   subst hk
   simp -implicitDefEqProofs[i57,r57,h1,h2,h3,h4,h5,h6]; exact cv_id
theorem fdiv_of {a b:Int} (hb:b≠0):a.fdiv b=if a.tmod b≠0∧((a<0)≠(b<0))then a.tdiv b-1 else a.tdiv b:=by
 rw[Int.fdiv_eq_tdiv]
 by_cases h:a.tmod b=0
 · have hd:b ∣ a:=Int.dvd_of_tmod_eq_zero h
   rw[if_pos hd,if_neg (by simp[h])]; omega
 · have hd:¬ b ∣ a:=fun hd=>h (Int.tmod_eq_zero_of_dvd hd)
   rw[if_neg hd]
   by_cases h1:0≤a
   · by_cases h2:0≤b
     · rw[if_pos h1,if_pos h2,if_neg (by simp; omega)]; omega
     · rw[if_pos h1,if_neg h2,if_pos (by simp[h]; omega)]
   · by_cases h2:0≤b
     · have hs:b.sign=1:=Int.sign_eq_one_of_pos (by omega)
       rw[if_neg h1,if_pos (show a.tmod b≠0∧((a<0)≠(b<0))from⟨h,by simp; omega⟩)]
       simp only[hs,h2,if_true]
       try omega
     · have hs:b.sign = -1:=Int.sign_eq_neg_one_of_neg (by omega)
       rw[if_neg h1,if_neg (show ¬ (a.tmod b≠0∧((a<0)≠(b<0)))from fun hh=>hh.2 (by simp; omega))]
       simp only[hs,h2,if_false]
       try omega
theorem tdiv_bd {a b:Int} (ha:Sm a) : -1000000000000≤a.tdiv b∧a.tdiv b≤1000000000000:=by
 have h1:(a.tdiv b).natAbs≤a.natAbs:=by rw[Int.natAbs_tdiv]; exact Nat.div_le_self _ _
 unfold Sm at ha
 omega
theorem ok41 {a b:Int} (ha:Sm a) (hb:b≠0):Ok Tryz.prog 41 [i64 a,i64 b] H (.ret (i64 (a.fdiv b))) H:=by
 refine ok_fn hm Tryz.func41 c41 (by simp) fun hcl => ?_
 rw[fdiv_of hb]
 have hq:=tdiv_bd (b:=b) ha
 have w1:IntKind.i64.wrap (a.tdiv b)=a.tdiv b:=wrap_id (by omega) (by omega)
 have w2:IntKind.i64.wrap (a.tdiv b-1)=a.tdiv b-1:=wrap_id (by omega) (by omega)
 generalize hqq:a.tdiv b=q at *
 generalize hmm:a.tmod b=m at *
 by_cases h1:m=0
 · simp -implicitDefEqProofs[i41,r41,hb,hmm,hqq,w1,w2,h1]
   exact cv_id
 · by_cases h2:a<0<;>by_cases h3:b<0
   all_goals
    simp -implicitDefEqProofs[i41,r41,hb,hmm,hqq,w1,w2,h1,h2,h3]
    exact cv_id
def mulP (a b:Int):Int:=if -1000000000000≤a*b∧a*b≤1000000000000 then a*b else 1000000000001
theorem ok40 {a b:Int} (ha:Sm a) (hb:Sm b):Ok Tryz.prog 40 [i64 a,i64 b] H (.ret (i64 (mulP a b))) H:=by
 refine ok_fn hm Tryz.func40 c40 (by simp) fun hcl => ?_
 obtain⟨a1,a2⟩:=ha
 obtain⟨b1,b2⟩:=hb
 have w1:IntKind.i64.wrap (-a) = -a:=wrap_id (by omega) (by omega)
 have w2:IntKind.i64.wrap (-b) = -b:=wrap_id (by omega) (by omega)
 have m1:max a (-a)=(a.natAbs:Int):=by omega
 have m2:max b (-b)=(b.natAbs:Int):=by omega
 have hab:(a*b).natAbs=a.natAbs*b.natAbs:=Int.natAbs_mul a b
 generalize hp:mulP a b=p
 unfold mulP at hp
 by_cases h0:a=0
 · subst h0
   simp at hp
   subst hp
   simp -implicitDefEqProofs[i40,r40]
   exact cv_id
 · have hpos:0<a.natAbs:=by omega
   have q1:((1000000000000:Int).tdiv (a.natAbs:Int))=((1000000000000 / a.natAbs:Nat):Int):=rfl
   have hle:1000000000000 / a.natAbs≤1000000000000:=Nat.div_le_self _ _
   have hn0:¬ (a.natAbs:Int)=0:=by omega
   have w3:IntKind.i64.wrap ((1000000000000 / a.natAbs:Nat):Int)=((1000000000000 / a.natAbs:Nat):Int):=wrap_nat (by omega)
   by_cases hc:1000000000000 / a.natAbs<b.natAbs
   · have hbig:1000000000000<a.natAbs*b.natAbs:=by
      rw[Nat.mul_comm]; exact(Nat.div_lt_iff_lt_mul hpos).1 hc
     rw[if_neg (by omega)]at hp
     subst hp
     have w5:IntKind.i64.wrap ((1000000000000:Int) / (a.natAbs:Int))=(1000000000000:Int) / (a.natAbs:Int):=by
      have:(1000000000000:Int) / (a.natAbs:Int)=((1000000000000 / a.natAbs:Nat):Int):=by simp
      rw[this]; exact w3
     have hcI:(1000000000000:Int) / (a.natAbs:Int)<(b.natAbs:Int):=by
      have:(1000000000000:Int) / (a.natAbs:Int)=((1000000000000 / a.natAbs:Nat):Int):=by simp
      rw[this]; omega
     simp -implicitDefEqProofs[i40,r40,h0,w1,w2,m1,m2,q1,hn0,w5]
     rw[if_pos hcI]
     exact cv_id
   · have hsm:a.natAbs*b.natAbs≤1000000000000:=by
      have:=Nat.le_div_iff_mul_le hpos (x:=b.natAbs) (y:=1000000000000)
      rw[Nat.mul_comm]; omega
     rw[if_pos (by omega)]at hp
     have w4:IntKind.i64.wrap (a*b)=a*b:=wrap_id (by omega) (by omega)
     subst hp
     have w5:IntKind.i64.wrap ((1000000000000:Int) / (a.natAbs:Int))=(1000000000000:Int) / (a.natAbs:Int):=by
      have:(1000000000000:Int) / (a.natAbs:Int)=((1000000000000 / a.natAbs:Nat):Int):=by simp
      rw[this]; exact w3
     have hcI:¬ (1000000000000:Int) / (a.natAbs:Int)<(b.natAbs:Int):=by
      have:(1000000000000:Int) / (a.natAbs:Int)=((1000000000000 / a.natAbs:Nat):Int):=by simp
      rw[this]; omega
     simp -implicitDefEqProofs[i40,r40,h0,w1,w2,m1,m2,q1,hn0,w5,w4]
     rw[if_neg hcI]
     exact cv_id
end
end Go.Proofs.YtcejichidnlicaaGreatDoor
